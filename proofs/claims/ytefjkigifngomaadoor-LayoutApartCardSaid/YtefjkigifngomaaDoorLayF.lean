/- Layer 9 (layout): the contracts of the package's Runs and of the function literal in it. Condition: the table class.sizes holds its ten numbers. -/
import Derived.Test.YtefjkigifngomaaDoorLayE
namespace Go.Proofs.YtefjkigifngomaaDoor
open Go.RowKit
namespace Lay

def lastEnd : List (Int × Int × Int) → Int
  | [] => 0
  | [r] => r.1 + r.2.1
  | _ :: r :: rs => lastEnd (r :: rs)
/-- The variable l, in block B, holds these runs. -/
def LayInv (B : Nat) (rs : List (Int × Int × Int)) (w : World) : Prop :=
  ∃ v, w.heap[B]? = some (.cells #[v] 27 (0, 0)) ∧ w.ownsRow (B + 1) 31 3 v rs.length (cellsOf rs)
def LRes (B : Nat) (rs : List (Int × Int × Int)) (w : World) (e : Ending) (w' : World) : Prop :=
  e = .returned (.tuple #[]) ∧ LayInv B rs w' ∧ Below B w w'
theorem last_cells (rs : List (Int × Int × Int)) (h : rs ≠ []) : ∃ p q k : Int, lastEnd rs = p + q ∧ (cellsOf rs)[(rs.length - 1) * 3]? = some (.int .i64 p) ∧ (cellsOf rs)[(rs.length - 1) * 3 + 1]? = some (.int .i64 q) ∧ (p, q, k) ∈ rs := by
  induction rs with
  | nil => exact absurd rfl h
  | cons r rs ih =>
    cases rs with
    | nil => exact ⟨r.1, r.2.1, r.2.2, rfl, rfl, rfl, by simp⟩
    | cons r2 rs =>
      obtain ⟨p, q, k, h1, h2, h3, h4⟩ := ih (by simp)
      have e : cellsOf (r :: r2 :: rs) = rc r.1 r.2.1 r.2.2 ++ cellsOf (r2 :: rs) := by simp [cellsOf]
      have hl : (rc r.1 r.2.1 r.2.2).length = 3 := rfl
      refine ⟨p, q, k, h1, ?_, ?_, by simp [h4]⟩
      · rw [e, List.getElem?_append_right (by rw [hl]; simp; omega), hl, ← h2]
        congr 1
        simp
        omega
      · rw [e, List.getElem?_append_right (by rw [hl]; simp; omega), hl, ← h3]
        congr 1
        simp
        omega
theorem one_later {B : Nat} {v x : Value} {t e : TypeId} {w w1 : World} {n : Nat} {xs : List Value} {o : Obj} (hB : w.heap[B]? = some (.cells #[v] t (0, 0))) (hlt : B < w.heap.size) (hown : w.ownsRow (B + 1) e 3 x n xs) (hg : (w.alloc o).grownBy w1 x.ownBlock) :
    w1.heap[B]? = some (.cells #[v] t (0, 0)) := by
  rw [hg.block B (by simp; omega) (fun h => by have := (hown.lt B h.symm).1; omega), Below.heap_alloc _ _ _ hlt]
  exact hB
theorem lay_end {B n : Nat} {rs : List (Int × Int × Int)} {w w1 : World} {v x v1 : Value} {a l k : Int} {o : Obj} (hn : rs.length = n) (hlt : B < w.heap.size) (hown : w.ownsRow (B + 1) 31 3 x n (cellsOf rs)) (hg : (w.alloc o).grownBy w1 x.ownBlock)
    (hB1 : w1.heap[B]? = some (.cells #[v] 27 (0, 0))) (hown1 : w1.ownsRow (B + 1) 31 3 v1 (n + 1) (cellsOf rs ++ rc a l k)) :
    LRes B (rs ++ [(a, l, k)]) w (.returned (.tuple #[])) (w1.setCell ⟨B, 0, none⟩ v1) := by
  have hbel : Below B w w1 := ((Below.refl _ _).alloc (by omega) _).grown hg (by simp; omega) (fun k hk => by have := (hown.lt k hk).1; omega)
  refine ⟨rfl, ⟨v1, one_setCell hB1, ?_⟩, hbel.setCell (Nat.le_refl _) _⟩
  rw [cellsOf_append, List.length_append, hn]
  have e : cellsOf [(a, l, k)] = rc a l k := by simp [cellsOf]
  rw [e]
  exact ownsRow_setCell_below hown1 (by show B < B + 1; omega) _
theorem LRes.of_drewN {B q : Nat} {rs : List (Int × Int × Int)} {w w' : World} {e : Ending} (h : LRes B rs (w.drewN q) e w') : LRes B rs w e w' := ⟨h.1, h.2.1, Mem.below_of_drewN h.2.2⟩
set_option maxHeartbeats 1600000 in
theorem lay_first (en kd : Int) (B : Nat) (w : World) (h : LayInv B [] w) (h0 : 0 < en) (h1 : en ≤ 1000000) :
    Calls Tryd.prog 31 #[.int .i64 en, .int .i64 kd, .pointer (some ⟨B, 0, none⟩)] w (LRes B ([] ++ [(0, en, kd)]) w) := by
  obtain ⟨v, hB, hown⟩ := h
  obtain ⟨i0, hi0, hz0, hz1, hz2⟩ := info_parts info3
  obtain ⟨A, cap, rfl, _⟩ := Mem.own_shape hown
  have hlt := lt_of_block hB
  have c0 := cell_of_one hB
  have HLT := Lib.hid hlt
  have HOWN := Lib.hid hown
  have HBB := Lib.hid hB
  have I0 := Lib.hid hi0
  have I1 := Lib.hid hz0
  have I2 := Lib.hid hz1
  have I3 := Lib.hid hz2
  clear hi0 hz0 hz1 hz2 hown hB
  go_enter Tryd.func31, Tryd.ntmps31
  go_wp2_with (at_builtin; refine wpList_append_own _ rfl (.tmp 26) (.tmp 33) 27 rfl (B + 1) 31 i0 (.agg #[.int .i64 0, .int .i64 0, .int .i64 0]) 3 24 Tryd.underlying27 I0.out I1.out I2.out I3.out rfl (by decide) (.slice A 0 cap) 0 (cellsOf []) rfl (HOWN.out.alloc _) ⟨w.heap.size, 0, none⟩ 1 1 (rc 0 en kd) rfl rfl (new3 _ _ _ _ _) (one3 _ _ _) (by simp only [maxLen]; omega) (by omega) (by simp; omega) ?_; intro v1 w1 hown1 hg1 _; obtain ⟨A1, cap1, rfl, _⟩ := Mem.own_shape hown1; have hB1 := one_later HBB.out HLT.out HOWN.out hg1; have HB1 := Lib.hid hB1; have c1 := cell_of_one hB1; have f1 := free_of_one hB1; clear hB1)
  go_end0
  exact lay_end rfl HLT.out HOWN.out hg1 HB1.out hown1
set_option maxHeartbeats 1600000 in
theorem lay_next (en kd a : Int) (B : Nat) (rs : List (Int × Int × Int)) (w : World) (h : LayInv B rs w) (hne : rs ≠ []) (hlen : rs.length ≤ 100) (ha : lastEnd rs = a) (hbd : ∀ r ∈ rs, 0 ≤ r.1 ∧ r.1 ≤ 1000000 ∧ 0 ≤ r.2.1 ∧ r.2.1 ≤ 1000000) (h0 : a < en) (h1 : en ≤ 1000000) :
    Calls Tryd.prog 31 #[.int .i64 en, .int .i64 kd, .pointer (some ⟨B, 0, none⟩)] w (LRes B (rs ++ [(a, en - a, kd)]) w) := by
  obtain ⟨v, hB, hown⟩ := h
  obtain ⟨i0, hi0, hz0, hz1, hz2⟩ := info_parts info3
  obtain ⟨p, q, k, e1, e2, e3, e4⟩ := last_cells rs hne
  have hb4 := hbd _ e4
  obtain ⟨hb5, hb6, hb7, hb8⟩ := hb4
  obtain ⟨n, hn⟩ : ∃ n, rs.length = n + 1 := ⟨rs.length - 1, by have := List.length_pos_iff.2 hne; omega⟩
  rw [hn] at hown e2 e3 hlen
  rw [Nat.add_sub_cancel] at e2 e3
  obtain ⟨g, cap, rfl, hg0, hgl⟩ := hown.form (by omega)
  have hlt := lt_of_block hB
  have c0 := cell_of_one hB
  have hp : w.cell? ⟨g, n * 3, none⟩ = some (.int .i64 p) := (hown.cellAt (n * 3) (by omega)).trans e2
  have hq : w.cell? ⟨g, n * 3 + 1, none⟩ = some (.int .i64 q) := (hown.cellAt (n * 3 + 1) (by omega)).trans e3
  have hpq : p + q = a := e1.symm.trans ha
  subst hpq
  have HLT := Lib.hid hlt
  have HOWN := Lib.hid hown
  have HBB := Lib.hid hB
  have HN := Lib.hid hn
  have I0 := Lib.hid hi0
  have I1 := Lib.hid hz0
  have I2 := Lib.hid hz1
  have I3 := Lib.hid hz2
  have hk0 : (0 : Int) ≤ (n : Int) := by omega
  have hk1 : (n : Int) < (n : Int) + 1 := by omega
  clear hi0 hz0 hz1 hz2 hown hB hn ha e1 e2 e3 e4 hbd hne
  go_enter Tryd.func31, Tryd.ntmps31
  go_wp2_with fail
  go_quiet (fail)
  go_wp2_with (at_builtin; refine wpList_append_own _ rfl (.tmp 26) (.tmp 33) 27 rfl (B + 1) 31 i0 (.agg #[.int .i64 0, .int .i64 0, .int .i64 0]) 3 24 Tryd.underlying27 I0.out I1.out I2.out I3.out rfl (by decide) (.slice (some ⟨g, 0, none⟩) (n + 1) cap) (n + 1) (cellsOf rs) rfl ((Mem.own_drewN HOWN.out _).alloc _) ⟨w.heap.size, 0, none⟩ 1 1 (rc (p + q) (en - (p + q)) kd) rfl rfl (new3 _ _ _ _ _) (one3 _ _ _) (by simp only [maxLen]; omega) (by omega) (by simp; omega) ?_; intro v1 w1 hown1 hg1 _; obtain ⟨A1, cap1, rfl, _⟩ := Mem.own_shape hown1; have hB1 := one_later (w := w.drewN _) HBB.out HLT.out (Mem.own_drewN HOWN.out _) hg1; have HB1 := Lib.hid hB1; have c1 := cell_of_one hB1; have f1 := free_of_one hB1; clear hB1)
  go_end0
  exact LRes.of_drewN (lay_end HN.out HLT.out (Mem.own_drewN HOWN.out _) hg1 HB1.out hown1)
set_option maxHeartbeats 1600000 in
theorem lay_same (en kd a : Int) (B : Nat) (rs : List (Int × Int × Int)) (w : World) (h : LayInv B rs w) (hne : rs ≠ []) (hlen : rs.length ≤ 100) (ha : lastEnd rs = a) (hbd : ∀ r ∈ rs, 0 ≤ r.1 ∧ r.1 ≤ 1000000 ∧ 0 ≤ r.2.1 ∧ r.2.1 ≤ 1000000) (h0 : en ≤ a) :
    Calls Tryd.prog 31 #[.int .i64 en, .int .i64 kd, .pointer (some ⟨B, 0, none⟩)] w (LRes B rs w) := by
  have HINV := Lib.hid h
  obtain ⟨v, hB, hown⟩ := h
  obtain ⟨p, q, k, e1, e2, e3, e4⟩ := last_cells rs hne
  have hb4 := hbd _ e4
  obtain ⟨hb5, hb6, hb7, hb8⟩ := hb4
  obtain ⟨n, hn⟩ : ∃ n, rs.length = n + 1 := ⟨rs.length - 1, by have := List.length_pos_iff.2 hne; omega⟩
  rw [hn] at hown e2 e3 hlen
  rw [Nat.add_sub_cancel] at e2 e3
  obtain ⟨g, cap, rfl, hg0, hgl⟩ := hown.form (by omega)
  have c0 := cell_of_one hB
  have hp : w.cell? ⟨g, n * 3, none⟩ = some (.int .i64 p) := (hown.cellAt (n * 3) (by omega)).trans e2
  have hq : w.cell? ⟨g, n * 3 + 1, none⟩ = some (.int .i64 q) := (hown.cellAt (n * 3 + 1) (by omega)).trans e3
  have hpq : p + q = a := e1.symm.trans ha
  subst hpq
  have hk0 : (0 : Int) ≤ (n : Int) := by omega
  have hk1 : (n : Int) < (n : Int) + 1 := by omega
  clear hown hB hn ha e1 e2 e3 e4 hbd hne
  go_enter Tryd.func31, Tryd.ntmps31
  go_wp2_with fail
  go_quiet (fail)
  go_wp2
  go_end0
  exact ⟨rfl, HINV.out, below_drewN (Below.refl _ _) _⟩
end Lay
end Go.Proofs.YtefjkigifngomaaDoor
