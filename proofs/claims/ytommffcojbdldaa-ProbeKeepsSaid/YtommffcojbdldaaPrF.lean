/- Layer 19: tables of the call's own; the contract of put. -/
import Derived.Test.YtommffcojbdldaaPrE
import Derived.Test.YtommffcojbdldaaQTail
import Derived.Lib.BufferWrite
namespace Go.Proofs.Ytommffcojbdldaa
open Go.RowKit
namespace Pr

theorem own_set {w : World} {B n g j size : Nat} {e : TypeId} {v : Value} {xs : List Value} (h : w.ownsRow B e size v n xs) (hg : v.ownBlock = some g) (hj : j < n * size) (u : Value) : (w.setCell ⟨g, j, none⟩ u).ownsRow B e size v n (xs.set j u) := by
  refine ⟨by rw [List.length_set]; exact h.1, ?_⟩
  rcases h.2 with ⟨h2, _⟩ | ⟨q, cap, cur, h3, h4, h5, h6, h7, h8, h9⟩
  · rw [h2] at hg
    cases hg
  · rw [h3] at hg
    simp only [Value.ownBlock, Option.some.injEq] at hg
    subst hg
    refine .inr ⟨q, cap, cur.setIfInBounds j u, h3, h4, ?_, h6, h7, by simpa using h8, ?_⟩
    · have hlt := lt_of_block h5
      have h' : w.heap[q] = .cells cur e (0, 0) := by
        rw [Array.getElem?_eq_getElem hlt] at h5
        injection h5
      show (w.heap.modify q _)[q]? = _
      rw [Array.getElem?_eq_getElem (by simpa using hlt), Array.getElem_modify_self, h']
      simp
    · have hjc : j < cur.size := by
        rw [h8]
        exact Nat.lt_of_lt_of_le hj (Nat.mul_le_mul_right _ h6)
      rw [← h9]
      refine List.ext_getElem? fun i => ?_
      simp only [List.getElem?_take, List.getElem?_set, Array.toList_setIfInBounds, List.length_take, Array.length_toList]
      by_cases hi : i < n * size
      · by_cases e2 : j = i
        · subst e2
          have h2 : j < min (n * size) cur.size := by omega
          simp [hi, hjc, h2]
        · simp [hi, e2]
      · have : ¬ (j = i) := by omega
        simp [hi, this]
theorem cl_set {t : Tab} {y k : Nat} {p : Nat × Int} (hy : y < t.length) : cl (t.set y p) k = if k = y then p else cl t k := by
  unfold cl
  rw [List.getD_eq_getElem?_getD, List.getElem?_set, List.getD_eq_getElem?_getD]
  by_cases e : y = k
  · subst e
    simp [hy]
  · have : ¬ (k = y) := fun h => e h.symm
    simp [e, this]
theorem cels_set {t : Tab} {y : Nat} (hy : y < t.length) (p : Nat × Int) : ((cels t).set (y * 2) (.int .u32 (p.1 : Int))).set (y * 2 + 1) (.int .i64 p.2) = cels (t.set y p) := by
  refine List.ext_getElem? fun i => ?_
  have hl := cels_len t
  have hl2 := cels_len (t.set y p)
  rw [List.length_set] at hl2
  rw [List.getElem?_set, List.getElem?_set, List.length_set]
  obtain ⟨k, hk⟩ : ∃ k, i = k * 2 ∨ i = k * 2 + 1 := ⟨i / 2, by omega⟩
  rcases Nat.lt_or_ge k t.length with hkt | hkt
  · obtain ⟨a1, a2⟩ := cels_at t k hkt
    obtain ⟨b1, b2⟩ := cels_at (t.set y p) k (by rw [List.length_set]; exact hkt)
    rw [cl_set hy] at b1 b2
    by_cases e : k = y
    · subst e
      rw [if_pos rfl] at b1 b2
      rcases hk with rfl | rfl
      · rw [if_neg (by omega), if_pos rfl, if_pos (by omega), b1]
      · rw [if_pos rfl, if_pos (by omega), b2]
    · rw [if_neg e] at b1 b2
      rcases hk with rfl | rfl
      · rw [if_neg (by omega), if_neg (by omega), a1, b1]
      · rw [if_neg (by omega), if_neg (by omega), a2, b2]
  · rw [if_neg (by omega), if_neg (by omega), List.getElem?_eq_none (by omega), List.getElem?_eq_none (by omega)]
/-- A table of the call's own, in a block from B on. -/
def OwnT (w : World) (B : Nat) (A : Option Addr) (n c : Nat) (t : Tab) : Prop := w.ownsRow B 48 2 (.slice A n c) n (cels t) ∧ t.length = n ∧ Fine t
theorem OwnT.rd {w : World} {B n c : Nat} {A : Option Addr} {t : Tab} (h : OwnT w B A n c t) : RdT w A n t := by
  refine ⟨h.2.1, h.2.2, fun h0 => ?_⟩
  obtain ⟨g, cap, hg, _, hlt⟩ := h.1.form h0
  injection hg with hg _ _
  refine ⟨g, 0, hg, hlt, fun k hk => ?_⟩
  obtain ⟨a1, a2⟩ := cels_at t k (by rw [h.2.1]; exact hk)
  subst hg
  rw [Nat.zero_add]
  exact ⟨by rw [← a1]; exact h.1.cellAt _ (by omega), by rw [← a2]; exact h.1.cellAt _ (by omega)⟩
theorem grown_of_below {w w' : World} (h : Below w.heap.size w w') (row : Option Nat) : w.grownBy w' row := ⟨h.os, h.tape, h.output, h.size, fun k hk _ => h.block k hk⟩
theorem below_of_grown {w w' : World} (h : w.grownBy w' none) : Below w.heap.size w w' := ⟨h.os, h.tape, h.output, h.size, fun k hk => h.block k hk (by simp)⟩
theorem Fine.set {t : Tab} (h : Fine t) (y : Nat) {p : Nat × Int} (hp : p.1 < 4294967296 ∧ I64 p.2) : Fine (t.set y p) := by
  intro q hq
  rcases List.mem_or_eq_of_mem_set hq with h1 | rfl
  · exact h q h1
  · exact hp
set_option maxHeartbeats 1600000 in
theorem put_any (t : Tab) (A : Option Addr) (n c x B : Nat) (p : Nat × Int) (W : World) (h : OwnT W B A n c t) (h0 : 0 < n) (hn : n ≤ 100000) (hx : x ≤ 1000000) (hp : p.1 < 4294967296 ∧ I64 p.2) :
    Calls Try.prog 34 #[.agg #[.slice A n c], .int .i64 (x : Int), .agg #[.int .u32 (p.1 : Int), .int .i64 p.2]] W fun e w => e = .returned (.tuple #[]) ∧ OwnT w B A n c (t.set (x % n) p) ∧ W.grownBy w (Value.slice A n c).ownBlock := by
  obtain ⟨g, cc, hA, hBg, hlt⟩ := h.1.form h0
  injection hA with hA _ hcc
  obtain rfl : c = cc := hcc
  subst hA
  obtain ⟨y, hy⟩ : ∃ y, x % n = y := ⟨_, rfl⟩
  have hyn : y < n := by rw [← hy]; exact Nat.mod_lt _ h0
  obtain ⟨b, off, hb, _, hc⟩ := h.rd.rows h0
  injection hb with hb
  injection hb with hb hb2
  subst hb hb2
  have h1 := (hc y hyn).1
  have h2 := (hc y hyn).2
  rw [Nat.zero_add] at h1 h2
  have hf : ∀ j, W.frozen? ⟨g, j, none⟩ = false := fun j => by
    rcases h.1.2 with ⟨h3, _⟩ | ⟨q, _, cur, h3, _, h4, _⟩
    · cases h3
    · injection h3 with h3 _ _
      injection h3 with h3
      injection h3 with h3
      subst h3
      simp [World.frozen?, h4]
  have FIN := Lib.hid (fun w1 (hg1 : W.grownBy w1 none) => show OwnT ((w1.setCell ⟨g, y * 2, none⟩ (.int .u32 (p.1 : Int))).setCell ⟨g, y * 2 + 1, none⟩ (.int .i64 p.2)).drew B (some ⟨g, 0, none⟩) n c (t.set y p) ∧ W.grownBy ((w1.setCell ⟨g, y * 2, none⟩ (.int .u32 (p.1 : Int))).setCell ⟨g, y * 2 + 1, none⟩ (.int .i64 p.2)).drew (some g) from by
    have ho := h.1.kept hg1 (.inr (by simp [Value.ownBlock]))
    have ho2 := own_set (own_set ho rfl (j := y * 2) (by omega) (.int .u32 (p.1 : Int))) rfl (j := y * 2 + 1) (by omega) (.int .i64 p.2)
    rw [cels_set (by rw [h.2.1]; exact hyn)] at ho2
    refine ⟨⟨ho2, by rw [List.length_set]; exact h.2.1, h.2.2.set y hp⟩, ?_⟩
    have g1 := ((hg1.but (some g)).trans (Lib.grownBy_setCell w1 g (y * 2) (.int .u32 (p.1 : Int)))).trans (Lib.grownBy_setCell _ g (y * 2 + 1) (.int .i64 p.2))
    exact ⟨g1.os, g1.tape, g1.output, g1.size, g1.block⟩)
  rw [hy]
  obtain ⟨u, hu⟩ : ∃ u, p.1 = u := ⟨_, rfl⟩
  obtain ⟨v, hv⟩ : ∃ v, p.2 = v := ⟨_, rfl⟩
  rw [hu, hv] at FIN ⊢
  have hm1 : (x : Int).tmod (n : Int) = (y : Int) := by
    rw [Int.tmod_eq_emod_of_nonneg (by omega), ← hy]
    norm_cast
  have hm2 : (x : Int) % (n : Int) = (y : Int) := by rw [← hy]; norm_cast
  have hnn : ¬ (n = 0) := by omega
  have hnn2 : ¬ ((n : Int) = 0) := by omega
  have q0 : (0 : Int) ≤ (y : Int) := by omega
  have q1 : (y : Int) < (n : Int) := by omega
  obtain ⟨w0, hw0⟩ : ∃ w0, (W.alloc (.cells #[.slice (some ⟨g, 0, none⟩) n c] 54)).alloc (.cells #[.int .u32 (u : Int), .int .i64 v] 48) = w0 := ⟨_, rfl⟩
  have hgr : W.grownBy w0 none := by rw [← hw0]; exact (World.grownBy_alloc W _ none).trans (World.grownBy_alloc _ _ none)
  have k1 : w0.cell? ⟨W.heap.size, 0, none⟩ = some (.slice (some ⟨g, 0, none⟩) n c) := by rw [← hw0]; simp [go_sem]
  have k2 : w0.cell? ⟨W.heap.size + 1, 0, none⟩ = some (.int .u32 (u : Int)) := by rw [← hw0]; simp [go_sem]
  have k3 : w0.cell? ⟨W.heap.size + 1, 1, none⟩ = some (.int .i64 v) := by rw [← hw0]; simp [go_sem]
  have k4 := (hgr.cell_far ⟨g, y * 2, none⟩ hlt (by simp)).trans h1
  have k5 := (hgr.cell_far ⟨g, y * 2 + 1, none⟩ hlt (by simp)).trans h2
  have k6 := (hgr.frozen_far ⟨g, y * 2, none⟩ hlt (by simp)).trans (hf _)
  have k7 := (hgr.frozen_far ⟨g, y * 2 + 1, none⟩ hlt (by simp)).trans (hf _)
  have F2 := Lib.hid (FIN.out w0 hgr)
  have HW0 := Lib.hid hw0
  clear h hc hu hv hy hf h1 h2 hgr hw0 FIN hp
  go_enter Try.func34, Try.ntmps34
  go_wp2_with fail
  rw [HW0.out]
  go_still_tail 9, (by kernel_rfl)
  go_wp2_with fail
  go_end0
  trace_state
  exact ⟨rfl, F2.out⟩
end Pr
end Go.Proofs.Ytommffcojbdldaa
