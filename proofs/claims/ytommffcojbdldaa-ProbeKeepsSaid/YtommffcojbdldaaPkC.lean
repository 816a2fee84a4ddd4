/- Layer 19: lists of acts in memory: those that came in, and those that are in; the contract of find; append of any part of a slice. -/
import Derived.Test.YtommffcojbdldaaPkB
import Derived.Deep.AppendLies
import Derived.Deep.Slices
import Derived.Laws.MakeOwn
namespace Go.Proofs.Ytommffcojbdldaa
open Go.RowKit
namespace Pr

/-- One act's cells; those of a list of IDs that are in. -/
def acv (o : Bool) (p : Nat × Int) : List Value := [.bool o, .int .u32 (p.1 : Int), .int .i64 p.2]
def acs (l : Tab) : List Value := l.flatMap (acv false)
theorem acs_len (l : Tab) : (acs l).length = l.length * 3 := by
  induction l with
  | nil => rfl
  | cons p l ih =>
    have : acs (p :: l) = acv false p ++ acs l := rfl
    rw [this, List.length_append, ih, List.length_cons]
    simp [acv]
    omega
theorem acs_app (a b : Tab) : acs (a ++ b) = acs a ++ acs b := by simp [acs]
theorem acs_one (p : Nat × Int) : acs [p] = acv false p := by simp [acs]
theorem one_acs (l : Tab) : ∀ u ∈ acs l, u.oneCell' = true := by
  intro u hu
  obtain ⟨p, _, hp⟩ := List.mem_flatMap.1 hu
  simp [acv] at hp
  rcases hp with rfl | rfl | rfl <;> rfl
theorem acs_at : ∀ (l : Tab) (k : Nat), k < l.length → (acs l)[k * 3]? = some (.bool false) ∧ (acs l)[k * 3 + 1]? = some (.int .u32 ((cl l k).1 : Int)) ∧ (acs l)[k * 3 + 2]? = some (.int .i64 (cl l k).2)
  | [], k, h => absurd h (Nat.not_lt_zero _)
  | p :: l, 0, _ => by
    have : acs (p :: l) = acv false p ++ acs l := rfl
    rw [this]
    exact ⟨rfl, rfl, rfl⟩
  | p :: l, k + 1, h => by
    have ih := acs_at l k (by simpa using h)
    have e : acs (p :: l) = acv false p ++ acs l := rfl
    have hc : cl (p :: l) (k + 1) = cl l k := by unfold cl; simp
    have go : ∀ j, (acs (p :: l))[(k + 1) * 3 + j]? = (acs l)[k * 3 + j]? := fun j => by
      rw [e, List.getElem?_append_right (by simp [acv]; omega)]
      congr 1
      simp [acv]
      omega
    rw [hc]
    exact ⟨(go 0).trans ih.1, (go 1).trans ih.2.1, (go 2).trans ih.2.2⟩
/-- A slice that reads as the list of those that are in. -/
structure RdL (w : World) (A : Option Addr) (n : Nat) (l : Tab) : Prop where
  len : l.length = n
  rows : 0 < n → ∃ b off, A = some ⟨b, off, none⟩ ∧ b < w.heap.size ∧ ∀ k, k < n → w.cell? ⟨b, off + k * 3, none⟩ = some (.bool false) ∧ w.cell? ⟨b, off + k * 3 + 1, none⟩ = some (.int .u32 ((cl l k).1 : Int)) ∧ w.cell? ⟨b, off + k * 3 + 2, none⟩ = some (.int .i64 (cl l k).2)
theorem RdL.below {w w' : World} {A : Option Addr} {n : Nat} {l : Tab} (h : RdL w A n l) (hb : Below w.heap.size w w') : RdL w' A n l := by
  refine ⟨h.len, fun h0 => ?_⟩
  obtain ⟨b, off, ha, hlt, hc⟩ := h.rows h0
  exact ⟨b, off, ha, Nat.lt_of_lt_of_le hlt hb.size, fun k hk => ⟨(hb.cell (p := ⟨b, off + k * 3, none⟩) hlt).trans (hc k hk).1, (hb.cell (p := ⟨b, off + k * 3 + 1, none⟩) hlt).trans (hc k hk).2.1, (hb.cell (p := ⟨b, off + k * 3 + 2, none⟩) hlt).trans (hc k hk).2.2⟩⟩
/-- A part of it lies where the slice of that part says. -/
theorem RdL.lie {w : World} {b off n : Nat} {l : Tab} (h : RdL w (some ⟨b, off, none⟩) n l) (i m : Nat) (him : i + m ≤ n) (A' : Option Addr) (hA : 0 < m → A' = some ⟨b, off + i * 3, none⟩) : Lie w A' (acs ((l.drop i).take m)) := fun h0 => by
  have hl : ((l.drop i).take m).length = m := by rw [List.length_take, List.length_drop, h.len]; omega
  rw [acs_len, hl] at h0
  obtain ⟨b', off', ha, hlt, hc⟩ := h.rows (by omega)
  injection ha with ha
  injection ha with hb ho
  subst hb ho
  refine ⟨b, off + i * 3, hA (by omega), hlt, fun j hj => ?_⟩
  rw [acs_len, hl] at hj
  have hcl : ∀ k, k < m → cl ((l.drop i).take m) k = cl l (i + k) := fun k hk => by
    unfold cl
    rw [List.getD_eq_getElem?_getD, List.getD_eq_getElem?_getD, List.getElem?_take, if_pos hk, List.getElem?_drop]
  obtain ⟨k, hk⟩ : ∃ k, j = k * 3 ∨ j = k * 3 + 1 ∨ j = k * 3 + 2 := ⟨j / 3, by omega⟩
  have hkm : k < m := by omega
  obtain ⟨a1, a2, a3⟩ := acs_at ((l.drop i).take m) k (by omega)
  obtain ⟨c1, c2, c3⟩ := hc (i + k) (by omega)
  rw [hcl k hkm] at a2 a3
  rcases hk with rfl | rfl | rfl
  · rw [a1, show off + i * 3 + k * 3 = off + (i + k) * 3 by omega, c1]
  · rw [a2, show off + i * 3 + (k * 3 + 1) = off + (i + k) * 3 + 1 by omega, c2]
  · rw [a3, show off + i * 3 + (k * 3 + 2) = off + (i + k) * 3 + 2 by omega, c3]
/-- The list that the call itself keeps. -/
def OwnL (w : World) (B : Nat) (A : Option Addr) (n c : Nat) (l : Tab) : Prop := w.ownsRow B 45 3 (.slice A n c) n (acs l) ∧ l.length = n
theorem OwnL.rd {w : World} {B n c : Nat} {A : Option Addr} {l : Tab} (h : OwnL w B A n c l) : RdL w A n l := by
  refine ⟨h.2, fun h0 => ?_⟩
  obtain ⟨g, cc, hv, _, hlt⟩ := h.1.form h0
  injection hv with h1 _ _
  subst h1
  refine ⟨g, 0, rfl, hlt, fun k hk => ?_⟩
  obtain ⟨a1, a2, a3⟩ := acs_at l k (by rw [h.2]; exact hk)
  rw [Nat.zero_add]
  exact ⟨by rw [← a1]; exact h.1.cellAt _ (by omega), by rw [← a2]; exact h.1.cellAt _ (by omega), by rw [← a3]; exact h.1.cellAt _ (by omega)⟩
theorem OwnL.below {w w' : World} {B n c : Nat} {A : Option Addr} {l : Tab} (h : OwnL w B A n c l) (hb : Below w.heap.size w w') : OwnL w' B A n c l := ⟨Mem.own_below h.1 hb, h.2⟩
theorem OwnL.nil (w : World) (B : Nat) : OwnL w B none 0 0 [] := ⟨by simpa [acs] using World.ownsRow_nil w B _ _, rfl⟩
/-- Whose block is it? -/
theorem OwnL.block {w : World} {B n c : Nat} {A : Option Addr} {l : Tab} (h : OwnL w B A n c l) : ∀ j, (Value.slice A n c).ownBlock = some j → B ≤ j ∧ j < w.heap.size := fun j hj => by
  rcases h.1.2 with ⟨h3, _⟩ | ⟨g, cap, cur, h3, h4, h5, _⟩
  · rw [h3] at hj
    cases hj
  · rw [h3] at hj
    injection hj with hj
    rw [← hj]
    exact ⟨h4, lt_of_block h5⟩
set_option maxHeartbeats 1600000 in
theorem findact_any (l : Tab) (A : Option Addr) (n c id : Nat) (W : World) (hr : RdL W A n l) (hn : n ≤ 100000) :
    Calls Try.prog 23 #[.slice A n c, .int .u32 (id : Int)] W fun e w => e = .returned (.int .i64 (fstI (fst (idAt l id) n))) ∧ W = w := by
  have HR := Lib.hid hr
  clear hr
  go_enter Try.func23, Try.ntmps23
  go_wp2_with fail
  go_loopw [5] (HaR (idAt l id) n W) (fun i _ => n - (intOf i).toNat)
  case atStart => exact ⟨0, by omega, rfl, rfl, fun j hj => absurd hj (by omega)⟩
  case round =>
    obtain ⟨k, hk, rfl, rfl, hp⟩ := hrel
    have HP := Lib.hid hp
    by_cases hkn : k < n
    · obtain ⟨tb, off, rfl, _, hc⟩ := HR.out.rows (by omega)
      obtain ⟨_, h1, _⟩ := hc k hkn
      have hid : idAt l id k = decide ((cl l k).1 = id) := rfl
      obtain ⟨u, hu⟩ : ∃ u, (cl l k).1 = u := ⟨_, rfl⟩
      rw [hu] at h1 hid
      have q0 : (0 : Int) ≤ (k : Int) := by omega
      have q1 : (k : Int) < (n : Int) := by omega
      clear hp hc hu
      by_cases hui : u = id
      · have FI := Lib.hid (fst_some hkn (show idAt l id k = true by rw [hid]; simpa using hui) HP.out)
        have x1 : (u : Int) = (id : Int) := by omega
        clear hid hui
        go_wp2_with fail
        go_ret
        exact ⟨by rw [FI.out]; rfl, rfl⟩
      · have ID := Lib.hid (show idAt l id k = false by rw [hid]; simpa using hui)
        have x1 : ¬ (u : Int) = (id : Int) := by omega
        have x2 : ((u : Int) == (id : Int)) = false := by simpa using x1
        clear hid hui
        go_wp2_with fail
        go_roundw
        case rel => exact ⟨k + 1, by omega, by go_num, rfl, fun j hj => by
          rcases Nat.lt_or_ge j k with h | h
          · exact HP.out j h
          · obtain rfl : j = k := by omega
            exact ID.out⟩
        case measure => simp [intOf]; omega
    · obtain rfl : n = k := by omega
      have FI := Lib.hid (fst_none hp)
      clear hp
      go_wp2_with fail
      go_ret
      exact ⟨by rw [FI.out]; rfl, rfl⟩
end Pr
end Go.Proofs.Ytommffcojbdldaa
