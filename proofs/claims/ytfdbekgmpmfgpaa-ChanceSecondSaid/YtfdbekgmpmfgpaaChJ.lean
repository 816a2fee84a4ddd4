/- Layer 18 (chance): the contracts of the document's may and Next. -/
import Derived.Test.YtfdbekgmpmfgpaaChI
import Derived.Deep.LoopGhost
namespace Go.Proofs.Ytfdbekgmpmfgpaa
open Go.RowKit
namespace Ch

theorem may_any (n m : Nat) (A : Option Addr) (c : Nat) (Ao : Option Addr) (co : Nat) (a : Int) (w : World) :
    Calls Try.prog 24 #[.slice A n c, .slice Ao m co, .int .i64 a] w fun e w' => e = .returned (.int .i64 (rightv n m a)) ∧ w = w' := by
  by_cases h0 : n = 0
  · subst h0
    go_enter Try.func24, Try.ntmps24
    go_wp2
    go_ret
    exact ⟨rfl, rfl⟩
  by_cases h1 : n = m
  · subst h1
    have h0' : ¬ ((n : Int) = 0) := by omega
    by_cases h2 : a < 0
    · have hv : rightv n n a = 6 := by simp [rightv, h0, h2]
      go_enter Try.func24, Try.ntmps24
      go_wp2
      go_ret
      exact ⟨by first | rfl | exact Mem.ret_int hv, rfl⟩
    by_cases h3 : (n : Int) ≤ a
    · have hv : rightv n n a = 6 := by simp [rightv, h0, h3]
      go_enter Try.func24, Try.ntmps24
      go_wp2
      go_ret
      exact ⟨by first | rfl | exact Mem.ret_int hv, rfl⟩
    · have hv : rightv n n a = 0 := by simp [rightv, h0, h2, h3]
      go_enter Try.func24, Try.ntmps24
      go_wp2
      go_ret
      exact ⟨by first | rfl | exact Mem.ret_int hv, rfl⟩
  · have hv : rightv n m a = 2 := by simp [rightv, h1]
    have h0' : ¬ ((n : Int) = 0) := by omega
    have h1' : ¬ ((n : Int) = (m : Int)) := by omega
    have b0 : ((n : Int) == 0) = false := by simp [h0]
    have b1 : ((n : Int) != (m : Int)) = true := by simp; omega
    go_enter Try.func24, Try.ntmps24
    go_wp2
    go_ret
    exact ⟨by first | rfl | exact Mem.ret_int hv, rfl⟩
theorem refnext_bad (n m : Nat) (A : Option Addr) (c : Nat) (Ao : Option Addr) (co : Nat) (h : Int) (w : World) (hb : rightv n m h ≠ 0) :
    Calls Try.prog 15 #[.slice A n c, .slice Ao m co, .int .i64 h] w fun e w' => e = .returned (.tuple #[.int .i64 0, .slice none 0 0, .int .i64 (rightv n m h)]) ∧ w = w' := by
  have HR := may_any n m A c Ao co h w
  obtain ⟨r, hr⟩ : ∃ r, rightv n m h = r := ⟨_, rfl⟩
  rw [hr] at hb HR ⊢
  clear hr
  go_enter Try.func15, Try.ntmps15
  go_wp2_with (go_at_call 24; refine HR.mono ?_; rintro e w1 ⟨rfl, rfl⟩)
  go_ret3
  exact ⟨rfl, rfl⟩

/-- A block of its own with these Booleans. -/
def Flags (ub : Nat) (us : List Bool) (w : World) : Prop := ub < w.heap.size ∧ (∀ j, j < us.length → w.cell? ⟨ub, j, none⟩ = some (.bool (us.getD j false))) ∧ ∀ j, w.frozen? ⟨ub, j, none⟩ = false
section
variable {ub : Nat} {us : List Bool} {w : World}
theorem Flags.of_own {B n uc : Nat} (hn : us.length = n) (h : w.ownsRow B 4 1 (.slice (some ⟨ub, 0, none⟩) n uc) n (bools us)) (hlt : ub < w.heap.size) : Flags ub us w := by
  subst hn
  refine ⟨hlt, fun j hj => ?_, fun j => h.frozenAt _⟩
  have := h.cellAt j (by omega)
  rw [this, bools_at hj]
theorem Flags.set (h : Flags ub us w) {x : Nat} (hx : x < us.length) (b : Bool) : Flags ub (us.set x b) (w.setCell ⟨ub, x, none⟩ (.bool b)) := by
  obtain ⟨h3, h7, h8⟩ := h
  refine ⟨by simpa using h3, fun j hj => ?_, fun j => ?_⟩
  · rw [List.length_set] at hj
    by_cases e : x = j
    · subst e
      rw [World.cell?_setCell_same (h := h7 x hx), List.getD_eq_getElem?_getD, List.getElem?_set_self hj]
      rfl
    · have e1 : (us.set x b).getD j false = us.getD j false := by
        simp only [List.getD_eq_getElem?_getD]
        rw [List.getElem?_set_ne e]
      rw [e1, World.cell?_setCell_other]
      · exact h7 j hj
      · intro e2
        injection e2 with _ e2
        exact e e2
  · rw [World.frozen?_setCell]
    exact h8 j
theorem Flags.other (h : Flags ub us w) {p : Nat} (hp : p ≠ ub) (x : Nat) (v : Value) : Flags ub us (w.setCell ⟨p, x, none⟩ v) := by
  obtain ⟨h3, h7, h8⟩ := h
  refine ⟨by simpa using h3, fun j hj => ?_, fun j => ?_⟩
  · rw [World.cell?_setCell_other]
    · exact h7 j hj
    · intro e2
      injection e2 with e2 _
      exact hp e2
  · rw [World.frozen?_setCell]
    exact h8 j
theorem Flags.rd (h : Flags ub us w) : Mem.Rd w (some ⟨ub, 0, none⟩) (bools us) := fun _ => by
  obtain ⟨h3, h7, _⟩ := h
  refine ⟨ub, 0, rfl, h3, fun i hi => ?_⟩
  rw [bools_len] at hi
  rw [Nat.zero_add, h7 i hi, bools_at hi]
theorem Flags.grown {w' : World} {ob : Option Nat} (h : Flags ub us w) (hg : w.grownBy w' ob) (hu : ob ≠ some ub) : Flags ub us w' := by
  obtain ⟨h3, h7, h8⟩ := h
  refine ⟨Nat.lt_of_lt_of_le h3 hg.size, fun j hj => (World.cell?_of_block (w := w) (hg.block ub h3 hu.symm)).trans (h7 j hj), fun j => (World.frozen?_of_block (w := w) (hg.block ub h3 hu.symm)).trans (h8 j)⟩
theorem Flags.below {w' : World} (h : Flags ub us w) (hb : Below w.heap.size w w') : Flags ub us w' :=
  h.grown (ob := none) ⟨hb.os, hb.tape, hb.output, hb.size, fun k hk _ => hb.block k hk⟩ (by intro e; cases e)
end
theorem pre_mem {n h k j : Nat} : j ∈ pre n h k ↔ ∃ i, i < k ∧ (h + i) % n = j := by
  unfold pre
  rw [List.mem_map]
  constructor
  · rintro ⟨i, hi, e⟩; exact ⟨i, List.mem_range.1 hi, e⟩
  · rintro ⟨i, hi, e⟩; exact ⟨i, List.mem_range.2 hi, e⟩
theorem mod_inj {n h i j : Nat} (hi : i < n) (hj : j < n) (e : (h + i) % n = (h + j) % n) : i = j := by
  have e1 := Nat.sub_mod_eq_zero_of_mod_eq e
  have e2 := Nat.sub_mod_eq_zero_of_mod_eq e.symm
  rw [Nat.add_sub_add_left, Nat.mod_eq_of_lt (by omega)] at e1 e2
  omega
theorem ring_at {n h k : Nat} (hk : k < n) : (ring n h).getD k 0 = (h + k) % n := by
  unfold ring
  rw [List.getD_eq_getElem?_getD, List.getElem?_map, List.getElem?_range hk]
  rfl
theorem ring_take {n h k : Nat} (hk : k ≤ n) : (ring n h).take k = pre n h k := by
  unfold ring pre
  rw [← List.map_take, List.take_range, Nat.min_eq_left hk]
/-- One that is looked at in the ring: before it goes round, its flag is as it was. -/
theorem stay_pre {us ov : List Bool} {h k : Nat} (hk : k < us.length) : stay (clear us (pre us.length h k)) ov ((h + k) % us.length) = stay us ov ((h + k) % us.length) := by
  unfold stay
  rw [clear_not]
  rw [pre_mem]
  rintro ⟨i, hi, e⟩
  have := mod_inj (by omega) hk e
  omega
theorem stay_end {us ov : List Bool} {h : Nat} (h0 : 0 < us.length) : stay (clear us (pre us.length h us.length)) ov ((h + us.length) % us.length) = false := by
  unfold stay
  rw [clear_mem]
  · rfl
  · rw [pre_mem]
    exact ⟨0, h0, by simp⟩
/-- Where the hand has stopped. -/
theorem stop_at {us ov : List Bool} {h k : Nat} (h0 : 0 < us.length) (hk : k ≤ us.length) (hall : ∀ j, j < k → stay us ov ((h + j) % us.length) = true)
    (hs : stay (clear us (pre us.length h k)) ov ((h + k) % us.length) = false) : turns us ov h = k ∧ (nextOrder us ov h).getD 0 0 = (h + k) % us.length ∧ nextUsed us ov h = clear us (pre us.length h k) := by
  have ht : turns us ov h = k := by
    unfold turns
    rcases Nat.lt_or_ge k us.length with hlt | hge
    · refine tw_len _ k (by rw [ring_len]; exact hlt) (fun j hj => by rw [ring_at (by omega)]; exact hall j hj) ?_
      rw [ring_at hlt, ← stay_pre hlt]
      exact hs
    · obtain rfl : k = us.length := by omega
      rw [tw_all, ring_len]
      intro j hj
      rw [ring_len] at hj
      rw [ring_at hj]
      exact hall j hj
  refine ⟨ht, ?_, ?_⟩
  · unfold nextOrder
    rw [ht]
    rcases Nat.lt_or_ge k us.length with hlt | hge
    · rw [List.getD_eq_getElem?_getD, List.getElem?_append_left (by rw [List.length_drop, ring_len]; omega), List.getElem?_drop, Nat.add_zero, ← List.getD_eq_getElem?_getD, ring_at hlt]
    · obtain rfl : k = us.length := by omega
      rw [List.drop_of_length_le (by rw [ring_len]; exact Nat.le_refl _), List.nil_append, List.take_of_length_le (by rw [ring_len]; exact Nat.le_refl _), ring_at h0]
      simp
  · unfold nextUsed
    rw [ht, ring_take hk]
/-- The relation of the loop of the document's Next. -/
def NxR (ub : Nat) (us ov : List Bool) (h : Nat) (W : World) (g : Nat) (v : Value) (w : World) : Prop :=
  ∃ k, k ≤ us.length ∧ g = us.length - k ∧ v = .int .i64 (((h + k) % us.length : Nat) : Int) ∧ Flags ub (clear us (pre us.length h k)) w ∧ (∀ j, j < k → stay us ov ((h + j) % us.length) = true) ∧ Below W.heap.size W w
end Ch
end Go.Proofs.Ytfdbekgmpmfgpaa
