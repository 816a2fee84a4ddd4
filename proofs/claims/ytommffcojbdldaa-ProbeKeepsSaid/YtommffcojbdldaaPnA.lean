/- Layer 19: the law of a right table: from a cell's home on to it, no cell is empty, none is nearer to its home. No program's function is spoken of. -/
import Derived.Test.YtommffcojbdldaaPtB
namespace Go.Proofs.Ytommffcojbdldaa
open Go.RowKit
namespace Pr

theorem D_at {n h s : Nat} (hh : h < n) (hs : s < n) : D n (h : Int) (((h + s) % n : Nat) : Int) = (s : Int) := by
  rcases Nat.lt_or_ge (h + s) n with h1 | h1
  · rw [Nat.mod_eq_of_lt h1]
    unfold D
    rw [if_pos (by omega), if_neg (by omega)]
    omega
  · rw [Nat.mod_eq_sub_mod h1, Nat.mod_eq_of_lt (by omega)]
    unfold D
    rw [if_pos (by omega), if_pos (by omega)]
    omega
theorem D_inv {n h i : Nat} (hh : h < n) (hi : i < n) : ∃ s, s < n ∧ (h + s) % n = i ∧ D n (h : Int) (i : Int) = (s : Int) := by
  obtain ⟨s, h1, h2⟩ := reach (x := h) hi
  refine ⟨s, h1, h2, ?_⟩
  rw [← h2]
  exact D_at hh h1
theorem prv_at {n a s : Nat} (hn : 0 < n) : prv n ((a + (s + 1)) % n) = (a + s) % n := by
  unfold prv
  rw [show (a + (s + 1)) % n + n - 1 = (a + (s + 1)) % n + (n - 1) by omega, Nat.mod_add_mod, show a + (s + 1) + (n - 1) = a + s + n by omega, Nat.add_mod_right]
theorem right_known {t : Tab} (h : rightB t = true) : knownB t = true := by
  unfold rightB at h
  rw [Bool.and_eq_true] at h
  exact h.1
theorem right_pos {t : Tab} {n : Nat} (hl : t.length = n) (h : rightB t = true) : 0 < n := by
  have := right_known h
  unfold knownB at this
  rw [Bool.and_eq_true] at this
  rw [← hl]
  simpa using this.1
/-- What a right table's cell asks of the one ahead of it. -/
theorem right_prev {t : Tab} {n : Nat} (hl : t.length = n) (h : rightB t = true) {i : Nat} (hi : i < n) (h0 : nz (cl t i) = true) (hf : 0 < farT t n i) : nz (cl t (prv n i)) = true ∧ farT t n i - 1 ≤ farT t n (prv n i) := by
  have hb : badAt t n i = false := by
    unfold rightB at h
    rw [Bool.and_eq_true] at h
    have h2 := h.2
    unfold chainB at h2
    rw [List.all_eq_true] at h2
    have h3 := h2 i (List.mem_range.2 (by omega))
    rw [hl] at h3
    simpa using h3
  unfold badAt at hb
  rw [h0, decide_eq_true hf, Bool.true_and, Bool.true_and, Bool.or_eq_false_iff] at hb
  refine ⟨by simpa using hb.1, ?_⟩
  have := hb.2
  simp at this
  omega
theorem home_of {t : Tab} {n : Nat} (hl : t.length = n) (h : knownB t = true) {i : Nat} (hi : i < n) (h0 : nz (cl t i) = true) : ∃ g : Nat, (cl t i).2 = (g : Int) ∧ g < n ∧ (cl t i).1 ≠ 0 := by
  have h1 := nz_iff hl h hi
  rw [h0] at h1
  have h2 : (cl t i).1 ≠ 0 := by simpa using h1.symm
  have h3 := known_cell hl h hi
  unfold okAt at h3
  rw [if_neg h2, Bool.and_eq_true] at h3
  have h4 := h3.1
  unfold inB at h4
  simp at h4
  exact ⟨(cl t i).2.toNat, by omega, by omega, h2⟩
theorem far_of {t : Tab} {n : Nat} (hl : t.length = n) (h : knownB t = true) {i : Nat} (hi : i < n) (h0 : nz (cl t i) = true) : ∃ g e : Nat, (cl t i).2 = (g : Int) ∧ g < n ∧ e < n ∧ (g + e) % n = i ∧ farT t n i = (e : Int) := by
  obtain ⟨g, h1, h2, _⟩ := home_of hl h hi h0
  obtain ⟨e, h3, h4, h5⟩ := D_inv h2 hi
  exact ⟨g, e, h1, h2, h3, h4, by unfold farT; rw [h1]; exact h5⟩
/-- The law. -/
theorem near {t : Tab} {n : Nat} (hl : t.length = n) (h : rightB t = true) {g e : Nat} (hg : g < n) (he : e < n) (h0 : nz (cl t ((g + e) % n)) = true) (hc : (cl t ((g + e) % n)).2 = (g : Int)) :
    ∀ d, d ≤ e → nz (cl t ((g + (e - d)) % n)) = true ∧ ((e - d : Nat) : Int) ≤ farT t n ((g + (e - d)) % n)
  | 0, _ => by
    rw [Nat.sub_zero]
    refine ⟨h0, ?_⟩
    unfold farT
    rw [hc, D_at hg he]
    exact Int.le_refl _
  | d + 1, hd => by
    have hn := right_pos hl h
    obtain ⟨h1, h2⟩ := near hl h hg he h0 hc d (by omega)
    have h3 : e - d = (e - (d + 1)) + 1 := by omega
    rw [h3] at h1 h2
    have h4 := right_prev hl h (Nat.mod_lt _ hn) h1 (by omega)
    rw [prv_at hn] at h4
    exact ⟨h4.1, by omega⟩
end Pr
end Go.Proofs.Ytommffcojbdldaa
