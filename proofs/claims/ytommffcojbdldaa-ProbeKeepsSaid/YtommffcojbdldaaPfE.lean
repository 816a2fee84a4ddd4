/- Layer 19: a cell that is empty or at home: there is one behind every insertion. No program's function is spoken of. -/
import Derived.Test.YtommffcojbdldaaPfD
namespace Go.Proofs.Ytommffcojbdldaa
open Go.RowKit
namespace Pr

def Cut (t : Tab) (n : Nat) : Prop := ∃ i, i < n ∧ (nz (cl t i) = false ∨ farT t n i = 0)
/-- Behind an empty cell lies one that is empty or at home. -/
theorem after_empty {t : Tab} {n a g : Nat} (hl : t.length = n) (hr : rightB t = true) (hemp : nz (cl t ((a + g) % n)) = false) : nz (cl t ((a + (g + 1)) % n)) = false ∨ farT t n ((a + (g + 1)) % n) = 0 := by
  have hn := right_pos hl hr
  cases hz : nz (cl t ((a + (g + 1)) % n)) with
  | false => exact .inl rfl
  | true =>
    right
    by_cases hf : 0 < farT t n ((a + (g + 1)) % n)
    · have := (right_prev hl hr (Nat.mod_lt _ hn) hz hf).1
      rw [prv_at hn, hemp] at this
      cases this
    · have : 0 ≤ farT t n ((a + (g + 1)) % n) := (D_bd n (cl t ((a + (g + 1)) % n)).2 ((a + (g + 1)) % n)).1
      omega
/-- Were the empty cell the last one round the ring, the place would be the home. -/
theorem at_home {t : Tab} {n h k0 : Nat} (hk : fst (opF t n h) n = some k0) (hemp : nz (cl t ((h + k0 + (n - 1)) % n)) = false) : k0 = 0 := by
  obtain ⟨k1, k2, k3⟩ := fst_of hk
  rcases Nat.eq_zero_or_pos k0 with h0 | h0
  · exact h0
  · have := k3 (k0 - 1) (by omega)
    unfold opF opn at this
    rw [Bool.or_eq_false_iff] at this
    have h1 := this.1
    rw [show h + k0 + (n - 1) = h + (k0 - 1) + n by omega, Nat.add_mod_right] at hemp
    rw [hemp] at h1
    cases h1
theorem cut_ins {t : Tab} {n id h k0 g : Nat} (hl : t.length = n) (hr : rightB t = true) (hh : h < n)
    (hk : fst (opF t n h) n = some k0) (hg : fst (emp t n (h + k0)) n = some g) : Cut (insS t n (h + k0) g (id, (h : Int))) n := by
  obtain ⟨k1, k2, k3⟩ := fst_of hk
  obtain ⟨g1, g2, g3⟩ := fst_of hg
  have hn : 0 < n := by omega
  have hemp : nz (cl t ((h + k0 + g) % n)) = false := by
    unfold emp at g2
    simpa using g2
  rcases Nat.lt_or_ge (g + 1) n with h1 | h1
  · refine ⟨(h + k0 + (g + 1)) % n, Nat.mod_lt _ hn, ?_⟩
    unfold farT
    rw [insS_at hl g1 h1, if_neg (by omega), if_neg (by omega)]
    exact after_empty hl hr hemp
  · obtain rfl : g = n - 1 := by omega
    have h0 := at_home hk hemp
    subst h0
    refine ⟨(h + 0 + 0) % n, Nat.mod_lt _ hn, .inr ?_⟩
    unfold farT
    rw [insS_at hl g1 hn, if_pos rfl]
    exact D_at hh hn
end Pr
end Go.Proofs.Ytommffcojbdldaa
