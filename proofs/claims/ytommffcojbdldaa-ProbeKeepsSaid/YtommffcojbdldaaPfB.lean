/- Layer 19: when a table is right, told round the ring from any place. No program's function is spoken of. -/
import Derived.Test.YtommffcojbdldaaPfA
namespace Go.Proofs.Ytommffcojbdldaa
open Go.RowKit
namespace Pr

theorem right_mk {t : Tab} {n : Nat} (a : Nat) (hl : t.length = n) (hn : 0 < n)
    (hk : ∀ s, s < n → (cl t ((a + s) % n)).1 = 0 → (cl t ((a + s) % n)).2 = 0)
    (hh : ∀ s, s < n → (cl t ((a + s) % n)).1 ≠ 0 → ∃ g : Nat, (cl t ((a + s) % n)).2 = (g : Int) ∧ g < n)
    (hu : ∀ r s, r < n → s < n → (cl t ((a + r) % n)).1 ≠ 0 → (cl t ((a + r) % n)).1 = (cl t ((a + s) % n)).1 → r = s)
    (hc : ∀ s, s < n → nz (cl t ((a + s) % n)) = true → 0 < farT t n ((a + s) % n) → nz (cl t ((a + (s + n - 1)) % n)) = true ∧ farT t n ((a + s) % n) - 1 ≤ farT t n ((a + (s + n - 1)) % n)) : rightB t = true := by
  have hprv : ∀ s, prv n ((a + s) % n) = (a + (s + n - 1)) % n := fun s => by
    unfold prv
    rw [show (a + s) % n + n - 1 = (a + s) % n + (n - 1) by omega, Nat.mod_add_mod, show a + s + (n - 1) = a + (s + n - 1) by omega]
  unfold rightB
  rw [Bool.and_eq_true]
  constructor
  · unfold knownB
    rw [Bool.and_eq_true, List.all_eq_true]
    refine ⟨decide_eq_true (by omega), fun i hi => ?_⟩
    obtain ⟨s, hs, hsi⟩ := reach (x := a) (show i < n from by rw [← hl]; exact List.mem_range.1 hi)
    rw [hl]
    unfold okAt
    by_cases h0 : (cl t i).1 = 0
    · rw [if_pos h0]
      exact decide_eq_true (by rw [← hsi] at h0 ⊢; exact hk s hs h0)
    · rw [if_neg h0, Bool.and_eq_true, List.all_eq_true]
      refine ⟨?_, fun k hk2 => ?_⟩
      · rw [← hsi] at h0 ⊢
        obtain ⟨g, h1, h2⟩ := hh s hs h0
        rw [h1]
        unfold inB
        exact decide_eq_true ⟨by omega, by omega⟩
      · have hki := List.mem_range.1 hk2
        have hin : i < n := by rw [← hl]; exact List.mem_range.1 hi
        obtain ⟨r, hr, hrk⟩ := reach (x := a) (show k < n by omega)
        unfold idAt
        rw [Bool.not_eq_true', decide_eq_false_iff_not]
        intro he
        have := hu s r hs hr (by rw [hsi]; exact h0) (by rw [hsi, hrk]; exact he.symm)
        subst this
        omega
  · refine chain_good hl fun i hi => ?_
    obtain ⟨s, hs, hsi⟩ := reach (x := a) hi
    unfold badAt
    cases h0 : nz (cl t i) with
    | false => rfl
    | true =>
      by_cases hf : 0 < farT t n i
      · rw [← hsi] at h0 hf
        obtain ⟨h1, h2⟩ := hc s hs h0 hf
        rw [← hprv s, hsi] at h1 h2
        rw [h1, Bool.true_and, Bool.not_true, Bool.false_or, Bool.and_eq_false_iff]
        exact .inr (decide_eq_false (by omega))
      · rw [decide_eq_false hf]
        rfl
end Pr
end Go.Proofs.Ytommffcojbdldaa
