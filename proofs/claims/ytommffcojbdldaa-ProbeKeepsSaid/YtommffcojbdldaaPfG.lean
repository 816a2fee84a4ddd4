/- Layer 19: what is inserted and deleted again leaves a right table as it was. No program's function is spoken of. -/
import Derived.Test.YtommffcojbdldaaPfF
namespace Go.Proofs.Ytommffcojbdldaa
open Go.RowKit
namespace Pr

theorem nz_false {p : Nat × Int} (h : nz p = false) : p = (0, 0) := by
  unfold nz at h
  simpa using h
/-- The end behind an insertion's place is where the empty cell was. -/
theorem dp_ins {t : Tab} {n id h k0 g : Nat} (hl : t.length = n) (hr : rightB t = true)
    (hg : fst (emp t n (h + k0)) n = some g) : fst (dp (insS t n (h + k0) g (id, (h : Int))) n (h + k0)) n = some g := by
  obtain ⟨g1, g2, g3⟩ := fst_of hg
  have hn : 0 < n := by omega
  have hkb := right_known hr
  have hmd : ∀ s, s % n < n := fun s => Nat.mod_lt _ hn
  obtain ⟨a, ha⟩ : ∃ a, h + k0 = a := ⟨_, rfl⟩
  rw [ha] at g2 g3 ⊢
  have hemp : nz (cl t ((a + g) % n)) = false := by
    unfold emp at g2
    simpa using g2
  refine fst_some g1 ?_ fun j hj => ?_
  · unfold dp
    rw [show a + 1 + g = a + (g + 1) by omega]
    rcases Nat.lt_or_ge (g + 1) n with h1 | h1
    · rw [insS_at hl g1 h1, if_neg (by omega), if_neg (by omega)]
      rcases after_empty hl hr hemp with h2 | h2
      · rw [h2]
        simp
      · unfold farT at h2
        rw [h2]
        simp
    · rw [decide_eq_true (show g = n - 1 by omega)]
      rfl
  · have hz : nz (cl t ((a + j) % n)) = true := by
      have := g3 j hj
      unfold emp at this
      simpa using this
    unfold dp
    rw [show a + 1 + j = a + (j + 1) by omega, insS_at hl g1 (by omega), if_neg (by omega), if_pos (by omega), Nat.add_sub_cancel, hz, far_up hl hkb hn hz (far_lt hl hr (hmd _) hemp (hmd _) hz)]
    have := far_ge t n ((a + j) % n)
    rw [decide_eq_false (show ¬ j = n - 1 by omega), decide_eq_false (show ¬ farT t n ((a + j) % n) + 1 = 0 by omega)]
    rfl
theorem del_ins {t : Tab} {n a g : Nat} {p : Nat × Int} (hl : t.length = n) (hg : g < n) (hemp : nz (cl t ((a + g) % n)) = false) : delS (insS t n a g p) n a g = t := by
  have hl2 := insS_len (a := a) (g := g) (p := p) hl
  refine tab_ext a (delS_len hl2) hl fun i hi => ?_
  rw [delS_at hl2 hg hi]
  by_cases h1 : i < g
  · rw [if_pos h1, insS_at hl hg (by omega), if_neg (by omega), if_pos (by omega), Nat.add_sub_cancel]
  · rw [if_neg h1]
    by_cases h2 : i = g
    · subst h2
      rw [if_pos rfl, nz_false hemp]
    · rw [if_neg h2, insS_at hl hg hi, if_neg (by omega), if_neg (by omega)]
end Pr
end Go.Proofs.Ytommffcojbdldaa
