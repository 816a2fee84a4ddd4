/- Layer 19: an insertion leaves a right table right. No program's function is spoken of. -/
import Derived.Test.YtommffcojbdldaaPfC
namespace Go.Proofs.Ytommffcojbdldaa
open Go.RowKit
namespace Pr

theorem cell_zero {t : Tab} {n i : Nat} (hl : t.length = n) (hk : knownB t = true) (hi : i < n) (h0 : (cl t i).1 = 0) : (cl t i).2 = 0 := by
  have h1 := known_cell hl hk hi
  unfold okAt at h1
  rw [if_pos h0] at h1
  simpa using h1
theorem nz_id {t : Tab} {n i : Nat} (hl : t.length = n) (hk : knownB t = true) (hi : i < n) : nz (cl t i) = true ↔ (cl t i).1 ≠ 0 := by
  rw [nz_iff hl hk hi]
  simp
/-- Where a cell of the table behind an insertion comes from. -/
theorem ins_src {t : Tab} {n a g : Nat} {p : Nat × Int} (hl : t.length = n) (hg : g < n) {s : Nat} (hs : s < n) (h0 : 0 < s) : ∃ r, r < n ∧ cl (insS t n a g p) ((a + s) % n) = cl t ((a + r) % n) ∧ r = (if s ≤ g then s - 1 else s) := by
  rw [insS_at hl hg hs, if_neg (by omega)]
  by_cases h : s ≤ g
  · rw [if_pos h, if_pos h]
    exact ⟨s - 1, by omega, rfl, rfl⟩
  · rw [if_neg h, if_neg h]
    exact ⟨s, hs, rfl, rfl⟩
theorem right_ins {t : Tab} {n id h k0 g : Nat} (hl : t.length = n) (hr : rightB t = true) (h0 : id ≠ 0) (hh : h < n) (hid : ∀ i, i < n → (cl t i).1 ≠ id)
    (hk : fst (opF t n h) n = some k0) (hg : fst (emp t n (h + k0)) n = some g) : rightB (insS t n (h + k0) g (id, (h : Int))) = true := by
  obtain ⟨k1, k2, k3⟩ := fst_of hk
  obtain ⟨g1, g2, g3⟩ := fst_of hg
  have hn : 0 < n := by omega
  have hkb := right_known hr
  have hm : ∀ s, s % n < n := fun s => Nat.mod_lt _ hn
  obtain ⟨a, ha⟩ : ∃ a, h + k0 = a := ⟨_, rfl⟩
  rw [ha] at g2 g3 ⊢
  have hemp : nz (cl t ((a + g) % n)) = false := by
    unfold emp at g2
    simpa using g2
  have hful : ∀ j, j < g → nz (cl t ((a + j) % n)) = true := fun j hj => by
    have := g3 j hj
    unfold emp at this
    simpa using this
  have hlt : ∀ i, i < n → nz (cl t i) = true → farT t n i + 1 < (n : Int) := fun i hi hz => far_lt hl hr (hm _) hemp hi hz
  have c0 : cl (insS t n a g (id, (h : Int))) ((a + 0) % n) = (id, (h : Int)) := by rw [insS_at hl g1 hn, if_pos rfl]
  have hlen := insS_len (a := a) (g := g) (p := (id, (h : Int))) hl
  have f0 : farT (insS t n a g (id, (h : Int))) n ((a + 0) % n) = (k0 : Int) := by
    unfold farT
    rw [c0, Nat.add_zero, ← ha]
    exact D_at hh k1
  refine right_mk a hlen hn ?_ ?_ ?_ ?_
  · intro s hs hz
    rcases Nat.eq_zero_or_pos s with rfl | hp
    · rw [c0] at hz
      exact absurd hz h0
    · obtain ⟨r, hr1, e, _⟩ := ins_src (p := (id, (h : Int))) (a := a) hl g1 hs hp
      rw [e] at hz ⊢
      exact cell_zero hl hkb (hm _) hz
  · intro s hs hz
    rcases Nat.eq_zero_or_pos s with rfl | hp
    · rw [c0]
      exact ⟨h, rfl, hh⟩
    · obtain ⟨r, hr1, e, _⟩ := ins_src (p := (id, (h : Int))) (a := a) hl g1 hs hp
      rw [e] at hz ⊢
      obtain ⟨q, h1, h2, _⟩ := home_of hl hkb (hm _) ((nz_id hl hkb (hm _)).2 hz)
      exact ⟨q, h1, h2⟩
  · intro r s hr1 hs hz he
    rcases Nat.eq_zero_or_pos r with rfl | hp
    · rcases Nat.eq_zero_or_pos s with rfl | hq
      · rfl
      · obtain ⟨q, _, e, _⟩ := ins_src (p := (id, (h : Int))) (a := a) hl g1 hs hq
        rw [c0, e] at he
        exact absurd he.symm (hid _ (hm _))
    · obtain ⟨q, hq1, e, hqr⟩ := ins_src (p := (id, (h : Int))) (a := a) hl g1 hr1 hp
      rcases Nat.eq_zero_or_pos s with rfl | hq
      · rw [c0, e] at he
        exact absurd he (hid _ (hm _))
      · obtain ⟨q2, hq2, e2, hqs⟩ := ins_src (p := (id, (h : Int))) (a := a) hl g1 hs hq
        rw [e] at hz
        rw [e, e2] at he
        have h1 := uniq hl hkb (hm (a + q)) (hm (a + q2)) (by rw [← he]; exact hz) he
        have h2 := pos_inj hq1 hq2 h1
        split at hqr <;> split at hqs <;> omega
  · intro s hs hz hf
    rcases Nat.eq_zero_or_pos s with rfl | hp
    · rw [f0] at hf ⊢
      obtain ⟨b1, b2⟩ := show nz (cl t ((h + (k0 - 1)) % n)) = true ∧ ((k0 - 1 : Nat) : Int) ≤ farT t n ((h + (k0 - 1)) % n) from by
        have := k3 (k0 - 1) (by omega)
        unfold opF opn at this
        rw [Bool.or_eq_false_iff] at this
        refine ⟨by simpa using this.1, ?_⟩
        have h2 := this.2
        rw [decide_eq_false_iff_not] at h2
        unfold farT
        omega
      have hpl : (h + (k0 - 1)) % n = (a + (0 + n - 1)) % n := by
        rw [← ha, show h + k0 + (0 + n - 1) = h + (k0 - 1) + n by omega, Nat.add_mod_right]
      rw [hpl] at b1 b2
      have hgn : g < n - 1 := by
        rcases Nat.lt_or_ge g (n - 1) with h1 | h1
        · exact h1
        · obtain rfl : g = n - 1 := by omega
          rw [show 0 + n - 1 = n - 1 by omega, hemp] at b1
          cases b1
      obtain ⟨q, hq1, e, hqr⟩ := ins_src (p := (id, (h : Int))) (a := a) (s := 0 + n - 1) hl g1 (by omega) (by omega)
      rw [if_neg (by omega)] at hqr
      subst hqr
      unfold farT at b2 ⊢
      rw [e]
      exact ⟨b1, by omega⟩
    · have hpv : (a + (s + n - 1)) % n = (a + (s - 1)) % n := by rw [show a + (s + n - 1) = a + (s - 1) + n by omega, Nat.add_mod_right]
      rw [hpv]
      obtain ⟨d, rfl⟩ : ∃ d, s = d + 1 := ⟨s - 1, by omega⟩
      rw [Nat.add_sub_cancel]
      obtain ⟨q, hq1, e, hqr⟩ := ins_src (p := (id, (h : Int))) (a := a) hl g1 hs hp
      by_cases hdg : d + 1 ≤ g
      · rw [if_pos hdg, Nat.add_sub_cancel] at hqr
        subst hqr
        have z1 := hful q (by omega)
        have u1 := far_up hl hkb hn z1 (hlt _ (hm _) z1)
        have F1 : farT (insS t n a g (id, (h : Int))) n ((a + (q + 1)) % n) = farT t n ((a + q) % n) + 1 := by
          rw [← u1]
          show D n (cl _ _).2 _ = _
          rw [e]
        rw [F1]
        rcases Nat.eq_zero_or_pos q with rfl | hq0
        · rw [f0, c0]
          refine ⟨nz_of h0, ?_⟩
          unfold opF opn at k2
          rw [ha] at k2
          rw [Nat.add_zero] at z1 ⊢
          rw [z1, Bool.not_true, Bool.false_or] at k2
          have := of_decide_eq_true k2
          unfold farT
          omega
        · obtain ⟨d, rfl⟩ : ∃ d, q = d + 1 := ⟨q - 1, by omega⟩
          obtain ⟨q2, hq2, e2, hqr2⟩ := ins_src (p := (id, (h : Int))) (a := a) hl g1 hq1 hq0
          rw [if_pos (by omega), Nat.add_sub_cancel] at hqr2
          subst hqr2
          have z2 := hful q2 (by omega)
          have u2 := far_up hl hkb hn z2 (hlt _ (hm _) z2)
          have F2 : farT (insS t n a g (id, (h : Int))) n ((a + (q2 + 1)) % n) = farT t n ((a + q2) % n) + 1 := by
            rw [← u2]
            show D n (cl _ _).2 _ = _
            rw [e2]
          rw [F2, e2]
          refine ⟨z2, ?_⟩
          by_cases hf2 : 0 < farT t n ((a + (q2 + 1)) % n)
          · have := (right_prev hl hr (hm _) z1 hf2).2
            rw [prv_at hn] at this
            omega
          · have := (D_bd n (cl t ((a + q2) % n)).2 ((a + q2) % n)).1
            have : 0 ≤ farT t n ((a + q2) % n) := this
            omega
      · rw [if_neg hdg] at hqr
        subst hqr
        have F1 : farT (insS t n a g (id, (h : Int))) n ((a + (d + 1)) % n) = farT t n ((a + (d + 1)) % n) := by
          show D n (cl _ _).2 _ = D n (cl _ _).2 _
          rw [e]
        rw [F1] at hf ⊢
        rw [e] at hz
        obtain ⟨b1, b2⟩ := right_prev hl hr (hm _) hz hf
        rw [prv_at hn] at b1 b2
        have hdg2 : g < d := by
          rcases Nat.lt_or_ge g d with h1 | h1
          · exact h1
          · obtain rfl : g = d := by omega
            rw [hemp] at b1
            cases b1
        obtain ⟨q2, hq2, e2, hqr2⟩ := ins_src (p := (id, (h : Int))) (a := a) (s := d) hl g1 (by omega) (by omega)
        rw [if_neg (by omega)] at hqr2
        subst hqr2
        have F2 : farT (insS t n a g (id, (h : Int))) n ((a + q2) % n) = farT t n ((a + q2) % n) := by
          show D n (cl _ _).2 _ = D n (cl _ _).2 _
          rw [e2]
        rw [F2, e2]
        exact ⟨b1, b2⟩
end Pr
end Go.Proofs.Ytommffcojbdldaa
