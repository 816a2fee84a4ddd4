/- Layer 19: a deletion leaves a right table right, if a cell is empty or at home. No program's function is spoken of. -/
import Derived.Test.YtommffcojbdldaaPfE
namespace Go.Proofs.Ytommffcojbdldaa
open Go.RowKit
namespace Pr

theorem del_src {t : Tab} {n a m : Nat} (hl : t.length = n) (hm : m < n) {s : Nat} (hs : s < n) (h0 : s ≠ m) : ∃ r, r < n ∧ cl (delS t n a m) ((a + s) % n) = cl t ((a + r) % n) ∧ r = (if s < m then s + 1 else s) := by
  rw [delS_at hl hm hs]
  by_cases h : s < m
  · rw [if_pos h, if_pos h]
    exact ⟨s + 1, by omega, rfl, rfl⟩
  · rw [if_neg h, if_neg h, if_neg h0]
    exact ⟨s, hs, rfl, rfl⟩
theorem dp_false {t : Tab} {n a s : Nat} (h : dp t n a s = false) : s ≠ n - 1 ∧ nz (cl t ((a + (s + 1)) % n)) = true ∧ 0 < farT t n ((a + (s + 1)) % n) := by
  unfold dp at h
  rw [show a + 1 + s = a + (s + 1) by omega, Bool.or_eq_false_iff, Bool.or_eq_false_iff] at h
  obtain ⟨⟨h1, h2⟩, h3⟩ := h
  rw [decide_eq_false_iff_not] at h1 h3
  have : 0 ≤ farT t n ((a + (s + 1)) % n) := (D_bd n (cl t ((a + (s + 1)) % n)).2 ((a + (s + 1)) % n)).1
  refine ⟨h1, by simpa using h2, ?_⟩
  unfold farT at this ⊢
  omega
theorem dp_true {t : Tab} {n a s : Nat} (h : dp t n a s = true) : s = n - 1 ∨ nz (cl t ((a + (s + 1)) % n)) = false ∨ farT t n ((a + (s + 1)) % n) = 0 := by
  unfold dp at h
  rw [show a + 1 + s = a + (s + 1) by omega, Bool.or_eq_true, Bool.or_eq_true] at h
  rcases h with (h | h) | h
  · exact .inl (of_decide_eq_true h)
  · exact .inr (.inl (by simpa using h))
  · exact .inr (.inr (of_decide_eq_true h))
theorem far_ge (t : Tab) (n i : Nat) : 0 ≤ farT t n i := (D_bd n (cl t i).2 i).1
theorem right_del {t : Tab} {n a m : Nat} (hl : t.length = n) (hr : rightB t = true) (hcut : Cut t n) (hm : fst (dp t n a) n = some m) : rightB (delS t n a m) = true := by
  obtain ⟨m1, m2, m3⟩ := fst_of hm
  have hn : 0 < n := by omega
  have hkb := right_known hr
  have hmd : ∀ s, s % n < n := fun s => Nat.mod_lt _ hn
  have cm : cl (delS t n a m) ((a + m) % n) = (0, 0) := by rw [delS_at hl m1 m1, if_neg (by omega), if_pos rfl]
  have hlen := delS_len (a := a) (m := m) hl
  refine right_mk a hlen hn ?_ ?_ ?_ ?_
  · intro s hs hz
    by_cases h0 : s = m
    · subst h0
      rw [cm]
    · obtain ⟨r, _, e, _⟩ := del_src (a := a) hl m1 hs h0
      rw [e] at hz ⊢
      exact cell_zero hl hkb (hmd _) hz
  · intro s hs hz
    by_cases h0 : s = m
    · subst h0
      rw [cm] at hz
      exact absurd rfl hz
    · obtain ⟨r, _, e, _⟩ := del_src (a := a) hl m1 hs h0
      rw [e] at hz ⊢
      obtain ⟨q, h1, h2, _⟩ := home_of hl hkb (hmd _) ((nz_id hl hkb (hmd _)).2 hz)
      exact ⟨q, h1, h2⟩
  · intro r s hr1 hs hz he
    have hrm : r ≠ m := by
      rintro rfl
      rw [cm] at hz
      exact hz rfl
    have hsm : s ≠ m := by
      rintro rfl
      rw [cm] at he
      exact hz he
    obtain ⟨q, hq1, e, hqr⟩ := del_src (a := a) hl m1 hr1 hrm
    obtain ⟨q2, hq2, e2, hqs⟩ := del_src (a := a) hl m1 hs hsm
    rw [e] at hz
    rw [e, e2] at he
    have h1 := uniq hl hkb (hmd (a + q)) (hmd (a + q2)) (by rw [← he]; exact hz) he
    have h2 := pos_inj hq1 hq2 h1
    split at hqr <;> split at hqs <;> omega
  · intro s hs hz hf
    have hsm : s ≠ m := by
      rintro rfl
      rw [cm] at hz
      cases hz
    obtain ⟨q, hq1, e, hqr⟩ := del_src (a := a) hl m1 hs hsm
    by_cases h1 : s < m
    · rw [if_pos h1] at hqr
      subst hqr
      obtain ⟨d1, d2, d3⟩ := dp_false (m3 s h1)
      have F1 : farT (delS t n a m) n ((a + s) % n) = farT t n ((a + (s + 1)) % n) - 1 := by
        rw [← far_down hl hkb hn d2 d3]
        show D n (cl _ _).2 _ = _
        rw [e]
      rw [F1] at hf ⊢
      obtain ⟨p1, p2⟩ := right_prev hl hr (hmd _) d2 d3
      rw [prv_at hn] at p1 p2
      rcases Nat.eq_zero_or_pos s with rfl | h2
      · obtain ⟨p3, p4⟩ := right_prev hl hr (hmd _) p1 (by omega)
        have hpv : prv n ((a + 0) % n) = (a + (0 + n - 1)) % n := by
          unfold prv
          rw [show (a + 0) % n + n - 1 = (a + 0) % n + (n - 1) by omega, Nat.mod_add_mod, show a + 0 + (n - 1) = a + (0 + n - 1) by omega]
        rw [hpv] at p3 p4
        by_cases hmn : m = n - 1
        · exfalso
          obtain ⟨x, hx, hxc⟩ := hcut
          obtain ⟨r, hr1, hrx⟩ := reach (x := a) hx
          rcases Nat.eq_zero_or_pos r with rfl | h3
          · rw [hrx] at p1 p2
            rcases hxc with h4 | h4
            · rw [h4] at p1
              cases p1
            · omega
          · obtain ⟨r, rfl⟩ : ∃ k, r = k + 1 := ⟨r - 1, by omega⟩
            obtain ⟨_, b2, b3⟩ := dp_false (m3 r (by omega))
            rw [hrx] at b2 b3
            rcases hxc with h4 | h4
            · rw [h4] at b2
              cases b2
            · omega
        · obtain ⟨q2, hq2, e2, hqr2⟩ := del_src (a := a) (s := 0 + n - 1) hl m1 (by omega) (by omega)
          rw [if_neg (by omega)] at hqr2
          subst hqr2
          have F2 : farT (delS t n a m) n ((a + (0 + n - 1)) % n) = farT t n ((a + (0 + n - 1)) % n) := by
            show D n (cl _ _).2 _ = D n (cl _ _).2 _
            rw [e2]
          rw [F2, e2]
          exact ⟨p3, by omega⟩
      · obtain ⟨d, rfl⟩ : ∃ d, s = d + 1 := ⟨s - 1, by omega⟩
        rw [show (a + (d + 1 + n - 1)) % n = (a + d) % n by rw [show a + (d + 1 + n - 1) = a + d + n by omega, Nat.add_mod_right]]
        obtain ⟨q2, hq2, e2, hqr2⟩ := del_src (a := a) (s := d) hl m1 (by omega) (by omega)
        rw [if_pos (by omega)] at hqr2
        subst hqr2
        obtain ⟨_, b2, b3⟩ := dp_false (m3 d (by omega))
        have F2 : farT (delS t n a m) n ((a + d) % n) = farT t n ((a + (d + 1)) % n) - 1 := by
          rw [← far_down hl hkb hn b2 b3]
          show D n (cl _ _).2 _ = _
          rw [e2]
        rw [F2, e2]
        exact ⟨b2, by omega⟩
    · rw [if_neg h1] at hqr
      subst hqr
      have F1 : farT (delS t n a m) n ((a + q) % n) = farT t n ((a + q) % n) := by
        show D n (cl _ _).2 _ = D n (cl _ _).2 _
        rw [e]
      rw [F1] at hf ⊢
      rw [e] at hz
      obtain ⟨d, rfl⟩ : ∃ d, q = d + 1 := ⟨q - 1, by omega⟩
      rw [show (a + (d + 1 + n - 1)) % n = (a + d) % n by rw [show a + (d + 1 + n - 1) = a + d + n by omega, Nat.add_mod_right]]
      obtain ⟨p1, p2⟩ := right_prev hl hr (hmd _) hz hf
      rw [prv_at hn] at p1 p2
      have hdm : d ≠ m := by
        rintro rfl
        rcases dp_true m2 with h3 | h3 | h3
        · omega
        · rw [h3] at hz
          cases hz
        · omega
      obtain ⟨q2, hq2, e2, hqr2⟩ := del_src (a := a) (s := d) hl m1 (by omega) hdm
      rw [if_neg (by omega)] at hqr2
      subst hqr2
      have F2 : farT (delS t n a m) n ((a + q2) % n) = farT t n ((a + q2) % n) := by
        show D n (cl _ _).2 _ = D n (cl _ _).2 _
        rw [e2]
      rw [F2, e2]
      exact ⟨p1, p2⟩
end Pr
end Go.Proofs.Ytommffcojbdldaa
