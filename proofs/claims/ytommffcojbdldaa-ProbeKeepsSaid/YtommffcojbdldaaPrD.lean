/- Layer 19: the contracts of is and ends. -/
import Derived.Test.YtommffcojbdldaaPrC
namespace Go.Proofs.Ytommffcojbdldaa
open Go.RowKit
namespace Pr

/-- Is a cell something? -/
def nz (p : Nat × Int) : Bool := decide (p ≠ (0, 0))
theorem below_next {W w w' : World} (h : Below W.heap.size W w) (h2 : Below w.heap.size w w') : Below W.heap.size W w' := h.trans (h2.mono h.size)
open Go.Sort in
theorem below_of_regrown {w w' : World} (h : ∃ p : Regrown, w' = grow (redrawn w p.d) p.os) : Below w.heap.size w w' := by
  obtain ⟨⟨d, os⟩, rfl⟩ := h
  exact below_regrown w d os
theorem nz_or (p : Nat × Int) : nz p = (!(p.1 == 0) || !(p.2 == 0)) := by
  obtain ⟨a, b⟩ := p
  unfold nz
  rw [Bool.eq_iff_iff]
  simp
set_option maxHeartbeats 800000 in
theorem is_any (t : Tab) (A : Option Addr) (n c x : Nat) (W : World) (h : RdT W A n t) (h0 : 0 < n) (hn : n ≤ 100000) (hx : x ≤ 1000000) :
    Calls Try.prog 33 #[.agg #[.slice A n c], .int .i64 (x : Int)] W fun e w => e = .returned (.bool (nz (cl t (x % n)))) ∧ Below W.heap.size W w := by
  have HAT := Lib.hid (fun w (hb : Below W.heap.size W w) => at_any t A n c x w (h.below hb) h0 hn hx)
  obtain ⟨k1, k2, k3, _, _, k6⟩ := ring_box W (.slice A n c)
  obtain ⟨u, hu⟩ : ∃ u, (cl t (x % n)).1 = u := ⟨_, rfl⟩
  obtain ⟨v, hv⟩ : ∃ v, (cl t (x % n)).2 = v := ⟨_, rfl⟩
  have HN := Lib.hid (show nz (cl t (x % n)) = (!(u == 0) || !(v == 0)) by rw [nz_or, hu, hv])
  unfold cv at HAT
  rw [hu, hv] at HAT
  clear h hu hv
  go_enter Try.func33, Try.ntmps33
  go_wp2_with fail
  generalize hw0 : (W.alloc (.cells #[.slice A n c] 54)).alloc (.cells #[.int .u32 0, .int .i64 0] 48) = w0 at *
  obtain ⟨B, hB⟩ : ∃ B, W.heap.size = B := ⟨_, rfl⟩
  have HB := Lib.hid hB
  have K6 := Lib.hid k6
  rw [hB] at k1 k2 k3 ⊢
  clear hw0 hB k6
  have e1 := cell_regrown k1
  have e2 := cell_regrown k2
  have e3 := cell_regrown k3
  refine wp_region_quiet_below (by kernel_rfl) (by kernel_rfl) ?_
  by_cases hu : u = 0
  · have x1 : (u : Int) = 0 := by omega
    by_cases hv : v = 0
    · have UV := Lib.hid (show (u == 0) = true ∧ (v == 0) = true by simp [hu, hv])
      repeat (go_big_quiet_step ((go_at_call 35; exact Calls.regrown_of (HAT.out _ (below_next K6.out (below_regrown _ _ _))))))
      refine wpQuiet_nil ?_
      intro w2 HB2
      replace HB2 := Lib.hid (below_next K6.out (below_of_regrown HB2))
      go_wp2_with fail
      go_ret
      exact ⟨by rw [HN.out, UV.out.1, UV.out.2]; rfl, HB2.out⟩
    · have UV := Lib.hid (show (u == 0) = true ∧ (v == 0) = false by simp [hu, hv])
      repeat (go_big_quiet_step ((go_at_call 35; exact Calls.regrown_of (HAT.out _ (below_next K6.out (below_regrown _ _ _))))))
      refine wpQuiet_nil ?_
      intro w2 HB2
      replace HB2 := Lib.hid (below_next K6.out (below_of_regrown HB2))
      go_wp2_with fail
      go_ret
      exact ⟨by rw [HN.out, UV.out.1, UV.out.2]; rfl, HB2.out⟩
  · have x1 : ¬ (u : Int) = 0 := by omega
    have UV := Lib.hid (show (u == 0) = false ∧ True by simp [hu])
    repeat (go_big_quiet_step ((go_at_call 35; exact Calls.regrown_of (HAT.out _ (below_next K6.out (below_regrown _ _ _))))))
    refine wpQuiet_nil ?_
    intro w2 HB2
    replace HB2 := Lib.hid (below_next K6.out (below_of_regrown HB2))
    go_wp2_with fail
    go_ret
    exact ⟨by rw [HN.out, UV.out.1, Bool.not_false, Bool.true_or]; rfl, HB2.out⟩
/-- Does looking end at place j, so many steps from home? -/
def opn (t : Tab) (n j s : Nat) : Bool := !(nz (cl t j)) || decide (D n (cl t j).2 j < (s : Int))
set_option maxHeartbeats 800000 in
theorem ends_any (t : Tab) (A : Option Addr) (n c s j : Nat) (W : World) (h : RdT W A n t) (hn : n ≤ 100000) (hj : j < n) :
    Calls Try.prog 31 #[.agg #[.slice A n c], .int .i64 (s : Int), .int .i64 (j : Int)] W fun e w => e = .returned (.bool (opn t n j s)) ∧ Below W.heap.size W w := by
  have HIS := Lib.hid (fun w (hb : Below W.heap.size W w) => is_any t A n c j w (h.below hb) (by omega) hn (by omega))
  have HFA := Lib.hid (fun w (hb : Below W.heap.size W w) => far_any t A n c j w (h.below hb) hn hj)
  rw [Nat.mod_eq_of_lt hj] at HIS
  have HO := Lib.hid (show opn t n j s = (!(nz (cl t j)) || decide (D n (cl t j).2 j < (s : Int))) from rfl)
  obtain ⟨z, hz⟩ : ∃ z, nz (cl t j) = z := ⟨_, rfl⟩
  obtain ⟨d, hd⟩ : ∃ d, D n (cl t j).2 j = d := ⟨_, rfl⟩
  rw [hz] at HIS
  rw [hd] at HFA
  rw [hz, hd] at HO
  clear h hz hd
  go_enter Try.func31, Try.ntmps31
  go_wp2_with fail
  refine (HIS.out _ ((Below.refl _ _).alloc (Nat.le_refl _) _)).mono ?_
  rintro e w2 ⟨rfl, b2⟩
  have c2 : w2.cell? ⟨W.heap.size, 0, none⟩ = some (.slice A n c) := by
    rw [b2.cell (p := ⟨W.heap.size, 0, none⟩) (by simp)]
    simp [go_sem]
  have B2 := Lib.hid (below_next ((Below.refl _ _).alloc (Nat.le_refl _) _) b2)
  clear b2
  cases z with
  | false =>
    go_wp2_with fail
    go_ret
    exact ⟨by rw [HO.out]; rfl, B2.out⟩
  | true =>
    go_wp2_with fail
    refine (HFA.out _ B2.out).mono ?_
    rintro e w3 ⟨rfl, b3⟩
    have B3 := Lib.hid (below_next B2.out b3)
    clear b3
    by_cases hds : d < (s : Int)
    · go_wp2_with fail
      go_ret
      exact ⟨by rw [HO.out]; simp [hds], B3.out⟩
    · go_wp2_with fail
      go_ret
      exact ⟨by rw [HO.out]; simp, B3.out⟩
end Pr
end Go.Proofs.Ytommffcojbdldaa
