/- Layer 19: the walk of ProbeNear. -/
import Derived.Test.YtommffcojbdldaaPnA
namespace Go.Proofs.Ytommffcojbdldaa
open Go.RowKit
namespace Pr

def NrR (n : Nat) (W : World) (G : Nat) (i : Value) (w : World) : Prop := ∃ k : Nat, k ≤ n ∧ G = n - k ∧ i = .int .i64 (k : Int) ∧ Mem.QQ W w
def NsR (n g e : Nat) (W : World) (G : Nat) (x : Value) (w : World) : Prop := ∃ j : Nat, j ≤ e ∧ G = e - j ∧ x = .int .i64 (((g + j) % n : Nat) : Int) ∧ Mem.QQ W w
set_option maxRecDepth 100000 in
set_option maxHeartbeats 6400000 in
theorem probeNear_walk (t : Tab) (A : Option Addr) (n c : Nat) (W : World) (hr : RdT W A n t) :
    Calls Try.prog 7 #[.slice A n c] W fun e w => e = .returned (.bool true) ∧ Below W.heap.size W w := by
  have PG := Lib.hid (fun w => probes_good w)
  by_cases hn : 80 < n
  · clear hr
    go_enter Try.func7, Try.ntmps7
    go_wp2_with fail
    refine (PG.out _).mono ?_
    rintro e w1 ⟨rfl, hB⟩
    have B := Lib.hid hB
    clear hB
    go_wp2_with fail
    go_ret
    exact ⟨rfl, B.out⟩
  have hn1 : n ≤ 100000 := by omega
  have R := Lib.hid hr
  have HL := Lib.hid hr.len
  clear hr
  go_enter Try.func7, Try.ntmps7
  go_wp2_with fail
  refine (own_any t A n c _ R.out hn1).mono ?_
  rintro e w1 ⟨⟨A1, c1, rfl, hO⟩, hB⟩
  have P1 := Lib.hid hO.rd
  have B1 := Lib.hid hB
  clear hO hB
  go_wp2_with fail
  refine (right_any t A1 n c1 _ P1.out hn1).mono ?_
  rintro e w2 ⟨rfl, hB⟩
  have P2 := Lib.hid (P1.out.below hB)
  have B2 := Lib.hid (below_next B1.out hB)
  clear hB
  cases hrt : rightB t with
  | false =>
    go_wp2_with fail
    refine (PG.out _).mono ?_
    rintro e w3 ⟨rfl, hB⟩
    have B := Lib.hid (below_next B2.out hB)
    clear hB
    go_wp2_with fail
    go_ret
    exact ⟨rfl, B.out⟩
  | true =>
    have HRT := Lib.hid hrt
    clear hrt
    go_wp2_with fail
    go_loopg [4, 5] n (fun G i x w => NrR n w2 G i w)
    case atStart => exact ⟨0, by omega, by omega, rfl, Mem.QQ.refl _⟩
    case round =>
      obtain ⟨k, hk, rfl, rfl, hq⟩ := hrel
      have HQ := Lib.hid hq
      by_cases hkn : k < n
      · have RR := Lib.hid (P2.out.below (hq.below (B := w2.heap.size)))
        obtain ⟨b, off, hA, hlt, hc⟩ := RR.out.rows (by omega)
        obtain ⟨r1, r2⟩ := hc k hkn
        have q2 : (0 : Int) ≤ (k : Int) := by omega
        have q3 : (k : Int) < (n : Int) := by omega
        have hkz := nz_iff HL.out (right_known HRT.out) hkn
        obtain ⟨u, hu⟩ : ∃ u, (cl t k).1 = u := ⟨_, rfl⟩
        rw [hu] at r1 hkz
        subst hA
        by_cases hu0 : u = 0
        · have x1 : (u : Int) = 0 := by omega
          have x2 : ((u : Int) == 0) = true := by simpa using x1
          clear hq hc hkz hu
          go_wp2_with fail
          go_roundg (n - (k + 1))
          case measure => omega
          case rel => exact ⟨k + 1, by omega, rfl, by go_num, HQ.out⟩
        · have x1 : ¬ (u : Int) = 0 := by omega
          have x2 : ((u : Int) == 0) = false := by simpa using x1
          rw [decide_eq_true (by simpa using hu0)] at hkz
          obtain ⟨g, e, h1, h2, h3, h4, h5⟩ := far_of HL.out (right_known HRT.out) hkn hkz
          rw [h1] at r2
          have NE := Lib.hid (near HL.out HRT.out h2 h3 (by rw [h4]; exact hkz) (by rw [h4]; exact h1))
          have H4 := Lib.hid h4
          have KG := Lib.hid h1
          clear hq hc hkz hu h1 h5 h4
          go_wp2_with fail
          go_loopg [5] e (fun G x w => NsR n g e w2 G x w)
          case atStart => exact ⟨0, by omega, by omega, by rw [Nat.add_zero, Nat.mod_eq_of_lt h2], HQ.out⟩
          case round =>
            obtain ⟨j, hj, rfl, rfl, hq⟩ := hrel
            have HQ2 := Lib.hid hq
            have hn0 : 0 < n := by omega
            obtain ⟨y, hy⟩ : ∃ y, (g + j) % n = y := ⟨_, rfl⟩
            have hyn : y < n := by rw [← hy]; exact Nat.mod_lt _ hn0
            obtain ⟨d1, d2⟩ := NE.out (e - j) (by omega)
            rw [show e - (e - j) = j by omega, hy] at d1 d2
            have hDj := D_at h2 (show j < n by omega)
            rw [hy] at hDj
            by_cases hje : j < e
            · obtain ⟨b', off', hA', hlt', hc'⟩ := (P2.out.below (hq.below (B := w2.heap.size))).rows (by omega)
              injection hA' with hA'
              injection hA' with hb' ho'
              subst hb' ho'
              obtain ⟨s1, s2⟩ := hc' y hyn
              obtain ⟨s3, s4⟩ := hc' k hkn
              have hkg : (cl t k).2 = (g : Int) := KG.out
              rw [hkg] at s4
              have hyu : (cl t y).1 ≠ 0 := by
                have := nz_iff HL.out (right_known HRT.out) hyn
                rw [d1] at this
                simpa using this.symm
              have hyk : y ≠ k := fun e0 => by
                have := pos_inj (n := n) (a := g) (i := j) (j := e) (by omega) h3 (by rw [hy, H4.out, e0])
                omega
              unfold farT at d2
              obtain ⟨p, hp⟩ : ∃ p, (cl t y).1 = p := ⟨_, rfl⟩
              obtain ⟨v, hv⟩ : ∃ v, (cl t y).2 = v := ⟨_, rfl⟩
              rw [hp] at s1 hyu
              rw [hv] at s2 d2
              have D1 := Lib.hid (fun h w => distance_any (n : Int) h (y : Int) (by unfold I64; omega) w)
              have y1 : ¬ (p : Int) = 0 := by omega
              have y2 : ((p : Int) == 0) = false := by simpa using y1
              have y3 : ¬ (y : Int) = (k : Int) := by omega
              have y4 : ((y : Int) != (k : Int)) = true := by simpa using y3
              have y5 : ¬ D n v (y : Int) < D n (g : Int) (y : Int) := by omega
              have y6 : decide (D n v (y : Int) < D n (g : Int) (y : Int)) = false := by simpa using y5
              have q4 : (0 : Int) ≤ (y : Int) := by omega
              have q5 : (y : Int) < (n : Int) := by omega
              obtain ⟨z, hz⟩ : ∃ z, (g + (j + 1)) % n = z := ⟨_, rfl⟩
              have HZ := Lib.hid hz
              have hyz : (y + 1) % n = z := by rw [← hz, ← hy, Nat.mod_add_mod, Nat.add_assoc]
              obtain ⟨m1, m2, m3, m4, _⟩ := modw hn0 hyz
              have m1' : ((y : Int) + 1).tmod (n : Int) = (z : Int) := by rw [← m1]; norm_cast
              have m2' : ((y : Int) + 1) % (n : Int) = (z : Int) := by rw [← m2]; norm_cast
              have hwy : IntKind.i64.wrap ((y : Int) + 1) = (y : Int) + 1 := IntWalk.i64_in _ (by omega)
              rw [hy]
              clear hq hc' d1 d2 hp hv hDj hz hyz hy m1 m2 hkg
              go_wp2_with fail
              go_quiet ((go_at_call 21; exact Mem.quiet_of_eq (D1.out _ _)))
              go_wp2_with fail
              go_roundg (e - (j + 1))
              case measure => omega
              case rel => exact ⟨j + 1, by omega, rfl, by rw [HZ.out], HQ2.out.trans ⟨nq, rfl⟩⟩
            · obtain rfl : e = j := by omega
              have e0 : y = k := by rw [← hy, H4.out]
              rw [H4.out]
              clear hq d1 d2 hDj hy
              go_wp2_with fail
              go_roundg (n - (k + 1))
              case measure => omega
              case rel => exact ⟨k + 1, by omega, rfl, by go_num, HQ2.out⟩
      · obtain rfl : n = k := by omega
        clear hq
        go_wp2_with fail
        refine (PG.out _).mono ?_
        rintro e w3 ⟨rfl, hB⟩
        have B := Lib.hid (below_next B2.out (below_next (HQ.out.below (B := w2.heap.size)) hB))
        clear hB
        go_wp2_with fail
        go_ret
        exact ⟨rfl, B.out⟩
end Pr
end Go.Proofs.Ytommffcojbdldaa
