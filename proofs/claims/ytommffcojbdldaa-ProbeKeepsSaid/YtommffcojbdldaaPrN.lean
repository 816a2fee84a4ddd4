/- Layer 19: the contract of Longest. -/
import Derived.Test.YtommffcojbdldaaPrM
import Derived.Lib.MinMax
namespace Go.Proofs.Ytommffcojbdldaa
open Go.RowKit
namespace Pr

/-- How far the farthest of the first k is. -/
def lg (t : Tab) (n : Nat) : Nat → Int
  | 0 => 0
  | k + 1 => if nz (cl t k) then max (lg t n k) (farT t n k) else lg t n k
def longest (t : Tab) : Int := if rightB t then lg t t.length t.length else 0
theorem lg_bd (t : Tab) (n : Nat) : ∀ k, 0 ≤ lg t n k ∧ lg t n k ≤ (n : Int)
  | 0 => by simp [lg]
  | k + 1 => by
    have h1 := lg_bd t n k
    have h2 := D_bd n (cl t k).2 k
    unfold lg farT
    split <;> omega
def LgR (t : Tab) (n : Nat) (W : World) (m i : Value) (w : World) : Prop := ∃ k : Nat, k ≤ n ∧ m = .int .i64 (lg t n k) ∧ i = .int .i64 (k : Int) ∧ Below W.heap.size W w
set_option maxRecDepth 20000 in
set_option maxHeartbeats 1600000 in
theorem longest_any (t : Tab) (A : Option Addr) (n c : Nat) (W : World) (hr : RdT W A n t) (hn : n ≤ 100000) :
    Calls Try.prog 19 #[.slice A n c] W fun e w => e = .returned (.int .i64 (longest t)) ∧ Below W.heap.size W w := by
  have RI := Lib.hid (right_any t A n c W hr hn)
  have HR := Lib.hid hr
  have HLG := Lib.hid (show longest t = if rightB t then lg t n n else 0 by unfold longest; rw [hr.len])
  clear hr
  cases hrt : rightB t with
  | false =>
    rw [hrt] at RI HLG
    clear hrt
    go_enter Try.func19, Try.ntmps19
    go_wp2_with fail
    refine RI.out.mono ?_
    rintro e w1 ⟨rfl, b1⟩
    have B1 := Lib.hid b1
    clear b1
    go_wp2_with fail
    go_ret
    exact ⟨by rw [HLG.out]; rfl, B1.out⟩
  | true =>
    rw [hrt] at RI HLG
    clear hrt
    go_enter Try.func19, Try.ntmps19
    go_wp2_with fail
    refine RI.out.mono ?_
    rintro e w1 ⟨rfl, b1⟩
    have B1 := Lib.hid b1
    clear b1
    go_wp2_with fail
    obtain ⟨b, hb⟩ : ∃ b, w1.heap.size = b := ⟨_, rfl⟩
    obtain ⟨w2, hw2⟩ : ∃ w2, w1.alloc (.cells #[.slice A n c] 56) = w2 := ⟨_, rfl⟩
    have k2 : w2.cell? ⟨b, 0, none⟩ = some (.slice A n c) := by rw [← hw2, ← hb]; simp [go_sem]
    have hb2 : Below w1.heap.size w1 w2 := by rw [← hw2]; exact (Below.refl _ _).alloc (Nat.le_refl _) _
    have hbl : b < w2.heap.size := by rw [← hw2, ← hb]; simp
    have K2 := Lib.hid k2
    have B2 := Lib.hid (below_next B1.out hb2)
    have HBL := Lib.hid hbl
    rw [hw2, hb]
    clear hw2 hb k2 hb2 hbl
    go_loopw [4, 14] (LgR t n w2) (fun _ i _ => n - (intOf i).toNat)
    case atStart => exact ⟨0, by omega, rfl, rfl, Below.refl _ _⟩
    case round =>
      obtain ⟨k, hk, rfl, rfl, hbel⟩ := hrel
      have HB := Lib.hid hbel
      have hlb := lg_bd t n k
      have hls : lg t n (k + 1) = if nz (cl t k) then max (lg t n k) (D n (cl t k).2 k) else lg t n k := rfl
      obtain ⟨m, hm⟩ : ∃ m, lg t n k = m := ⟨_, rfl⟩
      rw [hm] at hlb hls ⊢
      have HM := Lib.hid hm
      by_cases hkn : k < n
      · have hrd := (HR.out.below B2.out).below hbel
        have FA := Lib.hid (fun w (h : Below wr.heap.size wr w) => far_any t A n c k w (hrd.below h) hn hkn)
        have IS := Lib.hid (is_any t A n c k wr hrd (by omega) hn (by omega))
        rw [Nat.mod_eq_of_lt hkn] at IS
        have db1 := D_bd n (cl t k).2 k
        obtain ⟨d, hd⟩ : ∃ d, D n (cl t k).2 k = d := ⟨_, rfl⟩
        obtain ⟨z, hz⟩ : ∃ z, nz (cl t k) = z := ⟨_, rfl⟩
        rw [hd] at FA db1 hls
        rw [hz] at IS hls
        have CB := Lib.hid (fun w (h : Below wr.heap.size wr w) => show w.cell? ⟨b, 0, none⟩ = some (.slice A n c) ∧ Below w2.heap.size w2 w from
          ⟨((HB.out.trans (h.mono HB.out.size)).cell (p := ⟨b, 0, none⟩) HBL.out).trans K2.out, HB.out.trans (h.mono HB.out.size)⟩)
        have HLS := Lib.hid hls
        have c0 := (CB.out wr (Below.refl _ _)).1
        have q0 : (0 : Int) ≤ (k : Int) := by omega
        have q1 : (k : Int) < (n : Int) := by omega
        clear hrd hbel hd hz hls hm
        go_wp2_with fail
        refine IS.out.mono ?_
        rintro e w3 ⟨rfl, b3⟩
        have B3 := Lib.hid b3
        have c3 := (CB.out _ B3.out).1
        clear b3
        cases z with
        | false =>
          go_wp2_with fail
          go_roundw
          case rel => exact ⟨k + 1, by omega, by rw [HLS.out]; rfl, by go_num, (CB.out _ B3.out).2⟩
          case measure => simp [intOf]; omega
        | true =>
          obtain ⟨r, hr⟩ : ∃ r, max m d = r := ⟨_, rfl⟩
          have HRR := Lib.hid hr
          go_wp2_with fail
          refine (FA.out _ B3.out).mono ?_
          rintro e w4 ⟨rfl, b4⟩
          have B4 := Lib.hid (below_next B3.out b4)
          clear b4
          go_wp2_with fail
          go_roundw
          case rel => exact ⟨k + 1, by omega, by rw [HLS.out, HRR.out]; rfl, by go_num, (CB.out _ B4.out).2⟩
          case measure => simp [intOf]; omega
      · obtain rfl : n = k := by omega
        clear hbel hls hm hlb
        go_wp2_with fail
        go_ret
        exact ⟨by rw [HLG.out, if_pos trivial, HM.out]; rfl, B2.out.trans (HB.out.mono B2.out.size)⟩
end Pr
end Go.Proofs.Ytommffcojbdldaa
