/- Layer 18 (chance): the walk of the law ChanceOrder. -/
import Derived.Test.YtfdbekgmpmfgpaaChQ
namespace Go.Proofs.Ytfdbekgmpmfgpaa
open Go.RowKit
namespace Ch

theorem reforder_bad (n m : Nat) (A : Option Addr) (c : Nat) (Ao : Option Addr) (co : Nat) (h : Int) (w : World) (hb : rightv n m h ≠ 0) :
    Calls Try.prog 10 #[.slice A n c, .slice Ao m co, .int .i64 h] w fun e w' => e = .returned (.tuple #[.slice none 0 0, .int .i64 (rightv n m h)]) ∧ w = w' := by
  have HR := may_any n m A c Ao co h w
  obtain ⟨r, hr⟩ : ∃ r, rightv n m h = r := ⟨_, rfl⟩
  rw [hr] at hb HR ⊢
  clear hr
  go_enter Try.func10, Try.ntmps10
  go_wp2_with (go_at_call 24; refine HR.mono ?_; rintro e w1 ⟨rfl, rfl⟩)
  go_ret2
  exact ⟨rfl, rfl⟩
set_option maxHeartbeats 1600000 in
theorem chanceOrder_walk (us ov : List Bool) (A : Option Addr) (c : Nat) (Ao : Option Addr) (co : Nat) (h : Int) (W : World) (ha : Mem.Rd W A (bools us)) (ho : Mem.Rd W Ao (bools ov)) :
    Calls Try.prog 3 #[.slice A us.length c, .slice Ao ov.length co, .int .i64 h] W (Good W) := by
  by_cases h1 : 300 < us.length
  · have h1' : (300 : Int) < (us.length : Int) := by omega
    generalize us.length = n at *
    go_enter Try.func3, Try.ntmps3
    go_wp2_with (go_at_call 8; refine (goes_any _).mono ?_; rintro e w1 ⟨rfl, hb⟩)
    go_ret
    exact ⟨rfl, hb⟩
  by_cases h2 : 300 < ov.length
  · have h1' : ¬ ((300 : Int) < (us.length : Int)) := by omega
    have h2' : (300 : Int) < (ov.length : Int) := by omega
    generalize us.length = n at *
    generalize ov.length = m at *
    go_enter Try.func3, Try.ntmps3
    go_wp2_with (go_at_call 8; refine (goes_any _).mono ?_; rintro e w1 ⟨rfl, hb⟩)
    go_ret
    exact ⟨rfl, hb⟩
  have h1' : ¬ ((300 : Int) < (us.length : Int)) := by omega
  have h2' : ¬ ((300 : Int) < (ov.length : Int)) := by omega
  by_cases hr : rightv us.length ov.length h = 0
  · obtain ⟨hn0, hnm, k, rfl, hk⟩ := rightv_ok hr
    have HA := Lib.hid ha
    have HO := Lib.hid ho
    obtain ⟨n, hn⟩ : ∃ n, us.length = n := ⟨_, rfl⟩
    have HN := Lib.hid hn
    have HNM := Lib.hid hnm
    rw [← hnm, hn] at h2' ⊢
    rw [hn] at h1' h1 hk
    have hn300 : n ≤ 300 := by omega
    have C1 : ∀ w, Below W.heap.size W w → Calls Try.prog 9 #[.slice A n c, .slice Ao n co, .int .i64 (k : Int)] w (OrderRes us ov k w) := by
      intro w hb
      have := order_any us ov A c Ao co k w (HA.out.below hb) (HO.out.below hb) HNM.out (by rw [HN.out]; omega) (by rw [HN.out]; exact hk)
      rw [← HNM.out, HN.out] at this
      exact this
    have C2 : ∀ w, Below W.heap.size W w → Calls Try.prog 10 #[.slice A n c, .slice Ao n co, .int .i64 (k : Int)] w (OrderRes us ov k w) := by
      intro w hb
      have := reforder_any us ov A c Ao co k w (HA.out.below hb) (HO.out.below hb) HNM.out (by rw [HN.out]; omega) (by rw [HN.out]; exact hk)
      rw [← HNM.out, HN.out] at this
      exact this
    have D1 := Lib.hid C1
    have D2 := Lib.hid C2
    clear C1 C2 ha ho hn hnm hr hn0 hk
    go_enter Try.func3, Try.ntmps3
    go_wp2_with fail
    refine (D1.out _ (Below.refl _ _)).mono ?_
    rintro e w1 ⟨U1, c1, rfl, r1, _, b1⟩
    have B1 := Lib.hid b1
    have R1 := Lib.hid r1
    rw [HN.out]
    clear b1 r1
    go_wp2_with fail
    refine (D2.out _ B1.out).mono ?_
    rintro e w2 ⟨U2, c2, rfl, r2, _, b2⟩
    have B2 := Lib.hid (below_next B1.out b2)
    have R2 := Lib.hid r2
    have R1' := Lib.hid (R1.out.below b2)
    rw [HN.out]
    clear b2 r2
    go_wp2_with fail
    refine (same_ints_n (xs := total us ov k) (by rw [total_len]; exact HN.out) U1 U2 c1 c2 _ R1'.out R2.out (by omega)).mono ?_
    rintro e w3 ⟨rfl, q3⟩
    have B3 := Lib.hid (below_next B2.out q3.below)
    clear q3
    go_wp2_with fail
    refine (goes_any _).mono ?_
    rintro e w6 ⟨rfl, b6⟩
    have B6 := Lib.hid (below_next B3.out b6)
    clear b6
    go_wp2_with fail
    go_ret
    exact ⟨rfl, B6.out⟩
  · have C1 := order_bad us.length ov.length A c Ao co h W hr
    have C2 := reforder_bad us.length ov.length A c Ao co h W hr
    generalize rightv us.length ov.length h = r at *
    generalize us.length = n at *
    generalize ov.length = m at *
    have D1 := Lib.hid C1
    have D2 := Lib.hid C2
    clear C1 C2 ha ho
    go_enter Try.func3, Try.ntmps3
    go_wp2_with fail
    refine D1.out.mono ?_
    rintro e w1 ⟨rfl, rfl⟩
    go_wp2_with fail
    refine D2.out.mono ?_
    rintro e w2 ⟨rfl, rfl⟩
    go_wp2_with fail
    refine (same_ints_n (xs := []) (n := 0) rfl none none 0 0 _ (Mem.Rd.nil _ _) (Mem.Rd.nil _ _) (by omega)).mono ?_
    rintro e w3 ⟨rfl, q3⟩
    have B3 : RowKit.Hid (Below W.heap.size W w3) := Lib.hid q3.below
    clear q3
    go_wp2_with fail
    refine (goes_any _).mono ?_
    rintro e w6 ⟨rfl, b6⟩
    have B6 := Lib.hid (below_next B3.out b6)
    clear b6
    go_wp2_with fail
    go_ret
    exact ⟨rfl, B6.out⟩
end Ch
end Go.Proofs.Ytfdbekgmpmfgpaa
