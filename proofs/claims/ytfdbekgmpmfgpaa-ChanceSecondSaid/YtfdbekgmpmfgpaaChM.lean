/- Layer 18 (chance): Same of two rows that are the same, and the document's Broom. -/
import Derived.Test.YtfdbekgmpmfgpaaChL
namespace Go.Proofs.Ytfdbekgmpmfgpaa
open Go.RowKit
namespace Ch

/-- The relation of Same's loop. -/
def SaR (n : Nat) (W : World) (i : Value) (w : World) : Prop := ∃ k : Nat, k ≤ n ∧ i = .int .i64 k ∧ Mem.QQ W w
set_option maxHeartbeats 1600000 in
theorem same_bools (xs : List Bool) (A B : Option Addr) (c d : Nat) (W : World) (ha : Mem.Rd W A (bools xs)) (hb : Mem.Rd W B (bools xs)) (hm : xs.length ≤ 1000) :
    Calls Try.prog 16 #[.slice A xs.length c, .slice B xs.length d] W fun e w' => e = .returned (.bool true) ∧ Mem.QQ W w' := by
  obtain ⟨n, hn⟩ : ∃ n, xs.length = n := ⟨_, rfl⟩
  have HN := Lib.hid hn
  have HA := Lib.hid ha
  have HB := Lib.hid hb
  rw [hn] at hm ⊢
  clear ha hb hn
  go_enter Try.func16, Try.ntmps16
  go_wp2_with fail
  go_loopw [5] (SaR n W) (fun i _ => n - (intOf i).toNat)
  case atStart => exact ⟨0, by omega, rfl, Mem.QQ.refl _⟩
  case round =>
    obtain ⟨k, hk, rfl, m, rfl⟩ := hrel
    by_cases hlt : k < n
    · obtain ⟨b1, o1, rfl, _, hc1⟩ := HA.out (by rw [bools_len, HN.out]; omega)
      obtain ⟨b2, o2, rfl, _, hc2⟩ := HB.out (by rw [bools_len, HN.out]; omega)
      have c1 : (W.drewN m).cell? ⟨b1, o1 + k, none⟩ = some (.bool (xs.getD k false)) := by
        refine (hc1 k (by rw [bools_len, HN.out]; omega)).trans ?_
        rw [bools_at (by rw [HN.out]; omega)]
      have c2 : (W.drewN m).cell? ⟨b2, o2 + k, none⟩ = some (.bool (xs.getD k false)) := by
        refine (hc2 k (by rw [bools_len, HN.out]; omega)).trans ?_
        rw [bools_at (by rw [HN.out]; omega)]
      generalize hx : xs.getD k false = x at c1 c2
      have hk0 : (0 : Int) ≤ (k : Int) := by omega
      have hk1 : (k : Int) < (n : Int) := by omega
      obtain ⟨w1, hw1⟩ : ∃ w1, W.drewN m = w1 := ⟨_, rfl⟩
      have HW1 := Lib.hid hw1
      rw [hw1] at c1 c2 ⊢
      clear hc1 hc2 hx hw1
      go_wp2_with fail
      go_quiet (fail)
      go_wp2_with fail
      go_roundw
      case rel => exact ⟨k + 1, by omega, by go_num, m + nq, by rw [← HW1.out, World.drewN_drewN]⟩
      case measure => simp [intOf]; omega
    · obtain rfl : n = k := by omega
      go_wp2_with fail
      go_ret
      exact ⟨rfl, m, rfl⟩
set_option maxHeartbeats 1600000 in
theorem same_ints (xs : List Nat) (A B : Option Addr) (c d : Nat) (W : World) (ha : Mem.Rd W A (ints xs)) (hb : Mem.Rd W B (ints xs)) (hm : xs.length ≤ 1000) :
    Calls Try.prog 11 #[.slice A xs.length c, .slice B xs.length d] W fun e w' => e = .returned (.bool true) ∧ Mem.QQ W w' := by
  obtain ⟨n, hn⟩ : ∃ n, xs.length = n := ⟨_, rfl⟩
  have HN := Lib.hid hn
  have HA := Lib.hid ha
  have HB := Lib.hid hb
  rw [hn] at hm ⊢
  clear ha hb hn
  go_enter Try.func11, Try.ntmps11
  go_wp2_with fail
  go_loopw [5] (SaR n W) (fun i _ => n - (intOf i).toNat)
  case atStart => exact ⟨0, by omega, rfl, Mem.QQ.refl _⟩
  case round =>
    obtain ⟨k, hk, rfl, m, rfl⟩ := hrel
    by_cases hlt : k < n
    · obtain ⟨b1, o1, rfl, _, hc1⟩ := HA.out (by rw [ints_len, HN.out]; omega)
      obtain ⟨b2, o2, rfl, _, hc2⟩ := HB.out (by rw [ints_len, HN.out]; omega)
      have c1 : (W.drewN m).cell? ⟨b1, o1 + k, none⟩ = some (.int .i64 ((xs.getD k 0 : Nat) : Int)) := by
        refine (hc1 k (by rw [ints_len, HN.out]; omega)).trans ?_
        rw [ints_at (by rw [HN.out]; omega)]
      have c2 : (W.drewN m).cell? ⟨b2, o2 + k, none⟩ = some (.int .i64 ((xs.getD k 0 : Nat) : Int)) := by
        refine (hc2 k (by rw [ints_len, HN.out]; omega)).trans ?_
        rw [ints_at (by rw [HN.out]; omega)]
      generalize hx : xs.getD k 0 = x at c1 c2
      have hk0 : (0 : Int) ≤ (k : Int) := by omega
      have hk1 : (k : Int) < (n : Int) := by omega
      obtain ⟨w1, hw1⟩ : ∃ w1, W.drewN m = w1 := ⟨_, rfl⟩
      have HW1 := Lib.hid hw1
      rw [hw1] at c1 c2 ⊢
      clear hc1 hc2 hx hw1
      go_wp2_with fail
      go_quiet (fail)
      go_wp2_with fail
      go_roundw
      case rel => exact ⟨k + 1, by omega, by go_num, m + nq, by rw [← HW1.out, World.drewN_drewN]⟩
      case measure => simp [intOf]; omega
    · obtain rfl : n = k := by omega
      go_wp2_with fail
      go_ret
      exact ⟨rfl, m, rfl⟩
/-- The relation of the loop of the document's Broom. -/
def RbR (ov : List Bool) (a n : Nat) (W : World) (at_ v i : Value) (w : World) : Prop :=
  ∃ k : Nat, k ≤ n ∧ at_ = .int .i64 (((a + k) % ov.length : Nat) : Int) ∧ i = .int .i64 k ∧ w.ownsRow W.heap.size 3 1 v (bro ov a k).length (ints (bro ov a k)) ∧ Below W.heap.size W w
set_option maxHeartbeats 3200000 in
theorem refbroom_any (ov : List Bool) (A : Option Addr) (c : Nat) (a t : Nat) (W : World) (hr : Mem.Rd W A (bools ov)) (hm : ov.length ≤ 1000) (hh : a < ov.length) (ht : (t : Int) ≤ 9223372036854775807) :
    Calls Try.prog 13 #[.slice A ov.length c, .int .i64 (a : Int), .int .i64 (t : Int)] W (BroomRes ov a (min t ov.length) W) := by
  have HR := may_any ov.length ov.length A c A c (a : Int) W
  rw [rightv_of hh] at HR
  obtain ⟨i0, hi0, hz0, hz1, hz2⟩ := info_at infoI
  have I0 := Lib.hid hi0
  have I1 := Lib.hid hz0
  have I2 := Lib.hid hz1
  have I3 := Lib.hid hz2
  have HRD := Lib.hid hr
  obtain ⟨l, hl⟩ : ∃ l, ov.length = l := ⟨_, rfl⟩
  have HL := Lib.hid hl
  rw [hl] at HR hm hh ⊢
  obtain ⟨n, hne⟩ : ∃ n, min t l = n := ⟨_, rfl⟩
  rw [hne]
  have HNE := Lib.hid hne
  have hln : ¬ (l = 0) := by omega
  have hln2 : ¬ ((l : Int) = 0) := by omega
  have hnl : n ≤ l := by omega
  have hnt : n ≤ t := by omega
  have ht0 : ¬ ((t : Int) < 0) := by omega
  clear hr hl hi0 hz0 hz1 hz2 hne
  go_enter Try.func13, Try.ntmps13
  go_wp2_with (go_at_call 24; refine HR.mono ?_; rintro e w1 ⟨rfl, rfl⟩)
  go_loopw [1, 10, 11] (RbR ov a n W) (fun _ _ i _ => n - (intOf i).toNat)
  case atStart => exact ⟨0, by omega, by rw [HL.out, Nat.add_zero, Nat.mod_eq_of_lt hh], rfl, World.ownsRow_nil _ _ _ _, Below.refl _ _⟩
  case round =>
    obtain ⟨k, hk, rfl, rfl, hown, hb⟩ := hrel
    obtain ⟨A1, c1, rfl, hc1⟩ := Mem.own_shape hown
    have hle := bro_le ov a k
    have HOWN := Lib.hid hown
    have HB := Lib.hid hb
    rw [HL.out]
    obtain ⟨x, hx⟩ : ∃ x, (a + k) % l = x := ⟨_, rfl⟩
    have hxl : x < l := by rw [← hx]; exact Nat.mod_lt _ (by omega)
    have HX := Lib.hid hx
    rw [hx]
    clear hown hb
    by_cases hlk : k < n
    · have hw : IntKind.i64.wrap ((x : Int) + 1) = (x : Int) + 1 := IntWalk.i64_in _ (by omega)
      obtain ⟨y, hy⟩ : ∃ y, (a + (k + 1)) % l = y := ⟨_, rfl⟩
      have hmod2 : ((x : Int) + 1).tmod (l : Int) = (y : Int) := by
        rw [Int.tmod_eq_emod_of_nonneg (by omega), ← hy, ← hx]
        have : (a + (k + 1)) % l = ((a + k) % l + 1) % l := by rw [Nat.mod_add_mod]; rfl
        rw [this]
        norm_cast
      have hmod : ((x : Int) + 1) % (l : Int) = (y : Int) := by rw [← Int.tmod_eq_emod_of_nonneg (by omega)]; exact hmod2
      obtain ⟨b, off, rfl, hbl, hc⟩ := (HRD.out.below HB.out) (by rw [bools_len, HL.out]; omega)
      have c0 := hc x (by rw [bools_len, HL.out]; exact hxl)
      rw [bools_at (by rw [HL.out]; exact hxl)] at c0
      have hx0 : (0 : Int) ≤ (x : Int) := by omega
      have hx1 : (x : Int) < (l : Int) := by omega
      have hkt : (k : Int) < (t : Int) := by omega
      have hkl : (k : Int) < (l : Int) := by omega
      have hkt2 : k < t := by omega
      have hkl2 : k < l := by omega
      have hs := bro_succ ov a k
      rw [HL.out, hx] at hs
      have HY := Lib.hid hy
      clear hc hx hy
      cases hov : ov.getD x false with
      | false =>
        rw [hov] at c0 hs
        have HS := Lib.hid hs
        clear hs hov
        go_wp2_with fail
        go_roundw
        case rel =>
          refine ⟨k + 1, by omega, by rw [HL.out, HY.out], by go_num, ?_, HB.out⟩
          rw [HS.out]
          simpa using HOWN.out
        case measure => simp [intOf]; omega
      | true =>
        rw [hov] at c0 hs
        have HS := Lib.hid hs
        clear hs hov
        go_wp2_with (at_builtin; refine Mem.wpList_append_rd _ rfl (.tmp 36) (.tmp 38) 24 rfl W.heap.size 3 i0 (.int .i64 0) 8 Try.underlying24 I0.out I1.out I2.out I3.out rfl (.slice A1 (bro ov a k).length c1) (bro ov a k).length (ints (bro ov a k)) rfl (by exact HOWN.out.alloc _) (some ⟨wr.heap.size, 0, none⟩) 1 1 [.int .i64 (x : Int)] rfl rfl (by exact rd_new wr x _) (by intro u hu; simp at hu; subst hu; rfl) (by simp only [maxLen]; omega) (by omega) (by have := HB.out.size; simp; omega) ?_; intro v4 w4 hown4 hg4 _; have hb4 : Below W.heap.size W w4 := Below.grown (HB.out.alloc HB.out.size _) hg4 (by have := HB.out.size; simp; omega) (own_ge HOWN.out); have HB4 := Lib.hid hb4; have HO4 := Lib.hid hown4; clear hb4 hown4 hg4)
        go_roundw
        case rel =>
          refine ⟨k + 1, by omega, by rw [HL.out, HY.out], by go_num, ?_, HB4.out⟩
          rw [HS.out]
          simpa [ints_app, ints] using HO4.out
        case measure => simp [intOf]; omega
    · obtain rfl : n = k := by omega
      have hx' := hx
      clear hx
      have fin : BroomRes ov a n W (.returned (.tuple #[.slice A1 (bro ov a n).length c1, .int .i64 (x : Int), .int .i64 0])) wr :=
        ⟨A1, c1, by rw [HL.out, HX.out], Mem.Rd.of_own HOWN.out, hc1, HB.out⟩
      have FIN := Lib.hid fin
      clear fin hx'
      rcases Nat.lt_or_ge n t with hnt2 | hnt2
      · have hnle : n = l := by have := HNE.out; omega
        have q1 : (n : Int) < (t : Int) := by omega
        have q2 : ¬ ((n : Int) < (l : Int)) := by omega
        have q3 : ¬ (n < l) := by omega
        clear hnle
        go_wp2_with fail
        go_ret3
        exact FIN.out
      · have q1 : ¬ ((n : Int) < (t : Int)) := by omega
        have q3 : ¬ (n < t) := by omega
        go_wp2_with fail
        go_ret3
        exact FIN.out
theorem refbroom_bad (n : Nat) (A : Option Addr) (c : Nat) (h most : Int) (w : World) (hb : rightv n n h ≠ 0) :
    Calls Try.prog 13 #[.slice A n c, .int .i64 h, .int .i64 most] w fun e w' => e = .returned (.tuple #[.slice none 0 0, .int .i64 0, .int .i64 (rightv n n h)]) ∧ w = w' := by
  have HR := may_any n n A c A c h w
  obtain ⟨r, hr⟩ : ∃ r, rightv n n h = r := ⟨_, rfl⟩
  rw [hr] at hb HR ⊢
  clear hr
  go_enter Try.func13, Try.ntmps13
  go_wp2_with (go_at_call 24; refine HR.mono ?_; rintro e w1 ⟨rfl, rfl⟩)
  go_ret3
  exact ⟨rfl, rfl⟩
theorem refbroom_neg (n : Nat) (A : Option Addr) (c : Nat) (h most : Int) (w : World) (hb : rightv n n h = 0) (hm : most < 0) :
    Calls Try.prog 13 #[.slice A n c, .int .i64 h, .int .i64 most] w fun e w' => e = .returned (.tuple #[.slice none 0 0, .int .i64 0, .int .i64 2]) ∧ w = w' := by
  have HR := may_any n n A c A c h w
  rw [hb] at HR
  go_enter Try.func13, Try.ntmps13
  go_wp2_with (go_at_call 24; refine HR.mono ?_; rintro e w1 ⟨rfl, rfl⟩)
  go_ret3
  exact ⟨rfl, rfl⟩
end Ch
end Go.Proofs.Ytfdbekgmpmfgpaa
