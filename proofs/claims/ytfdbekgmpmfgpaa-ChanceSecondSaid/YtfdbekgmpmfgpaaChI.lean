/- Layer 18 (chance): the contract of Broom. -/
import Derived.Test.YtfdbekgmpmfgpaaChH
namespace Go.Proofs.Ytfdbekgmpmfgpaa
open Go.RowKit
namespace Ch

/-- Which of the next k are over. -/
def bro (ov : List Bool) (a k : Nat) : List Nat := (pre ov.length a k).filter fun i => ov.getD i false
theorem bro_succ (ov : List Bool) (a k : Nat) : bro ov a (k + 1) = bro ov a k ++ (if ov.getD ((a + k) % ov.length) false then [(a + k) % ov.length] else []) := by
  unfold bro
  rw [pre_succ, List.filter_append]
  congr 1
  simp [List.filter]
  split <;> simp_all
/-- What Broom answers where all is right. -/
def BroomRes (ov : List Bool) (a k : Nat) (W : World) (e : Ending) (w : World) : Prop :=
  ∃ U uc, e = .returned (.tuple #[.slice U (bro ov a k).length uc, .int .i64 ((a + k) % ov.length : Nat), .int .i64 0]) ∧ Mem.Rd w U (ints (bro ov a k)) ∧ (bro ov a k).length ≤ uc ∧ Below W.heap.size W w
/-- The relation of Broom's loop. -/
def BroR (ov : List Bool) (a n : Nat) (W : World) (v i : Value) (w : World) : Prop :=
  ∃ k : Nat, k ≤ n ∧ i = .int .i64 k ∧ w.ownsRow W.heap.size 3 1 v (bro ov a k).length (ints (bro ov a k)) ∧ Below W.heap.size W w
theorem bro_le (ov : List Bool) (a k : Nat) : (bro ov a k).length ≤ k := by
  unfold bro
  refine Nat.le_trans (List.length_filter_le _ _) ?_
  simp [pre]
set_option maxHeartbeats 1600000 in
theorem broom_lt (ov : List Bool) (A : Option Addr) (c : Nat) (a t : Nat) (W : World) (hr : Mem.Rd W A (bools ov)) (hm : ov.length ≤ 1000) (hh : a < ov.length) (hlt : ov.length < t) :
    Calls Try.prog 12 #[.slice A ov.length c, .int .i64 (a : Int), .int .i64 (t : Int)] W (BroomRes ov a ov.length W) := by
  have HR := right_any ov.length ov.length (a : Int) W
  rw [rightv_of hh] at HR
  obtain ⟨i0, hi0, hz0, hz1, hz2⟩ := info_at infoI
  have I0 := Lib.hid hi0
  have I1 := Lib.hid hz0
  have I2 := Lib.hid hz1
  have I3 := Lib.hid hz2
  have HRD := Lib.hid hr
  obtain ⟨l, hl⟩ : ∃ l, ov.length = l := ⟨_, rfl⟩
  have HL := Lib.hid hl
  rw [hl] at HR hm hh hlt ⊢
  have hln : ¬ (l = 0) := by omega
  have hln2 : ¬ ((l : Int) = 0) := by omega
  have hn0 : l ≤ l := by omega
  clear hr hl hi0 hz0 hz1 hz2
  go_enter Try.func12, Try.ntmps12
  go_wp2_with (go_at_call 19; refine HR.mono ?_; rintro e w1 ⟨rfl, rfl⟩)
  go_loopw [11, 30] (BroR ov a l W) (fun _ i _ => l - (intOf i).toNat)
  case atStart => exact ⟨0, by omega, rfl, World.ownsRow_nil _ _ _ _, Below.refl _ _⟩
  case round =>
    obtain ⟨k, hk, rfl, hown, hb⟩ := hrel
    obtain ⟨A1, c1, rfl, hc1⟩ := Mem.own_shape hown
    have hle := bro_le ov a k
    have HOWN := Lib.hid hown
    have HB := Lib.hid hb
    clear hown hb
    by_cases hlk : k < l
    · obtain ⟨x, hx⟩ : ∃ x, (a + k) % l = x := ⟨_, rfl⟩
      have hxl : x < l := by rw [← hx]; exact Nat.mod_lt _ (by omega)
      have hw : IntKind.i64.wrap ((a : Int) + (k : Int)) = (a : Int) + (k : Int) := IntWalk.i64_in _ (by omega)
      have hmod : ((a : Int) + (k : Int)) % (l : Int) = (x : Int) := by rw [← hx]; norm_cast
      have hmod2 : ((a : Int) + (k : Int)).tmod (l : Int) = (x : Int) := by rw [Int.tmod_eq_emod_of_nonneg (by omega)]; exact hmod
      obtain ⟨b, off, rfl, hbl, hc⟩ := (HRD.out.below HB.out) (by rw [bools_len, HL.out]; omega)
      have c0 := hc x (by rw [bools_len, HL.out]; exact hxl)
      rw [bools_at (by rw [HL.out]; exact hxl)] at c0
      have hx0 : (0 : Int) ≤ (x : Int) := by omega
      have hx1 : (x : Int) < (l : Int) := by omega
      have HX := Lib.hid hx
      have hs := bro_succ ov a k
      rw [HL.out, hx] at hs
      clear hc hx
      cases hov : ov.getD x false with
      | false =>
        rw [hov] at c0 hs
        have HS := Lib.hid hs
        clear hs hov
        go_wp2_with fail
        go_roundw
        case rel =>
          refine ⟨k + 1, by omega, by go_num, ?_, HB.out⟩
          rw [HS.out]
          simpa using HOWN.out
        case measure => simp [intOf]; omega
      | true =>
        rw [hov] at c0 hs
        have HS := Lib.hid hs
        clear hs hov
        go_wp2_with (at_builtin; refine Mem.wpList_append_rd _ rfl (.tmp 43) (.tmp 45) 24 rfl W.heap.size 3 i0 (.int .i64 0) 8 Try.underlying24 I0.out I1.out I2.out I3.out rfl (.slice A1 (bro ov a k).length c1) (bro ov a k).length (ints (bro ov a k)) rfl (by exact HOWN.out.alloc _) (some ⟨wr.heap.size, 0, none⟩) 1 1 [.int .i64 (x : Int)] rfl rfl (by exact rd_new wr x _) (by intro u hu; simp at hu; subst hu; rfl) (by simp only [maxLen]; omega) (by omega) (by have := HB.out.size; simp; omega) ?_; intro v4 w4 hown4 hg4 _; have hb4 : Below W.heap.size W w4 := Below.grown (HB.out.alloc HB.out.size _) hg4 (by have := HB.out.size; simp; omega) (own_ge HOWN.out); have HB4 := Lib.hid hb4; have HO4 := Lib.hid hown4; clear hb4 hown4 hg4)
        go_roundw
        case rel =>
          refine ⟨k + 1, by omega, by go_num, ?_, HB4.out⟩
          rw [HS.out]
          simpa [ints_app, ints] using HO4.out
        case measure => simp [intOf]; omega
    · obtain rfl : l = k := by omega
      obtain ⟨x, hx⟩ : ∃ x, (a + l) % l = x := ⟨_, rfl⟩
      have hw : IntKind.i64.wrap ((a : Int) + (l : Int)) = (a : Int) + (l : Int) := IntWalk.i64_in _ (by omega)
      have hmod : ((a : Int) + (l : Int)) % (l : Int) = (x : Int) := by rw [← hx]; norm_cast
      have hmod2 : ((a : Int) + (l : Int)).tmod (l : Int) = (x : Int) := by rw [Int.tmod_eq_emod_of_nonneg (by omega)]; exact hmod
      have HX := Lib.hid hx
      clear hx
      go_wp2_with fail
      go_quiet (fail)
      go_wp2_with fail
      go_ret3
      refine ⟨A1, c1, ?_, ?_, ?_, below_drewN HB.out _⟩
      · rw [HL.out, HX.out]; rfl
      · exact Mem.Rd.drewN (Mem.Rd.of_own HOWN.out) _
      · exact hc1
set_option maxHeartbeats 1600000 in
theorem broom_ge (ov : List Bool) (A : Option Addr) (c : Nat) (a t : Nat) (W : World) (hr : Mem.Rd W A (bools ov)) (hm : ov.length ≤ 1000) (hh : a < ov.length) (hlt : t ≤ ov.length) :
    Calls Try.prog 12 #[.slice A ov.length c, .int .i64 (a : Int), .int .i64 (t : Int)] W (BroomRes ov a t W) := by
  have HR := right_any ov.length ov.length (a : Int) W
  rw [rightv_of hh] at HR
  obtain ⟨i0, hi0, hz0, hz1, hz2⟩ := info_at infoI
  have I0 := Lib.hid hi0
  have I1 := Lib.hid hz0
  have I2 := Lib.hid hz1
  have I3 := Lib.hid hz2
  have HRD := Lib.hid hr
  obtain ⟨l, hl⟩ : ∃ l, ov.length = l := ⟨_, rfl⟩
  have HL := Lib.hid hl
  rw [hl] at HR hm hh hlt ⊢
  have hln : ¬ (l = 0) := by omega
  have hln2 : ¬ ((l : Int) = 0) := by omega
  have hn0 : t ≤ l := by omega
  clear hr hl hi0 hz0 hz1 hz2
  go_enter Try.func12, Try.ntmps12
  go_wp2_with (go_at_call 19; refine HR.mono ?_; rintro e w1 ⟨rfl, rfl⟩)
  go_loopw [11, 30] (BroR ov a t W) (fun _ i _ => t - (intOf i).toNat)
  case atStart => exact ⟨0, by omega, rfl, World.ownsRow_nil _ _ _ _, Below.refl _ _⟩
  case round =>
    obtain ⟨k, hk, rfl, hown, hb⟩ := hrel
    obtain ⟨A1, c1, rfl, hc1⟩ := Mem.own_shape hown
    have hle := bro_le ov a k
    have HOWN := Lib.hid hown
    have HB := Lib.hid hb
    clear hown hb
    by_cases hlk : k < t
    · obtain ⟨x, hx⟩ : ∃ x, (a + k) % l = x := ⟨_, rfl⟩
      have hxl : x < l := by rw [← hx]; exact Nat.mod_lt _ (by omega)
      have hw : IntKind.i64.wrap ((a : Int) + (k : Int)) = (a : Int) + (k : Int) := IntWalk.i64_in _ (by omega)
      have hmod : ((a : Int) + (k : Int)) % (l : Int) = (x : Int) := by rw [← hx]; norm_cast
      have hmod2 : ((a : Int) + (k : Int)).tmod (l : Int) = (x : Int) := by rw [Int.tmod_eq_emod_of_nonneg (by omega)]; exact hmod
      obtain ⟨b, off, rfl, hbl, hc⟩ := (HRD.out.below HB.out) (by rw [bools_len, HL.out]; omega)
      have c0 := hc x (by rw [bools_len, HL.out]; exact hxl)
      rw [bools_at (by rw [HL.out]; exact hxl)] at c0
      have hx0 : (0 : Int) ≤ (x : Int) := by omega
      have hx1 : (x : Int) < (l : Int) := by omega
      have HX := Lib.hid hx
      have hs := bro_succ ov a k
      rw [HL.out, hx] at hs
      clear hc hx
      cases hov : ov.getD x false with
      | false =>
        rw [hov] at c0 hs
        have HS := Lib.hid hs
        clear hs hov
        go_wp2_with fail
        go_roundw
        case rel =>
          refine ⟨k + 1, by omega, by go_num, ?_, HB.out⟩
          rw [HS.out]
          simpa using HOWN.out
        case measure => simp [intOf]; omega
      | true =>
        rw [hov] at c0 hs
        have HS := Lib.hid hs
        clear hs hov
        go_wp2_with (at_builtin; refine Mem.wpList_append_rd _ rfl (.tmp 43) (.tmp 45) 24 rfl W.heap.size 3 i0 (.int .i64 0) 8 Try.underlying24 I0.out I1.out I2.out I3.out rfl (.slice A1 (bro ov a k).length c1) (bro ov a k).length (ints (bro ov a k)) rfl (by exact HOWN.out.alloc _) (some ⟨wr.heap.size, 0, none⟩) 1 1 [.int .i64 (x : Int)] rfl rfl (by exact rd_new wr x _) (by intro u hu; simp at hu; subst hu; rfl) (by simp only [maxLen]; omega) (by omega) (by have := HB.out.size; simp; omega) ?_; intro v4 w4 hown4 hg4 _; have hb4 : Below W.heap.size W w4 := Below.grown (HB.out.alloc HB.out.size _) hg4 (by have := HB.out.size; simp; omega) (own_ge HOWN.out); have HB4 := Lib.hid hb4; have HO4 := Lib.hid hown4; clear hb4 hown4 hg4)
        go_roundw
        case rel =>
          refine ⟨k + 1, by omega, by go_num, ?_, HB4.out⟩
          rw [HS.out]
          simpa [ints_app, ints] using HO4.out
        case measure => simp [intOf]; omega
    · obtain rfl : t = k := by omega
      obtain ⟨x, hx⟩ : ∃ x, (a + t) % l = x := ⟨_, rfl⟩
      have hw : IntKind.i64.wrap ((a : Int) + (t : Int)) = (a : Int) + (t : Int) := IntWalk.i64_in _ (by omega)
      have hmod : ((a : Int) + (t : Int)) % (l : Int) = (x : Int) := by rw [← hx]; norm_cast
      have hmod2 : ((a : Int) + (t : Int)).tmod (l : Int) = (x : Int) := by rw [Int.tmod_eq_emod_of_nonneg (by omega)]; exact hmod
      have HX := Lib.hid hx
      clear hx
      go_wp2_with fail
      go_quiet (fail)
      go_wp2_with fail
      go_ret3
      refine ⟨A1, c1, ?_, ?_, ?_, below_drewN HB.out _⟩
      · rw [HL.out, HX.out]; rfl
      · exact Mem.Rd.drewN (Mem.Rd.of_own HOWN.out) _
      · exact hc1
theorem broom_bad (n : Nat) (A : Option Addr) (c : Nat) (h most : Int) (w : World) (hb : rightv n n h ≠ 0) :
    Calls Try.prog 12 #[.slice A n c, .int .i64 h, .int .i64 most] w fun e w' => e = .returned (.tuple #[.slice none 0 0, .int .i64 0, .int .i64 (rightv n n h)]) ∧ w = w' := by
  have HR := right_any n n h w
  obtain ⟨r, hr⟩ : ∃ r, rightv n n h = r := ⟨_, rfl⟩
  rw [hr] at hb HR ⊢
  clear hr
  go_enter Try.func12, Try.ntmps12
  go_wp2_with (go_at_call 19; refine HR.mono ?_; rintro e w1 ⟨rfl, rfl⟩)
  go_ret3
  exact ⟨rfl, rfl⟩
theorem broom_neg (n : Nat) (A : Option Addr) (c : Nat) (h most : Int) (w : World) (hb : rightv n n h = 0) (hm : most < 0) :
    Calls Try.prog 12 #[.slice A n c, .int .i64 h, .int .i64 most] w fun e w' => e = .returned (.tuple #[.slice none 0 0, .int .i64 0, .int .i64 2]) ∧ w = w' := by
  have HR := right_any n n h w
  rw [hb] at HR
  go_enter Try.func12, Try.ntmps12
  go_wp2_with (go_at_call 19; refine HR.mono ?_; rintro e w1 ⟨rfl, rfl⟩)
  go_ret3
  exact ⟨rfl, rfl⟩
end Ch
end Go.Proofs.Ytfdbekgmpmfgpaa
