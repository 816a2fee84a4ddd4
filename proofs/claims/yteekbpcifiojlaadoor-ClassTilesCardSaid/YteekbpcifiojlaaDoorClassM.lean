/- The walk of the law ClassTiles: it returns true for every class; the world is as it was, but for draws. Condition: the table class.sizes holds its ten numbers. -/
import Derived.Test.YteekbpcifiojlaaDoorClassL
namespace Go.Proofs.YteekbpcifiojlaaDoor
open Go.RowKit
namespace Cls

theorem index_val (c t a : Int) (x : Bool) (ha : ixI c t = a) (hx : ixB c t = x) (ht : t ≤ 9223372036854775807) (w : World) (hT : Tab w) : Calls Tryd.prog 23 #[.int .i64 c, .int .i64 t] w fun e w' => e = .returned (.tuple #[.int .i64 a, .bool x]) ∧ QQ w w' := ha ▸ hx ▸ index_any c t ht w hT

theorem tiles_out (c : Int) (w : World) (hT : Tab w) (h : c < 1 ∨ 9 < c) : Calls Tryd.prog 7 #[.int .i64 c] w fun e w' => e = .returned (.bool true) ∧ QQ w w' := by
  go_enter Tryd.func7, Tryd.ntmps7
  go_wp2_with (first
    | (go_at_call 12; refine (blocks_val _ 0 (bl_out _ h) _ hT).mono ?_; rintro e w' ⟨rfl, rfl⟩)
    | (go_at_call 10; refine (size_val _ 0 (sz_out _ h) _ hT).mono ?_; rintro e w' ⟨rfl, rfl⟩)
    | (go_at_call 14; refine (pad_val _ 0 (pd_out _ h) _ hT).mono ?_; rintro e w' ⟨rfl, rfl⟩)
    | (go_at_call 16; refine (classes_true _ hT).mono ?_; rintro e w' ⟨rfl, rfl⟩))
  go_ret
  exact ⟨rfl, QQ.refl _⟩
theorem tiles_1_at (k : Nat) (h : (k : Int) < 32) : (plA 1 k = k * 32 ∧ plE 1 k = 0) ∧ (ixI 1 (k * 32) = k ∧ ixB 1 (k * 32) = true) ∧ (ixI 1 (k * 32 + 1) = 0 ∧ ixB 1 (k * 32 + 1) = false) := by
  refine ⟨⟨?_, ?_⟩, ?_, ?_⟩
  · exact (if_neg (by omega)).trans (if_neg (show ¬ ((k : Int) < 0 ∨ 32 ≤ (k : Int)) by omega))
  · exact (if_neg (by omega)).trans (if_neg (show ¬ ((k : Int) < 0 ∨ 32 ≤ (k : Int)) by omega))
  · have := ix_yes (c := 1) (t := k * 32) ⟨by omega, by omega, show ((k : Int) * 32) % 32 = 0 by omega, show ((k : Int) * 32) / 32 < 32 by omega⟩
    exact ⟨this.1.trans (show ((k : Int) * 32) / 32 = k by omega), this.2⟩
  · refine ix_no (c := 1) (t := k * 32 + 1) ?_
    rintro ⟨-, -, h3, -⟩
    have h4 : ((k : Int) * 32 + 1) % 32 = 0 := h3
    omega
set_option maxHeartbeats 1600000 in
theorem tiles_1 (w : World) (hT : Tab w) : Calls Tryd.prog 7 #[.int .i64 1] w fun e w' => e = .returned (.bool true) ∧ QQ w w' := by
  go_enter Tryd.func7, Tryd.ntmps7
  go_wp2_with (first
    | (go_at_call 12; refine (blocks_val 1 32 rfl _ hT).mono ?_; rintro e w' ⟨rfl, rfl⟩)
    | (go_at_call 10; refine (size_val 1 32 rfl _ hT).mono ?_; rintro e w' ⟨rfl, rfl⟩))
  go_loopw [4, 5] (fun d i wr => ∃ k : Nat, (k : Int) ≤ 32 ∧ i = .int .i64 k ∧ d = .int .i64 (k * 32) ∧ QQ w wr) (fun _ i _ => (2000 - intOf i).toNat)
  case atStart => exact ⟨0, by omega, rfl, rfl, QQ.refl _⟩
  case round =>
    obtain ⟨k, hk, rfl, rfl, hq⟩ := hrel
    have hT1 := hT.q hq
    by_cases hlt : (k : Int) < 32
    · have HA := Lib.hid (tiles_1_at k hlt)
      go_wp2_with ((go_at_call 21; refine (place_val 1 k _ _ HA.out.1.1 HA.out.1.2 _ hT1).mono ?_; rintro e w2 ⟨rfl, rfl⟩))
      refine (index_val 1 (k * 32) _ _ HA.out.2.1.1 HA.out.2.1.2 (by omega) _ hT1).mono ?_
      rintro e w2 ⟨rfl, hq2⟩
      have hT2 := hT1.q hq2
      go_wp2_with fail
      refine (index_val 1 (k * 32 + 1) _ _ HA.out.2.2.1 HA.out.2.2.2 (by omega) _ hT2).mono ?_
      rintro e w3 ⟨rfl, hq3⟩
      have hT3 := hT2.q hq3
      go_wp2_with ((go_at_call 10; refine (size_val 1 32 rfl _ hT3).mono ?_; rintro e w' ⟨rfl, rfl⟩))
      go_roundw
      case rel => exact ⟨k + 1, by omega, by go_num, by rw [show ((k + 1 : Nat) : Int) * 32 = k * 32 + 32 by omega], (hq.trans hq2).trans hq3⟩
      case measure => simp [intOf]; omega
    · obtain rfl : k = 32 := by omega
      clear hlt hk
      go_wp2_with (first
        | (go_at_call 14; refine (pad_val 1 0 rfl _ hT1).mono ?_; rintro e w' ⟨rfl, rfl⟩)
        | (go_at_call 10; refine (size_val 1 32 rfl _ hT1).mono ?_; rintro e w' ⟨rfl, rfl⟩)
        | (go_at_call 16; refine (classes_true _ hT1).mono ?_; rintro e w' ⟨rfl, rfl⟩))
      go_ret
      exact ⟨rfl, hq⟩
theorem tiles_2_at (k : Nat) (h : (k : Int) < 21) : (plA 2 k = k * 48 ∧ plE 2 k = 0) ∧ (ixI 2 (k * 48) = k ∧ ixB 2 (k * 48) = true) ∧ (ixI 2 (k * 48 + 1) = 0 ∧ ixB 2 (k * 48 + 1) = false) := by
  refine ⟨⟨?_, ?_⟩, ?_, ?_⟩
  · exact (if_neg (by omega)).trans (if_neg (show ¬ ((k : Int) < 0 ∨ 21 ≤ (k : Int)) by omega))
  · exact (if_neg (by omega)).trans (if_neg (show ¬ ((k : Int) < 0 ∨ 21 ≤ (k : Int)) by omega))
  · have := ix_yes (c := 2) (t := k * 48) ⟨by omega, by omega, show ((k : Int) * 48) % 48 = 0 by omega, show ((k : Int) * 48) / 48 < 21 by omega⟩
    exact ⟨this.1.trans (show ((k : Int) * 48) / 48 = k by omega), this.2⟩
  · refine ix_no (c := 2) (t := k * 48 + 1) ?_
    rintro ⟨-, -, h3, -⟩
    have h4 : ((k : Int) * 48 + 1) % 48 = 0 := h3
    omega
set_option maxHeartbeats 1600000 in
theorem tiles_2 (w : World) (hT : Tab w) : Calls Tryd.prog 7 #[.int .i64 2] w fun e w' => e = .returned (.bool true) ∧ QQ w w' := by
  go_enter Tryd.func7, Tryd.ntmps7
  go_wp2_with (first
    | (go_at_call 12; refine (blocks_val 2 21 rfl _ hT).mono ?_; rintro e w' ⟨rfl, rfl⟩)
    | (go_at_call 10; refine (size_val 2 48 rfl _ hT).mono ?_; rintro e w' ⟨rfl, rfl⟩))
  go_loopw [4, 5] (fun d i wr => ∃ k : Nat, (k : Int) ≤ 21 ∧ i = .int .i64 k ∧ d = .int .i64 (k * 48) ∧ QQ w wr) (fun _ i _ => (2000 - intOf i).toNat)
  case atStart => exact ⟨0, by omega, rfl, rfl, QQ.refl _⟩
  case round =>
    obtain ⟨k, hk, rfl, rfl, hq⟩ := hrel
    have hT1 := hT.q hq
    by_cases hlt : (k : Int) < 21
    · have HA := Lib.hid (tiles_2_at k hlt)
      go_wp2_with ((go_at_call 21; refine (place_val 2 k _ _ HA.out.1.1 HA.out.1.2 _ hT1).mono ?_; rintro e w2 ⟨rfl, rfl⟩))
      refine (index_val 2 (k * 48) _ _ HA.out.2.1.1 HA.out.2.1.2 (by omega) _ hT1).mono ?_
      rintro e w2 ⟨rfl, hq2⟩
      have hT2 := hT1.q hq2
      go_wp2_with fail
      refine (index_val 2 (k * 48 + 1) _ _ HA.out.2.2.1 HA.out.2.2.2 (by omega) _ hT2).mono ?_
      rintro e w3 ⟨rfl, hq3⟩
      have hT3 := hT2.q hq3
      go_wp2_with ((go_at_call 10; refine (size_val 2 48 rfl _ hT3).mono ?_; rintro e w' ⟨rfl, rfl⟩))
      go_roundw
      case rel => exact ⟨k + 1, by omega, by go_num, by rw [show ((k + 1 : Nat) : Int) * 48 = k * 48 + 48 by omega], (hq.trans hq2).trans hq3⟩
      case measure => simp [intOf]; omega
    · obtain rfl : k = 21 := by omega
      clear hlt hk
      go_wp2_with (first
        | (go_at_call 14; refine (pad_val 2 16 rfl _ hT1).mono ?_; rintro e w' ⟨rfl, rfl⟩)
        | (go_at_call 10; refine (size_val 2 48 rfl _ hT1).mono ?_; rintro e w' ⟨rfl, rfl⟩)
        | (go_at_call 16; refine (classes_true _ hT1).mono ?_; rintro e w' ⟨rfl, rfl⟩))
      go_ret
      exact ⟨rfl, hq⟩
theorem tiles_3_at (k : Nat) (h : (k : Int) < 16) : (plA 3 k = k * 64 ∧ plE 3 k = 0) ∧ (ixI 3 (k * 64) = k ∧ ixB 3 (k * 64) = true) ∧ (ixI 3 (k * 64 + 1) = 0 ∧ ixB 3 (k * 64 + 1) = false) := by
  refine ⟨⟨?_, ?_⟩, ?_, ?_⟩
  · exact (if_neg (by omega)).trans (if_neg (show ¬ ((k : Int) < 0 ∨ 16 ≤ (k : Int)) by omega))
  · exact (if_neg (by omega)).trans (if_neg (show ¬ ((k : Int) < 0 ∨ 16 ≤ (k : Int)) by omega))
  · have := ix_yes (c := 3) (t := k * 64) ⟨by omega, by omega, show ((k : Int) * 64) % 64 = 0 by omega, show ((k : Int) * 64) / 64 < 16 by omega⟩
    exact ⟨this.1.trans (show ((k : Int) * 64) / 64 = k by omega), this.2⟩
  · refine ix_no (c := 3) (t := k * 64 + 1) ?_
    rintro ⟨-, -, h3, -⟩
    have h4 : ((k : Int) * 64 + 1) % 64 = 0 := h3
    omega
set_option maxHeartbeats 1600000 in
theorem tiles_3 (w : World) (hT : Tab w) : Calls Tryd.prog 7 #[.int .i64 3] w fun e w' => e = .returned (.bool true) ∧ QQ w w' := by
  go_enter Tryd.func7, Tryd.ntmps7
  go_wp2_with (first
    | (go_at_call 12; refine (blocks_val 3 16 rfl _ hT).mono ?_; rintro e w' ⟨rfl, rfl⟩)
    | (go_at_call 10; refine (size_val 3 64 rfl _ hT).mono ?_; rintro e w' ⟨rfl, rfl⟩))
  go_loopw [4, 5] (fun d i wr => ∃ k : Nat, (k : Int) ≤ 16 ∧ i = .int .i64 k ∧ d = .int .i64 (k * 64) ∧ QQ w wr) (fun _ i _ => (2000 - intOf i).toNat)
  case atStart => exact ⟨0, by omega, rfl, rfl, QQ.refl _⟩
  case round =>
    obtain ⟨k, hk, rfl, rfl, hq⟩ := hrel
    have hT1 := hT.q hq
    by_cases hlt : (k : Int) < 16
    · have HA := Lib.hid (tiles_3_at k hlt)
      go_wp2_with ((go_at_call 21; refine (place_val 3 k _ _ HA.out.1.1 HA.out.1.2 _ hT1).mono ?_; rintro e w2 ⟨rfl, rfl⟩))
      refine (index_val 3 (k * 64) _ _ HA.out.2.1.1 HA.out.2.1.2 (by omega) _ hT1).mono ?_
      rintro e w2 ⟨rfl, hq2⟩
      have hT2 := hT1.q hq2
      go_wp2_with fail
      refine (index_val 3 (k * 64 + 1) _ _ HA.out.2.2.1 HA.out.2.2.2 (by omega) _ hT2).mono ?_
      rintro e w3 ⟨rfl, hq3⟩
      have hT3 := hT2.q hq3
      go_wp2_with ((go_at_call 10; refine (size_val 3 64 rfl _ hT3).mono ?_; rintro e w' ⟨rfl, rfl⟩))
      go_roundw
      case rel => exact ⟨k + 1, by omega, by go_num, by rw [show ((k + 1 : Nat) : Int) * 64 = k * 64 + 64 by omega], (hq.trans hq2).trans hq3⟩
      case measure => simp [intOf]; omega
    · obtain rfl : k = 16 := by omega
      clear hlt hk
      go_wp2_with (first
        | (go_at_call 14; refine (pad_val 3 0 rfl _ hT1).mono ?_; rintro e w' ⟨rfl, rfl⟩)
        | (go_at_call 10; refine (size_val 3 64 rfl _ hT1).mono ?_; rintro e w' ⟨rfl, rfl⟩)
        | (go_at_call 16; refine (classes_true _ hT1).mono ?_; rintro e w' ⟨rfl, rfl⟩))
      go_ret
      exact ⟨rfl, hq⟩
theorem tiles_4_at (k : Nat) (h : (k : Int) < 10) : (plA 4 k = k * 96 ∧ plE 4 k = 0) ∧ (ixI 4 (k * 96) = k ∧ ixB 4 (k * 96) = true) ∧ (ixI 4 (k * 96 + 1) = 0 ∧ ixB 4 (k * 96 + 1) = false) := by
  refine ⟨⟨?_, ?_⟩, ?_, ?_⟩
  · exact (if_neg (by omega)).trans (if_neg (show ¬ ((k : Int) < 0 ∨ 10 ≤ (k : Int)) by omega))
  · exact (if_neg (by omega)).trans (if_neg (show ¬ ((k : Int) < 0 ∨ 10 ≤ (k : Int)) by omega))
  · have := ix_yes (c := 4) (t := k * 96) ⟨by omega, by omega, show ((k : Int) * 96) % 96 = 0 by omega, show ((k : Int) * 96) / 96 < 10 by omega⟩
    exact ⟨this.1.trans (show ((k : Int) * 96) / 96 = k by omega), this.2⟩
  · refine ix_no (c := 4) (t := k * 96 + 1) ?_
    rintro ⟨-, -, h3, -⟩
    have h4 : ((k : Int) * 96 + 1) % 96 = 0 := h3
    omega
set_option maxHeartbeats 1600000 in
theorem tiles_4 (w : World) (hT : Tab w) : Calls Tryd.prog 7 #[.int .i64 4] w fun e w' => e = .returned (.bool true) ∧ QQ w w' := by
  go_enter Tryd.func7, Tryd.ntmps7
  go_wp2_with (first
    | (go_at_call 12; refine (blocks_val 4 10 rfl _ hT).mono ?_; rintro e w' ⟨rfl, rfl⟩)
    | (go_at_call 10; refine (size_val 4 96 rfl _ hT).mono ?_; rintro e w' ⟨rfl, rfl⟩))
  go_loopw [4, 5] (fun d i wr => ∃ k : Nat, (k : Int) ≤ 10 ∧ i = .int .i64 k ∧ d = .int .i64 (k * 96) ∧ QQ w wr) (fun _ i _ => (2000 - intOf i).toNat)
  case atStart => exact ⟨0, by omega, rfl, rfl, QQ.refl _⟩
  case round =>
    obtain ⟨k, hk, rfl, rfl, hq⟩ := hrel
    have hT1 := hT.q hq
    by_cases hlt : (k : Int) < 10
    · have HA := Lib.hid (tiles_4_at k hlt)
      go_wp2_with ((go_at_call 21; refine (place_val 4 k _ _ HA.out.1.1 HA.out.1.2 _ hT1).mono ?_; rintro e w2 ⟨rfl, rfl⟩))
      refine (index_val 4 (k * 96) _ _ HA.out.2.1.1 HA.out.2.1.2 (by omega) _ hT1).mono ?_
      rintro e w2 ⟨rfl, hq2⟩
      have hT2 := hT1.q hq2
      go_wp2_with fail
      refine (index_val 4 (k * 96 + 1) _ _ HA.out.2.2.1 HA.out.2.2.2 (by omega) _ hT2).mono ?_
      rintro e w3 ⟨rfl, hq3⟩
      have hT3 := hT2.q hq3
      go_wp2_with ((go_at_call 10; refine (size_val 4 96 rfl _ hT3).mono ?_; rintro e w' ⟨rfl, rfl⟩))
      go_roundw
      case rel => exact ⟨k + 1, by omega, by go_num, by rw [show ((k + 1 : Nat) : Int) * 96 = k * 96 + 96 by omega], (hq.trans hq2).trans hq3⟩
      case measure => simp [intOf]; omega
    · obtain rfl : k = 10 := by omega
      clear hlt hk
      go_wp2_with (first
        | (go_at_call 14; refine (pad_val 4 64 rfl _ hT1).mono ?_; rintro e w' ⟨rfl, rfl⟩)
        | (go_at_call 10; refine (size_val 4 96 rfl _ hT1).mono ?_; rintro e w' ⟨rfl, rfl⟩)
        | (go_at_call 16; refine (classes_true _ hT1).mono ?_; rintro e w' ⟨rfl, rfl⟩))
      go_ret
      exact ⟨rfl, hq⟩
theorem tiles_5_at (k : Nat) (h : (k : Int) < 8) : (plA 5 k = k * 128 ∧ plE 5 k = 0) ∧ (ixI 5 (k * 128) = k ∧ ixB 5 (k * 128) = true) ∧ (ixI 5 (k * 128 + 1) = 0 ∧ ixB 5 (k * 128 + 1) = false) := by
  refine ⟨⟨?_, ?_⟩, ?_, ?_⟩
  · exact (if_neg (by omega)).trans (if_neg (show ¬ ((k : Int) < 0 ∨ 8 ≤ (k : Int)) by omega))
  · exact (if_neg (by omega)).trans (if_neg (show ¬ ((k : Int) < 0 ∨ 8 ≤ (k : Int)) by omega))
  · have := ix_yes (c := 5) (t := k * 128) ⟨by omega, by omega, show ((k : Int) * 128) % 128 = 0 by omega, show ((k : Int) * 128) / 128 < 8 by omega⟩
    exact ⟨this.1.trans (show ((k : Int) * 128) / 128 = k by omega), this.2⟩
  · refine ix_no (c := 5) (t := k * 128 + 1) ?_
    rintro ⟨-, -, h3, -⟩
    have h4 : ((k : Int) * 128 + 1) % 128 = 0 := h3
    omega
set_option maxHeartbeats 1600000 in
theorem tiles_5 (w : World) (hT : Tab w) : Calls Tryd.prog 7 #[.int .i64 5] w fun e w' => e = .returned (.bool true) ∧ QQ w w' := by
  go_enter Tryd.func7, Tryd.ntmps7
  go_wp2_with (first
    | (go_at_call 12; refine (blocks_val 5 8 rfl _ hT).mono ?_; rintro e w' ⟨rfl, rfl⟩)
    | (go_at_call 10; refine (size_val 5 128 rfl _ hT).mono ?_; rintro e w' ⟨rfl, rfl⟩))
  go_loopw [4, 5] (fun d i wr => ∃ k : Nat, (k : Int) ≤ 8 ∧ i = .int .i64 k ∧ d = .int .i64 (k * 128) ∧ QQ w wr) (fun _ i _ => (2000 - intOf i).toNat)
  case atStart => exact ⟨0, by omega, rfl, rfl, QQ.refl _⟩
  case round =>
    obtain ⟨k, hk, rfl, rfl, hq⟩ := hrel
    have hT1 := hT.q hq
    by_cases hlt : (k : Int) < 8
    · have HA := Lib.hid (tiles_5_at k hlt)
      go_wp2_with ((go_at_call 21; refine (place_val 5 k _ _ HA.out.1.1 HA.out.1.2 _ hT1).mono ?_; rintro e w2 ⟨rfl, rfl⟩))
      refine (index_val 5 (k * 128) _ _ HA.out.2.1.1 HA.out.2.1.2 (by omega) _ hT1).mono ?_
      rintro e w2 ⟨rfl, hq2⟩
      have hT2 := hT1.q hq2
      go_wp2_with fail
      refine (index_val 5 (k * 128 + 1) _ _ HA.out.2.2.1 HA.out.2.2.2 (by omega) _ hT2).mono ?_
      rintro e w3 ⟨rfl, hq3⟩
      have hT3 := hT2.q hq3
      go_wp2_with ((go_at_call 10; refine (size_val 5 128 rfl _ hT3).mono ?_; rintro e w' ⟨rfl, rfl⟩))
      go_roundw
      case rel => exact ⟨k + 1, by omega, by go_num, by rw [show ((k + 1 : Nat) : Int) * 128 = k * 128 + 128 by omega], (hq.trans hq2).trans hq3⟩
      case measure => simp [intOf]; omega
    · obtain rfl : k = 8 := by omega
      clear hlt hk
      go_wp2_with (first
        | (go_at_call 14; refine (pad_val 5 0 rfl _ hT1).mono ?_; rintro e w' ⟨rfl, rfl⟩)
        | (go_at_call 10; refine (size_val 5 128 rfl _ hT1).mono ?_; rintro e w' ⟨rfl, rfl⟩)
        | (go_at_call 16; refine (classes_true _ hT1).mono ?_; rintro e w' ⟨rfl, rfl⟩))
      go_ret
      exact ⟨rfl, hq⟩
theorem tiles_6_at (k : Nat) (h : (k : Int) < 5) : (plA 6 k = k * 192 ∧ plE 6 k = 0) ∧ (ixI 6 (k * 192) = k ∧ ixB 6 (k * 192) = true) ∧ (ixI 6 (k * 192 + 1) = 0 ∧ ixB 6 (k * 192 + 1) = false) := by
  refine ⟨⟨?_, ?_⟩, ?_, ?_⟩
  · exact (if_neg (by omega)).trans (if_neg (show ¬ ((k : Int) < 0 ∨ 5 ≤ (k : Int)) by omega))
  · exact (if_neg (by omega)).trans (if_neg (show ¬ ((k : Int) < 0 ∨ 5 ≤ (k : Int)) by omega))
  · have := ix_yes (c := 6) (t := k * 192) ⟨by omega, by omega, show ((k : Int) * 192) % 192 = 0 by omega, show ((k : Int) * 192) / 192 < 5 by omega⟩
    exact ⟨this.1.trans (show ((k : Int) * 192) / 192 = k by omega), this.2⟩
  · refine ix_no (c := 6) (t := k * 192 + 1) ?_
    rintro ⟨-, -, h3, -⟩
    have h4 : ((k : Int) * 192 + 1) % 192 = 0 := h3
    omega
set_option maxHeartbeats 1600000 in
theorem tiles_6 (w : World) (hT : Tab w) : Calls Tryd.prog 7 #[.int .i64 6] w fun e w' => e = .returned (.bool true) ∧ QQ w w' := by
  go_enter Tryd.func7, Tryd.ntmps7
  go_wp2_with (first
    | (go_at_call 12; refine (blocks_val 6 5 rfl _ hT).mono ?_; rintro e w' ⟨rfl, rfl⟩)
    | (go_at_call 10; refine (size_val 6 192 rfl _ hT).mono ?_; rintro e w' ⟨rfl, rfl⟩))
  go_loopw [4, 5] (fun d i wr => ∃ k : Nat, (k : Int) ≤ 5 ∧ i = .int .i64 k ∧ d = .int .i64 (k * 192) ∧ QQ w wr) (fun _ i _ => (2000 - intOf i).toNat)
  case atStart => exact ⟨0, by omega, rfl, rfl, QQ.refl _⟩
  case round =>
    obtain ⟨k, hk, rfl, rfl, hq⟩ := hrel
    have hT1 := hT.q hq
    by_cases hlt : (k : Int) < 5
    · have HA := Lib.hid (tiles_6_at k hlt)
      go_wp2_with ((go_at_call 21; refine (place_val 6 k _ _ HA.out.1.1 HA.out.1.2 _ hT1).mono ?_; rintro e w2 ⟨rfl, rfl⟩))
      refine (index_val 6 (k * 192) _ _ HA.out.2.1.1 HA.out.2.1.2 (by omega) _ hT1).mono ?_
      rintro e w2 ⟨rfl, hq2⟩
      have hT2 := hT1.q hq2
      go_wp2_with fail
      refine (index_val 6 (k * 192 + 1) _ _ HA.out.2.2.1 HA.out.2.2.2 (by omega) _ hT2).mono ?_
      rintro e w3 ⟨rfl, hq3⟩
      have hT3 := hT2.q hq3
      go_wp2_with ((go_at_call 10; refine (size_val 6 192 rfl _ hT3).mono ?_; rintro e w' ⟨rfl, rfl⟩))
      go_roundw
      case rel => exact ⟨k + 1, by omega, by go_num, by rw [show ((k + 1 : Nat) : Int) * 192 = k * 192 + 192 by omega], (hq.trans hq2).trans hq3⟩
      case measure => simp [intOf]; omega
    · obtain rfl : k = 5 := by omega
      clear hlt hk
      go_wp2_with (first
        | (go_at_call 14; refine (pad_val 6 64 rfl _ hT1).mono ?_; rintro e w' ⟨rfl, rfl⟩)
        | (go_at_call 10; refine (size_val 6 192 rfl _ hT1).mono ?_; rintro e w' ⟨rfl, rfl⟩)
        | (go_at_call 16; refine (classes_true _ hT1).mono ?_; rintro e w' ⟨rfl, rfl⟩))
      go_ret
      exact ⟨rfl, hq⟩
theorem tiles_7_at (k : Nat) (h : (k : Int) < 4) : (plA 7 k = k * 256 ∧ plE 7 k = 0) ∧ (ixI 7 (k * 256) = k ∧ ixB 7 (k * 256) = true) ∧ (ixI 7 (k * 256 + 1) = 0 ∧ ixB 7 (k * 256 + 1) = false) := by
  refine ⟨⟨?_, ?_⟩, ?_, ?_⟩
  · exact (if_neg (by omega)).trans (if_neg (show ¬ ((k : Int) < 0 ∨ 4 ≤ (k : Int)) by omega))
  · exact (if_neg (by omega)).trans (if_neg (show ¬ ((k : Int) < 0 ∨ 4 ≤ (k : Int)) by omega))
  · have := ix_yes (c := 7) (t := k * 256) ⟨by omega, by omega, show ((k : Int) * 256) % 256 = 0 by omega, show ((k : Int) * 256) / 256 < 4 by omega⟩
    exact ⟨this.1.trans (show ((k : Int) * 256) / 256 = k by omega), this.2⟩
  · refine ix_no (c := 7) (t := k * 256 + 1) ?_
    rintro ⟨-, -, h3, -⟩
    have h4 : ((k : Int) * 256 + 1) % 256 = 0 := h3
    omega
set_option maxHeartbeats 1600000 in
theorem tiles_7 (w : World) (hT : Tab w) : Calls Tryd.prog 7 #[.int .i64 7] w fun e w' => e = .returned (.bool true) ∧ QQ w w' := by
  go_enter Tryd.func7, Tryd.ntmps7
  go_wp2_with (first
    | (go_at_call 12; refine (blocks_val 7 4 rfl _ hT).mono ?_; rintro e w' ⟨rfl, rfl⟩)
    | (go_at_call 10; refine (size_val 7 256 rfl _ hT).mono ?_; rintro e w' ⟨rfl, rfl⟩))
  go_loopw [4, 5] (fun d i wr => ∃ k : Nat, (k : Int) ≤ 4 ∧ i = .int .i64 k ∧ d = .int .i64 (k * 256) ∧ QQ w wr) (fun _ i _ => (2000 - intOf i).toNat)
  case atStart => exact ⟨0, by omega, rfl, rfl, QQ.refl _⟩
  case round =>
    obtain ⟨k, hk, rfl, rfl, hq⟩ := hrel
    have hT1 := hT.q hq
    by_cases hlt : (k : Int) < 4
    · have HA := Lib.hid (tiles_7_at k hlt)
      go_wp2_with ((go_at_call 21; refine (place_val 7 k _ _ HA.out.1.1 HA.out.1.2 _ hT1).mono ?_; rintro e w2 ⟨rfl, rfl⟩))
      refine (index_val 7 (k * 256) _ _ HA.out.2.1.1 HA.out.2.1.2 (by omega) _ hT1).mono ?_
      rintro e w2 ⟨rfl, hq2⟩
      have hT2 := hT1.q hq2
      go_wp2_with fail
      refine (index_val 7 (k * 256 + 1) _ _ HA.out.2.2.1 HA.out.2.2.2 (by omega) _ hT2).mono ?_
      rintro e w3 ⟨rfl, hq3⟩
      have hT3 := hT2.q hq3
      go_wp2_with ((go_at_call 10; refine (size_val 7 256 rfl _ hT3).mono ?_; rintro e w' ⟨rfl, rfl⟩))
      go_roundw
      case rel => exact ⟨k + 1, by omega, by go_num, by rw [show ((k + 1 : Nat) : Int) * 256 = k * 256 + 256 by omega], (hq.trans hq2).trans hq3⟩
      case measure => simp [intOf]; omega
    · obtain rfl : k = 4 := by omega
      clear hlt hk
      go_wp2_with (first
        | (go_at_call 14; refine (pad_val 7 0 rfl _ hT1).mono ?_; rintro e w' ⟨rfl, rfl⟩)
        | (go_at_call 10; refine (size_val 7 256 rfl _ hT1).mono ?_; rintro e w' ⟨rfl, rfl⟩)
        | (go_at_call 16; refine (classes_true _ hT1).mono ?_; rintro e w' ⟨rfl, rfl⟩))
      go_ret
      exact ⟨rfl, hq⟩
theorem tiles_8_at (k : Nat) (h : (k : Int) < 2) : (plA 8 k = k * 384 ∧ plE 8 k = 0) ∧ (ixI 8 (k * 384) = k ∧ ixB 8 (k * 384) = true) ∧ (ixI 8 (k * 384 + 1) = 0 ∧ ixB 8 (k * 384 + 1) = false) := by
  refine ⟨⟨?_, ?_⟩, ?_, ?_⟩
  · exact (if_neg (by omega)).trans (if_neg (show ¬ ((k : Int) < 0 ∨ 2 ≤ (k : Int)) by omega))
  · exact (if_neg (by omega)).trans (if_neg (show ¬ ((k : Int) < 0 ∨ 2 ≤ (k : Int)) by omega))
  · have := ix_yes (c := 8) (t := k * 384) ⟨by omega, by omega, show ((k : Int) * 384) % 384 = 0 by omega, show ((k : Int) * 384) / 384 < 2 by omega⟩
    exact ⟨this.1.trans (show ((k : Int) * 384) / 384 = k by omega), this.2⟩
  · refine ix_no (c := 8) (t := k * 384 + 1) ?_
    rintro ⟨-, -, h3, -⟩
    have h4 : ((k : Int) * 384 + 1) % 384 = 0 := h3
    omega
set_option maxHeartbeats 1600000 in
theorem tiles_8 (w : World) (hT : Tab w) : Calls Tryd.prog 7 #[.int .i64 8] w fun e w' => e = .returned (.bool true) ∧ QQ w w' := by
  go_enter Tryd.func7, Tryd.ntmps7
  go_wp2_with (first
    | (go_at_call 12; refine (blocks_val 8 2 rfl _ hT).mono ?_; rintro e w' ⟨rfl, rfl⟩)
    | (go_at_call 10; refine (size_val 8 384 rfl _ hT).mono ?_; rintro e w' ⟨rfl, rfl⟩))
  go_loopw [4, 5] (fun d i wr => ∃ k : Nat, (k : Int) ≤ 2 ∧ i = .int .i64 k ∧ d = .int .i64 (k * 384) ∧ QQ w wr) (fun _ i _ => (2000 - intOf i).toNat)
  case atStart => exact ⟨0, by omega, rfl, rfl, QQ.refl _⟩
  case round =>
    obtain ⟨k, hk, rfl, rfl, hq⟩ := hrel
    have hT1 := hT.q hq
    by_cases hlt : (k : Int) < 2
    · have HA := Lib.hid (tiles_8_at k hlt)
      go_wp2_with ((go_at_call 21; refine (place_val 8 k _ _ HA.out.1.1 HA.out.1.2 _ hT1).mono ?_; rintro e w2 ⟨rfl, rfl⟩))
      refine (index_val 8 (k * 384) _ _ HA.out.2.1.1 HA.out.2.1.2 (by omega) _ hT1).mono ?_
      rintro e w2 ⟨rfl, hq2⟩
      have hT2 := hT1.q hq2
      go_wp2_with fail
      refine (index_val 8 (k * 384 + 1) _ _ HA.out.2.2.1 HA.out.2.2.2 (by omega) _ hT2).mono ?_
      rintro e w3 ⟨rfl, hq3⟩
      have hT3 := hT2.q hq3
      go_wp2_with ((go_at_call 10; refine (size_val 8 384 rfl _ hT3).mono ?_; rintro e w' ⟨rfl, rfl⟩))
      go_roundw
      case rel => exact ⟨k + 1, by omega, by go_num, by rw [show ((k + 1 : Nat) : Int) * 384 = k * 384 + 384 by omega], (hq.trans hq2).trans hq3⟩
      case measure => simp [intOf]; omega
    · obtain rfl : k = 2 := by omega
      clear hlt hk
      go_wp2_with (first
        | (go_at_call 14; refine (pad_val 8 256 rfl _ hT1).mono ?_; rintro e w' ⟨rfl, rfl⟩)
        | (go_at_call 10; refine (size_val 8 384 rfl _ hT1).mono ?_; rintro e w' ⟨rfl, rfl⟩)
        | (go_at_call 16; refine (classes_true _ hT1).mono ?_; rintro e w' ⟨rfl, rfl⟩))
      go_ret
      exact ⟨rfl, hq⟩
theorem tiles_9_at (k : Nat) (h : (k : Int) < 2) : (plA 9 k = k * 512 ∧ plE 9 k = 0) ∧ (ixI 9 (k * 512) = k ∧ ixB 9 (k * 512) = true) ∧ (ixI 9 (k * 512 + 1) = 0 ∧ ixB 9 (k * 512 + 1) = false) := by
  refine ⟨⟨?_, ?_⟩, ?_, ?_⟩
  · exact (if_neg (by omega)).trans (if_neg (show ¬ ((k : Int) < 0 ∨ 2 ≤ (k : Int)) by omega))
  · exact (if_neg (by omega)).trans (if_neg (show ¬ ((k : Int) < 0 ∨ 2 ≤ (k : Int)) by omega))
  · have := ix_yes (c := 9) (t := k * 512) ⟨by omega, by omega, show ((k : Int) * 512) % 512 = 0 by omega, show ((k : Int) * 512) / 512 < 2 by omega⟩
    exact ⟨this.1.trans (show ((k : Int) * 512) / 512 = k by omega), this.2⟩
  · refine ix_no (c := 9) (t := k * 512 + 1) ?_
    rintro ⟨-, -, h3, -⟩
    have h4 : ((k : Int) * 512 + 1) % 512 = 0 := h3
    omega
set_option maxHeartbeats 1600000 in
theorem tiles_9 (w : World) (hT : Tab w) : Calls Tryd.prog 7 #[.int .i64 9] w fun e w' => e = .returned (.bool true) ∧ QQ w w' := by
  go_enter Tryd.func7, Tryd.ntmps7
  go_wp2_with (first
    | (go_at_call 12; refine (blocks_val 9 2 rfl _ hT).mono ?_; rintro e w' ⟨rfl, rfl⟩)
    | (go_at_call 10; refine (size_val 9 512 rfl _ hT).mono ?_; rintro e w' ⟨rfl, rfl⟩))
  go_loopw [4, 5] (fun d i wr => ∃ k : Nat, (k : Int) ≤ 2 ∧ i = .int .i64 k ∧ d = .int .i64 (k * 512) ∧ QQ w wr) (fun _ i _ => (2000 - intOf i).toNat)
  case atStart => exact ⟨0, by omega, rfl, rfl, QQ.refl _⟩
  case round =>
    obtain ⟨k, hk, rfl, rfl, hq⟩ := hrel
    have hT1 := hT.q hq
    by_cases hlt : (k : Int) < 2
    · have HA := Lib.hid (tiles_9_at k hlt)
      go_wp2_with ((go_at_call 21; refine (place_val 9 k _ _ HA.out.1.1 HA.out.1.2 _ hT1).mono ?_; rintro e w2 ⟨rfl, rfl⟩))
      refine (index_val 9 (k * 512) _ _ HA.out.2.1.1 HA.out.2.1.2 (by omega) _ hT1).mono ?_
      rintro e w2 ⟨rfl, hq2⟩
      have hT2 := hT1.q hq2
      go_wp2_with fail
      refine (index_val 9 (k * 512 + 1) _ _ HA.out.2.2.1 HA.out.2.2.2 (by omega) _ hT2).mono ?_
      rintro e w3 ⟨rfl, hq3⟩
      have hT3 := hT2.q hq3
      go_wp2_with ((go_at_call 10; refine (size_val 9 512 rfl _ hT3).mono ?_; rintro e w' ⟨rfl, rfl⟩))
      go_roundw
      case rel => exact ⟨k + 1, by omega, by go_num, by rw [show ((k + 1 : Nat) : Int) * 512 = k * 512 + 512 by omega], (hq.trans hq2).trans hq3⟩
      case measure => simp [intOf]; omega
    · obtain rfl : k = 2 := by omega
      clear hlt hk
      go_wp2_with (first
        | (go_at_call 14; refine (pad_val 9 0 rfl _ hT1).mono ?_; rintro e w' ⟨rfl, rfl⟩)
        | (go_at_call 10; refine (size_val 9 512 rfl _ hT1).mono ?_; rintro e w' ⟨rfl, rfl⟩)
        | (go_at_call 16; refine (classes_true _ hT1).mono ?_; rintro e w' ⟨rfl, rfl⟩))
      go_ret
      exact ⟨rfl, hq⟩
theorem tiles_walk (c : Int) (w : World) (hT : Tab w) : Calls Tryd.prog 7 #[.int .i64 c] w fun e w' => e = .returned (.bool true) ∧ QQ w w' := by
  rcases c_cases c with h | h | rfl | rfl | rfl | rfl | rfl | rfl | rfl | rfl | rfl
  · exact tiles_out c w hT (.inl h)
  · exact tiles_out c w hT (.inr h)
  · exact tiles_1 w hT
  · exact tiles_2 w hT
  · exact tiles_3 w hT
  · exact tiles_4 w hT
  · exact tiles_5 w hT
  · exact tiles_6 w hT
  · exact tiles_7 w hT
  · exact tiles_8 w hT
  · exact tiles_9 w hT
end Cls
end Go.Proofs.YteekbpcifiojlaaDoor
