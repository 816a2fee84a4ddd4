/- The contracts of layer 8, third part: Of, Blocks, Pad, Place, Index, Entry, Node of the package and of the reference. Condition for the package: the table class.sizes holds its ten numbers. -/
import Derived.Test.YteekbpcifiojlaaDoorClassB
namespace Go.Proofs.YteekbpcifiojlaaDoor
open Go.RowKit
namespace Cls

theorem of_any_lo (s : Int) (w : World) (h : s < 1) : Calls Tryd.prog 8 #[.int .i64 s] w fun e w' => e = .returned (.tuple #[.int .i64 (ofC s), .int .i64 (ofE s)]) ∧ w = w' := by
  have H := Lib.hid (show ofC s = 0 ∧ ofE s = 2 from ⟨if_pos h, if_pos h⟩)
  go_enter Tryd.func8, Tryd.ntmps8
  go_wp2
  go_ret2
  exact ⟨ret_two H.out, rfl⟩
set_option maxHeartbeats 1600000 in
theorem of_any_hi (s : Int) (w : World) (h : 1 ≤ s) (hT : Tab w) : Calls Tryd.prog 8 #[.int .i64 s] w fun e w' => e = .returned (.tuple #[.int .i64 (ofC s), .int .i64 (ofE s)]) ∧ w = w' := by
  obtain ⟨t, fr, hg⟩ := hT
  have i0 : ∀ w, (Instr.index 36 (.agg #[.int .i64 0, .int .i64 32, .int .i64 48, .int .i64 64, .int .i64 96, .int .i64 128, .int .i64 192, .int .i64 256, .int .i64 384, .int .i64 512]) (.int .i64 0)).run Tryd.prog w = .ok (.int .i64 0) w := fun _ => by kernel_rfl
  have i1 : ∀ w, (Instr.index 36 (.agg #[.int .i64 0, .int .i64 32, .int .i64 48, .int .i64 64, .int .i64 96, .int .i64 128, .int .i64 192, .int .i64 256, .int .i64 384, .int .i64 512]) (.int .i64 1)).run Tryd.prog w = .ok (.int .i64 32) w := fun _ => by kernel_rfl
  have i2 : ∀ w, (Instr.index 36 (.agg #[.int .i64 0, .int .i64 32, .int .i64 48, .int .i64 64, .int .i64 96, .int .i64 128, .int .i64 192, .int .i64 256, .int .i64 384, .int .i64 512]) (.int .i64 2)).run Tryd.prog w = .ok (.int .i64 48) w := fun _ => by kernel_rfl
  have i3 : ∀ w, (Instr.index 36 (.agg #[.int .i64 0, .int .i64 32, .int .i64 48, .int .i64 64, .int .i64 96, .int .i64 128, .int .i64 192, .int .i64 256, .int .i64 384, .int .i64 512]) (.int .i64 3)).run Tryd.prog w = .ok (.int .i64 64) w := fun _ => by kernel_rfl
  have i4 : ∀ w, (Instr.index 36 (.agg #[.int .i64 0, .int .i64 32, .int .i64 48, .int .i64 64, .int .i64 96, .int .i64 128, .int .i64 192, .int .i64 256, .int .i64 384, .int .i64 512]) (.int .i64 4)).run Tryd.prog w = .ok (.int .i64 96) w := fun _ => by kernel_rfl
  have i5 : ∀ w, (Instr.index 36 (.agg #[.int .i64 0, .int .i64 32, .int .i64 48, .int .i64 64, .int .i64 96, .int .i64 128, .int .i64 192, .int .i64 256, .int .i64 384, .int .i64 512]) (.int .i64 5)).run Tryd.prog w = .ok (.int .i64 128) w := fun _ => by kernel_rfl
  have i6 : ∀ w, (Instr.index 36 (.agg #[.int .i64 0, .int .i64 32, .int .i64 48, .int .i64 64, .int .i64 96, .int .i64 128, .int .i64 192, .int .i64 256, .int .i64 384, .int .i64 512]) (.int .i64 6)).run Tryd.prog w = .ok (.int .i64 192) w := fun _ => by kernel_rfl
  have i7 : ∀ w, (Instr.index 36 (.agg #[.int .i64 0, .int .i64 32, .int .i64 48, .int .i64 64, .int .i64 96, .int .i64 128, .int .i64 192, .int .i64 256, .int .i64 384, .int .i64 512]) (.int .i64 7)).run Tryd.prog w = .ok (.int .i64 256) w := fun _ => by kernel_rfl
  have i8 : ∀ w, (Instr.index 36 (.agg #[.int .i64 0, .int .i64 32, .int .i64 48, .int .i64 64, .int .i64 96, .int .i64 128, .int .i64 192, .int .i64 256, .int .i64 384, .int .i64 512]) (.int .i64 8)).run Tryd.prog w = .ok (.int .i64 384) w := fun _ => by kernel_rfl
  have i9 : ∀ w, (Instr.index 36 (.agg #[.int .i64 0, .int .i64 32, .int .i64 48, .int .i64 64, .int .i64 96, .int .i64 128, .int .i64 192, .int .i64 256, .int .i64 384, .int .i64 512]) (.int .i64 9)).run Tryd.prog w = .ok (.int .i64 512) w := fun _ => by kernel_rfl
  go_enter Tryd.func8, Tryd.ntmps8
  go_wp2_with (refine wpList_load_row rfl 36 _ rfl 0 rfl t _ fr _ hg Tryd.underlying36 rfl (by kernel_rfl) ?_)
  go_loop [9] (fun i => (i = .int .i64 0 ∧ 0 < s) ∨ (i = .int .i64 1 ∧ 0 < s) ∨ (i = .int .i64 2 ∧ 32 < s) ∨ (i = .int .i64 3 ∧ 48 < s) ∨ (i = .int .i64 4 ∧ 64 < s) ∨ (i = .int .i64 5 ∧ 96 < s) ∨ (i = .int .i64 6 ∧ 128 < s) ∨ (i = .int .i64 7 ∧ 192 < s) ∨ (i = .int .i64 8 ∧ 256 < s) ∨ (i = .int .i64 9 ∧ 384 < s) ∨ (i = .int .i64 10 ∧ 512 < s)) (fun i => (20 - intOf i).toNat)
  case atStart => exact .inl ⟨rfl, by omega⟩
  case round =>
    rcases hrel with ⟨rfl, hlo⟩ | ⟨rfl, hlo⟩ | ⟨rfl, hlo⟩ | ⟨rfl, hlo⟩ | ⟨rfl, hlo⟩ | ⟨rfl, hlo⟩ | ⟨rfl, hlo⟩ | ⟨rfl, hlo⟩ | ⟨rfl, hlo⟩ | ⟨rfl, hlo⟩ | ⟨rfl, hlo⟩
    · go_wp2
      go_round
      case rel => exact .inr <| .inl <| ⟨rfl, by omega⟩
      case measure => simp [intOf]
    · by_cases hs : s ≤ 32
      · have H := Lib.hid (show ofC s = 1 ∧ ofE s = 0 from ⟨(by unfold ofC; repeat (first | rw [if_pos (by omega)] | rw [if_neg (by omega)])), (by unfold ofE; repeat (first | rw [if_pos (by omega)] | rw [if_neg (by omega)]))⟩)
        go_wp2
        go_ret2
        exact ⟨ret_two H.out, rfl⟩
      · go_wp2
        go_round
        case rel => exact .inr <| .inr <| .inl <| ⟨rfl, by omega⟩
        case measure => simp [intOf]
    · by_cases hs : s ≤ 48
      · have H := Lib.hid (show ofC s = 2 ∧ ofE s = 0 from ⟨(by unfold ofC; repeat (first | rw [if_pos (by omega)] | rw [if_neg (by omega)])), (by unfold ofE; repeat (first | rw [if_pos (by omega)] | rw [if_neg (by omega)]))⟩)
        go_wp2
        go_ret2
        exact ⟨ret_two H.out, rfl⟩
      · go_wp2
        go_round
        case rel => exact .inr <| .inr <| .inr <| .inl <| ⟨rfl, by omega⟩
        case measure => simp [intOf]
    · by_cases hs : s ≤ 64
      · have H := Lib.hid (show ofC s = 3 ∧ ofE s = 0 from ⟨(by unfold ofC; repeat (first | rw [if_pos (by omega)] | rw [if_neg (by omega)])), (by unfold ofE; repeat (first | rw [if_pos (by omega)] | rw [if_neg (by omega)]))⟩)
        go_wp2
        go_ret2
        exact ⟨ret_two H.out, rfl⟩
      · go_wp2
        go_round
        case rel => exact .inr <| .inr <| .inr <| .inr <| .inl <| ⟨rfl, by omega⟩
        case measure => simp [intOf]
    · by_cases hs : s ≤ 96
      · have H := Lib.hid (show ofC s = 4 ∧ ofE s = 0 from ⟨(by unfold ofC; repeat (first | rw [if_pos (by omega)] | rw [if_neg (by omega)])), (by unfold ofE; repeat (first | rw [if_pos (by omega)] | rw [if_neg (by omega)]))⟩)
        go_wp2
        go_ret2
        exact ⟨ret_two H.out, rfl⟩
      · go_wp2
        go_round
        case rel => exact .inr <| .inr <| .inr <| .inr <| .inr <| .inl <| ⟨rfl, by omega⟩
        case measure => simp [intOf]
    · by_cases hs : s ≤ 128
      · have H := Lib.hid (show ofC s = 5 ∧ ofE s = 0 from ⟨(by unfold ofC; repeat (first | rw [if_pos (by omega)] | rw [if_neg (by omega)])), (by unfold ofE; repeat (first | rw [if_pos (by omega)] | rw [if_neg (by omega)]))⟩)
        go_wp2
        go_ret2
        exact ⟨ret_two H.out, rfl⟩
      · go_wp2
        go_round
        case rel => exact .inr <| .inr <| .inr <| .inr <| .inr <| .inr <| .inl <| ⟨rfl, by omega⟩
        case measure => simp [intOf]
    · by_cases hs : s ≤ 192
      · have H := Lib.hid (show ofC s = 6 ∧ ofE s = 0 from ⟨(by unfold ofC; repeat (first | rw [if_pos (by omega)] | rw [if_neg (by omega)])), (by unfold ofE; repeat (first | rw [if_pos (by omega)] | rw [if_neg (by omega)]))⟩)
        go_wp2
        go_ret2
        exact ⟨ret_two H.out, rfl⟩
      · go_wp2
        go_round
        case rel => exact .inr <| .inr <| .inr <| .inr <| .inr <| .inr <| .inr <| .inl <| ⟨rfl, by omega⟩
        case measure => simp [intOf]
    · by_cases hs : s ≤ 256
      · have H := Lib.hid (show ofC s = 7 ∧ ofE s = 0 from ⟨(by unfold ofC; repeat (first | rw [if_pos (by omega)] | rw [if_neg (by omega)])), (by unfold ofE; repeat (first | rw [if_pos (by omega)] | rw [if_neg (by omega)]))⟩)
        go_wp2
        go_ret2
        exact ⟨ret_two H.out, rfl⟩
      · go_wp2
        go_round
        case rel => exact .inr <| .inr <| .inr <| .inr <| .inr <| .inr <| .inr <| .inr <| .inl <| ⟨rfl, by omega⟩
        case measure => simp [intOf]
    · by_cases hs : s ≤ 384
      · have H := Lib.hid (show ofC s = 8 ∧ ofE s = 0 from ⟨(by unfold ofC; repeat (first | rw [if_pos (by omega)] | rw [if_neg (by omega)])), (by unfold ofE; repeat (first | rw [if_pos (by omega)] | rw [if_neg (by omega)]))⟩)
        go_wp2
        go_ret2
        exact ⟨ret_two H.out, rfl⟩
      · go_wp2
        go_round
        case rel => exact .inr <| .inr <| .inr <| .inr <| .inr <| .inr <| .inr <| .inr <| .inr <| .inl <| ⟨rfl, by omega⟩
        case measure => simp [intOf]
    · by_cases hs : s ≤ 512
      · have H := Lib.hid (show ofC s = 9 ∧ ofE s = 0 from ⟨(by unfold ofC; repeat (first | rw [if_pos (by omega)] | rw [if_neg (by omega)])), (by unfold ofE; repeat (first | rw [if_pos (by omega)] | rw [if_neg (by omega)]))⟩)
        go_wp2
        go_ret2
        exact ⟨ret_two H.out, rfl⟩
      · go_wp2
        go_round
        case rel => exact .inr <| .inr <| .inr <| .inr <| .inr <| .inr <| .inr <| .inr <| .inr <| .inr <| ⟨rfl, by omega⟩
        case measure => simp [intOf]
    · have H := Lib.hid (show ofC s = 0 ∧ ofE s = 22 from ⟨(by unfold ofC; repeat (first | rw [if_pos (by omega)] | rw [if_neg (by omega)])), (by unfold ofE; repeat (first | rw [if_pos (by omega)] | rw [if_neg (by omega)]))⟩)
      go_wp2
      go_ret2
      exact ⟨ret_two H.out, rfl⟩
theorem of_any (s : Int) (w : World) (hT : Tab w) : Calls Tryd.prog 8 #[.int .i64 s] w fun e w' => e = .returned (.tuple #[.int .i64 (ofC s), .int .i64 (ofE s)]) ∧ w = w' := by
  by_cases h : s < 1
  · exact of_any_lo s w h
  · exact of_any_hi s w (by omega) hT
theorem of_val (s c x : Int) (hc : ofC s = c) (hx : ofE s = x) (w : World) (hT : Tab w) : Calls Tryd.prog 8 #[.int .i64 s] w fun e w' => e = .returned (.tuple #[.int .i64 c, .int .i64 x]) ∧ w = w' := hc ▸ hx ▸ of_any s w hT

theorem rof_any_lo (s : Int) (w : World) (h : s < 1) : Calls Tryd.prog 9 #[.int .i64 s] w fun e w' => e = .returned (.tuple #[.int .i64 (ofC s), .int .i64 (ofE s)]) ∧ w = w' := by
  have H := Lib.hid (show ofC s = 0 ∧ ofE s = 2 from ⟨if_pos h, if_pos h⟩)
  go_enter Tryd.func9, Tryd.ntmps9
  go_wp2
  go_ret2
  exact ⟨ret_two H.out, rfl⟩
set_option maxHeartbeats 1600000 in
theorem rof_any_hi (s : Int) (w : World) (h : 1 ≤ s) : Calls Tryd.prog 9 #[.int .i64 s] w fun e w' => e = .returned (.tuple #[.int .i64 (ofC s), .int .i64 (ofE s)]) ∧ w = w' := by
  go_enter Tryd.func9, Tryd.ntmps9
  go_wp2
  go_loop [4] (fun i => (i = .int .i64 1 ∧ 0 < s) ∨ (i = .int .i64 2 ∧ 32 < s) ∨ (i = .int .i64 3 ∧ 48 < s) ∨ (i = .int .i64 4 ∧ 64 < s) ∨ (i = .int .i64 5 ∧ 96 < s) ∨ (i = .int .i64 6 ∧ 128 < s) ∨ (i = .int .i64 7 ∧ 192 < s) ∨ (i = .int .i64 8 ∧ 256 < s) ∨ (i = .int .i64 9 ∧ 384 < s) ∨ (i = .int .i64 10 ∧ 512 < s)) (fun i => (20 - intOf i).toNat)
  case atStart => exact .inl ⟨rfl, by omega⟩
  case round =>
    rcases hrel with ⟨rfl, hlo⟩ | ⟨rfl, hlo⟩ | ⟨rfl, hlo⟩ | ⟨rfl, hlo⟩ | ⟨rfl, hlo⟩ | ⟨rfl, hlo⟩ | ⟨rfl, hlo⟩ | ⟨rfl, hlo⟩ | ⟨rfl, hlo⟩ | ⟨rfl, hlo⟩
    · by_cases hs : s ≤ 32
      · have H := Lib.hid (show ofC s = 1 ∧ ofE s = 0 from ⟨(by unfold ofC; repeat (first | rw [if_pos (by omega)] | rw [if_neg (by omega)])), (by unfold ofE; repeat (first | rw [if_pos (by omega)] | rw [if_neg (by omega)]))⟩)
        go_wp2_with (go_at_call 11; refine (rsize_val 1 32 rfl _).mono ?_; rintro e w' ⟨rfl, rfl⟩)
        go_ret2
        exact ⟨ret_two H.out, rfl⟩
      · go_wp2_with (go_at_call 11; refine (rsize_val 1 32 rfl _).mono ?_; rintro e w' ⟨rfl, rfl⟩)
        go_round
        case rel => exact .inr <| .inl <| ⟨rfl, by omega⟩
        case measure => simp [intOf]
    · by_cases hs : s ≤ 48
      · have H := Lib.hid (show ofC s = 2 ∧ ofE s = 0 from ⟨(by unfold ofC; repeat (first | rw [if_pos (by omega)] | rw [if_neg (by omega)])), (by unfold ofE; repeat (first | rw [if_pos (by omega)] | rw [if_neg (by omega)]))⟩)
        go_wp2_with (go_at_call 11; refine (rsize_val 2 48 rfl _).mono ?_; rintro e w' ⟨rfl, rfl⟩)
        go_ret2
        exact ⟨ret_two H.out, rfl⟩
      · go_wp2_with (go_at_call 11; refine (rsize_val 2 48 rfl _).mono ?_; rintro e w' ⟨rfl, rfl⟩)
        go_round
        case rel => exact .inr <| .inr <| .inl <| ⟨rfl, by omega⟩
        case measure => simp [intOf]
    · by_cases hs : s ≤ 64
      · have H := Lib.hid (show ofC s = 3 ∧ ofE s = 0 from ⟨(by unfold ofC; repeat (first | rw [if_pos (by omega)] | rw [if_neg (by omega)])), (by unfold ofE; repeat (first | rw [if_pos (by omega)] | rw [if_neg (by omega)]))⟩)
        go_wp2_with (go_at_call 11; refine (rsize_val 3 64 rfl _).mono ?_; rintro e w' ⟨rfl, rfl⟩)
        go_ret2
        exact ⟨ret_two H.out, rfl⟩
      · go_wp2_with (go_at_call 11; refine (rsize_val 3 64 rfl _).mono ?_; rintro e w' ⟨rfl, rfl⟩)
        go_round
        case rel => exact .inr <| .inr <| .inr <| .inl <| ⟨rfl, by omega⟩
        case measure => simp [intOf]
    · by_cases hs : s ≤ 96
      · have H := Lib.hid (show ofC s = 4 ∧ ofE s = 0 from ⟨(by unfold ofC; repeat (first | rw [if_pos (by omega)] | rw [if_neg (by omega)])), (by unfold ofE; repeat (first | rw [if_pos (by omega)] | rw [if_neg (by omega)]))⟩)
        go_wp2_with (go_at_call 11; refine (rsize_val 4 96 rfl _).mono ?_; rintro e w' ⟨rfl, rfl⟩)
        go_ret2
        exact ⟨ret_two H.out, rfl⟩
      · go_wp2_with (go_at_call 11; refine (rsize_val 4 96 rfl _).mono ?_; rintro e w' ⟨rfl, rfl⟩)
        go_round
        case rel => exact .inr <| .inr <| .inr <| .inr <| .inl <| ⟨rfl, by omega⟩
        case measure => simp [intOf]
    · by_cases hs : s ≤ 128
      · have H := Lib.hid (show ofC s = 5 ∧ ofE s = 0 from ⟨(by unfold ofC; repeat (first | rw [if_pos (by omega)] | rw [if_neg (by omega)])), (by unfold ofE; repeat (first | rw [if_pos (by omega)] | rw [if_neg (by omega)]))⟩)
        go_wp2_with (go_at_call 11; refine (rsize_val 5 128 rfl _).mono ?_; rintro e w' ⟨rfl, rfl⟩)
        go_ret2
        exact ⟨ret_two H.out, rfl⟩
      · go_wp2_with (go_at_call 11; refine (rsize_val 5 128 rfl _).mono ?_; rintro e w' ⟨rfl, rfl⟩)
        go_round
        case rel => exact .inr <| .inr <| .inr <| .inr <| .inr <| .inl <| ⟨rfl, by omega⟩
        case measure => simp [intOf]
    · by_cases hs : s ≤ 192
      · have H := Lib.hid (show ofC s = 6 ∧ ofE s = 0 from ⟨(by unfold ofC; repeat (first | rw [if_pos (by omega)] | rw [if_neg (by omega)])), (by unfold ofE; repeat (first | rw [if_pos (by omega)] | rw [if_neg (by omega)]))⟩)
        go_wp2_with (go_at_call 11; refine (rsize_val 6 192 rfl _).mono ?_; rintro e w' ⟨rfl, rfl⟩)
        go_ret2
        exact ⟨ret_two H.out, rfl⟩
      · go_wp2_with (go_at_call 11; refine (rsize_val 6 192 rfl _).mono ?_; rintro e w' ⟨rfl, rfl⟩)
        go_round
        case rel => exact .inr <| .inr <| .inr <| .inr <| .inr <| .inr <| .inl <| ⟨rfl, by omega⟩
        case measure => simp [intOf]
    · by_cases hs : s ≤ 256
      · have H := Lib.hid (show ofC s = 7 ∧ ofE s = 0 from ⟨(by unfold ofC; repeat (first | rw [if_pos (by omega)] | rw [if_neg (by omega)])), (by unfold ofE; repeat (first | rw [if_pos (by omega)] | rw [if_neg (by omega)]))⟩)
        go_wp2_with (go_at_call 11; refine (rsize_val 7 256 rfl _).mono ?_; rintro e w' ⟨rfl, rfl⟩)
        go_ret2
        exact ⟨ret_two H.out, rfl⟩
      · go_wp2_with (go_at_call 11; refine (rsize_val 7 256 rfl _).mono ?_; rintro e w' ⟨rfl, rfl⟩)
        go_round
        case rel => exact .inr <| .inr <| .inr <| .inr <| .inr <| .inr <| .inr <| .inl <| ⟨rfl, by omega⟩
        case measure => simp [intOf]
    · by_cases hs : s ≤ 384
      · have H := Lib.hid (show ofC s = 8 ∧ ofE s = 0 from ⟨(by unfold ofC; repeat (first | rw [if_pos (by omega)] | rw [if_neg (by omega)])), (by unfold ofE; repeat (first | rw [if_pos (by omega)] | rw [if_neg (by omega)]))⟩)
        go_wp2_with (go_at_call 11; refine (rsize_val 8 384 rfl _).mono ?_; rintro e w' ⟨rfl, rfl⟩)
        go_ret2
        exact ⟨ret_two H.out, rfl⟩
      · go_wp2_with (go_at_call 11; refine (rsize_val 8 384 rfl _).mono ?_; rintro e w' ⟨rfl, rfl⟩)
        go_round
        case rel => exact .inr <| .inr <| .inr <| .inr <| .inr <| .inr <| .inr <| .inr <| .inl <| ⟨rfl, by omega⟩
        case measure => simp [intOf]
    · by_cases hs : s ≤ 512
      · have H := Lib.hid (show ofC s = 9 ∧ ofE s = 0 from ⟨(by unfold ofC; repeat (first | rw [if_pos (by omega)] | rw [if_neg (by omega)])), (by unfold ofE; repeat (first | rw [if_pos (by omega)] | rw [if_neg (by omega)]))⟩)
        go_wp2_with (go_at_call 11; refine (rsize_val 9 512 rfl _).mono ?_; rintro e w' ⟨rfl, rfl⟩)
        go_ret2
        exact ⟨ret_two H.out, rfl⟩
      · go_wp2_with (go_at_call 11; refine (rsize_val 9 512 rfl _).mono ?_; rintro e w' ⟨rfl, rfl⟩)
        go_round
        case rel => exact .inr <| .inr <| .inr <| .inr <| .inr <| .inr <| .inr <| .inr <| .inr <| ⟨rfl, by omega⟩
        case measure => simp [intOf]
    · have H := Lib.hid (show ofC s = 0 ∧ ofE s = 22 from ⟨(by unfold ofC; repeat (first | rw [if_pos (by omega)] | rw [if_neg (by omega)])), (by unfold ofE; repeat (first | rw [if_pos (by omega)] | rw [if_neg (by omega)]))⟩)
      go_wp2
      go_ret2
      exact ⟨ret_two H.out, rfl⟩
theorem rof_any (s : Int) (w : World) : Calls Tryd.prog 9 #[.int .i64 s] w fun e w' => e = .returned (.tuple #[.int .i64 (ofC s), .int .i64 (ofE s)]) ∧ w = w' := by
  by_cases h : s < 1
  · exact rof_any_lo s w h
  · exact rof_any_hi s w (by omega)
theorem rof_val (s c x : Int) (hc : ofC s = c) (hx : ofE s = x) (w : World) : Calls Tryd.prog 9 #[.int .i64 s] w fun e w' => e = .returned (.tuple #[.int .i64 c, .int .i64 x]) ∧ w = w' := hc ▸ hx ▸ rof_any s w

set_option maxHeartbeats 800000 in
theorem blocks_any (c : Int) (w : World) (hT : Tab w) : Calls Tryd.prog 12 #[.int .i64 c] w fun e w' => e = .returned (.int .i64 (bl c)) ∧ w = w' := by
  have hc := cells hT
  rcases c_cases c with h | h | rfl | rfl | rfl | rfl | rfl | rfl | rfl | rfl | rfl
  · have H := Lib.hid (bl_out c (.inl h))
    clear hc
    go_enter Tryd.func12, Tryd.ntmps12
    go_wp2_with (go_at_call 25; refine (is_no _ _ (.inl h)).mono ?_; rintro e w' ⟨rfl, rfl⟩)
    go_ret
    exact ⟨ret_int H.out, rfl⟩
  · have H := Lib.hid (bl_out c (.inr h))
    clear hc
    go_enter Tryd.func12, Tryd.ntmps12
    go_wp2_with (go_at_call 25; refine (is_no _ _ (.inr h)).mono ?_; rintro e w' ⟨rfl, rfl⟩)
    go_ret
    exact ⟨ret_int H.out, rfl⟩
  all_goals
    go_enter Tryd.func12, Tryd.ntmps12
    go_wp2_with (go_at_call 25; refine (is_yes _ _ (by omega) (by omega)).mono ?_; rintro e w' ⟨rfl, rfl⟩)
    go_ret
    exact ⟨rfl, rfl⟩
theorem blocks_val (c v : Int) (h : bl c = v) (w : World) (hT : Tab w) : Calls Tryd.prog 12 #[.int .i64 c] w fun e w' => e = .returned (.int .i64 v) ∧ w = w' := h ▸ blocks_any c w hT

set_option maxHeartbeats 800000 in
theorem pad_any (c : Int) (w : World) (hT : Tab w) : Calls Tryd.prog 14 #[.int .i64 c] w fun e w' => e = .returned (.int .i64 (pd c)) ∧ w = w' := by
  have hc := cells hT
  rcases c_cases c with h | h | rfl | rfl | rfl | rfl | rfl | rfl | rfl | rfl | rfl
  · have H := Lib.hid (pd_out c (.inl h))
    clear hc
    go_enter Tryd.func14, Tryd.ntmps14
    go_wp2_with (go_at_call 25; refine (is_no _ _ (.inl h)).mono ?_; rintro e w' ⟨rfl, rfl⟩)
    go_ret
    exact ⟨ret_int H.out, rfl⟩
  · have H := Lib.hid (pd_out c (.inr h))
    clear hc
    go_enter Tryd.func14, Tryd.ntmps14
    go_wp2_with (go_at_call 25; refine (is_no _ _ (.inr h)).mono ?_; rintro e w' ⟨rfl, rfl⟩)
    go_ret
    exact ⟨ret_int H.out, rfl⟩
  all_goals
    go_enter Tryd.func14, Tryd.ntmps14
    go_wp2_with (go_at_call 25; refine (is_yes _ _ (by omega) (by omega)).mono ?_; rintro e w' ⟨rfl, rfl⟩)
    go_ret
    exact ⟨rfl, rfl⟩
theorem pad_val (c v : Int) (h : pd c = v) (w : World) (hT : Tab w) : Calls Tryd.prog 14 #[.int .i64 c] w fun e w' => e = .returned (.int .i64 v) ∧ w = w' := h ▸ pad_any c w hT

def enC (p : Int) : Int := if p < 0 then 0 else if p > 480 then 0 else ofC (32 + p)
def enE (p : Int) : Int := if p < 0 then 2 else if p > 480 then 22 else ofE (32 + p)
def noC (l : Int) : Int := if l < 1 then 0 else if l > 63 then 0 else ofC (16 + l)
def noE (l : Int) : Int := if l < 1 then 20 else if l > 63 then 20 else ofE (16 + l)

set_option maxHeartbeats 400000 in
theorem entry_any (p : Int) (w : World) (hT : Tab w) : Calls Tryd.prog 17 #[.int .i64 p] w fun e w' => e = .returned (.tuple #[.int .i64 (enC p), .int .i64 (enE p)]) ∧ w = w' := by
  by_cases h1 : p < 0
  · have H := Lib.hid (show enC p = 0 ∧ enE p = 2 from ⟨if_pos h1, if_pos h1⟩)
    go_enter Tryd.func17, Tryd.ntmps17
    go_wp2
    go_ret2
    exact ⟨ret_two H.out, rfl⟩
  · by_cases h2 : p > 480
    · have H := Lib.hid (show enC p = 0 ∧ enE p = 22 from ⟨(if_neg h1).trans (if_pos h2), (if_neg h1).trans (if_pos h2)⟩)
      go_enter Tryd.func17, Tryd.ntmps17
      go_wp2
      go_ret2
      exact ⟨ret_two H.out, rfl⟩
    · have h3 : 0 ≤ p := by omega
      have h4 : p ≤ 480 := by omega
      have e1 : ofC (32 + p) = enC p := ((if_neg h1).trans (if_neg h2)).symm
      have e2 : ofE (32 + p) = enE p := ((if_neg h1).trans (if_neg h2)).symm
      have H1 := Lib.hid e1
      have H2 := Lib.hid e2
      clear e1 e2 h1 h2
      go_enter Tryd.func17, Tryd.ntmps17
      go_wp2_with (go_at_call 8; refine (of_val _ _ _ H1.out H2.out _ hT).mono ?_; rintro e w' ⟨rfl, rfl⟩)
      go_ret2
      exact ⟨rfl, rfl⟩
theorem entry_val (p c x : Int) (hc : enC p = c) (hx : enE p = x) (w : World) (hT : Tab w) : Calls Tryd.prog 17 #[.int .i64 p] w fun e w' => e = .returned (.tuple #[.int .i64 c, .int .i64 x]) ∧ w = w' := hc ▸ hx ▸ entry_any p w hT

set_option maxHeartbeats 400000 in
theorem node_any (p : Int) (w : World) (hT : Tab w) : Calls Tryd.prog 19 #[.int .i64 p] w fun e w' => e = .returned (.tuple #[.int .i64 (noC p), .int .i64 (noE p)]) ∧ w = w' := by
  by_cases h1 : p < 1
  · have H := Lib.hid (show noC p = 0 ∧ noE p = 20 from ⟨if_pos h1, if_pos h1⟩)
    go_enter Tryd.func19, Tryd.ntmps19
    go_wp2
    go_ret2
    exact ⟨ret_two H.out, rfl⟩
  · by_cases h2 : p > 63
    · have H := Lib.hid (show noC p = 0 ∧ noE p = 20 from ⟨(if_neg h1).trans (if_pos h2), (if_neg h1).trans (if_pos h2)⟩)
      go_enter Tryd.func19, Tryd.ntmps19
      go_wp2
      go_ret2
      exact ⟨ret_two H.out, rfl⟩
    · have h3 : 1 ≤ p := by omega
      have h4 : p ≤ 63 := by omega
      have e1 : ofC (16 + p) = noC p := ((if_neg h1).trans (if_neg h2)).symm
      have e2 : ofE (16 + p) = noE p := ((if_neg h1).trans (if_neg h2)).symm
      have H1 := Lib.hid e1
      have H2 := Lib.hid e2
      clear e1 e2 h1 h2
      go_enter Tryd.func19, Tryd.ntmps19
      go_wp2_with (go_at_call 8; refine (of_val _ _ _ H1.out H2.out _ hT).mono ?_; rintro e w' ⟨rfl, rfl⟩)
      go_ret2
      exact ⟨rfl, rfl⟩
theorem node_val (p c x : Int) (hc : noC p = c) (hx : noE p = x) (w : World) (hT : Tab w) : Calls Tryd.prog 19 #[.int .i64 p] w fun e w' => e = .returned (.tuple #[.int .i64 c, .int .i64 x]) ∧ w = w' := hc ▸ hx ▸ node_any p w hT

set_option maxHeartbeats 400000 in
theorem rentry_any (p : Int) (w : World) : Calls Tryd.prog 18 #[.int .i64 p] w fun e w' => e = .returned (.tuple #[.int .i64 (enC p), .int .i64 (enE p)]) ∧ w = w' := by
  by_cases h1 : p < 0
  · have H := Lib.hid (show enC p = 0 ∧ enE p = 2 from ⟨if_pos h1, if_pos h1⟩)
    go_enter Tryd.func18, Tryd.ntmps18
    go_wp2
    go_ret2
    exact ⟨ret_two H.out, rfl⟩
  · by_cases h2 : p > 480
    · have H := Lib.hid (show enC p = 0 ∧ enE p = 22 from ⟨(if_neg h1).trans (if_pos h2), (if_neg h1).trans (if_pos h2)⟩)
      go_enter Tryd.func18, Tryd.ntmps18
      go_wp2
      go_ret2
      exact ⟨ret_two H.out, rfl⟩
    · have h3 : 0 ≤ p := by omega
      have h4 : p ≤ 480 := by omega
      have e1 : ofC (32 + p) = enC p := ((if_neg h1).trans (if_neg h2)).symm
      have e2 : ofE (32 + p) = enE p := ((if_neg h1).trans (if_neg h2)).symm
      have H1 := Lib.hid e1
      have H2 := Lib.hid e2
      clear e1 e2 h1 h2
      go_enter Tryd.func18, Tryd.ntmps18
      go_wp2_with (go_at_call 9; refine (rof_val _ _ _ H1.out H2.out _).mono ?_; rintro e w' ⟨rfl, rfl⟩)
      go_ret2
      exact ⟨rfl, rfl⟩
theorem rentry_val (p c x : Int) (hc : enC p = c) (hx : enE p = x) (w : World) : Calls Tryd.prog 18 #[.int .i64 p] w fun e w' => e = .returned (.tuple #[.int .i64 c, .int .i64 x]) ∧ w = w' := hc ▸ hx ▸ rentry_any p w

set_option maxHeartbeats 400000 in
theorem rnode_any (p : Int) (w : World) : Calls Tryd.prog 20 #[.int .i64 p] w fun e w' => e = .returned (.tuple #[.int .i64 (noC p), .int .i64 (noE p)]) ∧ w = w' := by
  by_cases h1 : p < 1
  · have H := Lib.hid (show noC p = 0 ∧ noE p = 20 from ⟨if_pos h1, if_pos h1⟩)
    go_enter Tryd.func20, Tryd.ntmps20
    go_wp2
    go_ret2
    exact ⟨ret_two H.out, rfl⟩
  · by_cases h2 : p > 63
    · have H := Lib.hid (show noC p = 0 ∧ noE p = 20 from ⟨(if_neg h1).trans (if_pos h2), (if_neg h1).trans (if_pos h2)⟩)
      go_enter Tryd.func20, Tryd.ntmps20
      go_wp2
      go_ret2
      exact ⟨ret_two H.out, rfl⟩
    · have h3 : 1 ≤ p := by omega
      have h4 : p ≤ 63 := by omega
      have e1 : ofC (16 + p) = noC p := ((if_neg h1).trans (if_neg h2)).symm
      have e2 : ofE (16 + p) = noE p := ((if_neg h1).trans (if_neg h2)).symm
      have H1 := Lib.hid e1
      have H2 := Lib.hid e2
      clear e1 e2 h1 h2
      go_enter Tryd.func20, Tryd.ntmps20
      go_wp2_with (go_at_call 9; refine (rof_val _ _ _ H1.out H2.out _).mono ?_; rintro e w' ⟨rfl, rfl⟩)
      go_ret2
      exact ⟨rfl, rfl⟩
theorem rnode_val (p c x : Int) (hc : noC p = c) (hx : noE p = x) (w : World) : Calls Tryd.prog 20 #[.int .i64 p] w fun e w' => e = .returned (.tuple #[.int .i64 c, .int .i64 x]) ∧ w = w' := hc ▸ hx ▸ rnode_any p w

end Cls
end Go.Proofs.YteekbpcifiojlaaDoor
