/- The contracts of layer 8, second part: the reference's Size, Blocks, Pad and Of. No condition. -/
import Derived.Test.YteekbpcifiojlaaDoorClass
namespace Go.Proofs.YteekbpcifiojlaaDoor
open Go.RowKit
namespace Cls

set_option maxHeartbeats 400000 in
theorem rsize_in (c : Int) (w : World) (h1 : 1 ≤ c) (h2 : c ≤ 9) : Calls Tryd.prog 11 #[.int .i64 c] w fun e w' => e = .returned (.int .i64 (sz c)) ∧ w = w' := by
  go_enter Tryd.func11, Tryd.ntmps11
  go_wp2
  go_loop [3, 4] (fun n i => (i = .int .i64 3 ∧ n = .int .i64 32 ∧ 1 ≤ c) ∨ (i = .int .i64 5 ∧ n = .int .i64 64 ∧ 3 ≤ c) ∨ (i = .int .i64 7 ∧ n = .int .i64 128 ∧ 5 ≤ c) ∨ (i = .int .i64 9 ∧ n = .int .i64 256 ∧ 7 ≤ c) ∨ (i = .int .i64 11 ∧ n = .int .i64 512 ∧ 9 ≤ c)) (fun _ i => (20 - intOf i).toNat)
  case atStart => exact .inl ⟨rfl, rfl, h1⟩
  case round =>
    rcases hrel with ⟨rfl, rfl, hc⟩ | ⟨rfl, rfl, hc⟩ | ⟨rfl, rfl, hc⟩ | ⟨rfl, rfl, hc⟩ | ⟨rfl, rfl, hc⟩
    · by_cases hlt : (3 : Int) ≤ c
      · go_wp2
        go_round
        case rel => exact .inr <| .inl ⟨rfl, rfl, by omega⟩
        case measure => simp [intOf]
      · obtain rfl | rfl : c = 1 ∨ c = 2 := by omega
        all_goals
          go_wp2
          go_ret
          exact ⟨rfl, rfl⟩
    · by_cases hlt : (5 : Int) ≤ c
      · go_wp2
        go_round
        case rel => exact .inr <| .inr <| .inl ⟨rfl, rfl, by omega⟩
        case measure => simp [intOf]
      · obtain rfl | rfl : c = 3 ∨ c = 4 := by omega
        all_goals
          go_wp2
          go_ret
          exact ⟨rfl, rfl⟩
    · by_cases hlt : (7 : Int) ≤ c
      · go_wp2
        go_round
        case rel => exact .inr <| .inr <| .inr <| .inl ⟨rfl, rfl, by omega⟩
        case measure => simp [intOf]
      · obtain rfl | rfl : c = 5 ∨ c = 6 := by omega
        all_goals
          go_wp2
          go_ret
          exact ⟨rfl, rfl⟩
    · by_cases hlt : (9 : Int) ≤ c
      · go_wp2
        go_round
        case rel => exact .inr <| .inr <| .inr <| .inr <| ⟨rfl, rfl, by omega⟩
        case measure => simp [intOf]
      · obtain rfl | rfl : c = 7 ∨ c = 8 := by omega
        all_goals
          go_wp2
          go_ret
          exact ⟨rfl, rfl⟩
    · obtain rfl : c = 9 := by omega
      go_wp2
      go_ret
      exact ⟨rfl, rfl⟩
theorem rsize_any (c : Int) (w : World) : Calls Tryd.prog 11 #[.int .i64 c] w fun e w' => e = .returned (.int .i64 (sz c)) ∧ w = w' := by
  by_cases h1 : 1 ≤ c
  · by_cases h2 : c ≤ 9
    · exact rsize_in c w h1 h2
    · have e := sz_out c (.inr (by omega))
      have H := Lib.hid e
      clear e
      go_enter Tryd.func11, Tryd.ntmps11
      go_wp2
      go_ret
      exact ⟨ret_int H.out, rfl⟩
  · have e := sz_out c (.inl (by omega))
    have H := Lib.hid e
    clear e
    go_enter Tryd.func11, Tryd.ntmps11
    go_wp2
    go_ret
    exact ⟨ret_int H.out, rfl⟩
theorem rsize_val (c v : Int) (h : sz c = v) (w : World) : Calls Tryd.prog 11 #[.int .i64 c] w fun e w' => e = .returned (.int .i64 v) ∧ w = w' := h ▸ rsize_any c w

set_option maxHeartbeats 400000 in
theorem rblocks_1 (w : World) : Calls Tryd.prog 13 #[.int .i64 1] w fun e w' => e = .returned (.int .i64 32) ∧ w = w' := by
  go_enter Tryd.func13, Tryd.ntmps13
  go_wp2
  go_loop [3] (fun n => ∃ k : Nat, (k : Int) * 32 ≤ 1024 ∧ n = .int .i64 k) (fun n => (2000 - intOf n).toNat)
  case atStart => exact ⟨0, by omega, rfl⟩
  case round =>
    obtain ⟨k, hk, rfl⟩ := hrel
    by_cases hlt : ((k : Int) + 1) * 32 ≤ 1024
    · go_wp2_with (go_at_call 11; refine (rsize_val 1 32 rfl _).mono ?_; rintro e w' ⟨rfl, rfl⟩)
      go_round
      case rel => exact ⟨k + 1, by omega, by go_num⟩
      case measure => simp [intOf]; omega
    · obtain rfl : k = 32 := by omega
      clear hlt hk
      go_wp2_with (go_at_call 11; refine (rsize_val 1 32 rfl _).mono ?_; rintro e w' ⟨rfl, rfl⟩)
      go_ret
      exact ⟨rfl, rfl⟩
set_option maxHeartbeats 400000 in
theorem rblocks_2 (w : World) : Calls Tryd.prog 13 #[.int .i64 2] w fun e w' => e = .returned (.int .i64 21) ∧ w = w' := by
  go_enter Tryd.func13, Tryd.ntmps13
  go_wp2
  go_loop [3] (fun n => ∃ k : Nat, (k : Int) * 48 ≤ 1024 ∧ n = .int .i64 k) (fun n => (2000 - intOf n).toNat)
  case atStart => exact ⟨0, by omega, rfl⟩
  case round =>
    obtain ⟨k, hk, rfl⟩ := hrel
    by_cases hlt : ((k : Int) + 1) * 48 ≤ 1024
    · go_wp2_with (go_at_call 11; refine (rsize_val 2 48 rfl _).mono ?_; rintro e w' ⟨rfl, rfl⟩)
      go_round
      case rel => exact ⟨k + 1, by omega, by go_num⟩
      case measure => simp [intOf]; omega
    · obtain rfl : k = 21 := by omega
      clear hlt hk
      go_wp2_with (go_at_call 11; refine (rsize_val 2 48 rfl _).mono ?_; rintro e w' ⟨rfl, rfl⟩)
      go_ret
      exact ⟨rfl, rfl⟩
set_option maxHeartbeats 400000 in
theorem rblocks_3 (w : World) : Calls Tryd.prog 13 #[.int .i64 3] w fun e w' => e = .returned (.int .i64 16) ∧ w = w' := by
  go_enter Tryd.func13, Tryd.ntmps13
  go_wp2
  go_loop [3] (fun n => ∃ k : Nat, (k : Int) * 64 ≤ 1024 ∧ n = .int .i64 k) (fun n => (2000 - intOf n).toNat)
  case atStart => exact ⟨0, by omega, rfl⟩
  case round =>
    obtain ⟨k, hk, rfl⟩ := hrel
    by_cases hlt : ((k : Int) + 1) * 64 ≤ 1024
    · go_wp2_with (go_at_call 11; refine (rsize_val 3 64 rfl _).mono ?_; rintro e w' ⟨rfl, rfl⟩)
      go_round
      case rel => exact ⟨k + 1, by omega, by go_num⟩
      case measure => simp [intOf]; omega
    · obtain rfl : k = 16 := by omega
      clear hlt hk
      go_wp2_with (go_at_call 11; refine (rsize_val 3 64 rfl _).mono ?_; rintro e w' ⟨rfl, rfl⟩)
      go_ret
      exact ⟨rfl, rfl⟩
set_option maxHeartbeats 400000 in
theorem rblocks_4 (w : World) : Calls Tryd.prog 13 #[.int .i64 4] w fun e w' => e = .returned (.int .i64 10) ∧ w = w' := by
  go_enter Tryd.func13, Tryd.ntmps13
  go_wp2
  go_loop [3] (fun n => ∃ k : Nat, (k : Int) * 96 ≤ 1024 ∧ n = .int .i64 k) (fun n => (2000 - intOf n).toNat)
  case atStart => exact ⟨0, by omega, rfl⟩
  case round =>
    obtain ⟨k, hk, rfl⟩ := hrel
    by_cases hlt : ((k : Int) + 1) * 96 ≤ 1024
    · go_wp2_with (go_at_call 11; refine (rsize_val 4 96 rfl _).mono ?_; rintro e w' ⟨rfl, rfl⟩)
      go_round
      case rel => exact ⟨k + 1, by omega, by go_num⟩
      case measure => simp [intOf]; omega
    · obtain rfl : k = 10 := by omega
      clear hlt hk
      go_wp2_with (go_at_call 11; refine (rsize_val 4 96 rfl _).mono ?_; rintro e w' ⟨rfl, rfl⟩)
      go_ret
      exact ⟨rfl, rfl⟩
set_option maxHeartbeats 400000 in
theorem rblocks_5 (w : World) : Calls Tryd.prog 13 #[.int .i64 5] w fun e w' => e = .returned (.int .i64 8) ∧ w = w' := by
  go_enter Tryd.func13, Tryd.ntmps13
  go_wp2
  go_loop [3] (fun n => ∃ k : Nat, (k : Int) * 128 ≤ 1024 ∧ n = .int .i64 k) (fun n => (2000 - intOf n).toNat)
  case atStart => exact ⟨0, by omega, rfl⟩
  case round =>
    obtain ⟨k, hk, rfl⟩ := hrel
    by_cases hlt : ((k : Int) + 1) * 128 ≤ 1024
    · go_wp2_with (go_at_call 11; refine (rsize_val 5 128 rfl _).mono ?_; rintro e w' ⟨rfl, rfl⟩)
      go_round
      case rel => exact ⟨k + 1, by omega, by go_num⟩
      case measure => simp [intOf]; omega
    · obtain rfl : k = 8 := by omega
      clear hlt hk
      go_wp2_with (go_at_call 11; refine (rsize_val 5 128 rfl _).mono ?_; rintro e w' ⟨rfl, rfl⟩)
      go_ret
      exact ⟨rfl, rfl⟩
set_option maxHeartbeats 400000 in
theorem rblocks_6 (w : World) : Calls Tryd.prog 13 #[.int .i64 6] w fun e w' => e = .returned (.int .i64 5) ∧ w = w' := by
  go_enter Tryd.func13, Tryd.ntmps13
  go_wp2
  go_loop [3] (fun n => ∃ k : Nat, (k : Int) * 192 ≤ 1024 ∧ n = .int .i64 k) (fun n => (2000 - intOf n).toNat)
  case atStart => exact ⟨0, by omega, rfl⟩
  case round =>
    obtain ⟨k, hk, rfl⟩ := hrel
    by_cases hlt : ((k : Int) + 1) * 192 ≤ 1024
    · go_wp2_with (go_at_call 11; refine (rsize_val 6 192 rfl _).mono ?_; rintro e w' ⟨rfl, rfl⟩)
      go_round
      case rel => exact ⟨k + 1, by omega, by go_num⟩
      case measure => simp [intOf]; omega
    · obtain rfl : k = 5 := by omega
      clear hlt hk
      go_wp2_with (go_at_call 11; refine (rsize_val 6 192 rfl _).mono ?_; rintro e w' ⟨rfl, rfl⟩)
      go_ret
      exact ⟨rfl, rfl⟩
set_option maxHeartbeats 400000 in
theorem rblocks_7 (w : World) : Calls Tryd.prog 13 #[.int .i64 7] w fun e w' => e = .returned (.int .i64 4) ∧ w = w' := by
  go_enter Tryd.func13, Tryd.ntmps13
  go_wp2
  go_loop [3] (fun n => ∃ k : Nat, (k : Int) * 256 ≤ 1024 ∧ n = .int .i64 k) (fun n => (2000 - intOf n).toNat)
  case atStart => exact ⟨0, by omega, rfl⟩
  case round =>
    obtain ⟨k, hk, rfl⟩ := hrel
    by_cases hlt : ((k : Int) + 1) * 256 ≤ 1024
    · go_wp2_with (go_at_call 11; refine (rsize_val 7 256 rfl _).mono ?_; rintro e w' ⟨rfl, rfl⟩)
      go_round
      case rel => exact ⟨k + 1, by omega, by go_num⟩
      case measure => simp [intOf]; omega
    · obtain rfl : k = 4 := by omega
      clear hlt hk
      go_wp2_with (go_at_call 11; refine (rsize_val 7 256 rfl _).mono ?_; rintro e w' ⟨rfl, rfl⟩)
      go_ret
      exact ⟨rfl, rfl⟩
set_option maxHeartbeats 400000 in
theorem rblocks_8 (w : World) : Calls Tryd.prog 13 #[.int .i64 8] w fun e w' => e = .returned (.int .i64 2) ∧ w = w' := by
  go_enter Tryd.func13, Tryd.ntmps13
  go_wp2
  go_loop [3] (fun n => ∃ k : Nat, (k : Int) * 384 ≤ 1024 ∧ n = .int .i64 k) (fun n => (2000 - intOf n).toNat)
  case atStart => exact ⟨0, by omega, rfl⟩
  case round =>
    obtain ⟨k, hk, rfl⟩ := hrel
    by_cases hlt : ((k : Int) + 1) * 384 ≤ 1024
    · go_wp2_with (go_at_call 11; refine (rsize_val 8 384 rfl _).mono ?_; rintro e w' ⟨rfl, rfl⟩)
      go_round
      case rel => exact ⟨k + 1, by omega, by go_num⟩
      case measure => simp [intOf]; omega
    · obtain rfl : k = 2 := by omega
      clear hlt hk
      go_wp2_with (go_at_call 11; refine (rsize_val 8 384 rfl _).mono ?_; rintro e w' ⟨rfl, rfl⟩)
      go_ret
      exact ⟨rfl, rfl⟩
set_option maxHeartbeats 400000 in
theorem rblocks_9 (w : World) : Calls Tryd.prog 13 #[.int .i64 9] w fun e w' => e = .returned (.int .i64 2) ∧ w = w' := by
  go_enter Tryd.func13, Tryd.ntmps13
  go_wp2
  go_loop [3] (fun n => ∃ k : Nat, (k : Int) * 512 ≤ 1024 ∧ n = .int .i64 k) (fun n => (2000 - intOf n).toNat)
  case atStart => exact ⟨0, by omega, rfl⟩
  case round =>
    obtain ⟨k, hk, rfl⟩ := hrel
    by_cases hlt : ((k : Int) + 1) * 512 ≤ 1024
    · go_wp2_with (go_at_call 11; refine (rsize_val 9 512 rfl _).mono ?_; rintro e w' ⟨rfl, rfl⟩)
      go_round
      case rel => exact ⟨k + 1, by omega, by go_num⟩
      case measure => simp [intOf]; omega
    · obtain rfl : k = 2 := by omega
      clear hlt hk
      go_wp2_with (go_at_call 11; refine (rsize_val 9 512 rfl _).mono ?_; rintro e w' ⟨rfl, rfl⟩)
      go_ret
      exact ⟨rfl, rfl⟩
theorem rblocks_any (c : Int) (w : World) : Calls Tryd.prog 13 #[.int .i64 c] w fun e w' => e = .returned (.int .i64 (bl c)) ∧ w = w' := by
  rcases c_cases c with h | h | rfl | rfl | rfl | rfl | rfl | rfl | rfl | rfl | rfl
  · have H := Lib.hid (bl_out c (.inl h))
    go_enter Tryd.func13, Tryd.ntmps13
    go_wp2
    go_loop [3] (fun n => n = .int .i64 0) (fun _ => 0)
    case atStart => rfl
    case round =>
      subst hrel
      go_wp2_with (go_at_call 11; refine (rsize_val _ 0 (sz_out _ (.inl h)) _).mono ?_; rintro e w' ⟨rfl, rfl⟩)
      go_ret
      exact ⟨ret_int H.out, rfl⟩
  · have H := Lib.hid (bl_out c (.inr h))
    go_enter Tryd.func13, Tryd.ntmps13
    go_wp2
    go_loop [3] (fun n => n = .int .i64 0) (fun _ => 0)
    case atStart => rfl
    case round =>
      subst hrel
      go_wp2_with (go_at_call 11; refine (rsize_val _ 0 (sz_out _ (.inr h)) _).mono ?_; rintro e w' ⟨rfl, rfl⟩)
      go_ret
      exact ⟨ret_int H.out, rfl⟩
  · exact rblocks_1 w
  · exact rblocks_2 w
  · exact rblocks_3 w
  · exact rblocks_4 w
  · exact rblocks_5 w
  · exact rblocks_6 w
  · exact rblocks_7 w
  · exact rblocks_8 w
  · exact rblocks_9 w
theorem rblocks_val (c v : Int) (h : bl c = v) (w : World) : Calls Tryd.prog 13 #[.int .i64 c] w fun e w' => e = .returned (.int .i64 v) ∧ w = w' := h ▸ rblocks_any c w
set_option maxHeartbeats 400000 in
theorem rpad_any (c : Int) (w : World) : Calls Tryd.prog 15 #[.int .i64 c] w fun e w' => e = .returned (.int .i64 (pd c)) ∧ w = w' := by
  rcases c_cases c with h | h | rfl | rfl | rfl | rfl | rfl | rfl | rfl | rfl | rfl
  · have H := Lib.hid (pd_out c (.inl h))
    go_enter Tryd.func15, Tryd.ntmps15
    go_wp2_with (go_at_call 11; refine (rsize_val _ 0 (sz_out _ (.inl h)) _).mono ?_; rintro e w' ⟨rfl, rfl⟩)
    go_ret
    exact ⟨ret_int H.out, rfl⟩
  · have H := Lib.hid (pd_out c (.inr h))
    go_enter Tryd.func15, Tryd.ntmps15
    go_wp2_with (go_at_call 11; refine (rsize_val _ 0 (sz_out _ (.inr h)) _).mono ?_; rintro e w' ⟨rfl, rfl⟩)
    go_ret
    exact ⟨ret_int H.out, rfl⟩
  · go_enter Tryd.func15, Tryd.ntmps15
    go_wp2_with (first | (go_at_call 11; refine (rsize_val 1 32 rfl _).mono ?_; rintro e w' ⟨rfl, rfl⟩) | (go_at_call 13; refine (rblocks_val 1 32 rfl _).mono ?_; rintro e w' ⟨rfl, rfl⟩))
    go_ret
    exact ⟨rfl, rfl⟩
  · go_enter Tryd.func15, Tryd.ntmps15
    go_wp2_with (first | (go_at_call 11; refine (rsize_val 2 48 rfl _).mono ?_; rintro e w' ⟨rfl, rfl⟩) | (go_at_call 13; refine (rblocks_val 2 21 rfl _).mono ?_; rintro e w' ⟨rfl, rfl⟩))
    go_ret
    exact ⟨rfl, rfl⟩
  · go_enter Tryd.func15, Tryd.ntmps15
    go_wp2_with (first | (go_at_call 11; refine (rsize_val 3 64 rfl _).mono ?_; rintro e w' ⟨rfl, rfl⟩) | (go_at_call 13; refine (rblocks_val 3 16 rfl _).mono ?_; rintro e w' ⟨rfl, rfl⟩))
    go_ret
    exact ⟨rfl, rfl⟩
  · go_enter Tryd.func15, Tryd.ntmps15
    go_wp2_with (first | (go_at_call 11; refine (rsize_val 4 96 rfl _).mono ?_; rintro e w' ⟨rfl, rfl⟩) | (go_at_call 13; refine (rblocks_val 4 10 rfl _).mono ?_; rintro e w' ⟨rfl, rfl⟩))
    go_ret
    exact ⟨rfl, rfl⟩
  · go_enter Tryd.func15, Tryd.ntmps15
    go_wp2_with (first | (go_at_call 11; refine (rsize_val 5 128 rfl _).mono ?_; rintro e w' ⟨rfl, rfl⟩) | (go_at_call 13; refine (rblocks_val 5 8 rfl _).mono ?_; rintro e w' ⟨rfl, rfl⟩))
    go_ret
    exact ⟨rfl, rfl⟩
  · go_enter Tryd.func15, Tryd.ntmps15
    go_wp2_with (first | (go_at_call 11; refine (rsize_val 6 192 rfl _).mono ?_; rintro e w' ⟨rfl, rfl⟩) | (go_at_call 13; refine (rblocks_val 6 5 rfl _).mono ?_; rintro e w' ⟨rfl, rfl⟩))
    go_ret
    exact ⟨rfl, rfl⟩
  · go_enter Tryd.func15, Tryd.ntmps15
    go_wp2_with (first | (go_at_call 11; refine (rsize_val 7 256 rfl _).mono ?_; rintro e w' ⟨rfl, rfl⟩) | (go_at_call 13; refine (rblocks_val 7 4 rfl _).mono ?_; rintro e w' ⟨rfl, rfl⟩))
    go_ret
    exact ⟨rfl, rfl⟩
  · go_enter Tryd.func15, Tryd.ntmps15
    go_wp2_with (first | (go_at_call 11; refine (rsize_val 8 384 rfl _).mono ?_; rintro e w' ⟨rfl, rfl⟩) | (go_at_call 13; refine (rblocks_val 8 2 rfl _).mono ?_; rintro e w' ⟨rfl, rfl⟩))
    go_ret
    exact ⟨rfl, rfl⟩
  · go_enter Tryd.func15, Tryd.ntmps15
    go_wp2_with (first | (go_at_call 11; refine (rsize_val 9 512 rfl _).mono ?_; rintro e w' ⟨rfl, rfl⟩) | (go_at_call 13; refine (rblocks_val 9 2 rfl _).mono ?_; rintro e w' ⟨rfl, rfl⟩))
    go_ret
    exact ⟨rfl, rfl⟩
end Cls
end Go.Proofs.YteekbpcifiojlaaDoor
