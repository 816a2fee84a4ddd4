/- The walks of the five laws of layer 8: each returns true; the world is as it was, but for draws. Condition: the table class.sizes holds its ten numbers. -/
import Derived.Test.YteekbpcifiojlaaDoorClassD
import Derived.Deep.RegionWith
namespace Go.Proofs.YteekbpcifiojlaaDoor
open Go.RowKit
namespace Cls

set_option maxHeartbeats 800000 in
theorem tells_walk (c s : Int) (w : World) (hT : Tab w) : Calls Tryd.prog 3 #[.int .i64 c, .int .i64 s] w fun e w' => e = .returned (.bool true) ∧ QQ w w' := by
  go_enter Tryd.func3, Tryd.ntmps3
  go_wp2_with (first
    | (go_at_call 8; refine (of_any _ _ hT).mono ?_; rintro e w' ⟨rfl, rfl⟩)
    | (go_at_call 9; refine (rof_any _ _).mono ?_; rintro e w' ⟨rfl, rfl⟩)
    | (go_at_call 10; refine (size_any _ _ hT).mono ?_; rintro e w' ⟨rfl, rfl⟩)
    | (go_at_call 11; refine (rsize_any _ _).mono ?_; rintro e w' ⟨rfl, rfl⟩)
    | (go_at_call 12; refine (blocks_any _ _ hT).mono ?_; rintro e w' ⟨rfl, rfl⟩)
    | (go_at_call 13; refine (rblocks_any _ _).mono ?_; rintro e w' ⟨rfl, rfl⟩)
    | (go_at_call 14; refine (pad_any _ _ hT).mono ?_; rintro e w' ⟨rfl, rfl⟩)
    | (go_at_call 15; refine (rpad_any _ _).mono ?_; rintro e w' ⟨rfl, rfl⟩)
    | (go_at_call 16; refine (classes_true _ hT).mono ?_; rintro e w' ⟨rfl, rfl⟩))
  go_ret
  exact ⟨rfl, QQ.refl _⟩
set_option maxHeartbeats 800000 in
theorem holds_walk (c s : Int) (w : World) (hT : Tab w) : Calls Tryd.prog 4 #[.int .i64 c, .int .i64 s] w fun e w' => e = .returned (.bool true) ∧ QQ w w' := by
  go_enter Tryd.func4, Tryd.ntmps4
  go_wp2_with (first
    | (go_at_call 17; refine (entry_any _ _ hT).mono ?_; rintro e w' ⟨rfl, rfl⟩)
    | (go_at_call 18; refine (rentry_any _ _).mono ?_; rintro e w' ⟨rfl, rfl⟩)
    | (go_at_call 19; refine (node_any _ _ hT).mono ?_; rintro e w' ⟨rfl, rfl⟩)
    | (go_at_call 20; refine (rnode_any _ _).mono ?_; rintro e w' ⟨rfl, rfl⟩)
    | (go_at_call 16; refine (classes_true _ hT).mono ?_; rintro e w' ⟨rfl, rfl⟩))
  go_ret
  exact ⟨rfl, QQ.refl _⟩
set_option maxHeartbeats 800000 in
theorem places_walk (c i t : Int) (ht : t ≤ 9223372036854775807) (w : World) (hT : Tab w) : Calls Tryd.prog 6 #[.int .i64 c, .int .i64 i, .int .i64 t] w fun e w' => e = .returned (.bool true) ∧ QQ w w' := by
  go_enter Tryd.func6, Tryd.ntmps6
  go_wp2_with (first
    | (go_at_call 21; refine (place_any _ _ _ hT).mono ?_; rintro e w' ⟨rfl, rfl⟩)
    | (go_at_call 22; refine (rplace_any _ _ _).mono ?_; rintro e w' ⟨rfl, rfl⟩)
    | (go_at_call 23; refine (index_any _ _ ht _ hT).mono ?_; rintro e w1 ⟨rfl, hq⟩)
    | (go_at_call 24; refine (rindex_any _ _ _).mono ?_; rintro e w' ⟨rfl, rfl⟩)
    | (go_at_call 16; refine (classes_true _ (by first | exact hT | exact hT.q (by assumption))).mono ?_; rintro e w' ⟨rfl, rfl⟩))
  go_ret
  exact ⟨rfl, by assumption⟩
theorem ofE_in (s : Int) (h1 : 1 ≤ s) (h2 : s ≤ 512) : ofE s = 0 := by unfold ofE; rw [if_neg (by omega), if_pos (by omega)]
theorem of_vals (s : Int) : (s < 1 ∧ ofC s = 0 ∧ ofE s = 2) ∨ (512 < s ∧ ofC s = 0 ∧ ofE s = 22) ∨ (1 ≤ s ∧ s ≤ 32 ∧ ofC s = 1 ∧ ofE s = 0) ∨ (32 < s ∧ s ≤ 48 ∧ ofC s = 2 ∧ ofE s = 0) ∨ (48 < s ∧ s ≤ 64 ∧ ofC s = 3 ∧ ofE s = 0) ∨ (64 < s ∧ s ≤ 96 ∧ ofC s = 4 ∧ ofE s = 0) ∨ (96 < s ∧ s ≤ 128 ∧ ofC s = 5 ∧ ofE s = 0) ∨ (128 < s ∧ s ≤ 192 ∧ ofC s = 6 ∧ ofE s = 0) ∨ (192 < s ∧ s ≤ 256 ∧ ofC s = 7 ∧ ofE s = 0) ∨ (256 < s ∧ s ≤ 384 ∧ ofC s = 8 ∧ ofE s = 0) ∨ (384 < s ∧ s ≤ 512 ∧ ofC s = 9 ∧ ofE s = 0) := by
  by_cases h : s < 1
  · exact .inl ⟨h, if_pos h, if_pos h⟩
  by_cases h2 : 512 < s
  · exact .inr (.inl ⟨h2, by unfold ofC; repeat (rw [if_neg (by omega)]), by unfold ofE; repeat (rw [if_neg (by omega)])⟩)
  have hE := ofE_in s (by omega) (by omega)
  by_cases a1 : s ≤ 32
  · exact .inr <| .inr <| .inl ⟨by omega, a1, by unfold ofC; rw [if_neg (by omega)]; exact if_pos (by omega), hE⟩
  by_cases a2 : s ≤ 48
  · exact .inr <| .inr <| .inr <| .inl ⟨by omega, a2, by unfold ofC; rw [if_neg (by omega)]; rw [if_neg (by omega)]; exact if_pos (by omega), hE⟩
  by_cases a3 : s ≤ 64
  · exact .inr <| .inr <| .inr <| .inr <| .inl ⟨by omega, a3, by unfold ofC; rw [if_neg (by omega)]; rw [if_neg (by omega)]; rw [if_neg (by omega)]; exact if_pos (by omega), hE⟩
  by_cases a4 : s ≤ 96
  · exact .inr <| .inr <| .inr <| .inr <| .inr <| .inl ⟨by omega, a4, by unfold ofC; rw [if_neg (by omega)]; rw [if_neg (by omega)]; rw [if_neg (by omega)]; rw [if_neg (by omega)]; exact if_pos (by omega), hE⟩
  by_cases a5 : s ≤ 128
  · exact .inr <| .inr <| .inr <| .inr <| .inr <| .inr <| .inl ⟨by omega, a5, by unfold ofC; rw [if_neg (by omega)]; rw [if_neg (by omega)]; rw [if_neg (by omega)]; rw [if_neg (by omega)]; rw [if_neg (by omega)]; exact if_pos (by omega), hE⟩
  by_cases a6 : s ≤ 192
  · exact .inr <| .inr <| .inr <| .inr <| .inr <| .inr <| .inr <| .inl ⟨by omega, a6, by unfold ofC; rw [if_neg (by omega)]; rw [if_neg (by omega)]; rw [if_neg (by omega)]; rw [if_neg (by omega)]; rw [if_neg (by omega)]; rw [if_neg (by omega)]; exact if_pos (by omega), hE⟩
  by_cases a7 : s ≤ 256
  · exact .inr <| .inr <| .inr <| .inr <| .inr <| .inr <| .inr <| .inr <| .inl ⟨by omega, a7, by unfold ofC; rw [if_neg (by omega)]; rw [if_neg (by omega)]; rw [if_neg (by omega)]; rw [if_neg (by omega)]; rw [if_neg (by omega)]; rw [if_neg (by omega)]; rw [if_neg (by omega)]; exact if_pos (by omega), hE⟩
  by_cases a8 : s ≤ 384
  · exact .inr <| .inr <| .inr <| .inr <| .inr <| .inr <| .inr <| .inr <| .inr <| .inl ⟨by omega, a8, by unfold ofC; rw [if_neg (by omega)]; rw [if_neg (by omega)]; rw [if_neg (by omega)]; rw [if_neg (by omega)]; rw [if_neg (by omega)]; rw [if_neg (by omega)]; rw [if_neg (by omega)]; rw [if_neg (by omega)]; exact if_pos (by omega), hE⟩
  exact .inr <| .inr <| .inr <| .inr <| .inr <| .inr <| .inr <| .inr <| .inr <| .inr ⟨by omega, by omega, by unfold ofC; rw [if_neg (by omega)]; rw [if_neg (by omega)]; rw [if_neg (by omega)]; rw [if_neg (by omega)]; rw [if_neg (by omega)]; rw [if_neg (by omega)]; rw [if_neg (by omega)]; rw [if_neg (by omega)]; rw [if_neg (by omega)]; exact if_pos (by omega), hE⟩
set_option maxHeartbeats 1600000 in
theorem least_walk (s : Int) (w : World) (hT : Tab w) : Calls Tryd.prog 5 #[.int .i64 s] w fun e w' => e = .returned (.bool true) ∧ QQ w w' := by
  rcases of_vals s with ⟨h1, hc, hx⟩ | ⟨h1, hc, hx⟩ | ⟨h1, h2, hc, hx⟩ | ⟨h1, h2, hc, hx⟩ | ⟨h1, h2, hc, hx⟩ | ⟨h1, h2, hc, hx⟩ | ⟨h1, h2, hc, hx⟩ | ⟨h1, h2, hc, hx⟩ | ⟨h1, h2, hc, hx⟩ | ⟨h1, h2, hc, hx⟩ | ⟨h1, h2, hc, hx⟩
  · have hc := Lib.hid hc
    have hx := Lib.hid hx
    go_enter Tryd.func5, Tryd.ntmps5
    go_wp2_with (first
      | (go_at_call 8; refine (of_val _ 0 2 hc.out hx.out _ hT).mono ?_; rintro e w' ⟨rfl, rfl⟩)
      | (go_at_call 10; refine (size_val 9 512 rfl _ hT).mono ?_; rintro e w' ⟨rfl, rfl⟩)
      | (go_at_call 16; refine (classes_true _ hT).mono ?_; rintro e w' ⟨rfl, rfl⟩))
    go_ret
    exact ⟨rfl, QQ.refl _⟩
  · have hc := Lib.hid hc
    have hx := Lib.hid hx
    have h0 : 1 ≤ s := by omega
    go_enter Tryd.func5, Tryd.ntmps5
    go_wp2_with (first
      | (go_at_call 8; refine (of_val _ 0 22 hc.out hx.out _ hT).mono ?_; rintro e w' ⟨rfl, rfl⟩)
      | (go_at_call 10; refine (size_val 9 512 rfl _ hT).mono ?_; rintro e w' ⟨rfl, rfl⟩)
      | (go_at_call 16; refine (classes_true _ hT).mono ?_; rintro e w' ⟨rfl, rfl⟩))
    go_ret
    exact ⟨rfl, QQ.refl _⟩
  · have hc := Lib.hid hc
    have hx := Lib.hid hx
    have h0 : 1 ≤ s := by omega
    go_enter Tryd.func5, Tryd.ntmps5
    go_wp2_with (first
      | (go_at_call 8; refine (of_val _ 1 0 hc.out hx.out _ hT).mono ?_; rintro e w' ⟨rfl, rfl⟩)
      | (go_at_call_of 10 (Value.int .i64 1); refine (size_val 1 32 rfl _ hT).mono ?_; rintro e w' ⟨rfl, rfl⟩)
      | (go_at_call_of 10 (Value.int .i64 0); refine (size_val 0 0 rfl _ hT).mono ?_; rintro e w' ⟨rfl, rfl⟩)
      | (go_at_call 16; refine (classes_true _ hT).mono ?_; rintro e w' ⟨rfl, rfl⟩))
    go_ret
    exact ⟨rfl, QQ.refl _⟩
  · have hc := Lib.hid hc
    have hx := Lib.hid hx
    have h0 : 1 ≤ s := by omega
    go_enter Tryd.func5, Tryd.ntmps5
    go_wp2_with (first
      | (go_at_call 8; refine (of_val _ 2 0 hc.out hx.out _ hT).mono ?_; rintro e w' ⟨rfl, rfl⟩)
      | (go_at_call_of 10 (Value.int .i64 2); refine (size_val 2 48 rfl _ hT).mono ?_; rintro e w' ⟨rfl, rfl⟩)
      | (go_at_call_of 10 (Value.int .i64 1); refine (size_val 1 32 rfl _ hT).mono ?_; rintro e w' ⟨rfl, rfl⟩)
      | (go_at_call 16; refine (classes_true _ hT).mono ?_; rintro e w' ⟨rfl, rfl⟩))
    go_ret
    exact ⟨rfl, QQ.refl _⟩
  · have hc := Lib.hid hc
    have hx := Lib.hid hx
    have h0 : 1 ≤ s := by omega
    go_enter Tryd.func5, Tryd.ntmps5
    go_wp2_with (first
      | (go_at_call 8; refine (of_val _ 3 0 hc.out hx.out _ hT).mono ?_; rintro e w' ⟨rfl, rfl⟩)
      | (go_at_call_of 10 (Value.int .i64 3); refine (size_val 3 64 rfl _ hT).mono ?_; rintro e w' ⟨rfl, rfl⟩)
      | (go_at_call_of 10 (Value.int .i64 2); refine (size_val 2 48 rfl _ hT).mono ?_; rintro e w' ⟨rfl, rfl⟩)
      | (go_at_call 16; refine (classes_true _ hT).mono ?_; rintro e w' ⟨rfl, rfl⟩))
    go_ret
    exact ⟨rfl, QQ.refl _⟩
  · have hc := Lib.hid hc
    have hx := Lib.hid hx
    have h0 : 1 ≤ s := by omega
    go_enter Tryd.func5, Tryd.ntmps5
    go_wp2_with (first
      | (go_at_call 8; refine (of_val _ 4 0 hc.out hx.out _ hT).mono ?_; rintro e w' ⟨rfl, rfl⟩)
      | (go_at_call_of 10 (Value.int .i64 4); refine (size_val 4 96 rfl _ hT).mono ?_; rintro e w' ⟨rfl, rfl⟩)
      | (go_at_call_of 10 (Value.int .i64 3); refine (size_val 3 64 rfl _ hT).mono ?_; rintro e w' ⟨rfl, rfl⟩)
      | (go_at_call 16; refine (classes_true _ hT).mono ?_; rintro e w' ⟨rfl, rfl⟩))
    go_ret
    exact ⟨rfl, QQ.refl _⟩
  · have hc := Lib.hid hc
    have hx := Lib.hid hx
    have h0 : 1 ≤ s := by omega
    go_enter Tryd.func5, Tryd.ntmps5
    go_wp2_with (first
      | (go_at_call 8; refine (of_val _ 5 0 hc.out hx.out _ hT).mono ?_; rintro e w' ⟨rfl, rfl⟩)
      | (go_at_call_of 10 (Value.int .i64 5); refine (size_val 5 128 rfl _ hT).mono ?_; rintro e w' ⟨rfl, rfl⟩)
      | (go_at_call_of 10 (Value.int .i64 4); refine (size_val 4 96 rfl _ hT).mono ?_; rintro e w' ⟨rfl, rfl⟩)
      | (go_at_call 16; refine (classes_true _ hT).mono ?_; rintro e w' ⟨rfl, rfl⟩))
    go_ret
    exact ⟨rfl, QQ.refl _⟩
  · have hc := Lib.hid hc
    have hx := Lib.hid hx
    have h0 : 1 ≤ s := by omega
    go_enter Tryd.func5, Tryd.ntmps5
    go_wp2_with (first
      | (go_at_call 8; refine (of_val _ 6 0 hc.out hx.out _ hT).mono ?_; rintro e w' ⟨rfl, rfl⟩)
      | (go_at_call_of 10 (Value.int .i64 6); refine (size_val 6 192 rfl _ hT).mono ?_; rintro e w' ⟨rfl, rfl⟩)
      | (go_at_call_of 10 (Value.int .i64 5); refine (size_val 5 128 rfl _ hT).mono ?_; rintro e w' ⟨rfl, rfl⟩)
      | (go_at_call 16; refine (classes_true _ hT).mono ?_; rintro e w' ⟨rfl, rfl⟩))
    go_ret
    exact ⟨rfl, QQ.refl _⟩
  · have hc := Lib.hid hc
    have hx := Lib.hid hx
    have h0 : 1 ≤ s := by omega
    go_enter Tryd.func5, Tryd.ntmps5
    go_wp2_with (first
      | (go_at_call 8; refine (of_val _ 7 0 hc.out hx.out _ hT).mono ?_; rintro e w' ⟨rfl, rfl⟩)
      | (go_at_call_of 10 (Value.int .i64 7); refine (size_val 7 256 rfl _ hT).mono ?_; rintro e w' ⟨rfl, rfl⟩)
      | (go_at_call_of 10 (Value.int .i64 6); refine (size_val 6 192 rfl _ hT).mono ?_; rintro e w' ⟨rfl, rfl⟩)
      | (go_at_call 16; refine (classes_true _ hT).mono ?_; rintro e w' ⟨rfl, rfl⟩))
    go_ret
    exact ⟨rfl, QQ.refl _⟩
  · have hc := Lib.hid hc
    have hx := Lib.hid hx
    have h0 : 1 ≤ s := by omega
    go_enter Tryd.func5, Tryd.ntmps5
    go_wp2_with (first
      | (go_at_call 8; refine (of_val _ 8 0 hc.out hx.out _ hT).mono ?_; rintro e w' ⟨rfl, rfl⟩)
      | (go_at_call_of 10 (Value.int .i64 8); refine (size_val 8 384 rfl _ hT).mono ?_; rintro e w' ⟨rfl, rfl⟩)
      | (go_at_call_of 10 (Value.int .i64 7); refine (size_val 7 256 rfl _ hT).mono ?_; rintro e w' ⟨rfl, rfl⟩)
      | (go_at_call 16; refine (classes_true _ hT).mono ?_; rintro e w' ⟨rfl, rfl⟩))
    go_ret
    exact ⟨rfl, QQ.refl _⟩
  · have hc := Lib.hid hc
    have hx := Lib.hid hx
    have h0 : 1 ≤ s := by omega
    go_enter Tryd.func5, Tryd.ntmps5
    go_wp2_with (first
      | (go_at_call 8; refine (of_val _ 9 0 hc.out hx.out _ hT).mono ?_; rintro e w' ⟨rfl, rfl⟩)
      | (go_at_call_of 10 (Value.int .i64 9); refine (size_val 9 512 rfl _ hT).mono ?_; rintro e w' ⟨rfl, rfl⟩)
      | (go_at_call_of 10 (Value.int .i64 8); refine (size_val 8 384 rfl _ hT).mono ?_; rintro e w' ⟨rfl, rfl⟩)
      | (go_at_call 16; refine (classes_true _ hT).mono ?_; rintro e w' ⟨rfl, rfl⟩))
    go_ret
    exact ⟨rfl, QQ.refl _⟩
end Cls
end Go.Proofs.YteekbpcifiojlaaDoor
