/- Layer 1 (num): the contracts of place and May. Condition: the length is a length. -/
import Derived.Test.YtijfhgbddkcglaaNumA
namespace Go.Proofs.Ytijfhgbddkcglaa
open Go.RowKit
namespace Num

theorem plE_cases (n a w : Int) : (isW w = false ∧ plE n a w = 2) ∨ (isW w = true ∧ a < 0 ∧ plE n a w = 6) ∨ (isW w = true ∧ 0 ≤ a ∧ n < a ∧ plE n a w = 6) ∨ (isW w = true ∧ 0 ≤ a ∧ a ≤ n ∧ n - a < w ∧ plE n a w = 6) ∨
    (isW w = true ∧ 0 ≤ a ∧ a ≤ n ∧ w ≤ n - a ∧ (a % w == 0) = false ∧ plE n a w = 9) ∨ (isW w = true ∧ 0 ≤ a ∧ a ≤ n ∧ w ≤ n - a ∧ (a % w == 0) = true ∧ plE n a w = 0) := by
  unfold plE
  cases hw : isW w with
  | false => exact .inl ⟨rfl, rfl⟩
  | true =>
    rw [if_neg (show ¬ (true = false) by decide)]
    by_cases h1 : a < 0
    · exact .inr (.inl ⟨rfl, h1, if_pos (.inl h1)⟩)
    · by_cases h2 : n < a
      · exact .inr (.inr (.inl ⟨rfl, by omega, h2, if_pos (.inr (.inl h2))⟩))
      · by_cases h3 : n - a < w
        · exact .inr (.inr (.inr (.inl ⟨rfl, by omega, by omega, h3, if_pos (.inr (.inr h3))⟩)))
        · rw [if_neg (by omega)]
          by_cases h4 : a % w = 0
          · exact .inr (.inr (.inr (.inr (.inr ⟨rfl, by omega, by omega, by omega, by simpa using h4, by simp [h4]⟩))))
          · exact .inr (.inr (.inr (.inr (.inl ⟨rfl, by omega, by omega, by omega, by simpa using h4, by simp [h4]⟩))))
theorem isW_bd {w : Int} (h : isW w = true) : 1 ≤ w ∧ w ≤ 8 := by have := isW_yes h; omega

set_option maxHeartbeats 400000 in
theorem place_any (n a w : Int) (hn : 0 ≤ n) (hm : n ≤ 9223372036854775807) (ha : a ≤ 9223372036854775807) (W : World) : Calls Try.prog 20 #[.int .i64 n, .int .i64 a, .int .i64 w] W fun e W' => e = .returned (.int .i64 (plE n a w)) ∧ W = W' := by
  rcases plE_cases n a w with ⟨hw, k⟩ | ⟨hw, h1, k⟩ | ⟨hw, h1, h2, k⟩ | ⟨hw, h1, h2, h3, k⟩ | ⟨hw, h1, h2, h3, h4, k⟩ | ⟨hw, h1, h2, h3, h4, k⟩
  · have K := Lib.hid k
    have HW := Lib.hid hw
    clear k hw
    go_enter Try.func20, Try.ntmps20
    go_wp2_with (go_at_call 22; refine (width_val _ false HW.out _).mono ?_; rintro e w' ⟨rfl, rfl⟩)
    go_ret
    exact ⟨ret_int K.out, rfl⟩
  · have K := Lib.hid k
    have HW := Lib.hid hw
    have hb := isW_bd hw
    obtain ⟨hb1, hb2⟩ := hb
    clear k hw
    go_enter Try.func20, Try.ntmps20
    go_wp2_with (go_at_call 22; refine (width_val _ true HW.out _).mono ?_; rintro e w' ⟨rfl, rfl⟩)
    go_ret
    exact ⟨ret_int K.out, rfl⟩
  · have K := Lib.hid k
    have HW := Lib.hid hw
    have hb := isW_bd hw
    obtain ⟨hb1, hb2⟩ := hb
    clear k hw
    go_enter Try.func20, Try.ntmps20
    go_wp2_with (go_at_call 22; refine (width_val _ true HW.out _).mono ?_; rintro e w' ⟨rfl, rfl⟩)
    go_ret
    exact ⟨ret_int K.out, rfl⟩
  · have K := Lib.hid k
    have HW := Lib.hid hw
    have hb := isW_bd hw
    obtain ⟨hb1, hb2⟩ := hb
    have h5 : ¬ w ≤ n - a := by omega
    clear k hw
    go_enter Try.func20, Try.ntmps20
    go_wp2_with (go_at_call 22; refine (width_val _ true HW.out _).mono ?_; rintro e w' ⟨rfl, rfl⟩)
    go_ret
    exact ⟨ret_int K.out, rfl⟩
  · have K := Lib.hid k
    have HW := Lib.hid hw
    have hb := isW_bd hw
    obtain ⟨hb1, hb2⟩ := hb
    have H4 := Lib.hid h4
    clear h4
    clear k hw
    go_enter Try.func20, Try.ntmps20
    go_wp2_with (first | (go_at_call 22; refine (width_val _ true HW.out _).mono ?_; rintro e w' ⟨rfl, rfl⟩) | (go_at_call 25; refine (divides_val _ _ false H4.out hb1 h1 _).mono ?_; rintro e w' ⟨rfl, rfl⟩))
    go_ret
    exact ⟨ret_int K.out, rfl⟩
  · have K := Lib.hid k
    have HW := Lib.hid hw
    have hb := isW_bd hw
    obtain ⟨hb1, hb2⟩ := hb
    have H4 := Lib.hid h4
    clear h4
    clear k hw
    go_enter Try.func20, Try.ntmps20
    go_wp2_with (first | (go_at_call 22; refine (width_val _ true HW.out _).mono ?_; rintro e w' ⟨rfl, rfl⟩) | (go_at_call 25; refine (divides_val _ _ true H4.out hb1 h1 _).mono ?_; rintro e w' ⟨rfl, rfl⟩))
    go_ret
    exact ⟨ret_int K.out, rfl⟩
theorem place_val (n a w x : Int) (hx : plE n a w = x) (hn : 0 ≤ n) (hm : n ≤ 9223372036854775807) (ha : a ≤ 9223372036854775807) (W : World) : Calls Try.prog 20 #[.int .i64 n, .int .i64 a, .int .i64 w] W fun e W' => e = .returned (.int .i64 x) ∧ W = W' := hx ▸ place_any n a w hn hm ha W

set_option maxHeartbeats 400000 in
theorem may_any (n a w : Int) (hn : 0 ≤ n) (hm : n ≤ 9223372036854775807) (ha : a ≤ 9223372036854775807) (W : World) : Calls Try.prog 21 #[.int .i64 n, .int .i64 a, .int .i64 w] W fun e W' => e = .returned (.int .i64 (plE n a w)) ∧ W = W' := by
  rcases plE_cases n a w with ⟨hw, k⟩ | ⟨hw, h1, k⟩ | ⟨hw, h1, h2, k⟩ | ⟨hw, h1, h2, h3, k⟩ | ⟨hw, h1, h2, h3, h4, k⟩ | ⟨hw, h1, h2, h3, h4, k⟩
  · have K := Lib.hid k
    have HW := Lib.hid hw
    clear k hw
    go_enter Try.func21, Try.ntmps21
    go_wp2_with (go_at_call 24; refine (rwidth_val _ false HW.out _).mono ?_; rintro e w' ⟨rfl, rfl⟩)
    go_ret
    exact ⟨ret_int K.out, rfl⟩
  · have K := Lib.hid k
    have HW := Lib.hid hw
    have hb := isW_bd hw
    obtain ⟨hb1, hb2⟩ := hb
    clear k hw
    go_enter Try.func21, Try.ntmps21
    go_wp2_with (go_at_call 24; refine (rwidth_val _ true HW.out _).mono ?_; rintro e w' ⟨rfl, rfl⟩)
    go_ret
    exact ⟨ret_int K.out, rfl⟩
  · have K := Lib.hid k
    have HW := Lib.hid hw
    have hb := isW_bd hw
    obtain ⟨hb1, hb2⟩ := hb
    clear k hw
    go_enter Try.func21, Try.ntmps21
    go_wp2_with (go_at_call 24; refine (rwidth_val _ true HW.out _).mono ?_; rintro e w' ⟨rfl, rfl⟩)
    go_ret
    exact ⟨ret_int K.out, rfl⟩
  · have K := Lib.hid k
    have HW := Lib.hid hw
    have hb := isW_bd hw
    obtain ⟨hb1, hb2⟩ := hb
    have h5 : ¬ w ≤ n - a := by omega
    clear k hw
    go_enter Try.func21, Try.ntmps21
    go_wp2_with (go_at_call 24; refine (rwidth_val _ true HW.out _).mono ?_; rintro e w' ⟨rfl, rfl⟩)
    go_ret
    exact ⟨ret_int K.out, rfl⟩
  · have K := Lib.hid k
    have HW := Lib.hid hw
    have hb := isW_bd hw
    obtain ⟨hb1, hb2⟩ := hb
    have h6 : (a % w != 0) = true := by simpa using h4
    clear h4
    have hb0 : (w == 0) = false := by simp; omega
    clear k hw
    go_enter Try.func21, Try.ntmps21
    go_wp2_with (go_at_call 24; refine (rwidth_val _ true HW.out _).mono ?_; rintro e w' ⟨rfl, rfl⟩)
    go_ret
    exact ⟨ret_int K.out, rfl⟩
  · have K := Lib.hid k
    have HW := Lib.hid hw
    have hb := isW_bd hw
    obtain ⟨hb1, hb2⟩ := hb
    have h6 : (a % w != 0) = false := by simpa using h4
    clear h4
    have hb0 : (w == 0) = false := by simp; omega
    clear k hw
    go_enter Try.func21, Try.ntmps21
    go_wp2_with (go_at_call 24; refine (rwidth_val _ true HW.out _).mono ?_; rintro e w' ⟨rfl, rfl⟩)
    go_ret
    exact ⟨ret_int K.out, rfl⟩
theorem may_val (n a w x : Int) (hx : plE n a w = x) (hn : 0 ≤ n) (hm : n ≤ 9223372036854775807) (ha : a ≤ 9223372036854775807) (W : World) : Calls Try.prog 21 #[.int .i64 n, .int .i64 a, .int .i64 w] W fun e W' => e = .returned (.int .i64 x) ∧ W = W' := hx ▸ may_any n a w hn hm ha W

end Num
end Go.Proofs.Ytijfhgbddkcglaa
