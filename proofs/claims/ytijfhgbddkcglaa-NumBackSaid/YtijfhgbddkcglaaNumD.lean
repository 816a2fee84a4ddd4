/- Layer 1 (num): the contracts of Fits, Round, Halves of both sides. Conditions: the numbers are a uint64's, an int's. -/
import Derived.Test.YtijfhgbddkcglaaNumC
import Derived.Test.YtijfhgbddkcglaaNumN
namespace Go.Proofs.Ytijfhgbddkcglaa
open Go.RowKit
namespace Num

theorem fits_any (v w : Int) (h0 : 0 ≤ v) (h1 : v ≤ 18446744073709551615) (W : World) : Calls Try.prog 14 #[.int .u64 v, .int .i64 w] W fun e W' => e = .returned (.bool (fitB (isW w) v w)) ∧ W = W' := by
  rcases isW_cases w with ⟨h, k⟩ | ⟨h, k⟩ | ⟨rfl, k⟩ | ⟨rfl, k⟩ | ⟨rfl, k⟩ | ⟨rfl, k⟩ | ⟨rfl, k⟩ | ⟨rfl, k⟩ | ⟨rfl, k⟩ | ⟨rfl, k⟩
  · have K := Lib.hid (show fitB (isW w) v w = false by unfold fitB; rw [k]; rfl)
    have HW := Lib.hid k
    clear k
    have h8 : (w == 8) = false := by simp; omega
    go_enter Try.func14, Try.ntmps14
    go_wp2_with (go_at_call 22; refine (width_val _ false HW.out _).mono ?_; rintro e w' ⟨rfl, rfl⟩)
    go_ret
    exact ⟨ret_bool K.out, rfl⟩
  · have K := Lib.hid (show fitB (isW w) v w = false by unfold fitB; rw [k]; rfl)
    have HW := Lib.hid k
    clear k
    have h8 : (w == 8) = false := by simp; omega
    go_enter Try.func14, Try.ntmps14
    go_wp2_with (go_at_call 22; refine (width_val _ false HW.out _).mono ?_; rintro e w' ⟨rfl, rfl⟩)
    go_ret
    exact ⟨ret_bool K.out, rfl⟩
  · have K := Lib.hid (show fitB (isW 3) v 3 = false by unfold fitB; rw [k]; rfl)
    have HW := Lib.hid k
    clear k
    go_enter Try.func14, Try.ntmps14
    go_wp2_with (go_at_call 22; refine (width_val _ false HW.out _).mono ?_; rintro e w' ⟨rfl, rfl⟩)
    go_ret
    exact ⟨ret_bool K.out, rfl⟩
  · have K := Lib.hid (show fitB (isW 5) v 5 = false by unfold fitB; rw [k]; rfl)
    have HW := Lib.hid k
    clear k
    go_enter Try.func14, Try.ntmps14
    go_wp2_with (go_at_call 22; refine (width_val _ false HW.out _).mono ?_; rintro e w' ⟨rfl, rfl⟩)
    go_ret
    exact ⟨ret_bool K.out, rfl⟩
  · have K := Lib.hid (show fitB (isW 6) v 6 = false by unfold fitB; rw [k]; rfl)
    have HW := Lib.hid k
    clear k
    go_enter Try.func14, Try.ntmps14
    go_wp2_with (go_at_call 22; refine (width_val _ false HW.out _).mono ?_; rintro e w' ⟨rfl, rfl⟩)
    go_ret
    exact ⟨ret_bool K.out, rfl⟩
  · have K := Lib.hid (show fitB (isW 7) v 7 = false by unfold fitB; rw [k]; rfl)
    have HW := Lib.hid k
    clear k
    go_enter Try.func14, Try.ntmps14
    go_wp2_with (go_at_call 22; refine (width_val _ false HW.out _).mono ?_; rintro e w' ⟨rfl, rfl⟩)
    go_ret
    exact ⟨ret_bool K.out, rfl⟩
  · have K := Lib.hid (show fitB (isW 1) v 1 = (v / 256 == 0) by unfold fitB; rw [k, Bool.true_and, ← sh_none v h0 ((1 : Int).toNat)]; rfl)
    have HW := Lib.hid k
    clear k
    go_enter Try.func14, Try.ntmps14
    go_wp2_with (go_at_call 22; refine (width_val _ true HW.out _).mono ?_; rintro e w' ⟨rfl, rfl⟩)
    go_ret
    exact ⟨ret_bool K.out, rfl⟩
  · have K := Lib.hid (show fitB (isW 2) v 2 = (v / 65536 == 0) by unfold fitB; rw [k, Bool.true_and, ← sh_none v h0 ((2 : Int).toNat)]; rfl)
    have HW := Lib.hid k
    clear k
    go_enter Try.func14, Try.ntmps14
    go_wp2_with (go_at_call 22; refine (width_val _ true HW.out _).mono ?_; rintro e w' ⟨rfl, rfl⟩)
    go_ret
    exact ⟨ret_bool K.out, rfl⟩
  · have K := Lib.hid (show fitB (isW 4) v 4 = (v / 4294967296 == 0) by unfold fitB; rw [k, Bool.true_and, ← sh_none v h0 ((4 : Int).toNat)]; rfl)
    have HW := Lib.hid k
    clear k
    go_enter Try.func14, Try.ntmps14
    go_wp2_with (go_at_call 22; refine (width_val _ true HW.out _).mono ?_; rintro e w' ⟨rfl, rfl⟩)
    go_ret
    exact ⟨ret_bool K.out, rfl⟩
  · have K := Lib.hid (show fitB (isW 8) v 8 = true by unfold fitB; rw [k]; simp; omega)
    clear k
    go_enter Try.func14, Try.ntmps14
    go_wp2
    go_ret
    exact ⟨ret_bool K.out, rfl⟩
theorem rfits_any (v w : Int) (h0 : 0 ≤ v) (h1 : v ≤ 18446744073709551615) (W : World) : Calls Try.prog 15 #[.int .u64 v, .int .i64 w] W fun e W' => e = .returned (.bool (fitB (isW w) v w)) ∧ W = W' := by
  cases k : isW w with
  | false =>
    have HW := Lib.hid k
    clear k
    have K := Lib.hid (show fitB false v w = false from rfl)
    go_enter Try.func15, Try.ntmps15
    go_wp2_with (go_at_call 24; refine (rwidth_val _ false HW.out _).mono ?_; rintro e w' ⟨rfl, rfl⟩)
    go_ret
    exact ⟨ret_bool K.out, rfl⟩
  | true =>
    have hw := isW_bd k
    obtain ⟨y, rfl⟩ := Int.eq_ofNat_of_zero_le (show 0 ≤ w by omega)
    have K := Lib.hid (show fitB true v (y : Int) = (sh v y == 0) by unfold fitB; rw [Bool.true_and, sh_none v h0 y]; rfl)
    have HW := Lib.hid k
    have hz := Lib.hid (sh_zero v)
    clear k
    go_enter Try.func15, Try.ntmps15
    go_wp2_with (go_at_call 24; refine (rwidth_val _ true HW.out _).mono ?_; rintro e w' ⟨rfl, rfl⟩)
    go_loop [0, 5] (fun x i => ∃ k : Nat, k ≤ y ∧ i = .int .i64 k ∧ x = .int .u64 (sh v k)) (fun _ i => y - (intOf i).toNat)
    case atStart => exact ⟨0, by omega, rfl, by rw [hz.out]⟩
    case round =>
      obtain ⟨k, hk, rfl, rfl⟩ := hrel
      have hb := sh_bd v h0 k
      by_cases hlt : k < y
      · have H := Lib.hid (sh_succ v k)
        go_wp2
        go_round
        case rel => exact ⟨k + 1, by omega, by go_num, by rw [H.out]⟩
        case measure => simp [intOf]; omega
      · obtain rfl : k = y := by omega
        go_wp2
        go_ret
        exact ⟨ret_bool K.out, rfl⟩

theorem round_out (n t : Int) (h : n < 0 ∨ 1073741824 < n ∨ t < 1 ∨ 4096 < t) (W : World) : Calls Try.prog 16 #[.int .i64 n, .int .i64 t] W fun e W' => e = .returned (.int .i64 (rd n t)) ∧ W = W' := by
  have K := Lib.hid (rd_out h)
  by_cases h1 : n < 0
  · go_enter Try.func16, Try.ntmps16
    go_wp2
    go_ret
    exact ⟨ret_int K.out, rfl⟩
  by_cases h2 : 1073741824 < n
  · go_enter Try.func16, Try.ntmps16
    go_wp2
    go_ret
    exact ⟨ret_int K.out, rfl⟩
  by_cases h3 : t < 1
  · go_enter Try.func16, Try.ntmps16
    go_wp2
    go_ret
    exact ⟨ret_int K.out, rfl⟩
  have h4 : 4096 < t := by omega
  go_enter Try.func16, Try.ntmps16
  go_wp2
  go_ret
  exact ⟨ret_int K.out, rfl⟩
theorem rround_out (n t : Int) (h : n < 0 ∨ 1073741824 < n ∨ t < 1 ∨ 4096 < t) (W : World) : Calls Try.prog 17 #[.int .i64 n, .int .i64 t] W fun e W' => e = .returned (.int .i64 (rd n t)) ∧ W = W' := by
  have K := Lib.hid (rd_out h)
  by_cases h1 : n < 0
  · go_enter Try.func17, Try.ntmps17
    go_wp2
    go_ret
    exact ⟨ret_int K.out, rfl⟩
  by_cases h2 : 1073741824 < n
  · go_enter Try.func17, Try.ntmps17
    go_wp2
    go_ret
    exact ⟨ret_int K.out, rfl⟩
  by_cases h3 : t < 1
  · go_enter Try.func17, Try.ntmps17
    go_wp2
    go_ret
    exact ⟨ret_int K.out, rfl⟩
  have h4 : 4096 < t := by omega
  go_enter Try.func17, Try.ntmps17
  go_wp2
  go_ret
  exact ⟨ret_int K.out, rfl⟩
theorem round_any (n t : Int) (W : World) : Calls Try.prog 16 #[.int .i64 n, .int .i64 t] W fun e W' => e = .returned (.int .i64 (rd n t)) ∧ W = W' := by
  by_cases h : n < 0 ∨ 1073741824 < n ∨ t < 1 ∨ 4096 < t
  · exact round_out n t h W
  · have h0 : 0 ≤ n := by omega
    have h1 : n ≤ 1073741824 := by omega
    have h2 : 1 ≤ t := by omega
    have h3 : t ≤ 4096 := by omega
    by_cases hz : n % t = 0
    · have K := Lib.hid (rd_same h hz)
      have Z := Lib.hid (show (n % t == 0) = true by simpa using hz)
      clear h hz
      go_enter Try.func16, Try.ntmps16
      go_wp2_with (go_at_call 25; refine (divides_val _ _ true Z.out h2 h0 _).mono ?_; rintro e w' ⟨rfl, rfl⟩)
      go_ret
      exact ⟨ret_int K.out, rfl⟩
    · have K := Lib.hid (rd_up h hz)
      have Z := Lib.hid (show (n % t == 0) = false by simpa using hz)
      have hr0 := Int.emod_nonneg n (show t ≠ 0 by omega)
      have hr1 := Int.emod_lt_of_pos n (show 0 < t by omega)
      have ht0 : (t == 0) = false := by simp; omega
      clear h hz
      go_enter Try.func16, Try.ntmps16
      go_wp2_with (go_at_call 25; refine (divides_val _ _ false Z.out h2 h0 _).mono ?_; rintro e w' ⟨rfl, rfl⟩)
      go_ret
      exact ⟨ret_int K.out, rfl⟩
theorem rround_any (n t : Int) (W : World) : Calls Try.prog 17 #[.int .i64 n, .int .i64 t] W fun e W' => e = .returned (.int .i64 (rd n t)) ∧ W = W' := by
  by_cases h : n < 0 ∨ 1073741824 < n ∨ t < 1 ∨ 4096 < t
  · exact rround_out n t h W
  · have h0 : 0 ≤ n := by omega
    have h1 : n ≤ 1073741824 := by omega
    have h2 : 1 ≤ t := by omega
    have h3 : t ≤ 4096 := by omega
    have ht0 : (t == 0) = false := by simp; omega
    obtain ⟨r, hr⟩ : ∃ r, r = rd n t := ⟨_, rfl⟩
    have hr0 := Int.emod_nonneg n (show t ≠ 0 by omega)
    have hr1 := Int.emod_lt_of_pos n (show 0 < t by omega)
    have hb : n ≤ r ∧ r ≤ n + t ∧ r % t = 0 ∧ ∀ m, n ≤ m → m < r → m % t ≠ 0 := by
      rw [hr]
      by_cases hz : n % t = 0
      · rw [rd_same h hz]
        exact ⟨by omega, by omega, hz, fun m a b => by omega⟩
      · rw [rd_up h hz]
        exact ⟨by omega, by omega, rd_at, fun m a b => rd_between h2 hz a b⟩
    rw [← hr]
    obtain ⟨b1, b2, b3, b4⟩ := hb
    have B3 := Lib.hid b3
    have B4 := Lib.hid b4
    clear h b3 b4 hr hr0 hr1
    go_enter Try.func17, Try.ntmps17
    go_wp2
    go_loop [0] (fun x => ∃ m : Int, n ≤ m ∧ m ≤ r ∧ x = .int .i64 m) (fun x => (r - intOf x).toNat)
    case atStart => exact ⟨n, by omega, by omega, rfl⟩
    case round =>
      obtain ⟨m, hm1, hm2, rfl⟩ := hrel
      by_cases hlt : m < r
      · have hne : (m % t != 0) = true := by simpa using B4.out m hm1 hlt
        go_wp2
        go_round
        case rel => exact ⟨m + 1, by omega, by omega, rfl⟩
        case measure => simp [intOf]; omega
      · obtain rfl : m = r := by omega
        have hne : (m % t != 0) = false := by simpa using B3.out
        go_wp2
        go_ret
        exact ⟨rfl, rfl⟩

theorem halves_any (n : Int) (hn : n ≤ 9223372036854775807) (W : World) : Calls Try.prog 18 #[.int .i64 n] W fun e W' => e = .returned (.int .i64 (hvI n)) ∧ W = W' := by
  by_cases h0 : n ≤ 0
  · have K := Lib.hid (show hvI n = 0 by unfold hvI; rw [show n.toNat = 0 by omega]; rfl)
    go_enter Try.func18, Try.ntmps18
    go_wp2
    go_loop [0, 3] (fun x k => x = .int .i64 n ∧ k = .int .i64 0) (fun _ _ => 0)
    case atStart => exact ⟨rfl, rfl⟩
    case round =>
      obtain ⟨rfl, rfl⟩ := hrel
      go_wp2
      go_ret
      exact ⟨ret_int K.out, rfl⟩
  · obtain ⟨a, rfl⟩ := Int.eq_ofNat_of_zero_le (show 0 ≤ n by omega)
    have K := Lib.hid (show hvI (a : Int) = hv a from rfl)
    have hl := hv_le a (by omega)
    clear h0
    go_enter Try.func18, Try.ntmps18
    go_wp2
    go_loop [0, 3] (fun x k => ∃ m j : Nat, m ≤ a ∧ j + hv m = hv a ∧ x = .int .i64 m ∧ k = .int .i64 j) (fun x _ => (intOf x).toNat)
    case atStart => exact ⟨a, 0, by omega, by omega, rfl, rfl⟩
    case round =>
      obtain ⟨m, j, hm, hj, rfl, rfl⟩ := hrel
      have HJ := Lib.hid hj
      have hj1 : j ≤ 64 := by omega
      clear hj
      by_cases hlt : 0 < m
      · have HS := Lib.hid (hv_step m hlt)
        go_wp2
        go_round
        case rel => exact ⟨m / 2, j + 1, by omega, by have := HJ.out; have := HS.out; omega, by go_num, by go_num⟩
        case measure => simp [intOf]; omega
      · obtain rfl : m = 0 := by omega
        have K2 := Lib.hid (show hvI (a : Int) = (j : Int) by have h1 := HJ.out; have h2 := K.out; rw [hv_zero] at h1; omega)
        go_wp2
        go_ret
        exact ⟨ret_int K2.out, rfl⟩
theorem rhalves_any (n : Int) (hn : n ≤ 9223372036854775807) (W : World) : Calls Try.prog 19 #[.int .i64 n] W fun e W' => e = .returned (.int .i64 (hvI n)) ∧ W = W' := by
  by_cases h0 : n ≤ 0
  · have K := Lib.hid (show hvI n = 0 by unfold hvI; rw [show n.toNat = 0 by omega]; rfl)
    go_enter Try.func19, Try.ntmps19
    go_wp2
    go_loop [0, 3] (fun x k => x = .int .i64 n ∧ k = .int .i64 0) (fun _ _ => 0)
    case atStart => exact ⟨rfl, rfl⟩
    case round =>
      obtain ⟨rfl, rfl⟩ := hrel
      go_wp2
      go_ret
      exact ⟨ret_int K.out, rfl⟩
  · obtain ⟨a, rfl⟩ := Int.eq_ofNat_of_zero_le (show 0 ≤ n by omega)
    have K := Lib.hid (show hvI (a : Int) = hv a from rfl)
    have hl := hv_le a (by omega)
    clear h0
    go_enter Try.func19, Try.ntmps19
    go_wp2
    go_loop [0, 3] (fun x k => ∃ m j : Nat, m ≤ a ∧ j + hv m = hv a ∧ x = .int .i64 m ∧ k = .int .i64 j) (fun x _ => (intOf x).toNat)
    case atStart => exact ⟨a, 0, by omega, by omega, rfl, rfl⟩
    case round =>
      obtain ⟨m, j, hm, hj, rfl, rfl⟩ := hrel
      have HJ := Lib.hid hj
      have hj1 : j ≤ 64 := by omega
      clear hj
      by_cases hlt : 0 < m
      · have HS := Lib.hid (hv_step m hlt)
        go_wp2
        go_round
        case rel => exact ⟨m / 2, j + 1, by omega, by have := HJ.out; have := HS.out; omega, by go_num, by go_num⟩
        case measure => simp [intOf]; omega
      · obtain rfl : m = 0 := by omega
        have K2 := Lib.hid (show hvI (a : Int) = (j : Int) by have h1 := HJ.out; have h2 := K.out; rw [hv_zero] at h1; omega)
        go_wp2
        go_ret
        exact ⟨ret_int K2.out, rfl⟩
end Num
end Go.Proofs.Ytijfhgbddkcglaa
