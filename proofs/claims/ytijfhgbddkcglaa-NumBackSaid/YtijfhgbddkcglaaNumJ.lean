/- Layer 1 (num): the walk of the law NumParts: it returns true and writes nothing that was there. Conditions: the arguments are of their types. -/
import Derived.Test.YtijfhgbddkcglaaNumI
import Derived.Test.YtijfhgbddkcglaaNumO
namespace Go.Proofs.Ytijfhgbddkcglaa
open Go.RowKit
namespace Num

theorem load_val (A : Option Addr) (l : List Int) (cap : Nat) (a w x e : Int) (W : World) (hl : l.length ≤ 9223372036854775807) (ha : a ≤ 9223372036854775807) (hb : Bytes W A l) (hx : ldV l a w = x) (he : plE l.length a w = e) :
    Calls Try.prog 9 #[.slice A l.length cap, .int .i64 a, .int .i64 w] W fun e' W' => e' = .returned (.tuple #[.int .u64 x, .int .i64 e]) ∧ W = W' := hx ▸ he ▸ load_any A l cap a w W hl ha hb
theorem plE_of {n : Nat} {a w : Int} (hw : isW w = true) (h0 : 0 ≤ a) (h1 : a + w ≤ n) (h2 : a % w = 0) : plE n a w = 0 := by
  unfold plE
  have := isW_bd hw
  rw [if_neg (by rw [hw]; simp), if_neg (by omega), if_neg (by simpa using h2)]
theorem plE_at {n : Nat} {a w : Int} (h : plE n a w = 0) : a % w = 0 := by
  rcases plE_cases n a w with ⟨_, k⟩ | ⟨_, _, k⟩ | ⟨_, _, _, k⟩ | ⟨_, _, _, _, k⟩ | ⟨_, _, _, _, _, k⟩ | ⟨hw, h1, h2, h3, h4, k⟩
  · rw [k] at h; cases h
  · rw [k] at h; cases h
  · rw [k] at h; cases h
  · rw [k] at h; cases h
  · rw [k] at h; cases h
  · simpa using h4
theorem ldV_ok {l : List Int} {a w : Nat} (h : plE l.length a w = 0) : ldV l a w = ld l a w := if_pos h
set_option maxHeartbeats 1600000 in
theorem numParts_walk (A : Option Addr) (l : List Int) (cap : Nat) (a : Int) (W : World) (hl : l.length ≤ 9223372036854775807) (ha : a ≤ 9223372036854775807) (hb : Bytes W A l) :
    Calls Try.prog 7 #[.slice A l.length cap, .int .i64 a] W fun e W' => e = .returned (.bool true) ∧ Below W.heap.size W W' := by
  have hby := hb.getD
  have HB := Lib.hid hb
  have HY := Lib.hid hby
  clear hb hby
  by_cases h : 300 < l.length
  · go_enter Try.func7, Try.ntmps7
    go_wp2_with (go_at_call 8; refine (loads_true _).mono ?_; rintro e w1 ⟨rfl, hb1⟩)
    go_ret
    exact ⟨rfl, by assumption⟩
  by_cases h0 : plE l.length a 8 = 0
  · obtain ⟨x, y, rfl, hy, hxy, _, _⟩ := plE_zero h0
    obtain rfl : y = 8 := by omega
    have hm := plE_at h0
    have hv8 : ldV l x 8 = ld l x 8 := ldV_ok h0
    have e4 : plE l.length x 4 = 0 := plE_of rfl (by omega) (by omega) (by omega)
    have e5 : plE l.length (x + 4) 4 = 0 := plE_of rfl (by omega) (by omega) (by omega)
    have v4 : ldV l x 4 = ld l x 4 := ldV_ok e4
    have v5 : ldV l (x + 4) 4 = ld l (x + 4) 4 := ldV_ok (a := x + 4) (w := 4) e5
    have hlow : ld l x 8 % 4294967296 = ld l x 4 := ld_low l x 4 4 HY.out
    have hhigh : ld l x 8 / 4294967296 = ld l (x + 4) 4 := ld_high l x 4 4 HY.out
    have hbd := ld_bd l x HY.out 8
    obtain ⟨n, hn⟩ : ∃ n, ld l x 8 = n := ⟨_, rfl⟩
    rw [hn] at hv8 hlow hhigh hbd
    have hn0 : 0 ≤ n := hbd.1
    have hn1 : n ≤ 18446744073709551615 := by have := hbd.2; rw [show (256 : Int) ^ 8 = 18446744073709551616 from rfl] at this; omega
    have HN := Lib.hid hn
    have H0 := Lib.hid h0
    have V8 := Lib.hid hv8
    have E4 := Lib.hid e4
    have E5 := Lib.hid e5
    have V4 := Lib.hid (v4.trans hlow.symm)
    have V5 := Lib.hid (v5.trans hhigh.symm)
    clear hn h0 hv8 e4 e5 v4 v5 hlow hhigh hbd hy hm
    go_enter Try.func7, Try.ntmps7
    go_wp2_with (go_at_call 9; refine (load_val A l cap x 8 _ _ _ hl ha HB.out V8.out H0.out).mono ?_; rintro e w' ⟨rfl, rfl⟩)
    go_loop [7] (fun i => ∃ k : Nat, k ≤ 8 ∧ i = .int .i64 k) (fun i => (8 - intOf i).toNat)
    case atStart => exact ⟨0, by omega, rfl⟩
    case round =>
      obtain ⟨k, hk, rfl⟩ := hrel
      by_cases hlt : k < 8
      · have e1 : plE l.length (x + k) 1 = 0 := plE_of rfl (by omega) (by omega) (by omega)
        have v1 : ldV l (x + k) 1 = n / 256 ^ k % 256 := (ldV_ok (a := x + k) (w := 1) e1).trans (by rw [← HN.out]; exact (ld_byte l x k hlt HY.out).symm)
        have E1 := Lib.hid e1
        have hr : n / 256 ^ k % 256 = (n / 2 ^ (8 * k)).tmod 256 := by
          rw [two_pow, Int.tmod_eq_emod_of_nonneg (Int.ediv_nonneg hn0 (Int.le_of_lt (pow_pos k)))]
        obtain ⟨r, hrr⟩ : ∃ r, n / 256 ^ k % 256 = r := ⟨_, rfl⟩
        rw [hrr] at v1 hr
        have hd : (r != (n / 2 ^ (8 * k)).tmod 256) = false := by simpa using hr
        have V1 := Lib.hid v1
        clear e1 v1 hr hrr
        go_wp2_with (go_at_call 9; refine (load_val A l cap (x + k) 1 _ _ _ hl (by omega) HB.out V1.out E1.out).mono ?_; rintro e w' ⟨rfl, rfl⟩)
        go_round
        case rel => exact ⟨k + 1, by omega, by go_num⟩
        case measure => simp [intOf]; omega
      · obtain rfl : k = 8 := by omega
        go_wp2_with fail
        refine (load_val A l cap x 4 _ _ _ hl ha HB.out V4.out E4.out).mono ?_
        rintro e w' ⟨rfl, rfl⟩
        go_wp2_with fail
        refine (load_val A l cap (x + 4) 4 _ _ _ hl (by omega) HB.out V5.out E5.out).mono ?_
        rintro e w' ⟨rfl, rfl⟩
        go_wp2_with (go_at_call 8; refine (loads_true _).mono ?_; rintro e w1 ⟨rfl, hb1⟩)
        go_ret
        exact ⟨rfl, by assumption⟩
  · have h2 : plE l.length a 8 ≠ 2 := by
      unfold plE
      rw [if_neg (by decide)]
      split
      · decide
      · split <;> decide
    obtain ⟨e0, he⟩ : ∃ e0, plE l.length a 8 = e0 := ⟨_, rfl⟩
    rw [he] at h0 h2
    have HE := Lib.hid he
    have c0 : (e0 != 0) = true := by simpa using h0
    have c2 : (e0 != 2) = true := by simpa using h2
    clear he h0 h2
    go_enter Try.func7, Try.ntmps7
    go_wp2_with (first
      | (go_at_call 9; refine (load_val A l cap a 8 _ _ _ hl ha HB.out rfl HE.out).mono ?_; rintro e w' ⟨rfl, rfl⟩)
      | (go_at_call 8; refine (loads_true _).mono ?_; rintro e w1 ⟨rfl, hb1⟩))
    go_ret
    exact ⟨rfl, by assumption⟩
end Num
end Go.Proofs.Ytijfhgbddkcglaa
