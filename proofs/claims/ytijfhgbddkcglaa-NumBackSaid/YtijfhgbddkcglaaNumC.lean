/- Layer 1 (num): the contracts of Load of both sides. Conditions: the slice's cells are these bytes; the length and the offset are an int's. -/
import Derived.Test.YtijfhgbddkcglaaNumB
import Derived.Test.YtijfhgbddkcglaaNumM
namespace Go.Proofs.Ytijfhgbddkcglaa
open Go.RowKit
namespace Num

set_option maxHeartbeats 400000 in
theorem load_ok (A : Option Addr) (l : List Int) (cap : Nat) (a w : Nat) (W : World) (hl : l.length ≤ 9223372036854775807) (hb : Bytes W A l) (ha : a + w ≤ l.length) (hp : plE l.length a w = 0) (hw1 : 1 ≤ w) (hw8 : w ≤ 8) :
    Calls Try.prog 9 #[.slice A l.length cap, .int .i64 a, .int .i64 w] W fun e W' => e = .returned (.tuple #[.int .u64 (ld l a w), .int .i64 0]) ∧ W = W' := by
  obtain ⟨b, off, rfl, hlt, hc⟩ := hb.2 (by omega)
  have hby := Lib.hid (fun i => hb.getD i)
  have HP := Lib.hid hp
  clear hp hb
  go_enter Try.func9, Try.ntmps9
  go_wp2_with (go_at_call 20; refine (place_val _ _ _ 0 HP.out (by omega) (by omega) (by omega) _).mono ?_; rintro e w' ⟨rfl, rfl⟩)
  go_loop [9, 20] (fun v i => ∃ k : Nat, k ≤ w ∧ i = .int .i64 k ∧ v = .int .u64 (ld l a k)) (fun _ i => w - (intOf i).toNat)
  case atStart => exact ⟨0, by omega, rfl, rfl⟩
  case round =>
    obtain ⟨k, hk, rfl, rfl⟩ := hrel
    by_cases hlt2 : k < w
    · have hcell : W.cell? ⟨b, off + (a + k), none⟩ = some (.int .u8 (l.getD (a + k) 0)) := hc (a + k) (by omega)
      have hby1 := hby.out (a + k)
      have H := Lib.hid (ld_or l a k (by omega) hby.out)
      go_wp2
      go_round
      case rel => exact ⟨k + 1, by omega, by go_num, by rw [H.out]⟩
      case measure => simp [intOf]; omega
    · obtain rfl : k = w := by omega
      go_wp2
      go_ret2
      exact ⟨rfl, rfl⟩
set_option maxHeartbeats 400000 in
theorem load_err (A : Option Addr) (n cap : Nat) (a w x : Int) (W : World) (hl : n ≤ 9223372036854775807) (ha : a ≤ 9223372036854775807) (hp : plE n a w = x) (hx : (x != 0) = true) :
    Calls Try.prog 9 #[.slice A n cap, .int .i64 a, .int .i64 w] W fun e W' => e = .returned (.tuple #[.int .u64 0, .int .i64 x]) ∧ W = W' := by
  have HP := Lib.hid hp
  clear hp
  go_enter Try.func9, Try.ntmps9
  go_wp2_with (go_at_call 20; refine (place_val _ _ _ x HP.out (by omega) (by omega) (by omega) _).mono ?_; rintro e w' ⟨rfl, rfl⟩)
  go_ret2
  exact ⟨rfl, rfl⟩
set_option maxHeartbeats 400000 in
theorem rload_ok (A : Option Addr) (l : List Int) (cap : Nat) (a w : Nat) (W : World) (hl : l.length ≤ 9223372036854775807) (hb : Bytes W A l) (ha : a + w ≤ l.length) (hp : plE l.length a w = 0) (hw1 : 1 ≤ w) (hw8 : w ≤ 8) :
    Calls Try.prog 10 #[.slice A l.length cap, .int .i64 a, .int .i64 w] W fun e W' => e = .returned (.tuple #[.int .u64 (ld l a w), .int .i64 0]) ∧ W = W' := by
  obtain ⟨b, off, rfl, hlt, hc⟩ := hb.2 (by omega)
  have hby := Lib.hid (fun i => hb.getD i)
  have HP := Lib.hid hp
  clear hp hb
  go_enter Try.func10, Try.ntmps10
  go_wp2_with (go_at_call 21; refine (may_val _ _ _ 0 HP.out (by omega) (by omega) (by omega) _).mono ?_; rintro e w' ⟨rfl, rfl⟩)
  go_loop [9, 10] (fun v i => (∃ m : Nat, m < w ∧ i = .int .i64 m ∧ v = .int .u64 (ld l (a + m + 1) (w - m - 1))) ∨ (i = .int .i64 (-1) ∧ v = .int .u64 (ld l a w))) (fun _ i => (intOf i + 1).toNat)
  case atStart => exact .inl ⟨w - 1, by omega, by congr 1; omega, by rw [show w - (w - 1) - 1 = 0 by omega]; rfl⟩
  case round =>
    rcases hrel with ⟨m, hm, rfl, rfl⟩ | ⟨rfl, rfl⟩
    · have hcell : W.cell? ⟨b, off + (a + m), none⟩ = some (.int .u8 (l.getD (a + m) 0)) := hc (a + m) (by omega)
      have hby1 := hby.out (a + m)
      have ht := ld_top l (a + m) (w - m - 1) (by omega) hby.out
      have H := Lib.hid (ld_wrap l (a + m) (w - m - 1) (by omega) hby.out)
      have H2 := Lib.hid (show w - m - 1 + 1 = w - m by omega)
      go_wp2
      go_round
      case rel =>
        rw [H.out, H2.out]
        by_cases h0 : m = 0
        · subst h0
          exact .inr ⟨rfl, rfl⟩
        · exact .inl ⟨m - 1, by omega, by congr 1; omega, by rw [show a + (m - 1) + 1 = a + m by omega, show w - (m - 1) - 1 = w - m by omega]⟩
      case measure => simp [intOf]
    · go_wp2
      go_ret2
      exact ⟨rfl, rfl⟩
set_option maxHeartbeats 400000 in
theorem rload_err (A : Option Addr) (n cap : Nat) (a w x : Int) (W : World) (hl : n ≤ 9223372036854775807) (ha : a ≤ 9223372036854775807) (hp : plE n a w = x) (hx : (x != 0) = true) :
    Calls Try.prog 10 #[.slice A n cap, .int .i64 a, .int .i64 w] W fun e W' => e = .returned (.tuple #[.int .u64 0, .int .i64 x]) ∧ W = W' := by
  have HP := Lib.hid hp
  clear hp
  go_enter Try.func10, Try.ntmps10
  go_wp2_with (go_at_call 21; refine (may_val _ _ _ x HP.out (by omega) (by omega) (by omega) _).mono ?_; rintro e w' ⟨rfl, rfl⟩)
  go_ret2
  exact ⟨rfl, rfl⟩
/-- What Load answers. -/
def ldV (l : List Int) (a w : Int) : Int := if plE l.length a w = 0 then ld l a.toNat w.toNat else 0
theorem plE_zero {n : Nat} {a w : Int} (h : plE n a w = 0) : ∃ x y : Nat, a = x ∧ w = y ∧ x + y ≤ n ∧ 1 ≤ y ∧ y ≤ 8 := by
  rcases plE_cases n a w with ⟨_, k⟩ | ⟨_, _, k⟩ | ⟨_, _, _, k⟩ | ⟨_, _, _, _, k⟩ | ⟨_, _, _, _, _, k⟩ | ⟨hw, h1, h2, h3, h4, k⟩
  · rw [k] at h; cases h
  · rw [k] at h; cases h
  · rw [k] at h; cases h
  · rw [k] at h; cases h
  · rw [k] at h; cases h
  · have hb := isW_bd hw
    obtain ⟨x, rfl⟩ := Int.eq_ofNat_of_zero_le h1
    obtain ⟨y, rfl⟩ := Int.eq_ofNat_of_zero_le (show 0 ≤ w by omega)
    exact ⟨x, y, rfl, rfl, by omega, by omega, by omega⟩
theorem load_any (A : Option Addr) (l : List Int) (cap : Nat) (a w : Int) (W : World) (hl : l.length ≤ 9223372036854775807) (ha : a ≤ 9223372036854775807) (hb : Bytes W A l) :
    Calls Try.prog 9 #[.slice A l.length cap, .int .i64 a, .int .i64 w] W fun e W' => e = .returned (.tuple #[.int .u64 (ldV l a w), .int .i64 (plE l.length a w)]) ∧ W = W' := by
  by_cases h : plE l.length a w = 0
  · obtain ⟨x, y, rfl, rfl, h1, h2, h3⟩ := plE_zero h
    have hv : ldV l x y = ld l x y := if_pos h
    rw [hv, h]
    exact load_ok A l cap x y W hl hb h1 h h2 h3
  · have hv : ldV l a w = 0 := if_neg h
    rw [hv]
    exact load_err A l.length cap a w _ W hl ha rfl (by simpa using h)
theorem rload_any (A : Option Addr) (l : List Int) (cap : Nat) (a w : Int) (W : World) (hl : l.length ≤ 9223372036854775807) (ha : a ≤ 9223372036854775807) (hb : Bytes W A l) :
    Calls Try.prog 10 #[.slice A l.length cap, .int .i64 a, .int .i64 w] W fun e W' => e = .returned (.tuple #[.int .u64 (ldV l a w), .int .i64 (plE l.length a w)]) ∧ W = W' := by
  by_cases h : plE l.length a w = 0
  · obtain ⟨x, y, rfl, rfl, h1, h2, h3⟩ := plE_zero h
    have hv : ldV l x y = ld l x y := if_pos h
    rw [hv, h]
    exact rload_ok A l cap x y W hl hb h1 h h2 h3
  · have hv : ldV l a w = 0 := if_neg h
    rw [hv]
    exact rload_err A l.length cap a w _ W hl ha rfl (by simpa using h)
end Num
end Go.Proofs.Ytijfhgbddkcglaa
