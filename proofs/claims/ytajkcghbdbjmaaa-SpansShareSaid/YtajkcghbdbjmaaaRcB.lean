/- Layers 6 and 7: the contracts of num.Load at two bytes and of slices.IsSorted. -/
import Derived.Test.YtajkcghbdbjmaaaRcA
import Derived.Test.YtajkcghbdbjmaaaNumM
namespace Go.Proofs.Ytajkcghbdbjmaaa
open Go.RowKit
namespace Rc

theorem width_two (W : World) : Calls Try.prog 37 #[.int .i64 2] W fun e W' => e = .returned (.bool true) ∧ W = W' := by
  go_enter Try.func37, Try.ntmps37
  go_wp2
  go_ret
  exact ⟨rfl, rfl⟩
theorem divides_two (i : Nat) (W : World) : Calls Try.prog 38 #[.int .i64 2, .int .i64 (2 + 2 * (i : Int))] W fun e W' => e = .returned (.bool true) ∧ W = W' := by
  have h0 : (0 : Int) ≤ 2 + 2 * (i : Int) := by omega
  have hd : ((2 + 2 * (i : Int)) % 2 == 0) = true := by simp
  have hd2 : ((2 + 2 * (i : Int)).tmod 2 == 0) = true := by rw [Int.tmod_eq_emod_of_nonneg h0]; exact hd
  obtain ⟨x, hx⟩ : ∃ x, (2 + 2 * (i : Int)) = x := ⟨_, rfl⟩
  rw [hx] at h0 hd hd2 ⊢
  clear hx
  go_enter Try.func38, Try.ntmps38
  go_wp2
  go_ret
  exact ⟨by first | rfl | exact Mem.ret_bool hd.symm, rfl⟩
theorem place_two (n i : Nat) (W : World) (h : 2 + 2 * i + 2 ≤ n) (hn : n ≤ 9223372036854775807) : Calls Try.prog 35 #[.int .i64 (n : Int), .int .i64 (2 + 2 * (i : Int)), .int .i64 2] W fun e W' => e = .returned (.int .i64 0) ∧ W = W' := by
  have HD := Lib.hid (divides_two i)
  obtain ⟨x, hx⟩ : ∃ x, (2 + 2 * (i : Int)) = x := ⟨_, rfl⟩
  have h0 : ¬ (x < 0) := by omega
  have h1 : ¬ ((n : Int) < x) := by omega
  have h2 : ¬ ((n : Int) - x < 2) := by omega
  have hw : IntKind.i64.wrap ((n : Int) - x) = (n : Int) - x := IntWalk.i64_in _ (by omega)
  rw [hx] at HD ⊢
  clear hx h hn
  go_enter Try.func35, Try.ntmps35
  go_wp2_with (first | (go_at_call 37; refine (width_two _).mono ?_; rintro e w' ⟨rfl, rfl⟩) | (go_at_call 38; refine (HD.out _).mono ?_; rintro e w' ⟨rfl, rfl⟩))
  go_ret
  exact ⟨rfl, rfl⟩
def cast (bs : List Nat) : List Int := bs.map fun (b : Nat) => (b : Int)
theorem cast_at (bs : List Nat) (i : Nat) : (cast bs).getD i 0 = (byt bs i : Nat) := by
  unfold cast byt
  rw [List.getD_eq_getElem?_getD, List.getD_eq_getElem?_getD, List.getElem?_map]
  cases bs[i]? <;> rfl
theorem ld_two (bs : List Nat) (i : Nat) : Num.ld (cast bs) (2 + 2 * i) 2 = ((endAt bs i : Nat) : Int) := by
  show 0 + (cast bs).getD (2 + 2 * i + 0) 0 * 256 ^ 0 + (cast bs).getD (2 + 2 * i + 1) 0 * 256 ^ 1 = _
  rw [cast_at, cast_at]
  unfold endAt
  rw [Nat.add_zero]
  generalize byt bs (2 + 2 * i) = x
  generalize byt bs (2 + 2 * i + 1) = y
  show 0 + (x : Int) * 1 + (y : Int) * 256 = ((x + 256 * y : Nat) : Int)
  omega
set_option maxHeartbeats 800000 in
theorem load_two (bs : List Nat) (A : Option Addr) (c i : Nat) (W : World) (hr : Mem.Rd W A (octets bs)) (hs : Small bs) (h : 2 + 2 * i + 2 ≤ bs.length) (hn : bs.length ≤ 9223372036854775807) :
    Calls Try.prog 33 #[.slice A bs.length c, .int .i64 (2 + 2 * (i : Int)), .int .i64 2] W fun e W' => e = .returned (.tuple #[.int .u64 (endAt bs i : Nat), .int .i64 0]) ∧ W = W' := by
  obtain ⟨b, off, rfl, hlt, hc⟩ := hr (by rw [octets_len]; omega)
  have HP := Lib.hid (place_two bs.length i W h hn)
  have HO := Lib.hid (fun k hk => Num.ld_or (cast bs) (2 + 2 * i) k hk (fun j => by rw [cast_at]; have := hs.at j; omega))
  have HE := Lib.hid (ld_two bs i)
  have hcells : ∀ k, k < bs.length → W.cell? ⟨b, off + k, none⟩ = some (.int .u8 ((cast bs).getD k 0)) := fun k hk => by
    rw [hc k (by rw [octets_len]; exact hk), octets_at hk, cast_at]
  have HC := Lib.hid hcells
  obtain ⟨n, hn0⟩ : ∃ n, bs.length = n := ⟨_, rfl⟩
  have HN := Lib.hid hn0
  rw [hn0] at h hn HP ⊢
  obtain ⟨a, ha⟩ : ∃ a, 2 + 2 * i = a := ⟨_, rfl⟩
  rw [show (2 + 2 * (i : Int)) = (a : Int) by omega] at HP ⊢
  rw [ha] at h HO HE
  clear hr hs hc hcells hn0 ha hlt
  go_enter Try.func33, Try.ntmps33
  go_wp2_with (go_at_call 35; refine HP.out.mono ?_; rintro e w' ⟨rfl, rfl⟩)
  go_loop [9, 20] (fun v i => ∃ k : Nat, k ≤ 2 ∧ i = .int .i64 k ∧ v = .int .u64 (Num.ld (cast bs) a k)) (fun _ i => 2 - (intOf i).toNat)
  case atStart => exact ⟨0, by omega, rfl, rfl⟩
  case round =>
    obtain ⟨k, hk, rfl, rfl⟩ := hrel
    by_cases hlt2 : k < 2
    · have hcell : W.cell? ⟨b, off + (a + k), none⟩ = some (.int .u8 ((cast bs).getD (a + k) 0)) := HC.out (a + k) (by rw [HN.out]; omega)
      have H := Lib.hid (HO.out k (by omega))
      go_wp2
      go_round
      case rel => exact ⟨k + 1, by omega, by go_num, by rw [H.out]⟩
      case measure => simp [intOf]; omega
    · obtain rfl : k = 2 := by omega
      go_wp2
      go_ret2
      exact ⟨by rw [← HE.out]; rfl, rfl⟩
end Rc
end Go.Proofs.Ytajkcghbdbjmaaa
