/- Layers 6 and 7: the contracts of slices.IsSorted and of ends. -/
import Derived.Test.YtajkcghbdbjmaaaRcB
import Derived.Deep.OwnRows
namespace Go.Proofs.Ytajkcghbdbjmaaa
open Go.RowKit
namespace Rc

def ints (is : List Nat) : List Value := is.map fun (i : Nat) => Value.int .i64 (i : Int)
theorem ints_len (is : List Nat) : (ints is).length = is.length := by simp [ints]
theorem ints_at {l : List Nat} {k : Nat} (h : k < l.length) : (ints l)[k]? = some (.int .i64 ((l.getD k 0 : Nat) : Int)) := by
  unfold ints
  rw [List.getElem?_map, List.getElem?_eq_getElem h, List.getD_eq_getElem?_getD, List.getElem?_eq_getElem h]
  rfl
theorem nan_any (x : Int) (w : World) : Calls Try.prog 39 #[.int .i64 x] w fun e w' => e = .returned (.bool false) ∧ w = w' := by
  go_enter Try.func39, Try.ntmps39
  go_wp2
  go_ret
  exact ⟨rfl, rfl⟩
theorem less_any (x y : Int) (w : World) : Calls Try.prog 36 #[.int .i64 x, .int .i64 y] w fun e w' => e = .returned (.bool (decide (x < y))) ∧ w = w' := by
  go_enter Try.func36, Try.ntmps36
  go_wp2_with (go_at_call 39; refine (nan_any _ _).mono ?_; rintro e w1 ⟨rfl, rfl⟩)
  go_ret
  exact ⟨rfl, rfl⟩
theorem less_val (x y : Int) (v : Bool) (h : decide (x < y) = v) (w : World) : Calls Try.prog 36 #[.int .i64 x, .int .i64 y] w fun e w' => e = .returned (.bool v) ∧ w = w' := h ▸ less_any x y w
/-- The relation of IsSorted's loop. -/
def SoR (n : Nat) (es : List Nat) (W : World) (i : Value) (w : World) : Prop := ∃ k m : Nat, k ≤ n - 1 ∧ i = .int .i64 (k : Int) ∧ w = W.drewN m ∧ ∀ j, k ≤ j → j < n - 1 → es.getD j 0 ≤ es.getD (j + 1) 0
set_option maxHeartbeats 1600000 in
theorem sorted_any (es : List Nat) (A : Option Addr) (c : Nat) (W : World) (hr : Mem.Rd W A (ints es)) (h0 : 0 < es.length) (hm : es.length ≤ 1000) :
    Calls Try.prog 34 #[.slice A es.length c] W fun e w' => e = .returned (.bool (rise es)) ∧ Mem.QQ W w' := by
  obtain ⟨b, off, rfl, hlt, hc⟩ := hr (by rw [ints_len]; omega)
  have hcells : ∀ k, k < es.length → W.cell? ⟨b, off + k, none⟩ = some (.int .i64 ((es.getD k 0 : Nat) : Int)) := fun k hk => by
    rw [hc k (by rw [ints_len]; exact hk), ints_at hk]
  have HC := Lib.hid hcells
  have hup := rise_iff es
  obtain ⟨n, hn⟩ : ∃ n, es.length = n := ⟨_, rfl⟩
  rw [hn] at h0 hm HC hup ⊢
  have HUP := Lib.hid hup
  have hw : IntKind.i64.wrap ((n : Int) - 1) = ((n - 1 : Nat) : Int) := by rw [IntWalk.i64_in _ (by omega)]; omega
  clear hr hcells hc hn hup hlt
  go_enter Try.func34, Try.ntmps34
  go_wp2_with fail
  go_loopw [3] (SoR n es W) (fun i _ => (intOf i).toNat)
  case atStart => exact ⟨n - 1, 0, Nat.le_refl _, rfl, rfl, fun j h1 h2 => by omega⟩
  case round =>
    obtain ⟨k, m, hk, rfl, rfl, hall⟩ := hrel
    by_cases hk0 : 0 < k
    · obtain ⟨w1, hw1⟩ : ∃ w1, W.drewN m = w1 := ⟨_, rfl⟩
      have HW1 := Lib.hid hw1
      have c1 : w1.cell? ⟨b, off + k, none⟩ = some (.int .i64 ((es.getD k 0 : Nat) : Int)) := by rw [← hw1]; exact HC.out k (by omega)
      have c2 : w1.cell? ⟨b, off + (k - 1), none⟩ = some (.int .i64 ((es.getD (k - 1) 0 : Nat) : Int)) := by rw [← hw1]; exact HC.out (k - 1) (by omega)
      rw [hw1]
      obtain ⟨x, hx⟩ : ∃ x, es.getD k 0 = x := ⟨_, rfl⟩
      obtain ⟨y, hy⟩ : ∃ y, es.getD (k - 1) 0 = y := ⟨_, rfl⟩
      rw [hx] at c1
      rw [hy] at c2
      have HX := Lib.hid hx
      have HY := Lib.hid hy
      have HALL := Lib.hid hall
      obtain ⟨p, rfl⟩ : ∃ p, k = p + 1 := ⟨k - 1, by omega⟩
      rw [Nat.add_sub_cancel] at c2 HY
      have hwp : IntKind.i64.wrap (((p + 1 : Nat) : Int) - 1) = (p : Int) := by rw [IntWalk.i64_in _ (by omega)]; omega
      have hwp2 : IntKind.i64.wrap ((p : Int) + 1 - 1) = (p : Int) := by rw [IntWalk.i64_in _ (by omega)]; omega
      have hp0 : (0 : Int) < (p : Int) + 1 := by omega
      have hp1 : (0 : Int) ≤ (p : Int) := by omega
      have hp2 : (p : Int) < (n : Int) := by omega
      have hp3 : (p : Int) + 1 < (n : Int) := by omega
      have hp4 : (0 : Int) ≤ (p : Int) + 1 := by omega
      clear hall hx hy hw1
      by_cases hxy : x < y
      · have L := Lib.hid (fun w => less_val (x : Int) (y : Int) true (by simp; omega) w)
        go_wp2_with fail
        go_quiet ((go_at_call 36; exact Mem.quiet_of_eq (L.out _)))
        go_wp2_with fail
        go_ret
        refine ⟨?_, m + nq, by rw [← HW1.out, World.drewN_drewN]⟩
        have hf : rise es = false := by
          cases hr : rise es with
          | false => rfl
          | true =>
            have := HUP.out.1 hr p (by omega)
            rw [HX.out, HY.out] at this
            omega
        exact Mem.ret_bool hf
      · have L := Lib.hid (fun w => less_val (x : Int) (y : Int) false (by simp; omega) w)
        go_wp2_with fail
        go_quiet ((go_at_call 36; exact Mem.quiet_of_eq (L.out _)))
        go_wp2_with fail
        go_roundw
        case rel =>
          refine ⟨p, m + nq, by omega, by first | rfl | rw [hwp] | rw [hwp2], by rw [← HW1.out, World.drewN_drewN], fun j h1 h2 => ?_⟩
          by_cases e : j = p
          · rw [e, HX.out, HY.out]; omega
          · exact HALL.out j (by omega) h2
        case measure => simp [intOf]
    · obtain rfl : k = 0 := by omega
      have ht : rise es = true := HUP.out.2 fun i hi => hall i (by omega) hi
      have HT := Lib.hid ht
      clear hall ht
      go_wp2_with fail
      go_ret
      exact ⟨Mem.ret_bool HT.out, m, rfl⟩
end Rc
end Go.Proofs.Ytajkcghbdbjmaaa
