/- Layer 9 (layout): the walk of LayoutTiles: it returns true and writes nothing that was there. Condition: the table class.sizes holds its ten numbers. -/
import Derived.Test.YtefjkigifngomaaDoorLayK
namespace Go.Proofs.YtefjkigifngomaaDoor
open Go.RowKit
namespace Lay

/-- What is said of the runs: E k is where run k begins, Kd k its kind. -/
def Tiled (s t : Int) (E Kd : Nat → Int) (n : Nat) : Prop :=
  (runs s t).length = n ∧ 0 < n ∧ n ≤ 6 ∧ E 0 = 0 ∧ E n = size s t ∧
  (∀ k, k < n → (cellsOf (runs s t))[k * 3]? = some (.int .i64 (E k)) ∧ (cellsOf (runs s t))[k * 3 + 1]? = some (.int .i64 (E (k + 1) - E k)) ∧ (cellsOf (runs s t))[k * 3 + 2]? = some (.int .i64 (Kd k))) ∧
  (∀ k, k < n → 1 ≤ E (k + 1) - E k ∧ 0 ≤ E k ∧ E (k + 1) ≤ 200000) ∧ ∀ k, k + 1 < n → Kd (k + 1) ≠ Kd k
theorem tiled {s t : Int} (hr : rt s t = true) : ∃ E Kd n, Tiled s t E Kd n := by
  have h := rt_yes hr
  have hb := base_range s t hr
  have hp := pad_facts s t hr
  have hd := bAt_bd s t hr
  have hz : size s t = base s t + s * 1024 := if_pos hr
  have hs : slotsA s = 128 + s * 16 := rfl
  have hbt : bAt s t = slotsA s + t * 4 := rfl
  by_cases hq : bAt s t < base s t
  · refine ⟨fun k => match k with | 0 => 0 | 1 => 8 | 2 => 128 | 3 => slotsA s | 4 => bAt s t | 5 => base s t | _ => size s t, fun k => match k with | 0 => 1 | 1 => 2 | 2 => 3 | 3 => 4 | 4 => 8 | _ => 7, 6, ?_⟩
    have e : runs s t = [(0, 8, 1), (8, 120, 2), (128, s * 16, 3), (slotsA s, t * 4, 4), (bAt s t, base s t - bAt s t, 8), (base s t, s * 1024, 7)] := by
      unfold runs
      rw [if_pos hr, if_pos hq]
      rfl
    refine ⟨by rw [e]; rfl, by decide, by decide, rfl, rfl, ?_, ?_, ?_⟩
    · intro k hk
      rw [e]
      obtain rfl | rfl | rfl | rfl | rfl | rfl : k = 0 ∨ k = 1 ∨ k = 2 ∨ k = 3 ∨ k = 4 ∨ k = 5 := by omega
      · refine ⟨rfl, rfl, rfl⟩
      · refine ⟨rfl, rfl, rfl⟩
      · refine ⟨rfl, ?_, rfl⟩
        show some (Value.int .i64 (s * 16)) = some (Value.int .i64 (slotsA s - 128))
        rw [show slotsA s - 128 = s * 16 by omega]
      · refine ⟨rfl, ?_, rfl⟩
        show some (Value.int .i64 (t * 4)) = some (Value.int .i64 (bAt s t - slotsA s))
        rw [show bAt s t - slotsA s = t * 4 by omega]
      · refine ⟨rfl, rfl, rfl⟩
      · refine ⟨rfl, ?_, rfl⟩
        show some (Value.int .i64 (s * 1024)) = some (Value.int .i64 (size s t - base s t))
        rw [show size s t - base s t = s * 1024 by omega]
    · intro k hk
      obtain rfl | rfl | rfl | rfl | rfl | rfl : k = 0 ∨ k = 1 ∨ k = 2 ∨ k = 3 ∨ k = 4 ∨ k = 5 := by omega
      · exact ⟨show (1 : Int) ≤ 8 - (0) by omega, show (0 : Int) ≤ 0 by omega, show 8 ≤ (200000 : Int) by omega⟩
      · exact ⟨show (1 : Int) ≤ 128 - (8) by omega, show (0 : Int) ≤ 8 by omega, show 128 ≤ (200000 : Int) by omega⟩
      · exact ⟨show (1 : Int) ≤ slotsA s - (128) by omega, show (0 : Int) ≤ 128 by omega, show slotsA s ≤ (200000 : Int) by omega⟩
      · exact ⟨show (1 : Int) ≤ bAt s t - (slotsA s) by omega, show (0 : Int) ≤ slotsA s by omega, show bAt s t ≤ (200000 : Int) by omega⟩
      · exact ⟨show (1 : Int) ≤ base s t - (bAt s t) by omega, show (0 : Int) ≤ bAt s t by omega, show base s t ≤ (200000 : Int) by omega⟩
      · exact ⟨show (1 : Int) ≤ size s t - (base s t) by omega, show (0 : Int) ≤ base s t by omega, show size s t ≤ (200000 : Int) by omega⟩
    · intro k hk
      obtain rfl | rfl | rfl | rfl | rfl : k = 0 ∨ k = 1 ∨ k = 2 ∨ k = 3 ∨ k = 4 := by omega
      · exact fun h => absurd h (by decide)
      · exact fun h => absurd h (by decide)
      · exact fun h => absurd h (by decide)
      · exact fun h => absurd h (by decide)
      · exact fun h => absurd h (by decide)
  · refine ⟨fun k => match k with | 0 => 0 | 1 => 8 | 2 => 128 | 3 => slotsA s | 4 => bAt s t | _ => size s t, fun k => match k with | 0 => 1 | 1 => 2 | 2 => 3 | 3 => 4 | _ => 7, 5, ?_⟩
    have eb : base s t = bAt s t := by omega
    have e : runs s t = [(0, 8, 1), (8, 120, 2), (128, s * 16, 3), (slotsA s, t * 4, 4), (bAt s t, s * 1024, 7)] := by
      unfold runs
      rw [if_pos hr, if_neg hq, eb]
      rfl
    refine ⟨by rw [e]; rfl, by decide, by decide, rfl, rfl, ?_, ?_, ?_⟩
    · intro k hk
      rw [e]
      obtain rfl | rfl | rfl | rfl | rfl : k = 0 ∨ k = 1 ∨ k = 2 ∨ k = 3 ∨ k = 4 := by omega
      · refine ⟨rfl, rfl, rfl⟩
      · refine ⟨rfl, rfl, rfl⟩
      · refine ⟨rfl, ?_, rfl⟩
        show some (Value.int .i64 (s * 16)) = some (Value.int .i64 (slotsA s - 128))
        rw [show slotsA s - 128 = s * 16 by omega]
      · refine ⟨rfl, ?_, rfl⟩
        show some (Value.int .i64 (t * 4)) = some (Value.int .i64 (bAt s t - slotsA s))
        rw [show bAt s t - slotsA s = t * 4 by omega]
      · refine ⟨rfl, ?_, rfl⟩
        show some (Value.int .i64 (s * 1024)) = some (Value.int .i64 (size s t - bAt s t))
        rw [show size s t - bAt s t = s * 1024 by omega]
    · intro k hk
      obtain rfl | rfl | rfl | rfl | rfl : k = 0 ∨ k = 1 ∨ k = 2 ∨ k = 3 ∨ k = 4 := by omega
      · exact ⟨show (1 : Int) ≤ 8 - (0) by omega, show (0 : Int) ≤ 0 by omega, show 8 ≤ (200000 : Int) by omega⟩
      · exact ⟨show (1 : Int) ≤ 128 - (8) by omega, show (0 : Int) ≤ 8 by omega, show 128 ≤ (200000 : Int) by omega⟩
      · exact ⟨show (1 : Int) ≤ slotsA s - (128) by omega, show (0 : Int) ≤ 128 by omega, show slotsA s ≤ (200000 : Int) by omega⟩
      · exact ⟨show (1 : Int) ≤ bAt s t - (slotsA s) by omega, show (0 : Int) ≤ slotsA s by omega, show bAt s t ≤ (200000 : Int) by omega⟩
      · exact ⟨show (1 : Int) ≤ size s t - (bAt s t) by omega, show (0 : Int) ≤ bAt s t by omega, show size s t ≤ (200000 : Int) by omega⟩
    · intro k hk
      obtain rfl | rfl | rfl | rfl : k = 0 ∨ k = 1 ∨ k = 2 ∨ k = 3 := by omega
      · exact fun h => absurd h (by decide)
      · exact fun h => absurd h (by decide)
      · exact fun h => absurd h (by decide)
      · exact fun h => absurd h (by decide)
theorem size_mod {s t : Int} (hr : rt s t = true) : (size s t).tmod 16 = 0 ∧ size s t ≤ 1048576 := by
  have h := rt_yes hr
  have hb := base_range s t hr
  have hp := pad_facts s t hr
  have hz : size s t = base s t + s * 1024 := if_pos hr
  refine ⟨?_, by omega⟩
  rw [Int.tmod_eq_emod_of_nonneg (by omega)]
  omega
/-- The relation of LayoutTiles' loop: the end so far, the count; draws alone. -/
def TileR (E : Nat → Int) (n : Nat) (W : World) (e i : Value) (w : World) : Prop := ∃ k : Nat, k ≤ n ∧ e = .int .i64 (E k) ∧ i = .int .i64 k ∧ Mem.QQ W w
set_option maxRecDepth 100000 in
set_option maxHeartbeats 3200000 in
theorem layoutTiles_walk (s t : Int) (W : World) (hT : Tab W) : Calls Tryd.prog 4 #[.agg #[.int .i64 s, .int .i64 t]] W fun e W' => e = .returned (.bool true) ∧ Below W.heap.size W W' := by
  cases hr : rt s t with
  | false =>
    have HR := Lib.hid hr
    have HN := Lib.hid (runs_len0 hr)
    have HZ := Lib.hid (show size s t = 0 by unfold size; rw [hr]; rfl)
    clear hr
    go_enter Tryd.func4, Tryd.ntmps4
    go_wp2_with fail
    refine (runs_any s t _ (hT.alloc _)).mono ?_
    rintro e w1 ⟨v, rfl, hown, hB⟩
    rw [HN.out] at hown
    obtain ⟨A, cap, rfl, _⟩ := Mem.own_shape hown
    obtain ⟨c0, c1⟩ := box_cells hB
    clear hown
    go_wp2_with (first
      | (go_at_call 8; refine (right_any s t _ (by exact hT.box hB)).mono ?_; rw [HR.out]; rintro e w2 ⟨rfl, hb⟩; have hB := box_trans hB hb; obtain ⟨c0, c1⟩ := box_cells hB; clear hb)
      | (go_at_call 10; refine (size_any s t _ (by exact hT.box hB)).mono ?_; rw [HZ.out]; rintro e w2 ⟨rfl, hb⟩; have hB := box_trans hB hb; obtain ⟨c0, c1⟩ := box_cells hB; clear hb)
      | (go_at_call 19; refine (lies_true _ (by exact hT.box hB)).mono ?_; rintro e w2 ⟨rfl, hb⟩; have hB := box_trans hB hb; clear hb))
    go_ret
    exact ⟨rfl, box_below (by assumption)⟩
  | true =>
    obtain ⟨E, Kd, n, hn, hn0, hn6, hE0, hEn, hcell, hrng, hkd⟩ := tiled hr
    obtain ⟨hm, hle⟩ := size_mod hr
    have HR := Lib.hid hr
    have HN := Lib.hid hn
    have HE0 := Lib.hid hE0
    have HEn := Lib.hid hEn
    have HCELL := Lib.hid hcell
    have HRNG := Lib.hid hrng
    have HKD := Lib.hid hkd
    have HM := Lib.hid hm
    have HLE := Lib.hid hle
    clear hr hn hE0 hEn hcell hrng hkd hm hle
    go_enter Tryd.func4, Tryd.ntmps4
    go_wp2_with fail
    refine (runs_any s t _ (hT.alloc _)).mono ?_
    rintro e w1 ⟨v, rfl, hown, hB⟩
    rw [HN.out] at hown
    obtain ⟨c0, c1⟩ := box_cells hB
    have HO := Lib.hid hown
    clear hown
    go_wp2_with fail
    refine (right_any s t _ (by exact hT.box hB)).mono ?_
    rw [HR.out]
    rintro e w2 ⟨rfl, hb⟩
    have hown := Mem.own_below HO.out hb
    have hB2 := box_trans hB hb
    clear hB hb HO c0 c1
    obtain ⟨c0, c1⟩ := box_cells hB2
    obtain ⟨g, c, rfl, _, _⟩ := hown.form (by omega)
    have HC := Lib.hid (fun j hj => hown.cellAt j hj)
    have HL := Lib.hid (cellsOf_len (runs s t))
    clear hown
    go_wp2_with fail
    go_loopw [4, 5] (TileR E n w2) (fun _ i _ => n - (intOf i).toNat)
    case atStart => exact ⟨0, by omega, by rw [HE0.out], rfl, Mem.QQ.refl _⟩
    case round =>
      obtain ⟨k, hk, rfl, rfl, q, rfl⟩ := hrel
      by_cases hlt : k < n
      · obtain ⟨e1, e2, e3⟩ := HCELL.out k hlt
        obtain ⟨r1, r2, r3⟩ := HRNG.out k hlt
        have p1 : w2.cell? ⟨g, k * 3, none⟩ = some (.int .i64 (E k)) := (HC.out _ (by omega)).trans e1
        have p2 : w2.cell? ⟨g, k * 3 + 1, none⟩ = some (.int .i64 (E (k + 1) - E k)) := (HC.out _ (by omega)).trans e2
        have p3 : w2.cell? ⟨g, k * 3 + 2, none⟩ = some (.int .i64 (Kd k)) := (HC.out _ (by omega)).trans e3
        obtain ⟨x, hx⟩ : ∃ x, E k = x := ⟨_, rfl⟩
        obtain ⟨y, hy⟩ : ∃ y, E (k + 1) - E k = y := ⟨_, rfl⟩
        obtain ⟨z, hz⟩ : ∃ z, Kd k = z := ⟨_, rfl⟩
        have hxy : E (k + 1) = x + y := by omega
        rw [hx] at p1
        rw [hy] at p2
        rw [hz] at p3
        rw [hx]
        have HXY := Lib.hid hxy
        have b1 : decide (y < 1) = false := decide_eq_false (by omega)
        have hw : IntKind.i64.wrap (x + y) = x + y := IntWalk.i64_in _ (by omega)
        have hk0 : (0 : Int) ≤ (k : Int) := by omega
        have hk1 : (k : Int) < (n : Int) := by omega
        by_cases hz0 : k = 0
        · have b2 : decide ((0 : Int) < (k : Int)) = false := decide_eq_false (by omega)
          have b3 : decide (0 < k) = false := decide_eq_false (by omega)
          have b4 : ¬ (0 < k) := by omega
          clear e1 e2 e3 r1 r2 r3 hx hy hz hxy hz0
          go_wp2_with fail
          go_quiet (fail)
          go_wp2_with fail
          go_quiet (fail)
          go_wp2_with fail
          go_roundw
          case rel => exact ⟨k + 1, by omega, by rw [HXY.out], by go_num, _, rfl⟩
          case measure => simp [intOf]; omega
        · obtain ⟨j, rfl⟩ : ∃ j, k = j + 1 := ⟨k - 1, by omega⟩
          obtain ⟨_, _, e4⟩ := HCELL.out j (by omega)
          have p4 : w2.cell? ⟨g, j * 3 + 2, none⟩ = some (.int .i64 (Kd j)) := (HC.out _ (by omega)).trans e4
          have hne := HKD.out j hlt
          obtain ⟨zp, hzp⟩ : ∃ zp, Kd j = zp := ⟨_, rfl⟩
          rw [hzp] at p4 hne
          rw [hz] at hne
          have b5 : decide (z = zp) = false := decide_eq_false hne
          obtain ⟨m, hm⟩ : ∃ m, j + 1 = m := ⟨_, rfl⟩
          rw [hm] at p1 p2 p3 hlt HXY hk hk0 hk1 ⊢
          have b2 : decide ((0 : Int) < (m : Int)) = true := decide_eq_true (by omega)
          have b3 : 0 < m := by omega
          have hw2 : IntKind.i64.wrap ((m : Int) - 1) = (j : Int) := by rw [IntWalk.i64_in _ (by omega)]; omega
          have hj0 : (0 : Int) ≤ (j : Int) := by omega
          have hj1 : (j : Int) < (n : Int) := by omega
          clear e1 e2 e3 e4 r1 r2 r3 hx hy hz hzp hxy hz0 hm
          go_wp2_with fail
          go_quiet (fail)
          go_wp2_with fail
          go_quiet (fail)
          go_wp2_with fail
          go_roundw
          case rel => exact ⟨m + 1, by omega, by rw [HXY.out], by go_num, _, rfl⟩
          case measure => simp [intOf]; omega
      · obtain rfl : k = n := by omega
        rw [HEn.out]
        have b1 : decide (size s t ≤ 1048576) = true := decide_eq_true HLE.out
        have b2 : (size s t).tmod 16 = 0 := HM.out
        have q1 := HLE.out
        go_wp2_with (first
          | (go_at_call 10; go_loud (refine (size_any s t _ ((hT.box hB2).drewN q)).mono ?_; rintro e w3 ⟨rfl, hb⟩; have hB := box_trans hB2 (Mem.below_of_drewN hb); obtain ⟨c0, c1⟩ := box_cells hB; clear hb))
          | (go_at_call 19; refine (lies_true _ (by exact hT.box hB)).mono ?_; rintro e w4 ⟨rfl, hb⟩; have hB := box_trans hB hb; clear hb))
        go_ret
        exact ⟨rfl, box_below (by assumption)⟩

end Lay
end Go.Proofs.YtefjkigifngomaaDoor
