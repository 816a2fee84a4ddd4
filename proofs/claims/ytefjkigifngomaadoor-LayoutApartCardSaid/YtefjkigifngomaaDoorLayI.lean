/- Layer 9 (layout): the contracts of the reference's Slab and Same, and what must come at any rate (the law's own lies). Condition for the package: the table class.sizes holds its ten numbers. -/
import Derived.Test.YtefjkigifngomaaDoorLayH
import Derived.Deep.MidRow
namespace Go.Proofs.YtefjkigifngomaaDoor
open Go.RowKit
namespace Lay

/-- The relation of the reference's loop over the slabs. -/
def SlabR (W : World) (s t a : Int) (i : Value) (w : World) : Prop :=
  ∃ k : Nat, (k : Int) ≤ s ∧ i = .int .i64 k ∧ (a < base s t ∨ base s t + 1024 * k ≤ a ∨ k = 0) ∧ Below (boxOf W s t).heap.size (boxOf W s t) w
set_option maxHeartbeats 3200000 in
theorem rslab_any (s t a : Int) (W : World) : Calls Tryd.prog 21 #[.agg #[.int .i64 s, .int .i64 t], .int .i64 a] W fun e W' => e = .returned (.tuple #[.int .i64 (slI s t a), .bool (slB s t a)]) ∧ Below W.heap.size W W' := by
  cases hr : rt s t with
  | false =>
    have HR := Lib.hid hr
    have K := Lib.hid (sl_no (s := s) (t := t) (a := a) (by unfold slB; rw [hr]; rfl))
    clear hr
    go_enter Tryd.func21, Tryd.ntmps21
    go_wp2_with fail
    go_loopw [6] (fun i w => i = .int .i64 0 ∧ w = boxOf W s t) (fun _ _ => 0)
    case atStart => exact ⟨rfl, rfl⟩
    case round =>
      obtain ⟨rfl, rfl⟩ := hrel
      go_wp2_with fail
      refine (rright_any s t _).mono ?_
      rw [HR.out]
      rintro e w1 ⟨rfl, hb1⟩
      go_wp2
      go_ret2
      exact ⟨ret_ib K.out, box_below hb1⟩
  | true =>
    have HR := Lib.hid hr
    obtain ⟨h1, h2, h3, h4, h5⟩ := rt_yes hr
    obtain ⟨b0, b1⟩ := base_range s t hr
    have hsz := Lib.hid (show size s t = base s t + s * 1024 from if_pos hr)
    have hyes := Lib.hid (fun (h : base s t ≤ a ∧ a < size s t) => sl_yes (s := s) (t := t) (a := a) (by unfold slB; rw [hr]; simpa using h))
    have hno := Lib.hid (fun (h : ¬ (base s t ≤ a ∧ a < size s t)) => sl_no (s := s) (t := t) (a := a) (by unfold slB; rw [hr]; simpa using h))
    clear hr h3
    go_enter Tryd.func21, Tryd.ntmps21
    go_wp2_with fail
    go_loopw [6] (SlabR W s t a) (fun i _ => (s - intOf i).toNat)
    case atStart => exact ⟨0, by omega, rfl, .inr (.inr rfl), Below.refl _ _⟩
    case round =>
      obtain ⟨k, hk, rfl, hka, hbr⟩ := hrel
      obtain ⟨c0, c1⟩ := box_cells hbr
      by_cases hlt : (k : Int) < s
      · have hval := Lib.hid (show inn (rt s t) k s (base s t) 1024 = base s t + k * 1024 by unfold inn; rw [if_pos ⟨HR.out, by omega, hlt⟩])
        go_wp2_with fail
        refine (rright_any s t _).mono ?_
        rw [HR.out]
        rintro e w1 ⟨rfl, hb1⟩
        have hB1 := box_trans hbr hb1
        obtain ⟨d0, d1⟩ := box_cells hB1
        go_wp2_with fail
        refine (rslabAt_any s t k _).mono ?_
        rw [hval.out]
        rintro e w2 ⟨rfl, hb2⟩
        have hB2 := box_trans hB1 hb2
        obtain ⟨f0, f1⟩ := box_cells hB2
        by_cases g1 : a < base s t + k * 1024
        · have hd : decide (base s t + (k : Int) * 1024 ≤ a) = false := by simp; omega
          go_wp2
          go_roundw
          case rel => exact ⟨k + 1, by omega, by go_num, .inl (by omega), hB2⟩
          case measure => simp [intOf]; omega
        · have g2 : base s t + k * 1024 ≤ a := by omega
          go_wp2_with fail
          refine (rslabAt_any s t k _).mono ?_
          rw [hval.out]
          rintro e w3 ⟨rfl, hb3⟩
          have hB3 := box_trans hB2 hb3
          by_cases g3 : a < base s t + k * 1024 + 1024
          · have K := Lib.hid (hyes.out (by have := hsz.out; omega))
            have KI := Lib.hid (show slI s t a = (k : Int) by have := K.out.1; omega)
            go_wp2
            go_ret2
            exact ⟨ret_ib ⟨KI.out, K.out.2⟩, box_below hB3⟩
          · have hd : decide (a < base s t + (k : Int) * 1024 + 1024) = false := by simp; omega
            go_wp2
            go_roundw
            case rel => exact ⟨k + 1, by omega, by go_num, .inr (.inl (by omega)), hB3⟩
            case measure => simp [intOf]; omega
      · have K := Lib.hid (hno.out (by have := hsz.out; omega))
        have hd : decide ((k : Int) < s) = false := by simp; omega
        go_wp2_with fail
        refine (rright_any s t _).mono ?_
        rw [HR.out]
        rintro e w1 ⟨rfl, hb1⟩
        have hB1 := box_trans hbr hb1
        obtain ⟨d0, d1⟩ := box_cells hB1
        go_wp2
        go_ret2
        exact ⟨ret_ib K.out, box_below hB1⟩
end Lay
end Go.Proofs.YtefjkigifngomaaDoor
