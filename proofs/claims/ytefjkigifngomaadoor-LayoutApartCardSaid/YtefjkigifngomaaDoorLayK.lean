/- Layer 9 (layout): what must come at any rate (the law's own lies), and the walk of LayoutTells. Condition: the table class.sizes holds its ten numbers. -/
import Derived.Test.YtefjkigifngomaaDoorLayJ
namespace Go.Proofs.YtefjkigifngomaaDoor
open Go.RowKit
namespace Lay

theorem Tab.box {W w : World} {s t : Int} (h : Tab W) (hB : Below (boxOf W s t).heap.size (boxOf W s t) w) : Tab w := (h.alloc _).below hB
set_option maxRecDepth 100000 in
set_option maxHeartbeats 1600000 in
theorem lies_true (W : World) (hT : Tab W) : Calls Tryd.prog 19 #[] W fun e W' => e = .returned (.bool true) ∧ Below W.heap.size W W' := by
  have hB : Below (boxOf W 7 224).heap.size (boxOf W 7 224) (boxOf W 7 224) := Below.refl _ _
  go_enter Tryd.func19, Tryd.ntmps19
  go_wp2_with (first
    | (go_at_call 20; refine (slab_any 7 224 8303 _ (hT.alloc _)).mono ?_; rw [show slI 7 224 8303 = 6 from by decide, show slB 7 224 8303 = true from by decide]; rintro e w1 ⟨rfl, hb⟩; have hB := box_trans hB hb; obtain ⟨c0, c1⟩ := box_cells hB; clear hb)
    | (go_at_call 8; refine (right_any 7 224 _ (hT.box hB)).mono ?_; rw [show rt 7 224 = true from by decide]; rintro e w1 ⟨rfl, hb⟩; have hB := box_trans hB hb; obtain ⟨c0, c1⟩ := box_cells hB; clear hb)
    | (go_at_call 22; refine (headAt_any 7 224 0 _ (hT.box hB)).mono ?_; rw [show inn (rt 7 224) 0 7 128 16 = 128 from by decide]; rintro e w1 ⟨rfl, hb⟩; have hB := box_trans hB hb; obtain ⟨c0, c1⟩ := box_cells hB; clear hb)
    | (go_at_call 24; refine (slotAt_any 7 224 0 _ (hT.box hB)).mono ?_; rw [show inn (rt 7 224) 0 224 (slotsA 7) 4 = 240 from by decide]; rintro e w1 ⟨rfl, hb⟩; have hB := box_trans hB hb; obtain ⟨c0, c1⟩ := box_cells hB; clear hb)
    | (go_at_call 12; refine (base_any 7 224 _ (hT.box hB)).mono ?_; rw [show base 7 224 = 1136 from by decide]; rintro e w1 ⟨rfl, hb⟩; have hB := box_trans hB hb; obtain ⟨c0, c1⟩ := box_cells hB; clear hb)
    | (go_at_call 10; refine (size_any 7 224 _ (hT.box hB)).mono ?_; rw [show size 7 224 = 8304 from by decide]; rintro e w1 ⟨rfl, hb⟩; have hB := box_trans hB hb; obtain ⟨c0, c1⟩ := box_cells hB; clear hb)
    | (go_at_call 14; refine (most_any 7 224 _ (hT.box hB)).mono ?_; rw [show most 7 224 = 224 from by decide]; rintro e w1 ⟨rfl, hb⟩; have hB := box_trans hB hb; obtain ⟨c0, c1⟩ := box_cells hB; clear hb)
    | (go_at_call 17; refine (runs_any 7 224 _ (hT.box hB)).mono ?_; rintro e w1 ⟨v, rfl, hown, hb⟩; rw [show (runs 7 224).length = 5 from by decide] at hown; have hB := box_trans hB hb; obtain ⟨A, cap, rfl, _⟩ := Mem.own_shape hown; clear hown hb))
  go_ret
  exact ⟨rfl, box_below (by assumption)⟩
set_option maxRecDepth 100000 in
set_option maxHeartbeats 3200000 in
theorem layoutTells_walk (s t : Int) (W : World) (hT : Tab W) : Calls Tryd.prog 3 #[.agg #[.int .i64 s, .int .i64 t]] W fun e W' => e = .returned (.bool true) ∧ Below W.heap.size W W' := by
  have hB : Below (boxOf W s t).heap.size (boxOf W s t) (boxOf W s t) := Below.refl _ _
  have hl : (runs s t).length ≤ 1000 := by
    cases hr : rt s t with
    | false => rw [runs_len0 hr]; decide
    | true =>
      obtain ⟨m, h, h5, _⟩ := runs_last hr
      omega
  have HL := Lib.hid hl
  clear hl
  go_enter Tryd.func3, Tryd.ntmps3
  go_wp2_with fail
  go_region_held3 (fun w' => w'.cell? ⟨W.heap.size, 0, none⟩ = some (.int .i64 s) ∧ w'.cell? ⟨W.heap.size, 1, none⟩ = some (.int .i64 t)) (go_keep)
    (first
      | (go_at_call 8; refine (right_any s t _ (by exact hT.alloc _)).mono ?_; rintro e w1 ⟨rfl, hb⟩; have hB : Below (boxOf W s t).heap.size (boxOf W s t) w1 := Mem.below_of_drew hb; obtain ⟨c0, c1⟩ := box_cells hB; clear hb)
      | (go_at_call 9; refine (rright_any s t _).mono ?_; rintro e w1 ⟨rfl, hb⟩; have hB := box_trans hB hb; obtain ⟨c0, c1⟩ := box_cells hB; clear hb)
      | (go_at_call 10; refine (size_any s t _ (hT.box hB)).mono ?_; rintro e w1 ⟨rfl, hb⟩; have hB := box_trans hB hb; obtain ⟨c0, c1⟩ := box_cells hB; clear hb)
      | (go_at_call 11; refine (rsize_any s t _).mono ?_; rintro e w1 ⟨rfl, hb⟩; have hB := box_trans hB hb; obtain ⟨c0, c1⟩ := box_cells hB; clear hb)
      | (go_at_call 12; refine (base_any s t _ (hT.box hB)).mono ?_; rintro e w1 ⟨rfl, hb⟩; have hB := box_trans hB hb; obtain ⟨c0, c1⟩ := box_cells hB; clear hb)
      | (go_at_call 13; refine (rbase_any s t _).mono ?_; rintro e w1 ⟨rfl, hb⟩; have hB := box_trans hB hb; obtain ⟨c0, c1⟩ := box_cells hB; clear hb)
      | (go_at_call 14; refine (most_any s t _ (hT.box hB)).mono ?_; rintro e w1 ⟨rfl, hb⟩; have hB := box_trans hB hb; obtain ⟨c0, c1⟩ := box_cells hB; clear hb)
      | (go_at_call 15; refine (rmost_any s t _).mono ?_; rintro e w1 ⟨rfl, hb⟩; have hB := box_trans hB hb; obtain ⟨c0, c1⟩ := box_cells hB; clear hb)
      | (go_at_call 17; refine (runs_any s t _ (hT.box hB)).mono ?_; rintro e w1 ⟨v, rfl, hown, hb⟩; have hB := box_trans hB hb; obtain ⟨c0, c1⟩ := box_cells hB; have HO1 := Lib.hid hown; clear hb hown)
      | (go_at_call 18; refine (rruns_any s t _).mono ?_; rintro e w1 ⟨u, rfl, hown, hb⟩; have hB := box_trans hB hb; obtain ⟨c0, c1⟩ := box_cells hB; have HO2 := Lib.hid hown; have HO3 := Lib.hid (Mem.own_below HO1.out hb); clear hb hown)
      | (go_at_call 16; refine (same_eq v u _ _ _ _ HL.out HO3.out HO2.out).mono ?_; rintro e w1 ⟨rfl, hb⟩; have hB := box_trans hB hb; obtain ⟨c0, c1⟩ := box_cells hB; clear hb)
      | (go_at_call 19; refine (lies_true _ (hT.box hB)).mono ?_; rintro e w1 ⟨rfl, hb⟩; have hB := box_trans hB hb; obtain ⟨c0, c1⟩ := box_cells hB; clear hb))
  go_wp2
  go_ret
  exact ⟨rfl, box_below (by assumption)⟩
end Lay
end Go.Proofs.YtefjkigifngomaaDoor
