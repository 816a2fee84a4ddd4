/- Layer 9 (layout): the walks of LayoutPlaces, LayoutTiles, LayoutGrows: each returns true and writes nothing that was there. Condition: the table class.sizes holds its ten numbers. -/
import Derived.Test.YtefjkigifngomaaDoorLayK
namespace Go.Proofs.YtefjkigifngomaaDoor
open Go.RowKit
namespace Lay

set_option maxRecDepth 100000 in
set_option maxHeartbeats 3200000 in
theorem layoutPlaces_walk (s t i a : Int) (W : World) (hT : Tab W) : Calls Tryd.prog 6 #[.agg #[.int .i64 s, .int .i64 t], .int .i64 i, .int .i64 a] W fun e W' => e = .returned (.bool true) ∧ Below W.heap.size W W' := by
  go_enter Tryd.func6, Tryd.ntmps6
  go_wp2_with fail
  refine (slab_any s t a _ (hT.alloc _)).mono ?_
  rintro e w1 ⟨rfl, hB⟩
  obtain ⟨c0, c1⟩ := box_cells hB
  go_wp2_with fail
  refine (rslab_any s t a _).mono ?_
  rintro e w2 ⟨rfl, hb2⟩
  have hB2 := box_trans hB hb2
  have hT2 : Tab w2 := hT.box hB2
  obtain ⟨c0, c1⟩ := box_cells hB2
  clear hB hb2
  go_wp2_with fail
  go_region_held3 (fun w' => w'.cell? ⟨W.heap.size, 0, none⟩ = some (.int .i64 s) ∧ w'.cell? ⟨W.heap.size, 1, none⟩ = some (.int .i64 t)) (go_keep)
    (first
      | (go_at_call 22; refine (headAt_any s t i _ (by exact hT2)).mono ?_; rintro e w1 ⟨rfl, hb⟩; have hB := box_trans hB2 (Mem.below_of_drew hb); obtain ⟨c0, c1⟩ := box_cells hB; clear hb)
      | (go_at_call 23; refine (rheadAt_any s t i _).mono ?_; rintro e w1 ⟨rfl, hb⟩; have hB := box_trans hB hb; obtain ⟨c0, c1⟩ := box_cells hB; clear hb)
      | (go_at_call 24; refine (slotAt_any s t i _ (hT.box hB)).mono ?_; rintro e w1 ⟨rfl, hb⟩; have hB := box_trans hB hb; obtain ⟨c0, c1⟩ := box_cells hB; clear hb)
      | (go_at_call 25; refine (rslotAt_any s t i _).mono ?_; rintro e w1 ⟨rfl, hb⟩; have hB := box_trans hB hb; obtain ⟨c0, c1⟩ := box_cells hB; clear hb)
      | (go_at_call 26; refine (slabAt_any s t i _ (hT.box hB)).mono ?_; rintro e w1 ⟨rfl, hb⟩; have hB := box_trans hB hb; obtain ⟨c0, c1⟩ := box_cells hB; clear hb)
      | (go_at_call 27; refine (rslabAt_any s t i _).mono ?_; rintro e w1 ⟨rfl, hb⟩; have hB := box_trans hB hb; obtain ⟨c0, c1⟩ := box_cells hB; clear hb)
      | (go_at_call 19; refine (lies_true _ (hT.box hB)).mono ?_; rintro e w1 ⟨rfl, hb⟩; have hB := box_trans hB hb; obtain ⟨c0, c1⟩ := box_cells hB; clear hb))
  go_wp2
  go_ret
  exact ⟨rfl, box_below (by assumption)⟩

theorem size_slab {s t : Int} (hr : rt s t = true) (hr2 : rt (s + 1) t = true) : size (s + 1) t = size s t + 1024 + 16 := by
  have h := rt_yes hr
  unfold size base bAt slotsA
  rw [if_pos hr, if_pos hr2, if_pos hr, if_pos hr2]
  omega
theorem size_slots {s t : Int} (hr : rt s t = true) (h : t ≤ 8190) : rt s (t + 2) = true ∧ (size s (t + 2) - size s t = 0 ∨ size s (t + 2) - size s t = 16) := by
  have h1 := rt_yes hr
  have hr2 : rt s (t + 2) = true := decide_eq_true (by omega)
  refine ⟨hr2, ?_⟩
  unfold size base bAt slotsA
  rw [if_pos hr, if_pos hr2, if_pos hr, if_pos hr2]
  omega
theorem size_rng {s t : Int} (hr : rt s t = true) : 0 ≤ size s t ∧ size s t ≤ 200000 := by
  have h := rt_yes hr
  have hb := base_range s t hr
  have e : size s t = base s t + s * 1024 := if_pos hr
  omega
/-- The two boxes of LayoutGrows: the argument's, and d's. -/
def Two (W w : World) (s t x y : Int) : Prop :=
  Below W.heap.size W w ∧ w.cell? ⟨W.heap.size, 0, none⟩ = some (.int .i64 s) ∧ w.cell? ⟨W.heap.size, 1, none⟩ = some (.int .i64 t) ∧
    w.heap[W.heap.size + 1]? = some (.cells #[.int .i64 x, .int .i64 y] 23) ∧ W.heap.size + 1 < w.heap.size
theorem Two.below {W w w2 : World} {s t x y : Int} (h : Two W w s t x y) (hb : Below w.heap.size w w2) : Two W w2 s t x y := by
  obtain ⟨h1, h2, h3, h4, h5⟩ := h
  refine ⟨h1.trans (hb.mono h1.size), ?_, ?_, ?_, Nat.lt_of_lt_of_le h5 hb.size⟩
  · rw [hb.cell (p := ⟨W.heap.size, 0, none⟩) (show W.heap.size < w.heap.size by omega)]; exact h2
  · rw [hb.cell (p := ⟨W.heap.size, 1, none⟩) (show W.heap.size < w.heap.size by omega)]; exact h3
  · rw [hb.block _ h5]; exact h4
theorem Two.zero (W : World) (s t x y : Int) : Two W ((boxOf W s t).alloc (.cells #[.int .i64 x, .int .i64 y] 23)) s t x y := by
  have e := heap_alloc_new (boxOf W s t) (.cells #[.int .i64 x, .int .i64 y] 23)
  rw [show (boxOf W s t).heap.size = W.heap.size + 1 by simp] at e
  refine ⟨((Below.refl _ _).alloc (Nat.le_refl _) _).alloc (by simp) _, ?_, ?_, e, by simp⟩
  · rw [World.cell?_alloc_lt _ _ _ (by simp)]; simp [World.cell?_alloc_new]
  · rw [World.cell?_alloc_lt _ _ _ (by simp)]; simp [World.cell?_alloc_new]
theorem Two.cells {W w : World} {s t x y : Int} (h : Two W w s t x y) :
    w.cell? ⟨W.heap.size, 0, none⟩ = some (.int .i64 s) ∧ w.cell? ⟨W.heap.size, 1, none⟩ = some (.int .i64 t) ∧
    w.cell? ⟨W.heap.size + 1, 0, none⟩ = some (.int .i64 x) ∧ w.cell? ⟨W.heap.size + 1, 1, none⟩ = some (.int .i64 y) ∧
    w.frozen? ⟨W.heap.size + 1, 0, none⟩ = false ∧ w.frozen? ⟨W.heap.size + 1, 1, none⟩ = false := by
  obtain ⟨h1, h2, h3, h4, h5⟩ := h
  refine ⟨h2, h3, ?_, ?_, ?_, ?_⟩
  · unfold World.cell?; rw [h4]; rfl
  · unfold World.cell?; rw [h4]; rfl
  · unfold World.frozen?; rw [h4]; rfl
  · unfold World.frozen?; rw [h4]; rfl
theorem Two.tab {W w : World} {s t x y : Int} (h : Two W w s t x y) (hT : Tab W) : Tab w := hT.below h.1
theorem Two.set0 {W w : World} {s t x y : Int} (h : Two W w s t x y) (z : Int) : Two W (w.setCell ⟨W.heap.size + 1, 0, none⟩ (.int .i64 z)) s t z y := by
  obtain ⟨h1, h2, h3, h4, h5⟩ := h
  refine ⟨h1.setCell (by simp) _, ?_, ?_, ?_, by simpa [World.setCell] using h5⟩
  · rw [World.cell?_setCell_far _ _ _ _ (by simp)]; exact h2
  · rw [World.cell?_setCell_far _ _ _ _ (by simp)]; exact h3
  · simp [World.setCell, Array.getElem?_modify, h4]
theorem Two.set1 {W w : World} {s t x y : Int} (h : Two W w s t x y) (z : Int) : Two W (w.setCell ⟨W.heap.size + 1, 1, none⟩ (.int .i64 z)) s t x z := by
  obtain ⟨h1, h2, h3, h4, h5⟩ := h
  refine ⟨h1.setCell (by simp) _, ?_, ?_, ?_, by simpa [World.setCell] using h5⟩
  · rw [World.cell?_setCell_far _ _ _ _ (by simp)]; exact h2
  · rw [World.cell?_setCell_far _ _ _ _ (by simp)]; exact h3
  · simp [World.setCell, Array.getElem?_modify, h4]
set_option maxRecDepth 100000 in
set_option maxHeartbeats 3200000 in
theorem layoutGrows_walk (s t : Int) (W : World) (hT : Tab W) : Calls Tryd.prog 5 #[.agg #[.int .i64 s, .int .i64 t]] W fun e W' => e = .returned (.bool true) ∧ Below W.heap.size W W' := by
  have h0 := Two.zero W s t s t
  cases hr : rt s t with
  | false =>
    have HR := Lib.hid hr
    clear hr
    go_enter Tryd.func5, Tryd.ntmps5
    go_wp2_with fail
    refine (right_any s t _ (by exact h0.tab hT)).mono ?_
    rw [HR.out]
    rintro e w1 ⟨rfl, hb⟩
    have h1 := h0.below hb
    clear hb
    go_wp2_with fail
    refine (lies_true _ (by exact h1.tab hT)).mono ?_
    rintro e w2 ⟨rfl, hb⟩
    have h2 := h1.below hb
    go_wp2
    go_ret
    exact ⟨rfl, h2.1⟩
  | true =>
    have HR := Lib.hid hr
    have hz := rt_yes hr
    have hs1 := size_rng hr
    clear hr
    go_enter Tryd.func5, Tryd.ntmps5
    go_wp2_with fail
    refine (right_any s t _ (by exact h0.tab hT)).mono ?_
    rw [HR.out]
    rintro e w1 ⟨rfl, hb⟩
    have h1 := h0.below hb
    clear hb
    obtain ⟨c0, c1, d0, d1, g0, g1⟩ := h1.cells
    by_cases q1 : 64 ≤ s
    · go_wp2_with fail
      refine (lies_true _ (by exact h1.tab hT)).mono ?_
      rintro e w2 ⟨rfl, hb⟩
      have h2 := h1.below hb
      go_wp2
      go_ret
      exact ⟨rfl, h2.1⟩
    by_cases q2 : 8190 < t
    · go_wp2_with fail
      refine (lies_true _ (by exact h1.tab hT)).mono ?_
      rintro e w2 ⟨rfl, hb⟩
      have h2 := h1.below hb
      go_wp2
      go_ret
      exact ⟨rfl, h2.1⟩
    go_wp2_with fail
    have h2 := h1.set0 (s + 1)
    obtain ⟨c0, c1, d0, d1, g0, g1⟩ := h2.cells
    have HS1 := Lib.hid (fun h => size_slab (s := s) (t := t) HR.out h)
    obtain ⟨hr3, hz3⟩ := size_slots HR.out (by omega)
    have HR3 := Lib.hid hr3
    have hs3 := size_rng hr3
    have hw1 : IntKind.i64.wrap (size s t + 1024) = size s t + 1024 := IntWalk.i64_in _ (by omega)
    have hw2 : IntKind.i64.wrap (size s t + 1024 + 16) = size s t + 1024 + 16 := IntWalk.i64_in _ (by omega)
    clear hr3
    cases hr2 : rt (s + 1) t with
    | false =>
      have HR2 := Lib.hid hr2
      clear hr2
      go_region_with
          (first
            | (go_at_call 8; refine (right_any (s + 1) t _ (by exact h2.tab hT)).mono ?_; rw [HR2.out]; rintro e w2 ⟨rfl, hb⟩; have h3 := h2.below (Mem.below_of_drew hb); obtain ⟨c0, c1, d0, d1, g0, g1⟩ := h3.cells; clear hb))
      all_goals
        clear hw1 hw2
        go_wp2_with fail
        have h4 := (h3.set0 s).set1 (t + 2)
        obtain ⟨c0, c1, d0, d1, g0, g1⟩ := h4.cells
        rcases hz3 with hz3 | hz3
        · have hw3 : IntKind.i64.wrap (size s (t + 2) - size s t) = 0 := by rw [hz3]; decide
          clear hz3
          go_region_held3 (fun w' => w'.cell? ⟨W.heap.size, 0, none⟩ = some (.int .i64 s) ∧ w'.cell? ⟨W.heap.size, 1, none⟩ = some (.int .i64 t) ∧ w'.cell? ⟨W.heap.size + 1, 0, none⟩ = some (.int .i64 s) ∧ w'.cell? ⟨W.heap.size + 1, 1, none⟩ = some (.int .i64 (t + 2))) (go_keep)
            (first
              | (go_at_call 10; refine (size_any _ _ _ (by exact h4.tab hT)).mono ?_; rintro e w3 ⟨rfl, hb⟩; have h4 : Two W w3 s t s (t + 2) := h4.below (by first | exact Mem.below_of_drew hb | exact hb); obtain ⟨c0, c1, d0, d1, g0, g1⟩ := h4.cells; clear hb))
          go_wp2_with (first
            | (go_at_call 8; refine (right_any _ _ _ (by exact h4.tab hT)).mono ?_; rw [HR3.out]; rintro e w4 ⟨rfl, hb⟩; have h4 := h4.below hb; obtain ⟨c0, c1, d0, d1, g0, g1⟩ := h4.cells; clear hb)
            | (go_at_call 19; refine (lies_true _ (by exact h4.tab hT)).mono ?_; rintro e w4 ⟨rfl, hb⟩; have h4 := h4.below hb; clear hb))
          go_ret
          exact ⟨rfl, h4.1⟩
        · have hw3 : IntKind.i64.wrap (size s (t + 2) - size s t) = 16 := by rw [hz3]; decide
          clear hz3
          go_region_held3 (fun w' => w'.cell? ⟨W.heap.size, 0, none⟩ = some (.int .i64 s) ∧ w'.cell? ⟨W.heap.size, 1, none⟩ = some (.int .i64 t) ∧ w'.cell? ⟨W.heap.size + 1, 0, none⟩ = some (.int .i64 s) ∧ w'.cell? ⟨W.heap.size + 1, 1, none⟩ = some (.int .i64 (t + 2))) (go_keep)
            (first
              | (go_at_call 10; refine (size_any _ _ _ (by exact h4.tab hT)).mono ?_; rintro e w3 ⟨rfl, hb⟩; have h4 : Two W w3 s t s (t + 2) := h4.below (by first | exact Mem.below_of_drew hb | exact hb); obtain ⟨c0, c1, d0, d1, g0, g1⟩ := h4.cells; clear hb))
          go_wp2_with (first
            | (go_at_call 8; refine (right_any _ _ _ (by exact h4.tab hT)).mono ?_; rw [HR3.out]; rintro e w4 ⟨rfl, hb⟩; have h4 := h4.below hb; obtain ⟨c0, c1, d0, d1, g0, g1⟩ := h4.cells; clear hb)
            | (go_at_call 19; refine (lies_true _ (by exact h4.tab hT)).mono ?_; rintro e w4 ⟨rfl, hb⟩; have h4 := h4.below hb; clear hb))
          go_ret
          exact ⟨rfl, h4.1⟩
    | true =>
      have HR2 := Lib.hid hr2
      clear hr2
      go_region_held3 (fun w' => w'.cell? ⟨W.heap.size, 0, none⟩ = some (.int .i64 s) ∧ w'.cell? ⟨W.heap.size, 1, none⟩ = some (.int .i64 t) ∧ w'.cell? ⟨W.heap.size + 1, 0, none⟩ = some (.int .i64 (s + 1)) ∧ w'.cell? ⟨W.heap.size + 1, 1, none⟩ = some (.int .i64 t)) (go_keep)
        (first
          | (go_at_call 8; refine (right_any (s + 1) t _ (by exact h2.tab hT)).mono ?_; rw [HR2.out]; rintro e w2 ⟨rfl, hb⟩; have h3 := h2.below (Mem.below_of_drew hb); obtain ⟨c0, c1, d0, d1, g0, g1⟩ := h3.cells; clear hb)
          | (go_at_call 10; refine (size_any _ _ _ (h3.tab hT)).mono ?_; (try rw [HS1.out HR2.out]); rintro e w2 ⟨rfl, hb⟩; have h3 := h3.below hb; obtain ⟨c0, c1, d0, d1, g0, g1⟩ := h3.cells; clear hb))
      clear hw1 hw2
      go_wp2_with fail
      have h4 := (h3.set0 s).set1 (t + 2)
      obtain ⟨c0, c1, d0, d1, g0, g1⟩ := h4.cells
      rcases hz3 with hz3 | hz3
      · have hw3 : IntKind.i64.wrap (size s (t + 2) - size s t) = 0 := by rw [hz3]; decide
        clear hz3
        go_region_held3 (fun w' => w'.cell? ⟨W.heap.size, 0, none⟩ = some (.int .i64 s) ∧ w'.cell? ⟨W.heap.size, 1, none⟩ = some (.int .i64 t) ∧ w'.cell? ⟨W.heap.size + 1, 0, none⟩ = some (.int .i64 s) ∧ w'.cell? ⟨W.heap.size + 1, 1, none⟩ = some (.int .i64 (t + 2))) (go_keep)
          (first
            | (go_at_call 10; refine (size_any _ _ _ (by exact h4.tab hT)).mono ?_; rintro e w3 ⟨rfl, hb⟩; have h4 : Two W w3 s t s (t + 2) := h4.below (by first | exact Mem.below_of_drew hb | exact hb); obtain ⟨c0, c1, d0, d1, g0, g1⟩ := h4.cells; clear hb))
        go_wp2_with (first
          | (go_at_call 8; refine (right_any _ _ _ (by exact h4.tab hT)).mono ?_; rw [HR3.out]; rintro e w4 ⟨rfl, hb⟩; have h4 := h4.below hb; obtain ⟨c0, c1, d0, d1, g0, g1⟩ := h4.cells; clear hb)
          | (go_at_call 19; refine (lies_true _ (by exact h4.tab hT)).mono ?_; rintro e w4 ⟨rfl, hb⟩; have h4 := h4.below hb; clear hb))
        go_ret
        exact ⟨rfl, h4.1⟩
      · have hw3 : IntKind.i64.wrap (size s (t + 2) - size s t) = 16 := by rw [hz3]; decide
        clear hz3
        go_region_held3 (fun w' => w'.cell? ⟨W.heap.size, 0, none⟩ = some (.int .i64 s) ∧ w'.cell? ⟨W.heap.size, 1, none⟩ = some (.int .i64 t) ∧ w'.cell? ⟨W.heap.size + 1, 0, none⟩ = some (.int .i64 s) ∧ w'.cell? ⟨W.heap.size + 1, 1, none⟩ = some (.int .i64 (t + 2))) (go_keep)
          (first
            | (go_at_call 10; refine (size_any _ _ _ (by exact h4.tab hT)).mono ?_; rintro e w3 ⟨rfl, hb⟩; have h4 : Two W w3 s t s (t + 2) := h4.below (by first | exact Mem.below_of_drew hb | exact hb); obtain ⟨c0, c1, d0, d1, g0, g1⟩ := h4.cells; clear hb))
        go_wp2_with (first
          | (go_at_call 8; refine (right_any _ _ _ (by exact h4.tab hT)).mono ?_; rw [HR3.out]; rintro e w4 ⟨rfl, hb⟩; have h4 := h4.below hb; obtain ⟨c0, c1, d0, d1, g0, g1⟩ := h4.cells; clear hb)
          | (go_at_call 19; refine (lies_true _ (by exact h4.tab hT)).mono ?_; rintro e w4 ⟨rfl, hb⟩; have h4 := h4.below hb; clear hb))
        go_ret
        exact ⟨rfl, h4.1⟩

end Lay
end Go.Proofs.YtefjkigifngomaaDoor
