/- Layer 9 (layout): the walk of LayoutApart: it returns true and writes nothing that was there. Condition: the table class.sizes holds its ten numbers. -/
import Derived.Test.YtefjkigifngomaaDoorLayK
namespace Go.Proofs.YtefjkigifngomaaDoor
open Go.RowKit
namespace Lay

theorem inn_in {s t i many a z : Int} (hr : rt s t = true) (h0 : 0 ≤ i) (h1 : i < many) : inn (rt s t) i many a z = a + i * z := by
  unfold inn
  rw [if_pos ⟨hr, h0, h1⟩]
theorem slab_at {s t i a : Int} (hr : rt s t = true) (h0 : 0 ≤ i) (h1 : i < s) (ha : base s t + i * 1024 ≤ a) (hb : a ≤ base s t + i * 1024 + 1023) : slI s t a = i ∧ slB s t a = true := by
  have hz : size s t = base s t + s * 1024 := if_pos hr
  have e : slB s t a = true := by
    unfold slB
    rw [hr, Bool.true_and]
    exact decide_eq_true (by omega)
  refine ⟨?_, e⟩
  rw [(sl_yes e).1]
  omega
theorem slab_off {s t a : Int} (ha : a < base s t) : slI s t a = 0 ∧ slB s t a = false := by
  have e : slB s t a = false := by
    unfold slB
    rw [show decide (base s t ≤ a ∧ a < size s t) = false from decide_eq_false (by omega), Bool.and_false]
  exact sl_no e
set_option maxRecDepth 100000 in
set_option maxHeartbeats 1600000 in
theorem apart_out (s t i k : Int) (W : World) (hT : Tab W) (h : ¬ (rt s t = true ∧ 0 ≤ i ∧ i < s ∧ 0 ≤ k ∧ k < t)) : Calls Tryd.prog 7 #[.agg #[.int .i64 s, .int .i64 t], .int .i64 i, .int .i64 k] W fun e W' => e = .returned (.bool true) ∧ Below W.heap.size W W' := by
  cases hr : rt s t with
  | false =>
    have HR := Lib.hid hr
    clear hr h
    go_enter Tryd.func7, Tryd.ntmps7
    go_wp2_with fail
    refine (right_any s t _ (hT.alloc _)).mono ?_
    rw [HR.out]
    rintro e w1 ⟨rfl, hB⟩
    obtain ⟨c0, c1⟩ := box_cells hB
    go_wp2_with (go_at_call 19; refine (lies_true _ (by first | exact hT.box hB | (have hq := hT.box hB; exact hq))).mono ?_; rintro e w4 ⟨rfl, hb⟩; have hB := box_trans hB hb; clear hb)
    go_ret
    exact ⟨rfl, box_below (by assumption)⟩
  | true =>
    have HR := Lib.hid hr
    have HZ := Lib.hid (rt_yes hr)
    have H := Lib.hid h
    clear hr h
    go_enter Tryd.func7, Tryd.ntmps7
    go_wp2_with fail
    refine (right_any s t _ (hT.alloc _)).mono ?_
    rw [HR.out]
    rintro e w1 ⟨rfl, hB⟩
    obtain ⟨c0, c1⟩ := box_cells hB
    by_cases q1 : i < 0
    · go_wp2_with (go_at_call 19; refine (lies_true _ (by first | exact hT.box hB | (have hq := hT.box hB; exact hq))).mono ?_; rintro e w4 ⟨rfl, hb⟩; have hB := box_trans hB hb; clear hb)
      go_ret
      exact ⟨rfl, box_below (by assumption)⟩
    by_cases q2 : s ≤ i
    · go_wp2_with (go_at_call 19; refine (lies_true _ (by first | exact hT.box hB | (have hq := hT.box hB; exact hq))).mono ?_; rintro e w4 ⟨rfl, hb⟩; have hB := box_trans hB hb; clear hb)
      go_ret
      exact ⟨rfl, box_below (by assumption)⟩
    by_cases q3 : k < 0
    · go_wp2_with (go_at_call 19; refine (lies_true _ (by first | exact hT.box hB | (have hq := hT.box hB; exact hq))).mono ?_; rintro e w4 ⟨rfl, hb⟩; have hB := box_trans hB hb; clear hb)
      go_ret
      exact ⟨rfl, box_below (by assumption)⟩
    by_cases q4 : t ≤ k
    · go_wp2_with (go_at_call 19; refine (lies_true _ (by first | exact hT.box hB | (have hq := hT.box hB; exact hq))).mono ?_; rintro e w4 ⟨rfl, hb⟩; have hB := box_trans hB hb; clear hb)
      go_ret
      exact ⟨rfl, box_below (by assumption)⟩
    exact absurd ⟨HR.out, by omega, by omega, by omega, by omega⟩ H.out
set_option maxRecDepth 100000 in
set_option maxHeartbeats 3200000 in
theorem apart_pp (s t i k : Int) (W : World) (hT : Tab W) (hr : rt s t = true) (i0 : 0 ≤ i) (i1 : i < s) (k0 : 0 ≤ k) (k1 : k < t) (hi : 0 < i) (hk : 0 < k) : Calls Tryd.prog 7 #[.agg #[.int .i64 s, .int .i64 t], .int .i64 i, .int .i64 k] W fun e W' => e = .returned (.bool true) ∧ Below W.heap.size W W' := by
  have h1 := rt_yes hr
  have h2 := base_range s t hr
  have h3 := pad_facts s t hr
  have h4 : size s t = base s t + s * 1024 := if_pos hr
  have h5 : slotsA s = 128 + s * 16 := rfl
  have h6 : bAt s t = slotsA s + t * 4 := rfl
  obtain ⟨x, hx⟩ : ∃ x, x = 128 + i * 16 := ⟨_, rfl⟩
  obtain ⟨xp, hxp⟩ : ∃ xp, xp = x - 16 := ⟨_, rfl⟩
  obtain ⟨y, hy⟩ : ∃ y, y = slotsA s + k * 4 := ⟨_, rfl⟩
  obtain ⟨yp, hyp⟩ : ∃ yp, yp = y - 4 := ⟨_, rfl⟩
  obtain ⟨z, hz⟩ : ∃ z, z = base s t + i * 1024 := ⟨_, rfl⟩
  obtain ⟨zp, hzp⟩ : ∃ zp, zp = z - 1024 := ⟨_, rfl⟩
  obtain ⟨a, ha⟩ : ∃ a, a = slotsA s := ⟨_, rfl⟩
  obtain ⟨b, hb⟩ : ∃ b, b = base s t := ⟨_, rfl⟩
  obtain ⟨d, hd⟩ : ∃ d, d = size s t := ⟨_, rfl⟩
  have HR := Lib.hid hr
  have A1 := Lib.hid (show inn (rt s t) i s 128 16 = x by rw [inn_in hr i0 i1, hx])
  have B1 := Lib.hid (show inn (rt s t) k t (slotsA s) 4 = y by rw [inn_in hr k0 k1, hy])
  have C1 := Lib.hid (show inn (rt s t) i s (base s t) 1024 = z by rw [inn_in hr i0 i1, hz])
  have A2 := Lib.hid (show 0 < i → inn (rt s t) (i - 1) s 128 16 = xp from fun h => by rw [inn_in hr (by omega) (by omega)]; omega)
  have B2 := Lib.hid (show 0 < k → inn (rt s t) (k - 1) t (slotsA s) 4 = yp from fun h => by rw [inn_in hr (by omega) (by omega)]; omega)
  have C2 := Lib.hid (show 0 < i → inn (rt s t) (i - 1) s (base s t) 1024 = zp from fun h => by rw [inn_in hr (by omega) (by omega)]; omega)
  have B3 := Lib.hid (show inn (rt s t) 0 t (slotsA s) 4 = a by rw [inn_in hr (by omega) (by omega), ha]; omega)
  have BB := Lib.hid (show base s t = b from hb.symm)
  have DD := Lib.hid (show size s t = d from hd.symm)
  have S1 := Lib.hid (slab_at (a := z) hr i0 i1 (by omega) (by omega))
  have S2 := Lib.hid (slab_at (a := z + 1023) hr i0 i1 (by omega) (by omega))
  have S3 := Lib.hid (slab_off (s := s) (t := t) (a := y) (by omega))
  have f1 : ¬ (x < 128) := by omega
  have f2 : x.tmod 16 = 0 := by rw [Int.tmod_eq_emod_of_nonneg (by omega)]; omega
  have f3 : y.tmod 4 = 0 := by rw [Int.tmod_eq_emod_of_nonneg (by omega)]; omega
  have f4 : z.tmod 16 = 0 := by rw [Int.tmod_eq_emod_of_nonneg (by omega)]; omega
  have g1 : IntKind.i64.wrap (i - 1) = i - 1 := IntWalk.i64_in _ (by omega)
  have g2 : IntKind.i64.wrap (k - 1) = k - 1 := IntWalk.i64_in _ (by omega)
  have g3 : IntKind.i64.wrap (xp + 16) = x := by rw [IntWalk.i64_in _ (by omega)]; omega
  have g4 : IntKind.i64.wrap (yp + 4) = y := by rw [IntWalk.i64_in _ (by omega)]; omega
  have g5 : IntKind.i64.wrap (zp + 1024) = z := by rw [IntWalk.i64_in _ (by omega)]; omega
  have g6 : IntKind.i64.wrap (z + 1023) = z + 1023 := IntWalk.i64_in _ (by omega)
  have g7 : IntKind.i64.wrap (x + 16) = x + 16 := IntWalk.i64_in _ (by omega)
  have g8 : IntKind.i64.wrap (y + 4) = y + 4 := IntWalk.i64_in _ (by omega)
  have g9 : IntKind.i64.wrap (z + 1024) = z + 1024 := IntWalk.i64_in _ (by omega)
  have l1 : x + 16 ≤ a := by omega
  have l4 : x + 16 ≤ y := by omega
  have l2 : y + 4 ≤ b := by omega
  have l3 : z + 1024 ≤ d := by omega
  have A2 := Lib.hid (A2.out hi); have C2 := Lib.hid (C2.out hi)
  have B2 := Lib.hid (B2.out hk)
  clear h1 h2 h3 h4 h5 h6 hxp hyp hzp hx hy hz ha hb hd hr
  go_enter Tryd.func7, Tryd.ntmps7
  go_wp2_with fail
  refine (right_any s t _ (hT.alloc _)).mono ?_
  rw [HR.out]
  rintro e w1 ⟨rfl, hB⟩
  obtain ⟨c0, c1⟩ := box_cells hB
  go_wp2_with fail
  go_region_held3 (fun w' => w'.cell? ⟨W.heap.size, 0, none⟩ = some (.int .i64 s) ∧ w'.cell? ⟨W.heap.size, 1, none⟩ = some (.int .i64 t)) (go_keep)
    (first
      | (go_at_call 22; refine (headAt_any s t _ _ (by first | exact hT.box hB | (have hq := hT.box hB; exact hq))).mono ?_; (first | rw [A1.out] | rw [A2.out]); rintro e w2 ⟨rfl, hb⟩; have hB : Below (boxOf W s t).heap.size (boxOf W s t) w2 := box_trans hB (by first | exact hb | exact Mem.below_of_drew hb); obtain ⟨c0, c1⟩ := box_cells hB; clear hb)
      | (go_at_call 24; refine (slotAt_any s t _ _ (by first | exact hT.box hB | (have hq := hT.box hB; exact hq))).mono ?_; (first | rw [B1.out] | rw [B3.out] | rw [B2.out]); rintro e w2 ⟨rfl, hb⟩; have hB : Below (boxOf W s t).heap.size (boxOf W s t) w2 := box_trans hB (by first | exact hb | exact Mem.below_of_drew hb); obtain ⟨c0, c1⟩ := box_cells hB; clear hb)
      | (go_at_call 26; refine (slabAt_any s t _ _ (by first | exact hT.box hB | (have hq := hT.box hB; exact hq))).mono ?_; (first | rw [C1.out] | rw [C2.out]); rintro e w2 ⟨rfl, hb⟩; have hB : Below (boxOf W s t).heap.size (boxOf W s t) w2 := box_trans hB (by first | exact hb | exact Mem.below_of_drew hb); obtain ⟨c0, c1⟩ := box_cells hB; clear hb))
  go_wp2_with (first
      | (go_at_call 22; refine (headAt_any s t _ _ (by first | exact hT.box hB | (have hq := hT.box hB; exact hq))).mono ?_; (first | rw [A1.out] | rw [A2.out]); rintro e w2 ⟨rfl, hb⟩; have hB : Below (boxOf W s t).heap.size (boxOf W s t) w2 := box_trans hB (by first | exact hb | exact Mem.below_of_drew hb); obtain ⟨c0, c1⟩ := box_cells hB; clear hb)
      | (go_at_call 24; refine (slotAt_any s t _ _ (by first | exact hT.box hB | (have hq := hT.box hB; exact hq))).mono ?_; (first | rw [B1.out] | rw [B3.out] | rw [B2.out]); rintro e w2 ⟨rfl, hb⟩; have hB : Below (boxOf W s t).heap.size (boxOf W s t) w2 := box_trans hB (by first | exact hb | exact Mem.below_of_drew hb); obtain ⟨c0, c1⟩ := box_cells hB; clear hb)
      | (go_at_call 26; refine (slabAt_any s t _ _ (by first | exact hT.box hB | (have hq := hT.box hB; exact hq))).mono ?_; (first | rw [C1.out] | rw [C2.out]); rintro e w2 ⟨rfl, hb⟩; have hB : Below (boxOf W s t).heap.size (boxOf W s t) w2 := box_trans hB (by first | exact hb | exact Mem.below_of_drew hb); obtain ⟨c0, c1⟩ := box_cells hB; clear hb)
      | (go_at_call 20; refine (slab_any s t _ _ (by first | exact hT.box hB | (have hq := hT.box hB; exact hq))).mono ?_; (first | rw [S1.out.1, S1.out.2] | rw [S2.out.1, S2.out.2] | rw [S3.out.1, S3.out.2]); rintro e w2 ⟨rfl, hb⟩; have hB : Below (boxOf W s t).heap.size (boxOf W s t) w2 := box_trans hB (by first | exact hb | exact Mem.below_of_drew hb); obtain ⟨c0, c1⟩ := box_cells hB; clear hb)
      | (go_at_call 12; refine (base_any s t _ (by first | exact hT.box hB | (have hq := hT.box hB; exact hq))).mono ?_; rw [BB.out]; rintro e w2 ⟨rfl, hb⟩; have hB : Below (boxOf W s t).heap.size (boxOf W s t) w2 := box_trans hB (by first | exact hb | exact Mem.below_of_drew hb); obtain ⟨c0, c1⟩ := box_cells hB; clear hb)
      | (go_at_call 10; refine (size_any s t _ (by first | exact hT.box hB | (have hq := hT.box hB; exact hq))).mono ?_; rw [DD.out]; rintro e w2 ⟨rfl, hb⟩; have hB : Below (boxOf W s t).heap.size (boxOf W s t) w2 := box_trans hB (by first | exact hb | exact Mem.below_of_drew hb); obtain ⟨c0, c1⟩ := box_cells hB; clear hb)
      | (go_at_call 19; refine (lies_true _ (by first | exact hT.box hB | (have hq := hT.box hB; exact hq))).mono ?_; rintro e w2 ⟨rfl, hb⟩; have hB : Below (boxOf W s t).heap.size (boxOf W s t) w2 := box_trans hB (by first | exact hb | exact Mem.below_of_drew hb); obtain ⟨c0, c1⟩ := box_cells hB; clear hb))
  go_ret
  exact ⟨rfl, box_below (by assumption)⟩
set_option maxRecDepth 100000 in
set_option maxHeartbeats 3200000 in
theorem apart_zp (s t i k : Int) (W : World) (hT : Tab W) (hr : rt s t = true) (i0 : 0 ≤ i) (i1 : i < s) (k0 : 0 ≤ k) (k1 : k < t) (hi : i = 0) (hk : 0 < k) : Calls Tryd.prog 7 #[.agg #[.int .i64 s, .int .i64 t], .int .i64 i, .int .i64 k] W fun e W' => e = .returned (.bool true) ∧ Below W.heap.size W W' := by
  have h1 := rt_yes hr
  have h2 := base_range s t hr
  have h3 := pad_facts s t hr
  have h4 : size s t = base s t + s * 1024 := if_pos hr
  have h5 : slotsA s = 128 + s * 16 := rfl
  have h6 : bAt s t = slotsA s + t * 4 := rfl
  obtain ⟨x, hx⟩ : ∃ x, x = 128 + i * 16 := ⟨_, rfl⟩
  obtain ⟨xp, hxp⟩ : ∃ xp, xp = x - 16 := ⟨_, rfl⟩
  obtain ⟨y, hy⟩ : ∃ y, y = slotsA s + k * 4 := ⟨_, rfl⟩
  obtain ⟨yp, hyp⟩ : ∃ yp, yp = y - 4 := ⟨_, rfl⟩
  obtain ⟨z, hz⟩ : ∃ z, z = base s t + i * 1024 := ⟨_, rfl⟩
  obtain ⟨zp, hzp⟩ : ∃ zp, zp = z - 1024 := ⟨_, rfl⟩
  obtain ⟨a, ha⟩ : ∃ a, a = slotsA s := ⟨_, rfl⟩
  obtain ⟨b, hb⟩ : ∃ b, b = base s t := ⟨_, rfl⟩
  obtain ⟨d, hd⟩ : ∃ d, d = size s t := ⟨_, rfl⟩
  have HR := Lib.hid hr
  have A1 := Lib.hid (show inn (rt s t) i s 128 16 = x by rw [inn_in hr i0 i1, hx])
  have B1 := Lib.hid (show inn (rt s t) k t (slotsA s) 4 = y by rw [inn_in hr k0 k1, hy])
  have C1 := Lib.hid (show inn (rt s t) i s (base s t) 1024 = z by rw [inn_in hr i0 i1, hz])
  have A2 := Lib.hid (show 0 < i → inn (rt s t) (i - 1) s 128 16 = xp from fun h => by rw [inn_in hr (by omega) (by omega)]; omega)
  have B2 := Lib.hid (show 0 < k → inn (rt s t) (k - 1) t (slotsA s) 4 = yp from fun h => by rw [inn_in hr (by omega) (by omega)]; omega)
  have C2 := Lib.hid (show 0 < i → inn (rt s t) (i - 1) s (base s t) 1024 = zp from fun h => by rw [inn_in hr (by omega) (by omega)]; omega)
  have B3 := Lib.hid (show inn (rt s t) 0 t (slotsA s) 4 = a by rw [inn_in hr (by omega) (by omega), ha]; omega)
  have BB := Lib.hid (show base s t = b from hb.symm)
  have DD := Lib.hid (show size s t = d from hd.symm)
  have S1 := Lib.hid (slab_at (a := z) hr i0 i1 (by omega) (by omega))
  have S2 := Lib.hid (slab_at (a := z + 1023) hr i0 i1 (by omega) (by omega))
  have S3 := Lib.hid (slab_off (s := s) (t := t) (a := y) (by omega))
  have f1 : ¬ (x < 128) := by omega
  have f2 : x.tmod 16 = 0 := by rw [Int.tmod_eq_emod_of_nonneg (by omega)]; omega
  have f3 : y.tmod 4 = 0 := by rw [Int.tmod_eq_emod_of_nonneg (by omega)]; omega
  have f4 : z.tmod 16 = 0 := by rw [Int.tmod_eq_emod_of_nonneg (by omega)]; omega
  have g1 : IntKind.i64.wrap (i - 1) = i - 1 := IntWalk.i64_in _ (by omega)
  have g2 : IntKind.i64.wrap (k - 1) = k - 1 := IntWalk.i64_in _ (by omega)
  have g3 : IntKind.i64.wrap (xp + 16) = x := by rw [IntWalk.i64_in _ (by omega)]; omega
  have g4 : IntKind.i64.wrap (yp + 4) = y := by rw [IntWalk.i64_in _ (by omega)]; omega
  have g5 : IntKind.i64.wrap (zp + 1024) = z := by rw [IntWalk.i64_in _ (by omega)]; omega
  have g6 : IntKind.i64.wrap (z + 1023) = z + 1023 := IntWalk.i64_in _ (by omega)
  have g7 : IntKind.i64.wrap (x + 16) = x + 16 := IntWalk.i64_in _ (by omega)
  have g8 : IntKind.i64.wrap (y + 4) = y + 4 := IntWalk.i64_in _ (by omega)
  have g9 : IntKind.i64.wrap (z + 1024) = z + 1024 := IntWalk.i64_in _ (by omega)
  have l1 : x + 16 ≤ a := by omega
  have l4 : x + 16 ≤ y := by omega
  have l2 : y + 4 ≤ b := by omega
  have l3 : z + 1024 ≤ d := by omega
  subst hi
  have B2 := Lib.hid (B2.out hk)
  clear h1 h2 h3 h4 h5 h6 hxp hyp hzp hx hy hz ha hb hd hr
  go_enter Tryd.func7, Tryd.ntmps7
  go_wp2_with fail
  refine (right_any s t _ (hT.alloc _)).mono ?_
  rw [HR.out]
  rintro e w1 ⟨rfl, hB⟩
  obtain ⟨c0, c1⟩ := box_cells hB
  go_wp2_with fail
  go_region_held3 (fun w' => w'.cell? ⟨W.heap.size, 0, none⟩ = some (.int .i64 s) ∧ w'.cell? ⟨W.heap.size, 1, none⟩ = some (.int .i64 t)) (go_keep)
    (first
      | (go_at_call 22; refine (headAt_any s t _ _ (by first | exact hT.box hB | (have hq := hT.box hB; exact hq))).mono ?_; (first | rw [A1.out] | rw [A2.out]); rintro e w2 ⟨rfl, hb⟩; have hB : Below (boxOf W s t).heap.size (boxOf W s t) w2 := box_trans hB (by first | exact hb | exact Mem.below_of_drew hb); obtain ⟨c0, c1⟩ := box_cells hB; clear hb)
      | (go_at_call 24; refine (slotAt_any s t _ _ (by first | exact hT.box hB | (have hq := hT.box hB; exact hq))).mono ?_; (first | rw [B1.out] | rw [B3.out] | rw [B2.out]); rintro e w2 ⟨rfl, hb⟩; have hB : Below (boxOf W s t).heap.size (boxOf W s t) w2 := box_trans hB (by first | exact hb | exact Mem.below_of_drew hb); obtain ⟨c0, c1⟩ := box_cells hB; clear hb)
      | (go_at_call 26; refine (slabAt_any s t _ _ (by first | exact hT.box hB | (have hq := hT.box hB; exact hq))).mono ?_; (first | rw [C1.out] | rw [C2.out]); rintro e w2 ⟨rfl, hb⟩; have hB : Below (boxOf W s t).heap.size (boxOf W s t) w2 := box_trans hB (by first | exact hb | exact Mem.below_of_drew hb); obtain ⟨c0, c1⟩ := box_cells hB; clear hb))
  go_wp2_with (first
      | (go_at_call 22; refine (headAt_any s t _ _ (by first | exact hT.box hB | (have hq := hT.box hB; exact hq))).mono ?_; (first | rw [A1.out] | rw [A2.out]); rintro e w2 ⟨rfl, hb⟩; have hB : Below (boxOf W s t).heap.size (boxOf W s t) w2 := box_trans hB (by first | exact hb | exact Mem.below_of_drew hb); obtain ⟨c0, c1⟩ := box_cells hB; clear hb)
      | (go_at_call 24; refine (slotAt_any s t _ _ (by first | exact hT.box hB | (have hq := hT.box hB; exact hq))).mono ?_; (first | rw [B1.out] | rw [B3.out] | rw [B2.out]); rintro e w2 ⟨rfl, hb⟩; have hB : Below (boxOf W s t).heap.size (boxOf W s t) w2 := box_trans hB (by first | exact hb | exact Mem.below_of_drew hb); obtain ⟨c0, c1⟩ := box_cells hB; clear hb)
      | (go_at_call 26; refine (slabAt_any s t _ _ (by first | exact hT.box hB | (have hq := hT.box hB; exact hq))).mono ?_; (first | rw [C1.out] | rw [C2.out]); rintro e w2 ⟨rfl, hb⟩; have hB : Below (boxOf W s t).heap.size (boxOf W s t) w2 := box_trans hB (by first | exact hb | exact Mem.below_of_drew hb); obtain ⟨c0, c1⟩ := box_cells hB; clear hb)
      | (go_at_call 20; refine (slab_any s t _ _ (by first | exact hT.box hB | (have hq := hT.box hB; exact hq))).mono ?_; (first | rw [S1.out.1, S1.out.2] | rw [S2.out.1, S2.out.2] | rw [S3.out.1, S3.out.2]); rintro e w2 ⟨rfl, hb⟩; have hB : Below (boxOf W s t).heap.size (boxOf W s t) w2 := box_trans hB (by first | exact hb | exact Mem.below_of_drew hb); obtain ⟨c0, c1⟩ := box_cells hB; clear hb)
      | (go_at_call 12; refine (base_any s t _ (by first | exact hT.box hB | (have hq := hT.box hB; exact hq))).mono ?_; rw [BB.out]; rintro e w2 ⟨rfl, hb⟩; have hB : Below (boxOf W s t).heap.size (boxOf W s t) w2 := box_trans hB (by first | exact hb | exact Mem.below_of_drew hb); obtain ⟨c0, c1⟩ := box_cells hB; clear hb)
      | (go_at_call 10; refine (size_any s t _ (by first | exact hT.box hB | (have hq := hT.box hB; exact hq))).mono ?_; rw [DD.out]; rintro e w2 ⟨rfl, hb⟩; have hB : Below (boxOf W s t).heap.size (boxOf W s t) w2 := box_trans hB (by first | exact hb | exact Mem.below_of_drew hb); obtain ⟨c0, c1⟩ := box_cells hB; clear hb)
      | (go_at_call 19; refine (lies_true _ (by first | exact hT.box hB | (have hq := hT.box hB; exact hq))).mono ?_; rintro e w2 ⟨rfl, hb⟩; have hB : Below (boxOf W s t).heap.size (boxOf W s t) w2 := box_trans hB (by first | exact hb | exact Mem.below_of_drew hb); obtain ⟨c0, c1⟩ := box_cells hB; clear hb))
  go_ret
  exact ⟨rfl, box_below (by assumption)⟩
set_option maxRecDepth 100000 in
set_option maxHeartbeats 3200000 in
theorem apart_pz (s t i k : Int) (W : World) (hT : Tab W) (hr : rt s t = true) (i0 : 0 ≤ i) (i1 : i < s) (k0 : 0 ≤ k) (k1 : k < t) (hi : 0 < i) (hk : k = 0) : Calls Tryd.prog 7 #[.agg #[.int .i64 s, .int .i64 t], .int .i64 i, .int .i64 k] W fun e W' => e = .returned (.bool true) ∧ Below W.heap.size W W' := by
  have h1 := rt_yes hr
  have h2 := base_range s t hr
  have h3 := pad_facts s t hr
  have h4 : size s t = base s t + s * 1024 := if_pos hr
  have h5 : slotsA s = 128 + s * 16 := rfl
  have h6 : bAt s t = slotsA s + t * 4 := rfl
  obtain ⟨x, hx⟩ : ∃ x, x = 128 + i * 16 := ⟨_, rfl⟩
  obtain ⟨xp, hxp⟩ : ∃ xp, xp = x - 16 := ⟨_, rfl⟩
  obtain ⟨y, hy⟩ : ∃ y, y = slotsA s + k * 4 := ⟨_, rfl⟩
  obtain ⟨yp, hyp⟩ : ∃ yp, yp = y - 4 := ⟨_, rfl⟩
  obtain ⟨z, hz⟩ : ∃ z, z = base s t + i * 1024 := ⟨_, rfl⟩
  obtain ⟨zp, hzp⟩ : ∃ zp, zp = z - 1024 := ⟨_, rfl⟩
  obtain ⟨a, ha⟩ : ∃ a, a = slotsA s := ⟨_, rfl⟩
  obtain ⟨b, hb⟩ : ∃ b, b = base s t := ⟨_, rfl⟩
  obtain ⟨d, hd⟩ : ∃ d, d = size s t := ⟨_, rfl⟩
  have HR := Lib.hid hr
  have A1 := Lib.hid (show inn (rt s t) i s 128 16 = x by rw [inn_in hr i0 i1, hx])
  have B1 := Lib.hid (show inn (rt s t) k t (slotsA s) 4 = y by rw [inn_in hr k0 k1, hy])
  have C1 := Lib.hid (show inn (rt s t) i s (base s t) 1024 = z by rw [inn_in hr i0 i1, hz])
  have A2 := Lib.hid (show 0 < i → inn (rt s t) (i - 1) s 128 16 = xp from fun h => by rw [inn_in hr (by omega) (by omega)]; omega)
  have B2 := Lib.hid (show 0 < k → inn (rt s t) (k - 1) t (slotsA s) 4 = yp from fun h => by rw [inn_in hr (by omega) (by omega)]; omega)
  have C2 := Lib.hid (show 0 < i → inn (rt s t) (i - 1) s (base s t) 1024 = zp from fun h => by rw [inn_in hr (by omega) (by omega)]; omega)
  have B3 := Lib.hid (show inn (rt s t) 0 t (slotsA s) 4 = a by rw [inn_in hr (by omega) (by omega), ha]; omega)
  have BB := Lib.hid (show base s t = b from hb.symm)
  have DD := Lib.hid (show size s t = d from hd.symm)
  have S1 := Lib.hid (slab_at (a := z) hr i0 i1 (by omega) (by omega))
  have S2 := Lib.hid (slab_at (a := z + 1023) hr i0 i1 (by omega) (by omega))
  have S3 := Lib.hid (slab_off (s := s) (t := t) (a := y) (by omega))
  have f1 : ¬ (x < 128) := by omega
  have f2 : x.tmod 16 = 0 := by rw [Int.tmod_eq_emod_of_nonneg (by omega)]; omega
  have f3 : y.tmod 4 = 0 := by rw [Int.tmod_eq_emod_of_nonneg (by omega)]; omega
  have f4 : z.tmod 16 = 0 := by rw [Int.tmod_eq_emod_of_nonneg (by omega)]; omega
  have g1 : IntKind.i64.wrap (i - 1) = i - 1 := IntWalk.i64_in _ (by omega)
  have g2 : IntKind.i64.wrap (k - 1) = k - 1 := IntWalk.i64_in _ (by omega)
  have g3 : IntKind.i64.wrap (xp + 16) = x := by rw [IntWalk.i64_in _ (by omega)]; omega
  have g4 : IntKind.i64.wrap (yp + 4) = y := by rw [IntWalk.i64_in _ (by omega)]; omega
  have g5 : IntKind.i64.wrap (zp + 1024) = z := by rw [IntWalk.i64_in _ (by omega)]; omega
  have g6 : IntKind.i64.wrap (z + 1023) = z + 1023 := IntWalk.i64_in _ (by omega)
  have g7 : IntKind.i64.wrap (x + 16) = x + 16 := IntWalk.i64_in _ (by omega)
  have g8 : IntKind.i64.wrap (y + 4) = y + 4 := IntWalk.i64_in _ (by omega)
  have g9 : IntKind.i64.wrap (z + 1024) = z + 1024 := IntWalk.i64_in _ (by omega)
  have l1 : x + 16 ≤ a := by omega
  have l4 : x + 16 ≤ y := by omega
  have l2 : y + 4 ≤ b := by omega
  have l3 : z + 1024 ≤ d := by omega
  have A2 := Lib.hid (A2.out hi); have C2 := Lib.hid (C2.out hi)
  subst hk
  clear h1 h2 h3 h4 h5 h6 hxp hyp hzp hx hy hz ha hb hd hr
  go_enter Tryd.func7, Tryd.ntmps7
  go_wp2_with fail
  refine (right_any s t _ (hT.alloc _)).mono ?_
  rw [HR.out]
  rintro e w1 ⟨rfl, hB⟩
  obtain ⟨c0, c1⟩ := box_cells hB
  go_wp2_with fail
  go_region_held3 (fun w' => w'.cell? ⟨W.heap.size, 0, none⟩ = some (.int .i64 s) ∧ w'.cell? ⟨W.heap.size, 1, none⟩ = some (.int .i64 t)) (go_keep)
    (first
      | (go_at_call 22; refine (headAt_any s t _ _ (by first | exact hT.box hB | (have hq := hT.box hB; exact hq))).mono ?_; (first | rw [A1.out] | rw [A2.out]); rintro e w2 ⟨rfl, hb⟩; have hB : Below (boxOf W s t).heap.size (boxOf W s t) w2 := box_trans hB (by first | exact hb | exact Mem.below_of_drew hb); obtain ⟨c0, c1⟩ := box_cells hB; clear hb)
      | (go_at_call 24; refine (slotAt_any s t _ _ (by first | exact hT.box hB | (have hq := hT.box hB; exact hq))).mono ?_; (first | rw [B1.out] | rw [B3.out] | rw [B2.out]); rintro e w2 ⟨rfl, hb⟩; have hB : Below (boxOf W s t).heap.size (boxOf W s t) w2 := box_trans hB (by first | exact hb | exact Mem.below_of_drew hb); obtain ⟨c0, c1⟩ := box_cells hB; clear hb)
      | (go_at_call 26; refine (slabAt_any s t _ _ (by first | exact hT.box hB | (have hq := hT.box hB; exact hq))).mono ?_; (first | rw [C1.out] | rw [C2.out]); rintro e w2 ⟨rfl, hb⟩; have hB : Below (boxOf W s t).heap.size (boxOf W s t) w2 := box_trans hB (by first | exact hb | exact Mem.below_of_drew hb); obtain ⟨c0, c1⟩ := box_cells hB; clear hb))
  go_wp2_with (first
      | (go_at_call 22; refine (headAt_any s t _ _ (by first | exact hT.box hB | (have hq := hT.box hB; exact hq))).mono ?_; (first | rw [A1.out] | rw [A2.out]); rintro e w2 ⟨rfl, hb⟩; have hB : Below (boxOf W s t).heap.size (boxOf W s t) w2 := box_trans hB (by first | exact hb | exact Mem.below_of_drew hb); obtain ⟨c0, c1⟩ := box_cells hB; clear hb)
      | (go_at_call 24; refine (slotAt_any s t _ _ (by first | exact hT.box hB | (have hq := hT.box hB; exact hq))).mono ?_; (first | rw [B1.out] | rw [B3.out] | rw [B2.out]); rintro e w2 ⟨rfl, hb⟩; have hB : Below (boxOf W s t).heap.size (boxOf W s t) w2 := box_trans hB (by first | exact hb | exact Mem.below_of_drew hb); obtain ⟨c0, c1⟩ := box_cells hB; clear hb)
      | (go_at_call 26; refine (slabAt_any s t _ _ (by first | exact hT.box hB | (have hq := hT.box hB; exact hq))).mono ?_; (first | rw [C1.out] | rw [C2.out]); rintro e w2 ⟨rfl, hb⟩; have hB : Below (boxOf W s t).heap.size (boxOf W s t) w2 := box_trans hB (by first | exact hb | exact Mem.below_of_drew hb); obtain ⟨c0, c1⟩ := box_cells hB; clear hb)
      | (go_at_call 20; refine (slab_any s t _ _ (by first | exact hT.box hB | (have hq := hT.box hB; exact hq))).mono ?_; (first | rw [S1.out.1, S1.out.2] | rw [S2.out.1, S2.out.2] | rw [S3.out.1, S3.out.2]); rintro e w2 ⟨rfl, hb⟩; have hB : Below (boxOf W s t).heap.size (boxOf W s t) w2 := box_trans hB (by first | exact hb | exact Mem.below_of_drew hb); obtain ⟨c0, c1⟩ := box_cells hB; clear hb)
      | (go_at_call 12; refine (base_any s t _ (by first | exact hT.box hB | (have hq := hT.box hB; exact hq))).mono ?_; rw [BB.out]; rintro e w2 ⟨rfl, hb⟩; have hB : Below (boxOf W s t).heap.size (boxOf W s t) w2 := box_trans hB (by first | exact hb | exact Mem.below_of_drew hb); obtain ⟨c0, c1⟩ := box_cells hB; clear hb)
      | (go_at_call 10; refine (size_any s t _ (by first | exact hT.box hB | (have hq := hT.box hB; exact hq))).mono ?_; rw [DD.out]; rintro e w2 ⟨rfl, hb⟩; have hB : Below (boxOf W s t).heap.size (boxOf W s t) w2 := box_trans hB (by first | exact hb | exact Mem.below_of_drew hb); obtain ⟨c0, c1⟩ := box_cells hB; clear hb)
      | (go_at_call 19; refine (lies_true _ (by first | exact hT.box hB | (have hq := hT.box hB; exact hq))).mono ?_; rintro e w2 ⟨rfl, hb⟩; have hB : Below (boxOf W s t).heap.size (boxOf W s t) w2 := box_trans hB (by first | exact hb | exact Mem.below_of_drew hb); obtain ⟨c0, c1⟩ := box_cells hB; clear hb))
  go_ret
  exact ⟨rfl, box_below (by assumption)⟩
set_option maxRecDepth 100000 in
set_option maxHeartbeats 3200000 in
theorem apart_zz (s t i k : Int) (W : World) (hT : Tab W) (hr : rt s t = true) (i0 : 0 ≤ i) (i1 : i < s) (k0 : 0 ≤ k) (k1 : k < t) (hi : i = 0) (hk : k = 0) : Calls Tryd.prog 7 #[.agg #[.int .i64 s, .int .i64 t], .int .i64 i, .int .i64 k] W fun e W' => e = .returned (.bool true) ∧ Below W.heap.size W W' := by
  have h1 := rt_yes hr
  have h2 := base_range s t hr
  have h3 := pad_facts s t hr
  have h4 : size s t = base s t + s * 1024 := if_pos hr
  have h5 : slotsA s = 128 + s * 16 := rfl
  have h6 : bAt s t = slotsA s + t * 4 := rfl
  obtain ⟨x, hx⟩ : ∃ x, x = 128 + i * 16 := ⟨_, rfl⟩
  obtain ⟨xp, hxp⟩ : ∃ xp, xp = x - 16 := ⟨_, rfl⟩
  obtain ⟨y, hy⟩ : ∃ y, y = slotsA s + k * 4 := ⟨_, rfl⟩
  obtain ⟨yp, hyp⟩ : ∃ yp, yp = y - 4 := ⟨_, rfl⟩
  obtain ⟨z, hz⟩ : ∃ z, z = base s t + i * 1024 := ⟨_, rfl⟩
  obtain ⟨zp, hzp⟩ : ∃ zp, zp = z - 1024 := ⟨_, rfl⟩
  obtain ⟨a, ha⟩ : ∃ a, a = slotsA s := ⟨_, rfl⟩
  obtain ⟨b, hb⟩ : ∃ b, b = base s t := ⟨_, rfl⟩
  obtain ⟨d, hd⟩ : ∃ d, d = size s t := ⟨_, rfl⟩
  have HR := Lib.hid hr
  have A1 := Lib.hid (show inn (rt s t) i s 128 16 = x by rw [inn_in hr i0 i1, hx])
  have B1 := Lib.hid (show inn (rt s t) k t (slotsA s) 4 = y by rw [inn_in hr k0 k1, hy])
  have C1 := Lib.hid (show inn (rt s t) i s (base s t) 1024 = z by rw [inn_in hr i0 i1, hz])
  have A2 := Lib.hid (show 0 < i → inn (rt s t) (i - 1) s 128 16 = xp from fun h => by rw [inn_in hr (by omega) (by omega)]; omega)
  have B2 := Lib.hid (show 0 < k → inn (rt s t) (k - 1) t (slotsA s) 4 = yp from fun h => by rw [inn_in hr (by omega) (by omega)]; omega)
  have C2 := Lib.hid (show 0 < i → inn (rt s t) (i - 1) s (base s t) 1024 = zp from fun h => by rw [inn_in hr (by omega) (by omega)]; omega)
  have B3 := Lib.hid (show inn (rt s t) 0 t (slotsA s) 4 = a by rw [inn_in hr (by omega) (by omega), ha]; omega)
  have BB := Lib.hid (show base s t = b from hb.symm)
  have DD := Lib.hid (show size s t = d from hd.symm)
  have S1 := Lib.hid (slab_at (a := z) hr i0 i1 (by omega) (by omega))
  have S2 := Lib.hid (slab_at (a := z + 1023) hr i0 i1 (by omega) (by omega))
  have S3 := Lib.hid (slab_off (s := s) (t := t) (a := y) (by omega))
  have f1 : ¬ (x < 128) := by omega
  have f2 : x.tmod 16 = 0 := by rw [Int.tmod_eq_emod_of_nonneg (by omega)]; omega
  have f3 : y.tmod 4 = 0 := by rw [Int.tmod_eq_emod_of_nonneg (by omega)]; omega
  have f4 : z.tmod 16 = 0 := by rw [Int.tmod_eq_emod_of_nonneg (by omega)]; omega
  have g1 : IntKind.i64.wrap (i - 1) = i - 1 := IntWalk.i64_in _ (by omega)
  have g2 : IntKind.i64.wrap (k - 1) = k - 1 := IntWalk.i64_in _ (by omega)
  have g3 : IntKind.i64.wrap (xp + 16) = x := by rw [IntWalk.i64_in _ (by omega)]; omega
  have g4 : IntKind.i64.wrap (yp + 4) = y := by rw [IntWalk.i64_in _ (by omega)]; omega
  have g5 : IntKind.i64.wrap (zp + 1024) = z := by rw [IntWalk.i64_in _ (by omega)]; omega
  have g6 : IntKind.i64.wrap (z + 1023) = z + 1023 := IntWalk.i64_in _ (by omega)
  have g7 : IntKind.i64.wrap (x + 16) = x + 16 := IntWalk.i64_in _ (by omega)
  have g8 : IntKind.i64.wrap (y + 4) = y + 4 := IntWalk.i64_in _ (by omega)
  have g9 : IntKind.i64.wrap (z + 1024) = z + 1024 := IntWalk.i64_in _ (by omega)
  have l1 : x + 16 ≤ a := by omega
  have l4 : x + 16 ≤ y := by omega
  have l2 : y + 4 ≤ b := by omega
  have l3 : z + 1024 ≤ d := by omega
  subst hi
  subst hk
  clear h1 h2 h3 h4 h5 h6 hxp hyp hzp hx hy hz ha hb hd hr
  go_enter Tryd.func7, Tryd.ntmps7
  go_wp2_with fail
  refine (right_any s t _ (hT.alloc _)).mono ?_
  rw [HR.out]
  rintro e w1 ⟨rfl, hB⟩
  obtain ⟨c0, c1⟩ := box_cells hB
  go_wp2_with fail
  go_region_held3 (fun w' => w'.cell? ⟨W.heap.size, 0, none⟩ = some (.int .i64 s) ∧ w'.cell? ⟨W.heap.size, 1, none⟩ = some (.int .i64 t)) (go_keep)
    (first
      | (go_at_call 22; refine (headAt_any s t _ _ (by first | exact hT.box hB | (have hq := hT.box hB; exact hq))).mono ?_; (first | rw [A1.out] | rw [A2.out]); rintro e w2 ⟨rfl, hb⟩; have hB : Below (boxOf W s t).heap.size (boxOf W s t) w2 := box_trans hB (by first | exact hb | exact Mem.below_of_drew hb); obtain ⟨c0, c1⟩ := box_cells hB; clear hb)
      | (go_at_call 24; refine (slotAt_any s t _ _ (by first | exact hT.box hB | (have hq := hT.box hB; exact hq))).mono ?_; (first | rw [B1.out] | rw [B3.out] | rw [B2.out]); rintro e w2 ⟨rfl, hb⟩; have hB : Below (boxOf W s t).heap.size (boxOf W s t) w2 := box_trans hB (by first | exact hb | exact Mem.below_of_drew hb); obtain ⟨c0, c1⟩ := box_cells hB; clear hb)
      | (go_at_call 26; refine (slabAt_any s t _ _ (by first | exact hT.box hB | (have hq := hT.box hB; exact hq))).mono ?_; (first | rw [C1.out] | rw [C2.out]); rintro e w2 ⟨rfl, hb⟩; have hB : Below (boxOf W s t).heap.size (boxOf W s t) w2 := box_trans hB (by first | exact hb | exact Mem.below_of_drew hb); obtain ⟨c0, c1⟩ := box_cells hB; clear hb))
  go_wp2_with (first
      | (go_at_call 22; refine (headAt_any s t _ _ (by first | exact hT.box hB | (have hq := hT.box hB; exact hq))).mono ?_; (first | rw [A1.out] | rw [A2.out]); rintro e w2 ⟨rfl, hb⟩; have hB : Below (boxOf W s t).heap.size (boxOf W s t) w2 := box_trans hB (by first | exact hb | exact Mem.below_of_drew hb); obtain ⟨c0, c1⟩ := box_cells hB; clear hb)
      | (go_at_call 24; refine (slotAt_any s t _ _ (by first | exact hT.box hB | (have hq := hT.box hB; exact hq))).mono ?_; (first | rw [B1.out] | rw [B3.out] | rw [B2.out]); rintro e w2 ⟨rfl, hb⟩; have hB : Below (boxOf W s t).heap.size (boxOf W s t) w2 := box_trans hB (by first | exact hb | exact Mem.below_of_drew hb); obtain ⟨c0, c1⟩ := box_cells hB; clear hb)
      | (go_at_call 26; refine (slabAt_any s t _ _ (by first | exact hT.box hB | (have hq := hT.box hB; exact hq))).mono ?_; (first | rw [C1.out] | rw [C2.out]); rintro e w2 ⟨rfl, hb⟩; have hB : Below (boxOf W s t).heap.size (boxOf W s t) w2 := box_trans hB (by first | exact hb | exact Mem.below_of_drew hb); obtain ⟨c0, c1⟩ := box_cells hB; clear hb)
      | (go_at_call 20; refine (slab_any s t _ _ (by first | exact hT.box hB | (have hq := hT.box hB; exact hq))).mono ?_; (first | rw [S1.out.1, S1.out.2] | rw [S2.out.1, S2.out.2] | rw [S3.out.1, S3.out.2]); rintro e w2 ⟨rfl, hb⟩; have hB : Below (boxOf W s t).heap.size (boxOf W s t) w2 := box_trans hB (by first | exact hb | exact Mem.below_of_drew hb); obtain ⟨c0, c1⟩ := box_cells hB; clear hb)
      | (go_at_call 12; refine (base_any s t _ (by first | exact hT.box hB | (have hq := hT.box hB; exact hq))).mono ?_; rw [BB.out]; rintro e w2 ⟨rfl, hb⟩; have hB : Below (boxOf W s t).heap.size (boxOf W s t) w2 := box_trans hB (by first | exact hb | exact Mem.below_of_drew hb); obtain ⟨c0, c1⟩ := box_cells hB; clear hb)
      | (go_at_call 10; refine (size_any s t _ (by first | exact hT.box hB | (have hq := hT.box hB; exact hq))).mono ?_; rw [DD.out]; rintro e w2 ⟨rfl, hb⟩; have hB : Below (boxOf W s t).heap.size (boxOf W s t) w2 := box_trans hB (by first | exact hb | exact Mem.below_of_drew hb); obtain ⟨c0, c1⟩ := box_cells hB; clear hb)
      | (go_at_call 19; refine (lies_true _ (by first | exact hT.box hB | (have hq := hT.box hB; exact hq))).mono ?_; rintro e w2 ⟨rfl, hb⟩; have hB : Below (boxOf W s t).heap.size (boxOf W s t) w2 := box_trans hB (by first | exact hb | exact Mem.below_of_drew hb); obtain ⟨c0, c1⟩ := box_cells hB; clear hb))
  go_ret
  exact ⟨rfl, box_below (by assumption)⟩
theorem layoutApart_walk (s t i k : Int) (W : World) (hT : Tab W) : Calls Tryd.prog 7 #[.agg #[.int .i64 s, .int .i64 t], .int .i64 i, .int .i64 k] W fun e W' => e = .returned (.bool true) ∧ Below W.heap.size W W' := by
  by_cases h : rt s t = true ∧ 0 ≤ i ∧ i < s ∧ 0 ≤ k ∧ k < t
  · obtain ⟨hr, i0, i1, k0, k1⟩ := h
    by_cases hi : i = 0
    · by_cases hk : k = 0
      · exact apart_zz s t i k W hT hr i0 i1 k0 k1 hi hk
      · exact apart_zp s t i k W hT hr i0 i1 k0 k1 hi (by omega)
    · by_cases hk : k = 0
      · exact apart_pz s t i k W hT hr i0 i1 k0 k1 (by omega) hk
      · exact apart_pp s t i k W hT hr i0 i1 k0 k1 (by omega) (by omega)
  · exact apart_out s t i k W hT h
end Lay
end Go.Proofs.YtefjkigifngomaaDoor
