/- Layer 9 (layout): the contracts of Size, in, HeadAt, SlotAt, SlabAt, Slab of the package. Condition: the table class.sizes holds its ten numbers. -/
import Derived.Test.YtefjkigifngomaaDoorLayC
namespace Go.Proofs.YtefjkigifngomaaDoor
open Go.RowKit
namespace Lay

theorem base_bd (s t : Int) (hr : rt s t = true) : base s t = (slotsA s + t * 4 + 15) / 16 * 16 ∧ 0 ≤ base s t ∧ base s t ≤ 60000 := by
  have h := rt_yes hr
  have e : base s t = (slotsA s + t * 4 + 15) / 16 * 16 := if_pos hr
  unfold slotsA at e ⊢
  refine ⟨e, ?_, ?_⟩ <;> omega
theorem box_trans {W w1 w2 : World} {s t : Int} (hb1 : Below (boxOf W s t).heap.size (boxOf W s t) w1) (hb2 : Below w1.heap.size w1 w2) : Below (boxOf W s t).heap.size (boxOf W s t) w2 :=
  hb1.trans (hb2.mono hb1.size)
theorem base_range (s t : Int) (hr : rt s t = true) : 0 ≤ base s t ∧ base s t ≤ 60000 := (base_bd s t hr).2
set_option maxHeartbeats 800000 in
theorem size_any (s t : Int) (W : World) (hT : Tab W) : Calls Tryd.prog 10 #[.agg #[.int .i64 s, .int .i64 t]] W fun e W' => e = .returned (.int .i64 (size s t)) ∧ Below W.heap.size W W' := by
  cases hr : rt s t with
  | false =>
    have HR := Lib.hid hr
    have K := Lib.hid (show size s t = 0 by unfold size; rw [hr]; rfl)
    clear hr
    go_enter Tryd.func10, Tryd.ntmps10
    go_wp2_with fail
    refine (right_any s t _ (hT.alloc _)).mono ?_
    rw [HR.out]
    rintro e w1 ⟨rfl, hb1⟩
    go_wp2
    go_ret
    exact ⟨ret_int K.out, box_below hb1⟩
  | true =>
    have HR := Lib.hid hr
    have K := Lib.hid (show size s t = base s t + s * 1024 by unfold size; rw [hr]; rfl)
    obtain ⟨h1, h2, h3, h4, h5⟩ := rt_yes hr
    obtain ⟨b0, b1⟩ := base_range s t hr
    have hw1 : IntKind.i64.wrap (s * 1024) = s * 1024 := IntWalk.i64_in _ (by omega)
    have hw2 : IntKind.i64.wrap (base s t + s * 1024) = base s t + s * 1024 := IntWalk.i64_in _ (by omega)
    clear hr h3
    go_enter Tryd.func10, Tryd.ntmps10
    go_wp2_with fail
    refine (right_any s t _ (hT.alloc _)).mono ?_
    rw [HR.out]
    rintro e w1 ⟨rfl, hb1⟩
    obtain ⟨c0, c1⟩ := box_cells hb1
    have hT1 : Tab w1 := (hT.alloc _).below hb1
    go_wp2_with fail
    go_region_held3 (fun w' => w'.cell? ⟨W.heap.size, 0, none⟩ = some (.int .i64 s) ∧ w'.cell? ⟨W.heap.size, 1, none⟩ = some (.int .i64 t)) (go_keep)
      (first
        | (go_at_call 12; refine (base_any s t _ (by exact hT1)).mono ?_; rintro e w2 ⟨rfl, hb2⟩; have q0 := cell_later hb2 c0; have q1 := cell_later hb2 c1))
    go_wp2
    go_ret
    exact ⟨ret_int K.out, (box_below hb1).trans ((Mem.below_of_drew hb2).mono (box_below hb1).size)⟩

def inn (r : Bool) (i many a z : Int) : Int := if r = true ∧ 0 ≤ i ∧ i < many then a + i * z else 0
set_option maxHeartbeats 800000 in
theorem in_any (s t i many a z : Int) (W : World) (hT : Tab W) (ha0 : 0 ≤ a) (ha1 : a ≤ 100000) (hz0 : 0 ≤ z) (hz1 : z ≤ 1024) (hm : many ≤ 8192 ∨ rt s t = false) : Calls Tryd.prog 32 #[.agg #[.int .i64 s, .int .i64 t], .int .i64 i, .int .i64 many, .int .i64 a, .int .i64 z] W fun e W' => e = .returned (.int .i64 (inn (rt s t) i many a z)) ∧ Below W.heap.size W W' := by
  cases hr : rt s t with
  | false =>
    have HR := Lib.hid hr
    have K := Lib.hid (show inn false i many a z = 0 by unfold inn; rw [if_neg (by simp)])
    clear hr hm
    go_enter Tryd.func32, Tryd.ntmps32
    go_wp2_with fail
    refine (right_any s t _ (hT.alloc _)).mono ?_
    rw [HR.out]
    rintro e w1 ⟨rfl, hb1⟩
    go_wp2
    go_ret
    exact ⟨ret_int K.out, box_below hb1⟩
  | true =>
    have HR := Lib.hid hr
    have hm2 : many ≤ 8192 := by rcases hm with h | h; exact h; rw [hr] at h; cases h
    clear hr hm
    by_cases h0 : i < 0
    · have K := Lib.hid (show inn true i many a z = 0 by unfold inn; rw [if_neg (by omega)])
      go_enter Tryd.func32, Tryd.ntmps32
      go_wp2_with fail
      refine (right_any s t _ (hT.alloc _)).mono ?_
      rw [HR.out]
      rintro e w1 ⟨rfl, hb1⟩
      go_wp2
      go_ret
      exact ⟨ret_int K.out, box_below hb1⟩
    by_cases h1 : many ≤ i
    · have K := Lib.hid (show inn true i many a z = 0 by unfold inn; rw [if_neg (by omega)])
      have hd : decide (i < 0) = false := by simp; omega
      go_enter Tryd.func32, Tryd.ntmps32
      go_wp2_with fail
      refine (right_any s t _ (hT.alloc _)).mono ?_
      rw [HR.out]
      rintro e w1 ⟨rfl, hb1⟩
      go_wp2
      go_ret
      exact ⟨ret_int K.out, box_below hb1⟩
    have K := Lib.hid (show inn true i many a z = a + i * z by unfold inn; rw [if_pos ⟨rfl, by omega, by omega⟩])
    have hd : decide (i < 0) = false := by simp; omega
    have hd2 : decide (many ≤ i) = false := by simp; omega
    have hp0 : 0 ≤ i * z := Int.mul_nonneg (by omega) hz0
    have hp1 : i * z ≤ 8192 * 1024 := Int.mul_le_mul (by omega) hz1 hz0 (by decide)
    have hi : 0 ≤ i := by omega
    clear h0 h1
    go_enter Tryd.func32, Tryd.ntmps32
    go_wp2_with fail
    refine (right_any s t _ (hT.alloc _)).mono ?_
    rw [HR.out]
    rintro e w1 ⟨rfl, hb1⟩
    go_wp2
    go_ret
    exact ⟨ret_int K.out, box_below hb1⟩
theorem inn_bound (s t : Int) : s ≤ 8192 ∨ rt s t = false := by
  cases hr : rt s t with
  | false => exact .inr rfl
  | true => exact .inl (by have := rt_yes hr; omega)
theorem inn_bound2 (s t : Int) : t ≤ 8192 ∨ rt s t = false := by
  cases hr : rt s t with
  | false => exact .inr rfl
  | true => exact .inl (by have := rt_yes hr; omega)
set_option maxHeartbeats 800000 in
theorem headAt_any (s t i : Int) (W : World) (hT : Tab W) : Calls Tryd.prog 22 #[.agg #[.int .i64 s, .int .i64 t], .int .i64 i] W fun e W' => e = .returned (.int .i64 (inn (rt s t) i s 128 16)) ∧ Below W.heap.size W W' := by
  go_enter Tryd.func22, Tryd.ntmps22
  go_wp2_with fail
  refine (in_any s t i s 128 16 _ (hT.alloc _) (by decide) (by decide) (by decide) (by decide) (inn_bound s t)).mono ?_
  rintro e w1 ⟨rfl, hb1⟩
  go_wp2
  go_ret
  exact ⟨rfl, box_below hb1⟩
set_option maxHeartbeats 800000 in
theorem slotAt_any (s t i : Int) (W : World) (hT : Tab W) : Calls Tryd.prog 24 #[.agg #[.int .i64 s, .int .i64 t], .int .i64 i] W fun e W' => e = .returned (.int .i64 (inn (rt s t) i t (slotsA s) 4)) ∧ Below W.heap.size W W' := by
  cases hr : rt s t with
  | false =>
    have HR := Lib.hid hr
    have K := Lib.hid (show inn false i t (slotsA s) 4 = 0 by unfold inn; rw [if_neg (by simp)])
    clear hr
    go_enter Tryd.func24, Tryd.ntmps24
    go_wp2_with fail
    refine (right_any s t _ (hT.alloc _)).mono ?_
    rw [HR.out]
    rintro e w1 ⟨rfl, hb1⟩
    go_wp2
    go_ret
    exact ⟨ret_int K.out, box_below hb1⟩
  | true =>
    have HR := Lib.hid hr
    obtain ⟨h1, h2, h3, h4, h5⟩ := rt_yes hr
    have hs1 : 0 ≤ slotsA s := by unfold slotsA; omega
    have hs2 : slotsA s ≤ 2000 := by unfold slotsA; omega
    have HM := Lib.hid (inn_bound2 s t)
    clear hr h3
    go_enter Tryd.func24, Tryd.ntmps24
    go_wp2_with fail
    refine (right_any s t _ (hT.alloc _)).mono ?_
    rw [HR.out]
    rintro e w1 ⟨rfl, hb1⟩
    obtain ⟨c0, c1⟩ := box_cells hb1
    have hT1 : Tab w1 := (hT.alloc _).below hb1
    go_wp2_with fail
    go_region_held3 (fun w' => w'.cell? ⟨W.heap.size, 0, none⟩ = some (.int .i64 s) ∧ w'.cell? ⟨W.heap.size, 1, none⟩ = some (.int .i64 t)) (go_keep)
      (first
        | (go_at_call 30; refine (slots_any s t _ (by omega) (by omega)).mono ?_; rintro e w2 ⟨rfl, hb2⟩; have q0 := cell_later hb2 c0; have q1 := cell_later hb2 c1)
        | (go_at_call 32; refine (in_any s t i t (slotsA s) 4 _ (hT1.below (Mem.below_of_drew hb2)) hs1 (by omega) (by decide) (by decide) HM.out).mono ?_; rw [HR.out]; rintro e w3 ⟨rfl, hb3⟩; have q2 := cell_later hb3 q0; have q3 := cell_later hb3 q1))
    go_wp2
    go_ret
    exact ⟨rfl, (box_below hb1).trans (((Mem.below_of_drew hb2).trans (hb3.mono hb2.size)).mono (box_below hb1).size)⟩
set_option maxHeartbeats 800000 in
theorem slabAt_any (s t i : Int) (W : World) (hT : Tab W) : Calls Tryd.prog 26 #[.agg #[.int .i64 s, .int .i64 t], .int .i64 i] W fun e W' => e = .returned (.int .i64 (inn (rt s t) i s (base s t) 1024)) ∧ Below W.heap.size W W' := by
  have HM := Lib.hid (inn_bound s t)
  have hb : 0 ≤ base s t ∧ base s t ≤ 60000 := by
    cases hr : rt s t with
    | false =>
      have e : base s t = 0 := by unfold base; rw [hr]; rfl
      rw [e]
      decide
    | true => exact base_range s t hr
  obtain ⟨b0, b1⟩ := hb
  have hT1 := hT.alloc (.cells #[.int .i64 s, .int .i64 t] 23)
  go_enter Tryd.func26, Tryd.ntmps26
  go_wp2_with fail
  go_region_held3 (fun w' => w'.cell? ⟨W.heap.size, 0, none⟩ = some (.int .i64 s) ∧ w'.cell? ⟨W.heap.size, 1, none⟩ = some (.int .i64 t)) (go_keep)
    (first
      | (go_at_call 12; refine (base_any s t _ (by exact hT1)).mono ?_; rintro e w2 ⟨rfl, hb2⟩; obtain ⟨q0, q1⟩ := box_cells (Mem.below_of_drew hb2))
      | (go_at_call 32; refine (in_any s t i s (base s t) 1024 _ (hT1.below (Mem.below_of_drew hb2)) b0 (by omega) (by decide) (by decide) HM.out).mono ?_; rintro e w3 ⟨rfl, hb3⟩; have q2 := cell_later hb3 q0; have q3 := cell_later hb3 q1))
  go_wp2
  go_ret
  exact ⟨rfl, box_below (box_trans (Mem.below_of_drew hb2) hb3)⟩
def slB (s t a : Int) : Bool := rt s t && decide (base s t ≤ a ∧ a < size s t)
def slI (s t a : Int) : Int := if slB s t a = true then (a - base s t) / 1024 else 0
theorem sl_no {s t a : Int} (h : slB s t a = false) : slI s t a = 0 ∧ slB s t a = false := ⟨by unfold slI; rw [h]; rfl, h⟩
theorem sl_yes {s t a : Int} (h : slB s t a = true) : slI s t a = (a - base s t) / 1024 ∧ slB s t a = true := ⟨by unfold slI; rw [h]; rfl, h⟩
set_option maxHeartbeats 1600000 in
theorem slab_any (s t a : Int) (W : World) (hT : Tab W) : Calls Tryd.prog 20 #[.agg #[.int .i64 s, .int .i64 t], .int .i64 a] W fun e W' => e = .returned (.tuple #[.int .i64 (slI s t a), .bool (slB s t a)]) ∧ Below W.heap.size W W' := by
  cases hr : rt s t with
  | false =>
    have HR := Lib.hid hr
    have K := Lib.hid (sl_no (s := s) (t := t) (a := a) (by unfold slB; rw [hr]; rfl))
    clear hr
    go_enter Tryd.func20, Tryd.ntmps20
    go_wp2_with fail
    refine (right_any s t _ (hT.alloc _)).mono ?_
    rw [HR.out]
    rintro e w1 ⟨rfl, hb1⟩
    go_wp2
    go_ret2
    exact ⟨ret_ib K.out, box_below hb1⟩
  | true =>
    have HR := Lib.hid hr
    obtain ⟨b0, b1⟩ := base_range s t hr
    obtain ⟨h1, h2, h3, h4, h5⟩ := rt_yes hr
    have hsz : size s t = base s t + s * 1024 := if_pos hr
    have z0 : 0 ≤ size s t := by omega
    have z1 : size s t ≤ 200000 := by omega
    by_cases g1 : a < base s t
    · have K := Lib.hid (sl_no (s := s) (t := t) (a := a) (by unfold slB; rw [hr]; simp; omega))
      clear hr hsz h3
      go_enter Tryd.func20, Tryd.ntmps20
      go_wp2_with fail
      refine (right_any s t _ (hT.alloc _)).mono ?_
      rw [HR.out]
      rintro e w1 ⟨rfl, hb1⟩
      obtain ⟨c0, c1⟩ := box_cells hb1
      go_wp2_with fail
      refine (base_any s t _ ((hT.alloc _).below hb1)).mono ?_
      rintro e w2 ⟨rfl, hb2⟩
      go_wp2
      go_ret2
      exact ⟨ret_ib K.out, box_below (box_trans hb1 hb2)⟩
    by_cases g2 : size s t ≤ a
    · have K := Lib.hid (sl_no (s := s) (t := t) (a := a) (by unfold slB; rw [hr]; simp; omega))
      have hd : decide (a < base s t) = false := by simp; omega
      clear hr hsz h3 g1
      go_enter Tryd.func20, Tryd.ntmps20
      go_wp2_with fail
      refine (right_any s t _ (hT.alloc _)).mono ?_
      rw [HR.out]
      rintro e w1 ⟨rfl, hb1⟩
      obtain ⟨c0, c1⟩ := box_cells hb1
      go_wp2_with fail
      refine (base_any s t _ ((hT.alloc _).below hb1)).mono ?_
      rintro e w2 ⟨rfl, hb2⟩
      have d0 := cell_later hb2 c0
      have d1 := cell_later hb2 c1
      go_wp2_with fail
      refine (size_any s t _ (((hT.alloc _).below hb1).below hb2)).mono ?_
      rintro e w3 ⟨rfl, hb3⟩
      go_wp2
      go_ret2
      exact ⟨ret_ib K.out, box_below (box_trans hb1 (hb2.trans (hb3.mono hb2.size)))⟩
    have K := Lib.hid (sl_yes (s := s) (t := t) (a := a) (by unfold slB; rw [hr]; simp; omega))
    have hd : decide (a < base s t) = false := by simp; omega
    have hd2 : decide (size s t ≤ a) = false := by simp; omega
    have g3 : base s t ≤ a := by omega
    have g4 : a < size s t := by omega
    clear hr hsz h3 g1 g2
    go_enter Tryd.func20, Tryd.ntmps20
    go_wp2_with fail
    refine (right_any s t _ (hT.alloc _)).mono ?_
    rw [HR.out]
    rintro e w1 ⟨rfl, hb1⟩
    obtain ⟨c0, c1⟩ := box_cells hb1
    go_wp2_with fail
    refine (base_any s t _ ((hT.alloc _).below hb1)).mono ?_
    rintro e w2 ⟨rfl, hb2⟩
    have d0 := cell_later hb2 c0
    have d1 := cell_later hb2 c1
    go_wp2_with fail
    refine (size_any s t _ (((hT.alloc _).below hb1).below hb2)).mono ?_
    rintro e w3 ⟨rfl, hb3⟩
    have f0 := cell_later hb3 d0
    have f1 := cell_later hb3 d1
    go_wp2_with fail
    refine (base_any s t _ ((((hT.alloc _).below hb1).below hb2).below hb3)).mono ?_
    rintro e w4 ⟨rfl, hb4⟩
    go_wp2
    go_ret2
    exact ⟨ret_ib K.out, box_below (box_trans hb1 (hb2.trans ((hb3.trans (hb4.mono hb3.size)).mono hb2.size)))⟩
end Lay
end Go.Proofs.YtefjkigifngomaaDoor
