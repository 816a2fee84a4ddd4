/- Layer 9 (layout): the contract of the package's Runs. Condition: the table class.sizes holds its ten numbers. -/
import Derived.Test.YtefjkigifngomaaDoorLayF
namespace Go.Proofs.YtefjkigifngomaaDoor
open Go.RowKit
namespace Lay

theorem LayInv.lt {B : Nat} {rs : List (Int × Int × Int)} {w : World} (h : LayInv B rs w) : B < w.heap.size := by
  obtain ⟨v, hB, _⟩ := h
  exact lt_of_block hB
theorem LayInv.below {B : Nat} {rs : List (Int × Int × Int)} {w w' : World} (h : LayInv B rs w) (hb : Below w.heap.size w w') : LayInv B rs w' := by
  have hl := h.lt
  obtain ⟨v, hB, hown⟩ := h
  exact ⟨v, (hb.block B hl).trans hB, Mem.own_below hown hb⟩
abbrev l4 (s t : Int) : List (Int × Int × Int) := [] ++ [((0 : Int), (8 : Int), (1 : Int))] ++ [(8, 128 - 8, 2)] ++ [(128, slotsA s - 128, 3)] ++ [(slotsA s, slotsA s + t * 4 - slotsA s, 4)]
theorem l4_last (s t : Int) : lastEnd (l4 s t) = bAt s t := by
  show slotsA s + (slotsA s + t * 4 - slotsA s) = bAt s t
  unfold bAt
  omega
theorem l4_bd {s t : Int} (hr : rt s t = true) : ∀ r ∈ l4 s t, 0 ≤ r.1 ∧ r.1 ≤ 1000000 ∧ 0 ≤ r.2.1 ∧ r.2.1 ≤ 1000000 := by
  have h := rt_yes hr
  have hs : slotsA s = 128 + s * 16 := rfl
  intro r hr
  simp only [l4, List.nil_append, List.cons_append, List.mem_cons, List.not_mem_nil, or_false] at hr
  rcases hr with rfl | rfl | rfl | rfl
  · decide
  · decide
  · refine ⟨?_, ?_, ?_, ?_⟩ <;> simp only <;> omega
  · refine ⟨?_, ?_, ?_, ?_⟩ <;> simp only <;> omega
theorem l5_pad {s t : Int} (hr : rt s t = true) (hp : bAt s t < base s t) : lastEnd (l4 s t ++ [(bAt s t, base s t - bAt s t, 8)]) = base s t ∧ (∀ r ∈ l4 s t ++ [(bAt s t, base s t - bAt s t, 8)], 0 ≤ r.1 ∧ r.1 ≤ 1000000 ∧ 0 ≤ r.2.1 ∧ r.2.1 ≤ 1000000) ∧
    (base s t < size s t ∧ size s t ≤ 1000000) ∧ runs s t = l4 s t ++ [(bAt s t, base s t - bAt s t, 8)] ++ [(base s t, size s t - base s t, 7)] := by
  have h := rt_yes hr
  have hb := bAt_bd s t hr
  have hq := base_range s t hr
  have hz : size s t = base s t + s * 1024 := if_pos hr
  have hs : slotsA s = 128 + s * 16 := rfl
  have hA : bAt s t = slotsA s + t * 4 := rfl
  refine ⟨?_, ?_, ⟨by omega, by omega⟩, ?_⟩
  · show bAt s t + (base s t - bAt s t) = base s t
    omega
  · intro r hr2
    rcases List.mem_append.1 hr2 with h2 | h2
    · exact l4_bd hr r h2
    · simp only [List.mem_cons, List.not_mem_nil, or_false] at h2
      subst h2
      refine ⟨?_, ?_, ?_, ?_⟩ <;> simp only <;> omega
  · unfold runs
    rw [if_pos hr, if_pos hp, show s * 16 = slotsA s - 128 by omega, show t * 4 = slotsA s + t * 4 - slotsA s by omega, show s * 1024 = size s t - base s t by omega]
    rfl
theorem l5_flat {s t : Int} (hr : rt s t = true) (hp : ¬ bAt s t < base s t) : True ∧ True ∧ (bAt s t < size s t ∧ size s t ≤ 1000000) ∧ runs s t = l4 s t ++ [(bAt s t, size s t - bAt s t, 7)] := by
  have h := rt_yes hr
  have hb := bAt_bd s t hr
  have hq := base_range s t hr
  have hz : size s t = base s t + s * 1024 := if_pos hr
  have hs : slotsA s = 128 + s * 16 := rfl
  have hA : bAt s t = slotsA s + t * 4 := rfl
  have he : base s t = bAt s t := by have := (pad_facts s t hr).1; omega
  refine ⟨trivial, trivial, ⟨by omega, by omega⟩, ?_⟩
  unfold runs
  rw [if_pos hr, if_neg hp, he, show s * 16 = slotsA s - 128 by omega, show t * 4 = slotsA s + t * 4 - slotsA s by omega, show s * 1024 = size s t - bAt s t by omega]
  rfl
theorem lay_zero (w : World) : LayInv w.heap.size [] (w.alloc (.cells #[.slice none 0 0] 27)) := ⟨_, heap_alloc_new w _, World.ownsRow_nil _ _ _ _⟩
set_option maxHeartbeats 1600000 in
theorem runs_any (s t : Int) (W : World) (hT : Tab W) : Calls Tryd.prog 17 #[.agg #[.int .i64 s, .int .i64 t]] W (RRes s t W) := by
  cases hr : rt s t with
  | false =>
    have HR := Lib.hid hr
    have K := Lib.hid (show runs s t = [] by unfold runs; rw [hr]; rfl)
    clear hr
    go_enter Tryd.func17, Tryd.ntmps17
    go_wp2_with fail
    refine (right_any s t _ (hT.alloc _)).mono ?_
    rw [HR.out]
    rintro e w1 ⟨rfl, hb1⟩
    go_wp2
    go_ret
    exact ⟨_, rfl, by rw [K.out]; exact World.ownsRow_nil _ _ _ _, box_below hb1⟩
  | true =>
    have HR := Lib.hid hr
    obtain ⟨h1, h2, h3, h4, h5⟩ := rt_yes hr
    obtain ⟨b0, b1, b2⟩ := bAt_bd s t hr
    obtain ⟨p0, p1, p2, p3⟩ := pad_facts s t hr
    have hs1 : 0 ≤ slotsA s := by unfold slotsA; omega
    have hs2 : slotsA s ≤ 2000 := by unfold slotsA; omega
    have hs3 : 128 < slotsA s := by unfold slotsA; omega
    have HB := Lib.hid b2
    clear hr h3 b2 p2 p3
    go_enter Tryd.func17, Tryd.ntmps17
    go_wp2_with fail
    refine (right_any s t _ (hT.alloc _)).mono ?_
    rw [HR.out]
    rintro e w1 ⟨rfl, hb1⟩
    obtain ⟨c0, c1⟩ := box_cells hb1
    have hT1 : Tab w1 := (hT.alloc _).below hb1
    have hlt : W.heap.size < w1.heap.size := World.block_lt_of_cell? w1 ⟨W.heap.size, 0, none⟩ c0
    have hbw := box_below hb1
    go_wp2_with fail
    refine (lay_first 8 1 w1.heap.size _ (lay_zero w1) (by decide) (by decide)).mono ?_
    rintro e w2 ⟨rfl, hi2, hb2⟩
    have hB2 : Below w1.heap.size w1 w2 := ((Below.refl _ _).alloc (Nat.le_refl _) _).trans hb2
    go_wp2_with fail
    refine (lay_next 128 2 8 w1.heap.size _ w2 hi2 (by simp) (by decide) rfl (by decide) (by decide) (by decide)).mono ?_
    rintro e w3 ⟨rfl, hi3, hb3⟩
    have hB3 := hB2.trans hb3
    have d0 := cell_later hB3 c0
    have d1 := cell_later hB3 c1
    go_wp2_with fail
    refine (slots_any s t w3 (by omega) (by omega)).mono ?_
    rintro e w4 ⟨rfl, hb4⟩
    have hi4 := hi3.below hb4
    have hB4 : Below w1.heap.size w1 w4 := hB3.trans (hb4.mono hB3.size)
    go_wp2_with fail
    refine (lay_next (slotsA s) 3 128 w1.heap.size _ w4 hi4 (by simp) (by decide) rfl (by decide) hs3 (by omega)).mono ?_
    rintro e w5 ⟨rfl, hi5, hb5⟩
    have hB5 := hB4.trans hb5
    have f0 := cell_later hB5 c0
    have f1 := cell_later hB5 c1
    have hbA : bAt s t = slotsA s + t * 4 := rfl
    have hgt : slotsA s < slotsA s + t * 4 := by omega
    have hle : slotsA s + t * 4 ≤ 1000000 := by omega
    have hw1 : IntKind.i64.wrap (t * 4) = t * 4 := IntWalk.i64_in _ (by omega)
    have hw2 : IntKind.i64.wrap (slotsA s + t * 4) = slotsA s + t * 4 := IntWalk.i64_in _ (by omega)
    have hbd4 : ∀ r ∈ ([] ++ [((0 : Int), (8 : Int), (1 : Int))] ++ [(8, 128 - 8, 2)] ++ [(128, slotsA s - 128, 3)]), 0 ≤ r.1 ∧ r.1 ≤ 1000000 ∧ 0 ≤ r.2.1 ∧ r.2.1 ≤ 1000000 := by
      intro r hr
      simp only [List.nil_append, List.cons_append, List.mem_cons, List.not_mem_nil, or_false] at hr
      rcases hr with rfl | rfl | rfl
      · decide
      · decide
      · exact ⟨by show (0 : Int) ≤ 128; decide, by show (128 : Int) ≤ 1000000; decide, by show 0 ≤ slotsA s - 128; omega, by show slotsA s - 128 ≤ 1000000; omega⟩
    have hl4 : lastEnd ([] ++ [((0 : Int), (8 : Int), (1 : Int))] ++ [(8, 128 - 8, 2)] ++ [(128, slotsA s - 128, 3)]) = slotsA s := by
      show (128 : Int) + (slotsA s - 128) = slotsA s
      omega
    have HBD4 := Lib.hid hbd4
    have HL4 := Lib.hid hl4
    clear hbA hbd4 hl4
    go_wp2_with fail
    go_region_held3 (fun w' => w'.cell? ⟨W.heap.size, 0, none⟩ = some (.int .i64 s) ∧ w'.cell? ⟨W.heap.size, 1, none⟩ = some (.int .i64 t)) (go_keep)
      (first
        | (go_at_call 30; refine (slots_any s t _ (by omega) (by omega)).mono ?_; rintro e w6 ⟨rfl, hb6⟩; have g0 := cell_later (Mem.below_of_drew hb6) f0; have g1 := cell_later (Mem.below_of_drew hb6) f1)
        | (go_at_call 31; refine (lay_next (slotsA s + t * 4) 4 (slotsA s) w1.heap.size _ w6 (hi5.below (Mem.below_of_drew hb6)) (by simp) (by simp) HL4.out HBD4.out hgt hle).mono ?_; rintro e w7 ⟨rfl, hi7, hb7⟩; have hB7 : Below w1.heap.size w1 w7 := (hB5.trans ((Mem.below_of_drew hb6).mono hB5.size)).trans hb7; have k0 := cell_later hB7 c0; have k1 := cell_later hB7 c1))
    go_wp2_with fail
    refine (base_any s t w7 (hT1.below hB7)).mono ?_
    rintro e w8 ⟨rfl, hb8⟩
    have hi8 := hi7.below hb8
    have hB8 : Below w1.heap.size w1 w8 := hB7.trans (hb8.mono hB7.size)
    by_cases hpad : bAt s t < base s t
    · obtain ⟨q1, q2, q3, q4⟩ := l5_pad HR.out hpad
      have Q1 := Lib.hid q1
      have Q2 := Lib.hid q2
      have Q3 := Lib.hid q3
      have Q4 := Lib.hid q4
      clear q1 q2 q3 q4
      have hbl : base s t ≤ 1000000 := by omega
      go_wp2_with fail
      refine (lay_next (base s t) 8 (bAt s t) w1.heap.size _ w8 hi8 (by simp) (by simp) (l4_last s t) (l4_bd HR.out) hpad hbl).mono ?_
      rintro e w9 ⟨rfl, hi9, hb9⟩
      have hB9 := hB8.trans hb9
      have m0 := cell_later hB9 c0
      have m1 := cell_later hB9 c1
      go_wp2_with fail
      refine (size_any s t w9 (hT1.below hB9)).mono ?_
      rintro e w10 ⟨rfl, hb10⟩
      have hB10 : Below w1.heap.size w1 w10 := hB9.trans (hb10.mono hB9.size)
      go_wp2_with fail
      refine (lay_next (size s t) 7 (base s t) w1.heap.size _ w10 (hi9.below hb10) (by simp) (by simp) Q1.out Q2.out Q3.out.1 Q3.out.2).mono ?_
      rintro e w11 ⟨rfl, hi11, hb11⟩
      rw [← Q4.out] at hi11
      have hB11 := hB10.trans hb11
      obtain ⟨v, hv, hown⟩ := hi11
      obtain ⟨A, cap, rfl, _⟩ := Mem.own_shape hown
      have cv := cell_of_one hv
      have HO := Lib.hid hown
      clear hown hv
      go_wp2
      go_ret
      exact ⟨_, rfl, World.ownsRow.mono HO.out (by have := hbw.size; omega), hbw.trans (hB11.mono hbw.size)⟩
    · obtain ⟨q1, q2, q3, q4⟩ := l5_flat HR.out hpad
      have Q3 := Lib.hid q3
      have Q4 := Lib.hid q4
      have hle2 : base s t ≤ bAt s t := by omega
      clear q1 q2 q3 q4
      go_wp2_with fail
      refine (lay_same (base s t) 8 (bAt s t) w1.heap.size _ w8 hi8 (by simp) (by simp) (l4_last s t) (l4_bd HR.out) hle2).mono ?_
      rintro e w9 ⟨rfl, hi9, hb9⟩
      have hB9 := hB8.trans hb9
      have m0 := cell_later hB9 c0
      have m1 := cell_later hB9 c1
      go_wp2_with fail
      refine (size_any s t w9 (hT1.below hB9)).mono ?_
      rintro e w10 ⟨rfl, hb10⟩
      have hB10 : Below w1.heap.size w1 w10 := hB9.trans (hb10.mono hB9.size)
      go_wp2_with fail
      refine (lay_next (size s t) 7 (bAt s t) w1.heap.size _ w10 (hi9.below hb10) (by simp) (by simp) (l4_last s t) (l4_bd HR.out) Q3.out.1 Q3.out.2).mono ?_
      rintro e w11 ⟨rfl, hi11, hb11⟩
      rw [← Q4.out] at hi11
      have hB11 := hB10.trans hb11
      obtain ⟨v, hv, hown⟩ := hi11
      obtain ⟨A, cap, rfl, _⟩ := Mem.own_shape hown
      have cv := cell_of_one hv
      have HO := Lib.hid hown
      clear hown hv
      go_wp2
      go_ret
      exact ⟨_, rfl, World.ownsRow.mono HO.out (by have := hbw.size; omega), hbw.trans (hB11.mono hbw.size)⟩
end Lay
end Go.Proofs.YtefjkigifngomaaDoor
