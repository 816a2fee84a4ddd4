/- Layer 9 (layout): the contracts of the reference's Most, Base, Size, HeadAt, SlotAt, SlabAt. No condition. -/
import Derived.Test.YtefjkigifngomaaDoorLayG
namespace Go.Proofs.YtefjkigifngomaaDoor
open Go.RowKit
namespace Lay

theorem runs_len0 {s t : Int} (h : rt s t = false) : runs s t = [] := by unfold runs; rw [if_neg (by rw [h]; decide)]
theorem runs_last {s t : Int} (hr : rt s t = true) : ∃ m, (runs s t).length = m + 1 ∧ m ≤ 5 ∧ (cellsOf (runs s t))[m * 3]? = some (.int .i64 (base s t)) := by
  unfold runs
  rw [if_pos hr]
  by_cases h : bAt s t < base s t
  · rw [if_pos h]
    exact ⟨5, rfl, by decide, rfl⟩
  · rw [if_neg h]
    exact ⟨4, rfl, by decide, rfl⟩

set_option maxHeartbeats 800000 in
theorem rmost_any (s t : Int) (W : World) : Calls Tryd.prog 15 #[.agg #[.int .i64 s, .int .i64 t]] W fun e W' => e = .returned (.int .i64 (most s t)) ∧ Below W.heap.size W W' := by
  cases hr : rt s t with
  | false =>
    have HR := Lib.hid hr
    have K := Lib.hid (show most s t = 0 by unfold most; rw [hr]; rfl)
    clear hr
    go_enter Tryd.func15, Tryd.ntmps15
    go_wp2_with fail
    refine (rright_any s t _).mono ?_
    rw [HR.out]
    rintro e w1 ⟨rfl, hb1⟩
    go_wp2
    go_ret
    exact ⟨ret_int K.out, box_below hb1⟩
  | true =>
    have HR := Lib.hid hr
    have K := Lib.hid (show most s t = 32 * s by unfold most; rw [hr]; show s * 32 = 32 * s; omega)
    obtain ⟨h1, h2, h3, h4, h5⟩ := rt_yes hr
    clear hr h3
    go_enter Tryd.func15, Tryd.ntmps15
    go_wp2_with fail
    refine (rright_any s t _).mono ?_
    rw [HR.out]
    rintro e w1 ⟨rfl, hb1⟩
    obtain ⟨c0, c1⟩ := box_cells hb1
    go_wp2
    go_ret
    exact ⟨ret_int K.out, box_below hb1⟩
set_option maxHeartbeats 800000 in
theorem rbase_any (s t : Int) (W : World) : Calls Tryd.prog 13 #[.agg #[.int .i64 s, .int .i64 t]] W fun e W' => e = .returned (.int .i64 (base s t)) ∧ Below W.heap.size W W' := by
  cases hr : rt s t with
  | false =>
    have K := Lib.hid (show base s t = 0 by unfold base; rw [hr]; rfl)
    have KR := Lib.hid (runs_len0 hr)
    clear hr
    go_enter Tryd.func13, Tryd.ntmps13
    go_wp2_with fail
    refine (rruns_any s t _).mono ?_
    rintro e w1 ⟨v, rfl, hown, hb1⟩
    rw [KR.out] at hown
    obtain ⟨A, cap, rfl, _⟩ := Mem.own_shape hown
    clear hown
    go_wp2
    go_ret
    exact ⟨ret_int K.out, box_below hb1⟩
  | true =>
    obtain ⟨m, hm, hm5, hc⟩ := runs_last hr
    clear hr
    have HM := Lib.hid hm
    have HC := Lib.hid hc
    clear hm hc
    go_enter Tryd.func13, Tryd.ntmps13
    go_wp2_with fail
    refine (rruns_any s t _).mono ?_
    rintro e w1 ⟨v, rfl, hown, hb1⟩
    rw [HM.out] at hown
    obtain ⟨g, cap, rfl, hg0, hgl⟩ := hown.form (by omega)
    have hp : w1.cell? ⟨g, m * 3, none⟩ = some (.int .i64 (base s t)) := (hown.cellAt (m * 3) (by omega)).trans HC.out
    have hk0 : (0 : Int) ≤ (m : Int) := by omega
    have hk1 : (m : Int) < (m : Int) + 1 := by omega
    have hne : ((m : Int) + 1 == 0) = false := by simp; omega
    clear hown
    go_wp2
    go_ret
    exact ⟨rfl, box_below hb1⟩
set_option maxHeartbeats 800000 in
theorem rsize_any (s t : Int) (W : World) : Calls Tryd.prog 11 #[.agg #[.int .i64 s, .int .i64 t]] W fun e W' => e = .returned (.int .i64 (size s t)) ∧ Below W.heap.size W W' := by
  cases hr : rt s t with
  | false =>
    have HR := Lib.hid hr
    have K := Lib.hid (show size s t = 0 by unfold size; rw [hr]; rfl)
    clear hr
    go_enter Tryd.func11, Tryd.ntmps11
    go_wp2_with fail
    refine (rright_any s t _).mono ?_
    rw [HR.out]
    rintro e w1 ⟨rfl, hb1⟩
    go_wp2
    go_ret
    exact ⟨ret_int K.out, box_below hb1⟩
  | true =>
    have HR := Lib.hid hr
    have K := Lib.hid (show size s t = base s t + 1024 * s by unfold size; rw [hr]; show base s t + s * 1024 = base s t + 1024 * s; omega)
    obtain ⟨h1, h2, h3, h4, h5⟩ := rt_yes hr
    obtain ⟨b0, b1⟩ := base_range s t hr
    have hw1 : IntKind.i64.wrap (1024 * s) = 1024 * s := IntWalk.i64_in _ (by omega)
    have hw2 : IntKind.i64.wrap (base s t + 1024 * s) = base s t + 1024 * s := IntWalk.i64_in _ (by omega)
    have hw3 : IntKind.i64.wrap (s * 1024) = s * 1024 := IntWalk.i64_in _ (by omega)
    have hw4 : IntKind.i64.wrap (base s t + s * 1024) = base s t + s * 1024 := IntWalk.i64_in _ (by omega)
    clear hr h3
    go_enter Tryd.func11, Tryd.ntmps11
    go_wp2_with fail
    refine (rright_any s t _).mono ?_
    rw [HR.out]
    rintro e w1 ⟨rfl, hb1⟩
    obtain ⟨c0, c1⟩ := box_cells hb1
    go_wp2_with fail
    go_region_held3 (fun w' => w'.cell? ⟨W.heap.size, 0, none⟩ = some (.int .i64 s) ∧ w'.cell? ⟨W.heap.size, 1, none⟩ = some (.int .i64 t)) (go_keep)
      (first
        | (go_at_call 13; refine (rbase_any s t _).mono ?_; rintro e w2 ⟨rfl, hb2⟩; have q0 := cell_later (Mem.below_of_drew hb2) c0; have q1 := cell_later (Mem.below_of_drew hb2) c1))
    go_wp2
    go_ret
    exact ⟨ret_int (by rw [K.out]; try omega), (box_below hb1).trans ((Mem.below_of_drew hb2).mono (box_below hb1).size)⟩

set_option maxHeartbeats 1600000 in
theorem rheadAt_any (s t i : Int) (W : World) : Calls Tryd.prog 23 #[.agg #[.int .i64 s, .int .i64 t], .int .i64 i] W fun e W' => e = .returned (.int .i64 (inn (rt s t) i s 128 16)) ∧ Below W.heap.size W W' := by
  cases hr : rt s t with
  | false =>
    have HR := Lib.hid hr
    have K := Lib.hid (show inn false i s 128 16 = 0 by unfold inn; rw [if_neg (by simp)])
    clear hr
    go_enter Tryd.func23, Tryd.ntmps23
    go_wp2_with fail
    refine (rright_any s t _).mono ?_
    rw [HR.out]
    rintro e w1 ⟨rfl, hb1⟩
    go_wp2
    go_ret
    exact ⟨ret_int K.out, box_below hb1⟩
  | true =>
    have HR := Lib.hid hr
    obtain ⟨h1, h2, h3, h4, h5⟩ := rt_yes hr
    obtain ⟨b0, b1⟩ := base_range s t hr
    clear hr h3
    by_cases g0 : i < 0
    · have K := Lib.hid (show inn true i s 128 16 = 0 by unfold inn; rw [if_neg (by omega)])
      go_enter Tryd.func23, Tryd.ntmps23
      go_wp2_with fail
      refine (rright_any s t _).mono ?_
      rw [HR.out]
      rintro e w1 ⟨rfl, hb1⟩
      obtain ⟨c0, c1⟩ := box_cells hb1
      go_wp2
      go_ret
      exact ⟨ret_int K.out, box_below hb1⟩
    by_cases g1 : s ≤ i
    · have K := Lib.hid (show inn true i s 128 16 = 0 by unfold inn; rw [if_neg (by omega)])
      have hd : decide (i < 0) = false := by simp; omega
      clear g0
      go_enter Tryd.func23, Tryd.ntmps23
      go_wp2_with fail
      refine (rright_any s t _).mono ?_
      rw [HR.out]
      rintro e w1 ⟨rfl, hb1⟩
      obtain ⟨c0, c1⟩ := box_cells hb1
      go_wp2
      go_ret
      exact ⟨ret_int K.out, box_below hb1⟩
    have K := Lib.hid (show inn true i s 128 16 = 128 + 16 * i by unfold inn; rw [if_pos ⟨rfl, by omega, by omega⟩]; (try unfold slotsA); omega)
    have hd : decide (i < 0) = false := by simp; omega
    have hd2 : decide (s ≤ i) = false := by simp; omega
    have g2 : 0 ≤ i := by omega
    have g3 : i < s := by omega
    clear g0 g1
    go_enter Tryd.func23, Tryd.ntmps23
    go_wp2_with fail
    refine (rright_any s t _).mono ?_
    rw [HR.out]
    rintro e w1 ⟨rfl, hb1⟩
    obtain ⟨c0, c1⟩ := box_cells hb1
    go_wp2
    go_ret
    exact ⟨ret_int K.out, box_below hb1⟩
set_option maxHeartbeats 1600000 in
theorem rslotAt_any (s t i : Int) (W : World) : Calls Tryd.prog 25 #[.agg #[.int .i64 s, .int .i64 t], .int .i64 i] W fun e W' => e = .returned (.int .i64 (inn (rt s t) i t (slotsA s) 4)) ∧ Below W.heap.size W W' := by
  cases hr : rt s t with
  | false =>
    have HR := Lib.hid hr
    have K := Lib.hid (show inn false i t (slotsA s) 4 = 0 by unfold inn; rw [if_neg (by simp)])
    clear hr
    go_enter Tryd.func25, Tryd.ntmps25
    go_wp2_with fail
    refine (rright_any s t _).mono ?_
    rw [HR.out]
    rintro e w1 ⟨rfl, hb1⟩
    go_wp2
    go_ret
    exact ⟨ret_int K.out, box_below hb1⟩
  | true =>
    have HR := Lib.hid hr
    obtain ⟨h1, h2, h3, h4, h5⟩ := rt_yes hr
    obtain ⟨b0, b1⟩ := base_range s t hr
    clear hr h3
    by_cases g0 : i < 0
    · have K := Lib.hid (show inn true i t (slotsA s) 4 = 0 by unfold inn; rw [if_neg (by omega)])
      go_enter Tryd.func25, Tryd.ntmps25
      go_wp2_with fail
      refine (rright_any s t _).mono ?_
      rw [HR.out]
      rintro e w1 ⟨rfl, hb1⟩
      obtain ⟨c0, c1⟩ := box_cells hb1
      go_wp2
      go_ret
      exact ⟨ret_int K.out, box_below hb1⟩
    by_cases g1 : t ≤ i
    · have K := Lib.hid (show inn true i t (slotsA s) 4 = 0 by unfold inn; rw [if_neg (by omega)])
      have hd : decide (i < 0) = false := by simp; omega
      clear g0
      go_enter Tryd.func25, Tryd.ntmps25
      go_wp2_with fail
      refine (rright_any s t _).mono ?_
      rw [HR.out]
      rintro e w1 ⟨rfl, hb1⟩
      obtain ⟨c0, c1⟩ := box_cells hb1
      go_wp2
      go_ret
      exact ⟨ret_int K.out, box_below hb1⟩
    have K := Lib.hid (show inn true i t (slotsA s) 4 = 128 + 16 * s + 4 * i by unfold inn; rw [if_pos ⟨rfl, by omega, by omega⟩]; (try unfold slotsA); omega)
    have hd : decide (i < 0) = false := by simp; omega
    have hd2 : decide (t ≤ i) = false := by simp; omega
    have g2 : 0 ≤ i := by omega
    have g3 : i < t := by omega
    clear g0 g1
    go_enter Tryd.func25, Tryd.ntmps25
    go_wp2_with fail
    refine (rright_any s t _).mono ?_
    rw [HR.out]
    rintro e w1 ⟨rfl, hb1⟩
    obtain ⟨c0, c1⟩ := box_cells hb1
    go_wp2
    go_ret
    exact ⟨ret_int K.out, box_below hb1⟩
set_option maxHeartbeats 1600000 in
theorem rslabAt_any (s t i : Int) (W : World) : Calls Tryd.prog 27 #[.agg #[.int .i64 s, .int .i64 t], .int .i64 i] W fun e W' => e = .returned (.int .i64 (inn (rt s t) i s (base s t) 1024)) ∧ Below W.heap.size W W' := by
  cases hr : rt s t with
  | false =>
    have HR := Lib.hid hr
    have K := Lib.hid (show inn false i s (base s t) 1024 = 0 by unfold inn; rw [if_neg (by simp)])
    clear hr
    go_enter Tryd.func27, Tryd.ntmps27
    go_wp2_with fail
    refine (rright_any s t _).mono ?_
    rw [HR.out]
    rintro e w1 ⟨rfl, hb1⟩
    go_wp2
    go_ret
    exact ⟨ret_int K.out, box_below hb1⟩
  | true =>
    have HR := Lib.hid hr
    obtain ⟨h1, h2, h3, h4, h5⟩ := rt_yes hr
    obtain ⟨b0, b1⟩ := base_range s t hr
    clear hr h3
    by_cases g0 : i < 0
    · have K := Lib.hid (show inn true i s (base s t) 1024 = 0 by unfold inn; rw [if_neg (by omega)])
      go_enter Tryd.func27, Tryd.ntmps27
      go_wp2_with fail
      refine (rright_any s t _).mono ?_
      rw [HR.out]
      rintro e w1 ⟨rfl, hb1⟩
      obtain ⟨c0, c1⟩ := box_cells hb1
      go_wp2
      go_ret
      exact ⟨ret_int K.out, box_below hb1⟩
    by_cases g1 : s ≤ i
    · have K := Lib.hid (show inn true i s (base s t) 1024 = 0 by unfold inn; rw [if_neg (by omega)])
      have hd : decide (i < 0) = false := by simp; omega
      clear g0
      go_enter Tryd.func27, Tryd.ntmps27
      go_wp2_with fail
      refine (rright_any s t _).mono ?_
      rw [HR.out]
      rintro e w1 ⟨rfl, hb1⟩
      obtain ⟨c0, c1⟩ := box_cells hb1
      go_wp2
      go_ret
      exact ⟨ret_int K.out, box_below hb1⟩
    have K := Lib.hid (show inn true i s (base s t) 1024 = base s t + 1024 * i by unfold inn; rw [if_pos ⟨rfl, by omega, by omega⟩]; (try unfold slotsA); omega)
    have hd : decide (i < 0) = false := by simp; omega
    have hd2 : decide (s ≤ i) = false := by simp; omega
    have g2 : 0 ≤ i := by omega
    have g3 : i < s := by omega
    clear g0 g1
    go_enter Tryd.func27, Tryd.ntmps27
    go_wp2_with fail
    refine (rright_any s t _).mono ?_
    rw [HR.out]
    rintro e w1 ⟨rfl, hb1⟩
    obtain ⟨c0, c1⟩ := box_cells hb1
    go_wp2_with fail
    refine (rbase_any s t _).mono ?_
    rintro e w2 ⟨rfl, hb2⟩
    go_wp2
    go_ret
    exact ⟨ret_int K.out, box_below (box_trans hb1 hb2)⟩
end Lay
end Go.Proofs.YtefjkigifngomaaDoor
