/- Layer 9 (layout): the contracts of slots, padded, Base, Size, Most of the package. Condition: the table class.sizes holds its ten numbers. -/
import Derived.Test.YtefjkigifngomaaDoorLayB
namespace Go.Proofs.YtefjkigifngomaaDoor
open Go.RowKit
namespace Lay

def slotsA (s : Int) : Int := 128 + s * 16
def bAt (s t : Int) : Int := slotsA s + t * 4
def base (s t : Int) : Int := if rt s t = true then (bAt s t + 15) / 16 * 16 else 0
def size (s t : Int) : Int := if rt s t = true then base s t + s * 1024 else 0
def most (s t : Int) : Int := if rt s t = true then s * 32 else 0

abbrev boxOf (W : World) (s t : Int) : World := W.alloc (.cells #[.int .i64 s, .int .i64 t] 23)
theorem box_cells {W w2 : World} {s t : Int} (hb : Below (boxOf W s t).heap.size (boxOf W s t) w2) :
    w2.cell? ⟨W.heap.size, 0, none⟩ = some (.int .i64 s) ∧ w2.cell? ⟨W.heap.size, 1, none⟩ = some (.int .i64 t) := by
  have hl : W.heap.size < (boxOf W s t).heap.size := by simp
  exact ⟨(hb.cell (p := ⟨W.heap.size, 0, none⟩) hl).trans (by simp [World.cell?_alloc_new]), (hb.cell (p := ⟨W.heap.size, 1, none⟩) hl).trans (by simp [World.cell?_alloc_new])⟩
theorem box_below {W w2 : World} {s t : Int} (hb : Below (boxOf W s t).heap.size (boxOf W s t) w2) : Below W.heap.size W w2 :=
  ((Below.refl _ _).alloc (Nat.le_refl _) _).trans (hb.mono (by simp))
theorem slots_any (s t : Int) (W : World) (h1 : 0 ≤ s) (h2 : s ≤ 64) : Calls Tryd.prog 30 #[.agg #[.int .i64 s, .int .i64 t]] W fun e W' => e = .returned (.int .i64 (slotsA s)) ∧ Below W.heap.size W W' := by
  go_enter Tryd.func30, Tryd.ntmps30
  go_wp2
  go_ret
  exact ⟨rfl, (Below.refl _ _).alloc (Nat.le_refl _) _⟩
theorem padded_any (n : Int) (W : World) (h1 : 0 ≤ n) (h2 : n ≤ 1000000) : Calls Tryd.prog 29 #[.int .i64 n] W fun e W' => e = .returned (.int .i64 ((n + 15) / 16 * 16)) ∧ W = W' := by
  go_enter Tryd.func29, Tryd.ntmps29
  go_wp2
  go_ret
  exact ⟨Mem.ret_int (by rw [show n + 16 - 1 = n + 15 by omega]), rfl⟩
set_option maxHeartbeats 800000 in
theorem most_any (s t : Int) (W : World) (hT : Tab W) : Calls Tryd.prog 14 #[.agg #[.int .i64 s, .int .i64 t]] W fun e W' => e = .returned (.int .i64 (most s t)) ∧ Below W.heap.size W W' := by
  cases hr : rt s t with
  | false =>
    have HR := Lib.hid hr
    have K := Lib.hid (show most s t = 0 by unfold most; rw [hr]; rfl)
    clear hr
    go_enter Tryd.func14, Tryd.ntmps14
    go_wp2_with fail
    refine (right_any s t _ (hT.alloc _)).mono ?_
    rw [HR.out]
    rintro e w1 ⟨rfl, hb1⟩
    go_wp2
    go_ret
    exact ⟨ret_int K.out, box_below hb1⟩
  | true =>
    have HR := Lib.hid hr
    have K := Lib.hid (show most s t = s * 32 by unfold most; rw [hr]; rfl)
    obtain ⟨h1, h2, h3, h4, h5⟩ := rt_yes hr
    clear hr h3
    go_enter Tryd.func14, Tryd.ntmps14
    go_wp2_with fail
    refine (right_any s t _ (hT.alloc _)).mono ?_
    rw [HR.out]
    rintro e w1 ⟨rfl, hb1⟩
    obtain ⟨c0, c1⟩ := box_cells hb1
    have hT1 : Tab w1 := (hT.alloc _).below hb1
    go_wp2_with fail
    go_quiet ((go_at_call 28; exact Mem.quiet_of_eq (blocks_one _ (hT1.drewN _))))
    go_wp2
    go_ret
    exact ⟨ret_int K.out, below_drewN (box_below hb1) _⟩
set_option maxHeartbeats 800000 in
theorem base_any (s t : Int) (W : World) (hT : Tab W) : Calls Tryd.prog 12 #[.agg #[.int .i64 s, .int .i64 t]] W fun e W' => e = .returned (.int .i64 (base s t)) ∧ Below W.heap.size W W' := by
  cases hr : rt s t with
  | false =>
    have HR := Lib.hid hr
    have K := Lib.hid (show base s t = 0 by unfold base; rw [hr]; rfl)
    clear hr
    go_enter Tryd.func12, Tryd.ntmps12
    go_wp2_with fail
    refine (right_any s t _ (hT.alloc _)).mono ?_
    rw [HR.out]
    rintro e w1 ⟨rfl, hb1⟩
    go_wp2
    go_ret
    exact ⟨ret_int K.out, box_below hb1⟩
  | true =>
    have HR := Lib.hid hr
    have K := Lib.hid (show base s t = (slotsA s + t * 4 + 15) / 16 * 16 by unfold base; rw [hr]; rfl)
    obtain ⟨h1, h2, h3, h4, h5⟩ := rt_yes hr
    have hs1 : 0 ≤ slotsA s := by unfold slotsA; omega
    have hs2 : slotsA s ≤ 2000 := by unfold slotsA; omega
    have hp0 : 0 ≤ slotsA s + t * 4 := by omega
    have hp1 : slotsA s + t * 4 ≤ 1000000 := by omega
    have hw1 : IntKind.i64.wrap (t * 4) = t * 4 := IntWalk.i64_in _ (by omega)
    have hw2 : IntKind.i64.wrap (slotsA s + t * 4) = slotsA s + t * 4 := IntWalk.i64_in _ (by omega)
    clear hr h3
    go_enter Tryd.func12, Tryd.ntmps12
    go_wp2_with fail
    refine (right_any s t _ (hT.alloc _)).mono ?_
    rw [HR.out]
    rintro e w1 ⟨rfl, hb1⟩
    obtain ⟨c0, c1⟩ := box_cells hb1
    go_wp2_with fail
    go_region_held3 (fun w' => w'.cell? ⟨W.heap.size, 0, none⟩ = some (.int .i64 s) ∧ w'.cell? ⟨W.heap.size, 1, none⟩ = some (.int .i64 t)) (go_keep)
      (first
        | (go_at_call 30; refine (slots_any s t _ (by omega) (by omega)).mono ?_; rintro e w2 ⟨rfl, hb2⟩; have q0 := cell_later hb2 c0; have q1 := cell_later hb2 c1)
        | (go_at_call 29; refine (padded_any _ _ hp0 hp1).mono ?_; rintro e w3 ⟨rfl, rfl⟩))
    go_wp2
    go_ret
    exact ⟨ret_int K.out, (box_below hb1).trans ((Mem.below_of_drew hb2).mono (box_below hb1).size)⟩
end Lay
end Go.Proofs.YtefjkigifngomaaDoor
