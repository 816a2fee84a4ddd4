/- Layer 19: the page's example comes true. -/
import Derived.Test.YtommffcojbdldaaPrY
namespace Go.Proofs.Ytommffcojbdldaa
open Go.RowKit
namespace Pr

def e0 : Tab := [(0, 0), (0, 0), (0, 0), (0, 0)]
def e1 : Tab := [(0, 0), (7, 1), (0, 0), (0, 0)]
def e2 : Tab := [(0, 0), (7, 1), (8, 1), (0, 0)]
def e3 : Tab := [(0, 0), (7, 1), (8, 1), (9, 2)]
def e4 : Tab := [(0, 0), (8, 1), (9, 2), (0, 0)]
theorem ex1 : insE e0 4 7 1 = 0 ∧ insT e0 4 7 1 = e1 := by decide
theorem ex2 : insE e1 4 8 1 = 0 ∧ insT e1 4 8 1 = e2 := by decide
theorem ex3 : insE e2 4 9 2 = 0 ∧ insT e2 4 9 2 = e3 := by decide
theorem ex4 : delE e3 4 7 1 = 0 ∧ fnd e3 4 7 1 = some 1 ∧ delT e3 4 1 = e4 := by decide
theorem ex5 : fin e4 4 9 2 = some 2 ∧ longest e3 = 1 ∧ D 4 3 1 = 2 ∧ rightB e4 = true := by decide
theorem OwnT.below {w w' : World} {B n c : Nat} {A : Option Addr} {t : Tab} (h : OwnT w B A n c t) (hb : Below w.heap.size w w') : OwnT w' B A n c t := ⟨Mem.own_below h.1 hb, h.2.1, h.2.2⟩
/-- The row of cells that a table reads at. -/
theorem RdT.cells4 {w : World} {A : Option Addr} {t : Tab} (h : RdT w A 4 t) : ∃ g off, A = some ⟨g, off, none⟩ ∧ g < w.heap.size ∧ w.cell? ⟨g, off + 1 * 2, none⟩ = some (.int .u32 ((cl t 1).1 : Int)) ∧ w.cell? ⟨g, off + 2 * 2, none⟩ = some (.int .u32 ((cl t 2).1 : Int)) ∧ w.cell? ⟨g, off + 3 * 2, none⟩ = some (.int .u32 ((cl t 3).1 : Int)) := by
  obtain ⟨b, off, hb, hlt, hc⟩ := h.rows (by decide)
  exact ⟨b, off, hb, hlt, (hc 1 (by decide)).1, (hc 2 (by decide)).1, (hc 3 (by decide)).1⟩
theorem in_of {t t' : Tab} {n id : Nat} {h : Int} {W w : World} {e : Ending} (he : insE t n id h = 0) (ht : insT t n id h.toNat = t') (r : InRes t n id h W e w) : ∃ A c, e = .returned (.tuple #[.slice A n c, .int .i64 0]) ∧ OwnT w W.heap.size A n c t' ∧ Below W.heap.size W w := by
  obtain ⟨h1 | h1, h2⟩ := r
  · obtain ⟨_, A, c, h3, h4⟩ := h1
    rw [ht] at h4
    exact ⟨A, c, h3, h4, h2⟩
  · exact absurd he h1.1
theorem de_of {t t' : Tab} {n id a : Nat} {h : Int} {W w : World} {e : Ending} (he : delE t n id h = 0) (hf : fnd t n id h.toNat = some a) (ht : delT t n a = t') (r : DeRes t n id h W e w) : ∃ A c, e = .returned (.tuple #[.slice A n c, .int .i64 0]) ∧ OwnT w W.heap.size A n c t' ∧ Below W.heap.size W w := by
  obtain ⟨h1 | h1, h2⟩ := r
  · obtain ⟨b, A, c, _, h5, h3, h4⟩ := h1
    rw [hf] at h5
    injection h5 with h5
    rw [← h5, ht] at h4
    exact ⟨A, c, h3, h4, h2⟩
  · exact absurd he h1.1
theorem ex0 {w : World} {g : Nat} (h : w.heap[g]? = some (.cells #[.int .u32 0, .int .i64 0, .int .u32 0, .int .i64 0, .int .u32 0, .int .i64 0, .int .u32 0, .int .i64 0] 48 (0, 0))) : RdT w (some ⟨g, 0, none⟩) 4 e0 := by
  refine ⟨rfl, fun p hp => ?_, fun _ => ⟨_, 0, rfl, lt_of_block h, fun k hk => ?_⟩⟩
  · have : p = (0, 0) := by simpa [e0] using hp
    subst this
    exact ⟨by decide, by unfold I64; decide⟩
  · have : k = 0 ∨ k = 1 ∨ k = 2 ∨ k = 3 := by omega
    unfold World.cell?
    rcases this with rfl | rfl | rfl | rfl
    all_goals
      refine ⟨?_, ?_⟩
      all_goals
        simp only [h]
        rfl
set_option maxRecDepth 100000 in
set_option maxHeartbeats 6400000 in
theorem probes_good (W : World) : Calls Try.prog 8 #[] W fun e w => e = .returned (.bool true) ∧ Below W.heap.size W w := by
  have hmk : ∀ w, (Instr.makeSlice 25 (.int .i64 4) (.int .i64 4)).run Try.prog w = .ok (.slice (some ⟨w.heap.size, 0, none⟩) 4 4) (w.alloc (.cells #[.int .u32 0, .int .i64 0, .int .u32 0, .int .i64 0, .int .u32 0, .int .i64 0, .int .u32 0, .int .i64 0] 48)) := fun _ => by kernel_rfl
  obtain ⟨W0, hW0⟩ : ∃ W0, W.alloc (.cells #[.int .u32 0, .int .i64 0, .int .u32 0, .int .i64 0, .int .u32 0, .int .i64 0, .int .u32 0, .int .i64 0] 48) = W0 := ⟨_, rfl⟩
  have B0 : Below W.heap.size W W0 := by rw [← hW0]; exact (Below.refl _ _).alloc (Nat.le_refl _) _
  have R0 : RdT W0 (some ⟨W.heap.size, 0, none⟩) 4 e0 := by rw [← hW0]; exact ex0 (heap_alloc_new W _)
  have HW0 := Lib.hid hW0
  have BB0 := Lib.hid B0
  have RR0 := Lib.hid R0
  clear hW0 B0 R0
  go_enter Try.func8, Try.ntmps8
  go_wp2_with fail
  rw [HW0.out]
  refine (insert_any e0 _ 4 4 7 1 W0 RR0.out (by decide) (by decide)).mono ?_
  intro e w1 hr
  obtain ⟨A1, c1, rfl, hO, hB⟩ := in_of ex1.1 ex1.2 hr
  have B1 := Lib.hid (below_next BB0.out hB)
  have O1 := Lib.hid hO
  clear hr hO hB
  go_wp2_with fail
  refine (insert_any e1 _ 4 c1 8 1 w1 O1.out.rd (by decide) (by decide)).mono ?_
  intro e w2 hr
  obtain ⟨A2, c2, rfl, hO, hB⟩ := in_of ex2.1 ex2.2 hr
  have B2 := Lib.hid (below_next B1.out hB)
  have O2 := Lib.hid hO
  clear hr hO hB
  go_wp2_with fail
  refine (insert_any e2 _ 4 c2 9 2 w2 O2.out.rd (by decide) (by decide)).mono ?_
  intro e w3 hr
  obtain ⟨A3, c3, rfl, hO, hB⟩ := in_of ex3.1 ex3.2 hr
  have B3 := Lib.hid (below_next B2.out hB)
  have R3 := Lib.hid hO.rd
  clear hr hO hB
  go_wp2_with fail
  refine (delete_any e3 _ 4 c3 7 1 w3 R3.out (by decide)).mono ?_
  intro e w4 hr
  obtain ⟨A4, c4, rfl, hO, hB⟩ := de_of ex4.1 ex4.2.1 ex4.2.2 hr
  have B4 := Lib.hid (below_next B3.out hB)
  have R34 := Lib.hid (R3.out.below hB)
  have R4 := Lib.hid hO.rd
  clear hr hO hB
  go_wp2_with fail
  refine (find_any e4 _ 4 c4 9 2 w4 R4.out (by decide)).mono ?_
  rintro e w5 ⟨rfl, hB⟩
  rw [ex5.1]
  have B5 := Lib.hid (below_next B4.out hB)
  have R35 := Lib.hid (R34.out.below hB)
  have R45 := Lib.hid (R4.out.below hB)
  clear hB
  simp only [fndI, Option.isSome_some]
  obtain ⟨g3, o3, hA3, h30, h31, h32, h33⟩ := R35.out.cells4
  obtain ⟨g4, o4, hA4, h40, h41, h42, h43⟩ := R45.out.cells4
  have LG := Lib.hid (fun w (hb : Below w5.heap.size w5 w) => longest_any e3 A3 4 c3 w (R35.out.below hb) (by decide))
  have RT := Lib.hid (fun w (hb : Below w5.heap.size w5 w) => right_any e4 A4 4 c4 w (R45.out.below hb) (by decide))
  have DD := Lib.hid (fun w => distance_any 4 3 1 (by unfold I64; decide) w)
  rw [ex5.2.1] at LG
  rw [ex5.2.2.1] at DD
  rw [ex5.2.2.2] at RT
  subst hA3 hA4
  have i31 : (cl e3 1).1 = 7 := rfl
  have i32 : (cl e3 2).1 = 8 := rfl
  have i33 : (cl e3 3).1 = 9 := rfl
  have i41 : (cl e4 1).1 = 8 := rfl
  rw [i31] at h31
  rw [i32] at h32
  rw [i33] at h33
  rw [i41] at h41
  go_wp2_with fail
  refine (LG.out _ (Below.refl _ _)).mono ?_
  rintro e w6 ⟨rfl, hB⟩
  have B6 := Lib.hid hB
  clear hB
  go_wp2_with fail
  refine (DD.out _).mono ?_
  rintro e w6' ⟨rfl, rfl⟩
  go_wp2_with fail
  refine (RT.out _ B6.out).mono ?_
  rintro e w7 ⟨rfl, hB⟩
  have B7 := Lib.hid (below_next (below_next B5.out B6.out) hB)
  clear hB
  go_wp2_with fail
  go_ret
  exact ⟨rfl, B7.out⟩
end Pr
end Go.Proofs.Ytommffcojbdldaa
