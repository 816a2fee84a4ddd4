/- Layer 18 (chance): the contract of goes. -/
import Derived.Test.YtfdbekgmpmfgpaaChM
namespace Go.Proofs.Ytfdbekgmpmfgpaa
open Go.RowKit
namespace Ch

theorem rd_row (w : World) (xs : List Value) (t : TypeId) : Mem.Rd (w.alloc (.cells xs.toArray t)) (some ⟨w.heap.size, 0, none⟩) xs := fun _ =>
  ⟨w.heap.size, 0, rfl, by simp, fun i _ => by rw [Nat.zero_add, World.cell?_alloc_new]; simp⟩
theorem rd_two (w : World) (xs ys : List Value) (t : TypeId) : Mem.Rd ((w.alloc (.cells xs.toArray t)).alloc (.cells ys.toArray t)) (some ⟨w.heap.size, 0, none⟩) xs ∧ Mem.Rd ((w.alloc (.cells xs.toArray t)).alloc (.cells ys.toArray t)) (some ⟨w.heap.size + 1, 0, none⟩) ys := by
  refine ⟨(rd_row w xs t).alloc _, ?_⟩
  have := rd_row (w.alloc (.cells xs.toArray t)) ys t
  rw [World.size_alloc] at this
  exact this
theorem below_one {W w w' : World} {a : Obj} (h : Below W.heap.size W w) (h2 : Below (w.alloc a).heap.size (w.alloc a) w') : Below W.heap.size W w' ∧ Below w.heap.size w w' := by
  have h1 := h.alloc h.size a
  have h3 : Below w.heap.size w (w.alloc a) := (Below.refl _ _).alloc (Nat.le_refl _) a
  exact ⟨h1.trans (h2.mono h1.size), h3.trans (h2.mono h3.size)⟩
theorem below_two {W w w' : World} {a b : Obj} (h : Below W.heap.size W w) (h2 : Below ((w.alloc a).alloc b).heap.size ((w.alloc a).alloc b) w') : Below W.heap.size W w' ∧ Below w.heap.size w w' := by
  have h1 := (h.alloc h.size a)
  have h1 := h1.alloc h1.size b
  have h3 : Below w.heap.size w (w.alloc a) := (Below.refl _ _).alloc (Nat.le_refl _) a
  have h3 := h3.alloc h3.size b
  exact ⟨h1.trans (h2.mono h1.size), h3.trans (h2.mono h3.size)⟩
set_option maxHeartbeats 1600000 in
theorem goes_any (W : World) : Calls Try.prog 8 #[] W fun e w' => e = .returned (.bool true) ∧ Below W.heap.size W w' := by
  have e1 : (nextOrder [true, false, true] [false, false, false] 0).getD 0 0 = 1 := by decide
  have e2 : nextUsed [true, false, true] [false, false, false] 0 = [false, false, true] := by decide
  have e3 : total [true, false, true] [false, false, false] 0 = [1, 0, 2] := by decide
  have e4 : bro [true, false, true] 1 2 = [2] := by decide
  have e5 : rightv 0 0 0 = 2 := by decide
  have E1 := Lib.hid e1
  have E2 := Lib.hid e2
  have E3 := Lib.hid e3
  have E4 := Lib.hid e4
  have E5 := Lib.hid e5
  clear e1 e2 e3 e4 e5
  go_enter Try.func8, Try.ntmps8
  go_wp2_with fail
  obtain ⟨r1, r2⟩ := rd_two W (bools [true, false, true]) (bools [false, false, false]) 4
  refine (next_any [true, false, true] [false, false, false] (some ⟨W.heap.size, 0, none⟩) 3 (some ⟨W.heap.size + 1, 0, none⟩) 3 0 _ r1 r2 rfl (by decide) (by decide)).mono ?_
  rintro e w1 ⟨U1, c1, rfl, h1, _, b1⟩
  rw [E1.out]
  rw [E2.out] at h1
  have B1 := Lib.hid (below_two (Below.refl _ _) b1).1
  have H1 := Lib.hid h1
  clear r1 r2 h1 b1
  go_wp2_with fail
  obtain ⟨r1, r2⟩ := rd_two w1 (bools [true, false, true]) (bools [false, false, false]) 4
  refine (order_any [true, false, true] [false, false, false] (some ⟨w1.heap.size, 0, none⟩) 3 (some ⟨w1.heap.size + 1, 0, none⟩) 3 0 _ r1 r2 rfl (by decide) (by decide)).mono ?_
  rintro e w2 ⟨U2, c2, rfl, h2, _, b2⟩
  rw [E3.out] at h2
  have B2 := Lib.hid (below_two B1.out b2)
  have H2 := Lib.hid h2
  clear r1 r2 h2 b2
  go_wp2_with fail
  refine (next_bad 0 0 none 0 none 0 0 w2 (by rw [E5.out]; decide)).mono ?_
  rintro e w3 ⟨rfl, rfl⟩
  rw [E5.out]
  go_wp2_with fail
  refine (broom_ge [true, false, true] (some ⟨w2.heap.size, 0, none⟩) 3 1 2 _ (rd_row w2 (bools [true, false, true]) _) (by decide) (by decide) (by decide)).mono ?_
  rintro e w3 ⟨U3, c3, rfl, h3, _, b3⟩
  rw [E4.out] at h3 ⊢
  have B3 := Lib.hid (below_one B2.out.1 b3)
  have H3 := Lib.hid h3
  clear h3 b3
  go_wp2_with fail
  refine (same_bools [false, false, true] U1 (some ⟨w3.heap.size, 0, none⟩) c1 3 _ (((H1.out.below B2.out.2).below B3.out.2).alloc _) (rd_row w3 (bools [false, false, true]) _) (by decide)).mono ?_
  rintro e w4 ⟨rfl, q4⟩
  have B4 := Lib.hid (below_one B3.out.1 q4.below)
  clear q4
  go_wp2_with fail
  refine (same_ints [1, 0, 2] U2 (some ⟨w4.heap.size, 0, none⟩) c2 3 _ (((H2.out.below B3.out.2).below B4.out.2).alloc _) (rd_row w4 (ints [1, 0, 2]) _) (by decide)).mono ?_
  rintro e w5 ⟨rfl, q5⟩
  have B5 := Lib.hid (below_one B4.out.1 q5.below)
  clear q5
  go_wp2_with fail
  refine (same_ints [2] U3 (some ⟨w5.heap.size, 0, none⟩) c3 1 _ (((H3.out.below B4.out.2).below B5.out.2).alloc _) (rd_row w5 (ints [2]) _) (by decide)).mono ?_
  rintro e w6 ⟨rfl, q6⟩
  have B6 := Lib.hid (below_one B5.out.1 q6.below)
  clear q6
  go_wp2_with fail
  go_ret
  exact ⟨rfl, B6.out.1⟩
end Ch
end Go.Proofs.Ytfdbekgmpmfgpaa
