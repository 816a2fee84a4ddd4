/- Layer 9 (layout): rows of runs; the contract of the reference's Runs. No condition. -/
import Derived.Test.YtefjkigifngomaaDoorLayD
import Derived.Deep.Onto
namespace Go.Proofs.YtefjkigifngomaaDoor
open Go.RowKit
namespace Lay

def rc (a l k : Int) : List Value := [.int .i64 a, .int .i64 l, .int .i64 k]
def cellsOf (rs : List (Int × Int × Int)) : List Value := rs.flatMap fun r => rc r.1 r.2.1 r.2.2
theorem cellsOf_len (rs : List (Int × Int × Int)) : (cellsOf rs).length = rs.length * 3 := by
  induction rs with
  | nil => rfl
  | cons r rs ih =>
    have e : cellsOf (r :: rs) = rc r.1 r.2.1 r.2.2 ++ cellsOf rs := by simp [cellsOf]
    rw [e, List.length_append, ih, List.length_cons]
    simp [rc]
    omega
theorem cellsOf_append (a b : List (Int × Int × Int)) : cellsOf (a ++ b) = cellsOf a ++ cellsOf b := by simp [cellsOf]
/-- The parts of an arena. -/
def runs (s t : Int) : List (Int × Int × Int) :=
  if rt s t = true then [(0, 8, 1), (8, 120, 2), (128, s * 16, 3), (slotsA s, t * 4, 4)] ++ (if bAt s t < base s t then [(bAt s t, base s t - bAt s t, 8)] else []) ++ [(base s t, s * 1024, 7)] else []
/-- What Runs answers. -/
def RRes (s t : Int) (W : World) (e : Ending) (W' : World) : Prop :=
  ∃ v, e = .returned v ∧ W'.ownsRow W.heap.size 31 3 v (runs s t).length (cellsOf (runs s t)) ∧ Below W.heap.size W W'
theorem info3 : (Tryd.prog.info? 31).map (fun i => (i.zero, i.size, i.bytes)) = some (some (.agg #[.int .i64 0, .int .i64 0, .int .i64 0]), 3, 24) := by kernel_rfl
theorem new3 (w : World) (a l k : Int) (t : TypeId) : ∀ j u, (rc a l k)[j]? = some u → (w.alloc (.cells #[.int .i64 a, .int .i64 l, .int .i64 k] t)).cell? ((⟨w.heap.size, 0, none⟩ : Addr).add j) = some u := by
  intro j u hj
  rw [Mem.add_none, Nat.zero_add]
  match j, hj with
  | 0, hj => simpa [rc, World.cell?_alloc_new] using hj
  | 1, hj => simpa [rc, World.cell?_alloc_new] using hj
  | 2, hj => simpa [rc, World.cell?_alloc_new] using hj
theorem one3 (a l k : Int) : ∀ u ∈ rc a l k, u.oneCell' = true := by
  intro u hu
  simp only [rc, List.mem_cons, List.not_mem_nil, or_false] at hu
  rcases hu with rfl | rfl | rfl <;> rfl

theorem pad_facts (s t : Int) (hr : rt s t = true) : bAt s t ≤ base s t ∧ base s t ≤ bAt s t + 15 ∧ base s t % 16 = 0 ∧ ∀ m, 0 ≤ m → bAt s t + m < base s t → (bAt s t + m) % 16 ≠ 0 := by
  have e : base s t = (bAt s t + 15) / 16 * 16 := if_pos hr
  rw [e]
  refine ⟨by omega, by omega, by omega, fun m h0 h1 => by omega⟩
theorem bAt_bd (s t : Int) (hr : rt s t = true) : 0 ≤ bAt s t ∧ bAt s t ≤ 60000 ∧ bAt s t = 128 + 16 * s + 4 * t := by
  have h := rt_yes hr
  unfold bAt slotsA
  refine ⟨by omega, by omega, by omega⟩
theorem new3' (w : World) (g : Nat) (hg : g = w.heap.size) (a l k : Int) (t : TypeId) : ∀ j u, (rc a l k)[j]? = some u → (w.alloc (.cells #[.int .i64 a, .int .i64 l, .int .i64 k] t)).cell? ((⟨g, 0, none⟩ : Addr).add j) = some u := by
  subst hg
  exact new3 w a l k t
theorem runs_pad {s t : Int} (hr : rt s t = true) (h : bAt s t < base s t) : (runs s t).length = 4 + 1 + 1 ∧ cellsOf (runs s t) =
    #[.int .i64 0, .int .i64 8, .int .i64 1, .int .i64 8, .int .i64 120, .int .i64 2, .int .i64 128, .int .i64 (16 * s), .int .i64 3].toList ++ rc (128 + 16 * s) (4 * t) 4 ++ rc (bAt s t) (base s t - bAt s t) 8 ++ rc (bAt s t + (base s t - bAt s t)) (1024 * s) 7 := by
  have e1 : s * 16 = 16 * s := by omega
  have e2 : t * 4 = 4 * t := by omega
  have e3 : s * 1024 = 1024 * s := by omega
  have e4 : slotsA s = 128 + 16 * s := by unfold slotsA; omega
  have e5 : bAt s t + (base s t - bAt s t) = base s t := by omega
  rw [e5]
  unfold runs
  rw [if_pos hr, if_pos h, e1, e2, e3, e4]
  exact ⟨rfl, rfl⟩
theorem runs_flat {s t : Int} (hr : rt s t = true) (h : ¬ bAt s t < base s t) : (runs s t).length = 4 + 1 ∧ cellsOf (runs s t) =
    #[.int .i64 0, .int .i64 8, .int .i64 1, .int .i64 8, .int .i64 120, .int .i64 2, .int .i64 128, .int .i64 (16 * s), .int .i64 3].toList ++ rc (128 + 16 * s) (4 * t) 4 ++ rc (bAt s t) (1024 * s) 7 := by
  have e1 : s * 16 = 16 * s := by omega
  have e2 : t * 4 = 4 * t := by omega
  have e3 : s * 1024 = 1024 * s := by omega
  have e4 : slotsA s = 128 + 16 * s := by unfold slotsA; omega
  have e5 : bAt s t = base s t := by have := (pad_facts s t hr).1; omega
  rw [e5]
  unfold runs
  rw [if_pos hr, if_neg h, e1, e2, e3, e4]
  exact ⟨rfl, rfl⟩
/-- The relation of the reference's loop over the padding. -/
def PadR (b p : Int) (i : Value) : Prop := ∃ m : Int, 0 ≤ m ∧ b + m ≤ p ∧ i = .int .i64 m
set_option maxRecDepth 100000 in
set_option maxHeartbeats 3200000 in
theorem rruns_any (s t : Int) (W : World) : Calls Tryd.prog 18 #[.agg #[.int .i64 s, .int .i64 t]] W (RRes s t W) := by
  cases hr : rt s t with
  | false =>
    have HR := Lib.hid hr
    have K := Lib.hid (show runs s t = [] by unfold runs; rw [hr]; rfl)
    clear hr
    go_enter Tryd.func18, Tryd.ntmps18
    go_wp2_with fail
    refine (rright_any s t _).mono ?_
    rw [HR.out]
    rintro e w1 ⟨rfl, hb1⟩
    go_wp2
    go_ret
    exact ⟨_, rfl, by rw [K.out]; exact World.ownsRow_nil _ _ _ _, box_below hb1⟩
  | true =>
    have HR := Lib.hid hr
    have HPAD := Lib.hid (fun h => runs_pad (s := s) (t := t) hr h)
    have HFLAT := Lib.hid (fun h => runs_flat (s := s) (t := t) hr h)
    obtain ⟨i0, hi0, hz0, hz1, hz2⟩ := info_parts info3
    obtain ⟨h1, h2, h3, h4, h5⟩ := rt_yes hr
    obtain ⟨b0, b1, b2⟩ := bAt_bd s t hr
    obtain ⟨p0, p1, p2, p3⟩ := pad_facts s t hr
    have B2 := Lib.hid b2
    have P2 := Lib.hid p2
    have P3 := Lib.hid p3
    have I0 := Lib.hid hi0
    have I1 := Lib.hid hz0
    have I2 := Lib.hid hz1
    have I3 := Lib.hid hz2
    clear hr h3 b2 p2 p3 hi0 hz0 hz1 hz2
    go_enter Tryd.func18, Tryd.ntmps18
    go_wp2_with fail
    refine (rright_any s t _).mono ?_
    rw [HR.out]
    rintro e w1 ⟨rfl, hb1⟩
    obtain ⟨c0, c1⟩ := box_cells hb1
    have hbw := box_below hb1
    have hlt : W.heap.size < w1.heap.size := World.block_lt_of_cell? w1 ⟨W.heap.size, 0, none⟩ c0
    have hb0 := hbw.size
    have hn1 := new3' (w1.alloc (.cells #[.int .i64 0, .int .i64 8, .int .i64 1, .int .i64 8, .int .i64 120, .int .i64 2, .int .i64 128, .int .i64 (16 * s), .int .i64 3] 31)) (w1.heap.size + 1) (by simp) (128 + 16 * s) (4 * t) 4 31
    have hl1 := World.ownsRow_lit (e := 31) (size := 3) w1 #[.int .i64 0, .int .i64 8, .int .i64 1, .int .i64 8, .int .i64 120, .int .i64 2, .int .i64 128, .int .i64 (16 * s), .int .i64 3] 3 (Nat.le_refl _) (by decide) rfl
    have HN1 := Lib.hid hn1
    have HL1 := Lib.hid hl1
    clear hn1 hl1
    go_wp2_with (at_builtin; refine wpList_append_own _ rfl (.tmp 20) (.tmp 26) 27 rfl w1.heap.size 31 i0 (.agg #[.int .i64 0, .int .i64 0, .int .i64 0]) 3 24 Tryd.underlying27 I0.out I1.out I2.out I3.out rfl (by decide) (.slice (some ⟨w1.heap.size, 0, none⟩) 3 3) 3 _ rfl (HL1.out.alloc _) ⟨w1.heap.size + 1, 0, none⟩ 1 1 (rc (128 + 16 * s) (4 * t) 4) rfl rfl HN1.out (one3 _ _ _) (by decide) (by decide) (by simp; omega) ?_; intro v1 w2 hown1 hg1 _; have hbg : Below w1.heap.size w1 w2 := (((Below.refl _ _).alloc (Nat.le_refl _) _).alloc (by simp) _).grown hg1 (by simp; omega) (by simp [Value.ownBlock]); have d0 := cell_later hbg c0; have d1 := cell_later hbg c1)
    have hlt2 : W.heap.size < w2.heap.size := World.block_lt_of_cell? w2 ⟨W.heap.size, 0, none⟩ d0
    have hbw2 : Below W.heap.size W w2 := hbw.trans (hbg.mono hbw.size)
    rw [← B2.out]
    go_loop [5] (PadR (bAt s t) (base s t)) (fun i => (100 - intOf i).toNat)
    case atStart => exact ⟨0, by omega, by omega, rfl⟩
    case round =>
      obtain ⟨m, hm0, hm1, rfl⟩ := hrel
      by_cases hlt3 : bAt s t + m < base s t
      · have hd : ((bAt s t + m) % 16 != 0) = true := by simpa using P3.out m hm0 hlt3
        go_wp2
        go_round
        case rel => exact ⟨m + 1, by omega, by omega, rfl⟩
        case measure => simp [intOf]; omega
      · obtain rfl : m = base s t - bAt s t := by omega
        have hd : ((bAt s t + (base s t - bAt s t)) % 16 != 0) = false := by rw [show bAt s t + (base s t - bAt s t) = base s t by omega]; simpa using P2.out
        by_cases hpad : bAt s t < base s t
        · have hz2 := hbg.size
          have HR1 := Lib.hid hown1.lt
          go_wp2_with (first
            | (at_builtin; refine wpList_append_own _ rfl (.tmp 42) (.tmp 46) 27 rfl w1.heap.size 31 i0 (.agg #[.int .i64 0, .int .i64 0, .int .i64 0]) 3 24 Tryd.underlying27 I0.out I1.out I2.out I3.out rfl (by decide) v1 4 _ rfl (hown1.alloc _) ⟨w2.heap.size, 0, none⟩ 1 1 (rc (bAt s t) (base s t - bAt s t) 8) rfl rfl (new3 _ _ _ _ _) (one3 _ _ _) (by decide) (by decide) (by simp; omega) ?_; intro v2 w3 hown2 hg2 _; have hbg2 : Below w1.heap.size w1 w3 := (hbg.alloc hz2 _).grown hg2 (by simp; omega) (fun k hk => (HR1.out k hk).1); have hz3 := hbg2.size; have f0 := cell_later hbg2 c0)
            | (at_builtin; refine wpList_append_own _ rfl (.tmp 48) (.tmp 56) 27 rfl w1.heap.size 31 i0 (.agg #[.int .i64 0, .int .i64 0, .int .i64 0]) 3 24 Tryd.underlying27 I0.out I1.out I2.out I3.out rfl (by decide) v2 5 _ rfl (hown2.alloc _) ⟨w3.heap.size, 0, none⟩ 1 1 (rc (bAt s t + (base s t - bAt s t)) (1024 * s) 7) rfl rfl (new3 _ _ _ _ _) (one3 _ _ _) (by decide) (by decide) (by simp; omega) ?_; intro v3 w4 hown3 hg3 _; have hbg3 : Below w1.heap.size w1 w4 := (hbg2.alloc hz3 _).grown hg3 (by simp; omega) (fun k hk => (hown2.lt k hk).1)))
          go_ret
          exact ⟨_, rfl, by rw [(HPAD.out hpad).1, (HPAD.out hpad).2]; exact World.ownsRow.mono hown3 hbw.size, hbw.trans (hbg3.mono hbw.size)⟩
        · have hz2 := hbg.size
          have hp0 : base s t - bAt s t = 0 := by omega
          have HR1 := Lib.hid hown1.lt
          rw [hp0] at hd ⊢
          clear hp0
          go_wp2_with (at_builtin; refine wpList_append_own _ rfl (.tmp 48) (.tmp 56) 27 rfl w1.heap.size 31 i0 (.agg #[.int .i64 0, .int .i64 0, .int .i64 0]) 3 24 Tryd.underlying27 I0.out I1.out I2.out I3.out rfl (by decide) v1 4 _ rfl (hown1.alloc _) ⟨w2.heap.size, 0, none⟩ 1 1 (rc (bAt s t) (1024 * s) 7) rfl rfl (new3 _ _ _ _ _) (one3 _ _ _) (by decide) (by decide) (by simp; omega) ?_; intro v3 w4 hown3 hg3 _; have hbg3 : Below w1.heap.size w1 w4 := (hbg.alloc hz2 _).grown hg3 (by simp; omega) (fun k hk => (HR1.out k hk).1))
          go_ret
          exact ⟨_, rfl, by rw [(HFLAT.out hpad).1, (HFLAT.out hpad).2]; exact World.ownsRow.mono hown3 hbw.size, hbw.trans (hbg3.mono hbw.size)⟩
end Lay
end Go.Proofs.YtefjkigifngomaaDoor
