/- Layer 18 (chance): the contract of set. -/
import Derived.Test.YtfdbekgmpmfgpaaChD
namespace Go.Proofs.Ytfdbekgmpmfgpaa
open Go.RowKit
namespace Ch

def pre (n h k : Nat) : List Nat := (List.range k).map fun i => (h + i) % n
theorem pre_succ (n h k : Nat) : pre n h (k + 1) = pre n h k ++ [(h + k) % n] := by simp [pre, List.range_succ]
theorem pre_all (n h : Nat) : pre n h n = ring n h := rfl
theorem ints_app (a b : List Nat) : ints (a ++ b) = ints a ++ ints b := by simp [ints]
/-- What set answers. -/
def SetRes (us : List Bool) (vo : Value) (h : Nat) (W : World) (e : Ending) (w : World) : Prop :=
  ∃ p ub, e = .returned (.pointer (some ⟨p, 0, none⟩)) ∧ Wheel p ub (ring us.length h) us vo w ∧ W.heap.size ≤ p ∧ W.heap.size ≤ ub ∧ Below W.heap.size W w
/-- The relation of set's loop. -/
def SetR (n h p ub uc : Nat) (us : List Bool) (vo : Value) (W : World) (i : Value) (w : World) : Prop :=
  ∃ k : Nat, k ≤ n ∧ i = .int .i64 k ∧ ∃ A c, k ≤ c ∧ w.heap[p]? = some (.cells #[.slice A k c, .slice (some ⟨ub, 0, none⟩) n uc, vo] 48 (0, 0)) ∧
    w.ownsRow (p + 1) 3 1 (.slice A k c) k (ints (pre n h k)) ∧ w.ownsRow W.heap.size 4 1 (.slice (some ⟨ub, 0, none⟩) n uc) n (bools us) ∧ ub < p ∧ Below W.heap.size W w
theorem new_int (w : World) (x : Int) (t : TypeId) : ∀ j u, [Value.int .i64 x][j]? = some u → (w.alloc (.cells #[.int .i64 x] t)).cell? ((⟨w.heap.size, 0, none⟩ : Addr).add j) = some u := by
  intro j u hj
  rw [Mem.add_none, Nat.zero_add]
  match j, hj with
  | 0, hj => simpa [World.cell?_alloc_new] using hj
theorem cell_blk {w : World} {p : Nat} {u v x : Value} {T : TypeId} (h : w.heap[p]? = some (.cells #[u, v, x] T (0, 0))) : w.cell? ⟨p, 0, none⟩ = some u := by
  unfold World.cell?
  rw [h]
  rfl
theorem free_blk {w : World} {p : Nat} {u v x : Value} {T : TypeId} (h : w.heap[p]? = some (.cells #[u, v, x] T (0, 0))) : w.frozen? ⟨p, 0, none⟩ = false := by
  unfold World.frozen?
  rw [h]
  rfl
theorem rd_new (w : World) (x : Int) (t : TypeId) : Mem.Rd (w.alloc (.cells #[.int .i64 x] t)) (some ⟨w.heap.size, 0, none⟩) [.int .i64 x] := fun _ =>
  ⟨w.heap.size, 0, rfl, by simp, fun i hi => by
    match i, hi with
    | 0, _ => simp [World.cell?_alloc_new]⟩
theorem own_ge {w : World} {base : Nat} {e : TypeId} {size : Nat} {v : Value} {n : Nat} {xs : List Value} (h : w.ownsRow base e size v n xs) : ∀ k, v.ownBlock = some k → base ≤ k := by
  intro k hk
  rcases h.2 with ⟨rfl, _⟩ | ⟨g, cap, cur, rfl, hb, _⟩
  · cases hk
  · simp only [Value.ownBlock, Option.some.injEq] at hk
    omega
theorem ring_len (n h : Nat) : (ring n h).length = n := by simp [ring]
theorem wheel_of {p ub n h uc c : Nat} {us : List Bool} {vo : Value} {A : Option Addr} {w : World} {B B2 : Nat} (hn : us.length = n) (hblk : w.heap[p]? = some (.cells #[.slice A n c, .slice (some ⟨ub, 0, none⟩) n uc, vo] 48 (0, 0)))
    (hrow : w.ownsRow B 3 1 (.slice A n c) n (ints (ring n h))) (hused : w.ownsRow B2 4 1 (.slice (some ⟨ub, 0, none⟩) n uc) n (bools us)) (hu : ub < p) (hlt : ub < w.heap.size) (h0 : 0 < n) : Wheel p ub (ring n h) us vo w := by
  subst hn
  obtain ⟨_, _, e1, hc⟩ := Mem.own_shape hrow
  injection e1 with _ _ e1
  obtain ⟨_, _, e2, hc2⟩ := Mem.own_shape hused
  injection e2 with _ _ e2
  refine ⟨A, c, uc, ?_, by omega, hlt, by rw [ring_len]; omega, by omega, Mem.Rd.of_own hrow, ?_, ?_⟩
  · rw [ring_len]; exact hblk
  · intro j hj
    have := hused.cellAt j (by omega)
    rw [this]
    unfold bools
    rw [List.getElem?_map, List.getElem?_eq_getElem hj, List.getD_eq_getElem?_getD, List.getElem?_eq_getElem hj]
    rfl
  · intro j
    exact hused.frozenAt _
theorem set_step {n h p ub uc k x c1 c2 : Nat} {us : List Bool} {vo : Value} {W wr w2 : World} {A1 A2 : Option Addr} (hlt : k < n) (hblk2 : w2.heap[p]? = some (.cells #[.slice A1 k c1, .slice (some ⟨ub, 0, none⟩) n uc, vo] 48 (0, 0)))
    (hown : w2.ownsRow (p + 1) 3 1 (.slice A2 (k + 1) c2) (k + 1) (ints (pre n h k) ++ [.int .i64 (x : Int)])) (hx : (h + k) % n = x) (hused : wr.ownsRow W.heap.size 4 1 (.slice (some ⟨ub, 0, none⟩) n uc) n (bools us)) (hub : ub < p)
    (hp : W.heap.size ≤ p) (hb2 : Below (p + 1) wr w2) (hbw : Below W.heap.size W wr) (_ : p < wr.heap.size) (i : Value) (hi : i = .int .i64 ((k + 1 : Nat) : Int)) :
    SetR n h p ub uc us vo W i (w2.setCell ⟨p, 0, none⟩ (.slice A2 (k + 1) c2)) := by
  obtain ⟨_, _, e1, hc⟩ := Mem.own_shape hown
  injection e1 with _ _ e1
  refine ⟨k + 1, by omega, hi, A2, c2, by omega, ?_, ?_, ?_, hub, ?_⟩
  · simp [World.setCell, Array.getElem?_modify, hblk2]
  · refine ownsRow_setCell_below ?_ (by simp) _
    rw [pre_succ, ints_app, hx]
    exact hown
  · refine ownsRow_setCell_other ?_ (by simp [Value.ownBlock]; omega) _
    obtain ⟨e2, e3⟩ := hused
    refine ⟨e2, ?_⟩
    rcases e3 with ⟨e3, e4⟩ | ⟨g, cap, cur, e3, e4, e5, e6⟩
    · cases e3
    · injection e3 with e7 e8 e9
      injection e7 with e7
      injection e7 with e7
      subst e7
      exact .inr ⟨ub, cap, cur, by rw [e9], e4, (hb2.block ub (by omega)).trans e5, e6⟩
  · exact (hbw.trans (hb2.mono (by omega))).setCell (by simpa using hp) _
set_option maxHeartbeats 1600000 in
theorem set_any (us : List Bool) (h : Nat) (A : Option Addr) (c : Nat) (Ao : Option Addr) (m co : Nat) (W : World) (hr : Mem.Rd W A (bools us)) (h0 : 0 < us.length) (hm : us.length ≤ 1000) (hh : h < us.length) :
    Calls Try.prog 20 #[.slice A us.length c, .slice Ao m co, .int .i64 (h : Int)] W (SetRes us (.slice Ao m co) h W) := by
  have HC := Lib.hid (clone_any us A c W hr h0 hm)
  obtain ⟨i0, hi0, hz0, hz1, hz2⟩ := info_at infoI
  have I0 := Lib.hid hi0
  have I1 := Lib.hid hz0
  have I2 := Lib.hid hz1
  have I3 := Lib.hid hz2
  obtain ⟨n, hn⟩ : ∃ n, us.length = n := ⟨_, rfl⟩
  have HN := Lib.hid hn
  rw [hn] at h0 hm hh HC ⊢
  clear hi0 hz0 hz1 hz2 hr hn
  go_enter Try.func20, Try.ntmps20
  go_wp2_with fail
  refine HC.out.mono ?_
  rintro e w1 ⟨⟨v, rfl, hown⟩, hb⟩
  obtain ⟨ub, uc, rfl, hub, hlt⟩ := hown.form h0
  have HOWN := Lib.hid hown
  clear hown
  go_wp2_with fail
  obtain ⟨p, hp⟩ : ∃ p, w1.heap.size = p := ⟨_, rfl⟩
  have hB1 : Below W.heap.size W (w1.alloc (.cells #[.slice none 0 0, .slice (some ⟨ub, 0, none⟩) n uc, .slice Ao m co] 48)) := hb.alloc hb.size _
  have hblk := heap_alloc_new w1 (.cells #[.slice none 0 0, .slice (some ⟨ub, 0, none⟩) n uc, .slice Ao m co] 48)
  have hown1 := HOWN.out.alloc (.cells #[.slice none 0 0, .slice (some ⟨ub, 0, none⟩) n uc, .slice Ao m co] 48)
  rw [hp] at hblk hlt ⊢
  have HP := Lib.hid (show W.heap.size ≤ p by rw [← hp]; exact hb.size)
  have START : SetR n h p ub uc us (.slice Ao m co) W (.int .i64 0) (w1.alloc (.cells #[.slice none 0 0, .slice (some ⟨ub, 0, none⟩) n uc, .slice Ao m co] 48)) :=
    ⟨0, by omega, rfl, none, 0, by omega, hblk, World.ownsRow_nil _ _ _ _, hown1, hlt, hB1⟩
  have HS := Lib.hid START
  clear START hblk hown1 hB1 hb HOWN
  go_loopw [18] (SetR n h p ub uc us (.slice Ao m co) W) (fun i _ => n - (intOf i).toNat)
  case atStart => exact HS.out
  case round =>
    obtain ⟨k, hk, rfl, A1, c1, hc1, hblk, hrow, hused, hubp, hBw⟩ := hrel
    by_cases hlt2 : k < n
    · have c0 : wr.cell? ⟨p, 0, none⟩ = some (.slice A1 k c1) := cell_blk hblk
      have f0 : wr.frozen? ⟨p, 0, none⟩ = false := free_blk hblk
      have hw : IntKind.i64.wrap ((h : Int) + (k : Int)) = (h : Int) + (k : Int) := IntWalk.i64_in _ (by omega)
      obtain ⟨x, hx⟩ : ∃ x, (h + k) % n = x := ⟨_, rfl⟩
      have hmod : ((h : Int) + (k : Int)) % (n : Int) = (x : Int) := by rw [← hx]; norm_cast
      have hmod2 : ((h : Int) + (k : Int)).tmod (n : Int) = (x : Int) := by rw [Int.tmod_eq_emod_of_nonneg (by omega)]; exact hmod
      have ca : ∀ o, (wr.alloc o).cell? ⟨p, 0, none⟩ = some (.slice A1 k c1) := fun o => by rw [World.cell?_alloc_lt _ _ _ (lt_of_block hblk)]; exact c0
      have HX := Lib.hid hx
      have hnn : ¬ (n = 0) := by omega
      clear hx
      go_wp2_with fail
      go_region_law (refine Mem.step_append_rd _ rfl (.tmp 25) (.tmp 31) 24 rfl (p + 1) 3 i0 (.int .i64 0) 8 Try.underlying24 I0.out I1.out I2.out I3.out rfl (.slice A1 k c1) k (ints (pre n h k)) (by simp [Act.eval]) (by exact World.ownsRow.alloc (w := wr.drew) hrow _) (some ⟨wr.heap.size, 0, none⟩) 1 1 [.int .i64 (x : Int)] (by simp [Act.eval]) rfl (by exact rd_new wr x _) (by intro u hu; simp at hu; subst hu; rfl) (by simp only [maxLen]; omega) (by omega) (by have hq := lt_of_block hblk; first | exact hq | (simp; done) | (simp; omega)) ?_; intro v1 w2 hown1 hg1 _; obtain ⟨A2, c2, rfl, _⟩ := Mem.own_shape hown1; have hb2 : Below (p + 1) wr w2 := Below.grown (Below.alloc (w := wr.drew) (Below.drew (Below.refl _ _)) (by have hq := lt_of_block hblk; first | exact hq | (simp; done) | (simp; omega)) _) hg1 (by have hq := lt_of_block hblk; first | exact hq | (simp; done) | (simp; omega)) (own_ge hrow); have hblk2 := (hb2.block p (by omega)).trans hblk; have HB2 := Lib.hid hblk2; have cc : w2.cell? ⟨p, 0, none⟩ = some (.slice A1 k c1) := cell_blk hblk2; have ff : w2.frozen? ⟨p, 0, none⟩ = false := free_blk hblk2; have HO1 := Lib.hid hown1; clear hblk2 hown1)
      all_goals
        have hs := set_step hlt2 HB2.out HO1.out HX.out hused hubp HP.out hb2 hBw (lt_of_block hblk)
        go_wp2_with fail
        go_roundw
        case rel => exact hs _ (by go_num)
        case measure => simp [intOf]; omega
    · obtain rfl : k = n := by omega
      have hW := wheel_of HN.out hblk hrow hused hubp (by have := lt_of_block hblk; omega) h0
      go_wp2
      go_ret
      exact ⟨p, ub, rfl, by rw [HN.out]; exact hW, HP.out, hub, hBw⟩
end Ch
end Go.Proofs.Ytfdbekgmpmfgpaa
