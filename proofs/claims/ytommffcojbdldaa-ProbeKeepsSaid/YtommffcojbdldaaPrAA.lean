/- Layer 19: the contracts of own and given: a table's cells as those of the other kind. -/
import Derived.Test.YtommffcojbdldaaPrZ
import Derived.Deep.AppendLies
namespace Go.Proofs.Ytommffcojbdldaa
open Go.RowKit
namespace Pr

theorem cels_take {t : Tab} {k : Nat} (hk : k < t.length) : cels (t.take (k + 1)) = cels (t.take k) ++ [.int .u32 ((cl t k).1 : Int), .int .i64 (cl t k).2] := by
  rw [List.take_add_one, cels_app, cl_at hk]
  rfl
/-- The relation of their loops. -/
def CpR (E : TypeId) (t : Tab) (n B : Nat) (W : World) (G : Nat) (v i : Value) (w : World) : Prop :=
  ∃ (k : Nat) (A : Option Addr) (c : Nat), k ≤ n ∧ G = n - k ∧ i = .int .i64 (k : Int) ∧ v = .slice A k c ∧ w.ownsRow B E 2 (.slice A k c) k (cels (t.take k)) ∧ Below B W w
theorem cp_step {E : TypeId} {t : Tab} {n B k c : Nat} {A : Option Addr} {W w w1 w2 : World} {v : Value} (hn : t.length = n) (hk : k < n) (hb : Below B W w) (hWB : B = W.heap.size) (h1 : Below w.heap.size w w1)
    (ho : w.ownsRow B E 2 (.slice A k c) k (cels (t.take k))) (h2 : w2.ownsRow B E 2 v (k + 1) (cels (t.take k) ++ [.int .u32 ((cl t k).1 : Int), .int .i64 (cl t k).2])) (hg : w1.grownBy w2 (Value.slice A k c).ownBlock) (i : Value) (hi : i = .int .i64 ((k + 1 : Nat) : Int)) : CpR E t n B W (n - (k + 1)) v i w2 := by
  obtain ⟨A2, c2, rfl, _⟩ := Mem.own_shape h2
  rw [← cels_take (by omega)] at h2
  have hbw : B ≤ w.heap.size := by rw [hWB]; rw [hWB] at hb; exact hb.size
  refine ⟨k + 1, A2, c2, hk, rfl, hi, rfl, h2, (hb.trans (h1.mono hbw)).grown hg (Nat.le_trans hbw h1.size) fun j hj => ?_⟩
  rcases ho.2 with ⟨h3, _⟩ | ⟨g, cap, cur, h3, h4, _⟩
  · rw [h3] at hj
    cases hj
  · rw [h3] at hj
    injection hj with hj
    rw [← hj]
    exact h4
def OnRes (t : Tab) (n : Nat) (W : World) (e : Ending) (w : World) : Prop := (∃ A c, e = .returned (.slice A n c) ∧ OwnT w W.heap.size A n c t) ∧ Below W.heap.size W w
set_option maxRecDepth 20000 in
set_option maxHeartbeats 1600000 in
theorem own_any (t : Tab) (A : Option Addr) (n c : Nat) (W : World) (hr : RdT W A n t) (hn : n ≤ 100000) :
    Calls Try.prog 9 #[.slice A n c] W (OnRes t n W) := by
  obtain ⟨i0, hi0, hz0, hz1, hz2⟩ := info_at infoC
  have I0 := Lib.hid hi0
  have I1 := Lib.hid hz0
  have I2 := Lib.hid hz1
  have I3 := Lib.hid hz2
  have HR := Lib.hid hr
  have HLEN := Lib.hid hr.len
  have HFI := Lib.hid hr.fine
  clear hi0 hz0 hz1 hz2 hr
  go_enter Try.func9, Try.ntmps9
  go_wp2_with fail
  go_loopg [3, 4] n (fun G v i w => CpR 48 t n W.heap.size W G v i w)
  case atStart => exact ⟨0, none, 0, by omega, by omega, rfl, rfl, by simpa [cels] using World.ownsRow_nil _ _ _ _, Below.refl _ _⟩
  case round =>
    obtain ⟨k, A2, c2, hk, rfl, rfl, rfl, ho, hb⟩ := hrel
    by_cases hkn : k < n
    · obtain ⟨b, off, hA, hlt, hc⟩ := (HR.out.below hb).rows (by omega)
      obtain ⟨r1, r2⟩ := hc k hkn
      obtain ⟨u, hu⟩ : ∃ u, (cl t k).1 = u := ⟨_, rfl⟩
      obtain ⟨v, hv⟩ : ∃ v, (cl t k).2 = v := ⟨_, rfl⟩
      have STEP := Lib.hid (fun w1 w2 v h1 h2 hg i hi => cp_step (w1 := w1) (w2 := w2) (v := v) HLEN.out hkn hb rfl h1 ho h2 hg i hi)
      rw [hu] at r1 STEP
      rw [hv] at r2 STEP
      subst hA
      have HO := Lib.hid ho
      have HBS := Lib.hid hb.size
      obtain ⟨Tk, hTk⟩ : ∃ Tk, cels (t.take k) = Tk := ⟨_, rfl⟩
      rw [hTk] at HO STEP
      have q2 : (0 : Int) ≤ (k : Int) := by omega
      have q3 : (k : Int) < (n : Int) := by omega
      clear ho hb hc hTk hu hv
      go_wp2_with fail
      go_region_law (refine step_append_lies _ rfl (.tmp 11) (.tmp 23) 25 rfl W.heap.size 48 i0 (.agg #[.int .u32 0, .int .i64 0]) 2 16 Try.underlying25 I0.out I1.out I2.out I3.out rfl (by decide) (.slice A2 k c2) k Tk (by simp [Act.eval]) (by exact World.ownsRow.alloc (w := wr.drew) HO.out _) ⟨wr.heap.size, 0, none⟩ 1 1 [.int .u32 (u : Int), .int .i64 v] (by simp [Act.eval]) rfl (by exact World.news_of_block (heap_alloc_new wr.drew _)) (by intro x hx; simp at hx; rcases hx with rfl | rfl <;> rfl) (by decide) (by simp only [maxLen]; omega) (by omega) (by have := HBS.out; simp; omega) _ rfl ?_; intro g3 c3 w3 hown3 hg3 _ _; have S3 := Lib.hid (STEP.out _ w3 _ (Below.alloc (w := wr.drew) (Below.drew (Below.refl _ _)) (Nat.le_refl _) _) hown3 hg3); clear hown3 hg3)
      all_goals
        go_wp2_with fail
        go_roundg (n - (k + 1))
        case measure => omega
        case rel => exact S3.out _ rfl
    · obtain rfl : n = k := by omega
      have FIN := Lib.hid (show OnRes t n W (.returned (.slice A2 n c2)) wr from by
        refine ⟨⟨A2, c2, rfl, ?_, HLEN.out, HFI.out⟩, hb⟩
        rw [List.take_of_length_le (by rw [HLEN.out]; exact Nat.le_refl _)] at ho
        exact ho)
      clear ho hb
      go_wp2_with fail
      go_ret
      exact FIN.out
def GvRes (t : Tab) (n : Nat) (W : World) (e : Ending) (w : World) : Prop := (∃ A c, e = .returned (.slice A n c) ∧ OwnR w W.heap.size A n c t) ∧ Below W.heap.size W w
set_option maxRecDepth 20000 in
set_option maxHeartbeats 1600000 in
theorem given_any (t : Tab) (A : Option Addr) (n c : Nat) (W : World) (hr : RdT W A n t) (hn : n ≤ 100000) :
    Calls Try.prog 24 #[.slice A n c] W (GvRes t n W) := by
  obtain ⟨i0, hi0, hz0, hz1, hz2⟩ := info_at infoR
  have I0 := Lib.hid hi0
  have I1 := Lib.hid hz0
  have I2 := Lib.hid hz1
  have I3 := Lib.hid hz2
  have HR := Lib.hid hr
  have HLEN := Lib.hid hr.len
  have HFI := Lib.hid hr.fine
  clear hi0 hz0 hz1 hz2 hr
  go_enter Try.func24, Try.ntmps24
  go_wp2_with fail
  go_loopg [3, 4] n (fun G v i w => CpR 51 t n W.heap.size W G v i w)
  case atStart => exact ⟨0, none, 0, by omega, by omega, rfl, rfl, by simpa [cels] using World.ownsRow_nil _ _ _ _, Below.refl _ _⟩
  case round =>
    obtain ⟨k, A2, c2, hk, rfl, rfl, rfl, ho, hb⟩ := hrel
    by_cases hkn : k < n
    · obtain ⟨b, off, hA, hlt, hc⟩ := (HR.out.below hb).rows (by omega)
      obtain ⟨r1, r2⟩ := hc k hkn
      obtain ⟨u, hu⟩ : ∃ u, (cl t k).1 = u := ⟨_, rfl⟩
      obtain ⟨v, hv⟩ : ∃ v, (cl t k).2 = v := ⟨_, rfl⟩
      have STEP := Lib.hid (fun w1 w2 v h1 h2 hg i hi => cp_step (w1 := w1) (w2 := w2) (v := v) HLEN.out hkn hb rfl h1 ho h2 hg i hi)
      rw [hu] at r1 STEP
      rw [hv] at r2 STEP
      subst hA
      have HO := Lib.hid ho
      have HBS := Lib.hid hb.size
      obtain ⟨Tk, hTk⟩ : ∃ Tk, cels (t.take k) = Tk := ⟨_, rfl⟩
      rw [hTk] at HO STEP
      have q2 : (0 : Int) ≤ (k : Int) := by omega
      have q3 : (k : Int) < (n : Int) := by omega
      clear ho hb hc hTk hu hv
      go_wp2_with fail
      go_region_law (refine step_append_lies _ rfl (.tmp 11) (.tmp 23) 22 rfl W.heap.size 51 i0 (.agg #[.int .u32 0, .int .i64 0]) 2 16 Try.underlying22 I0.out I1.out I2.out I3.out rfl (by decide) (.slice A2 k c2) k Tk (by simp [Act.eval]) (by exact World.ownsRow.alloc (w := wr.drew) HO.out _) ⟨wr.heap.size, 0, none⟩ 1 1 [.int .u32 (u : Int), .int .i64 v] (by simp [Act.eval]) rfl (by exact World.news_of_block (heap_alloc_new wr.drew _)) (by intro x hx; simp at hx; rcases hx with rfl | rfl <;> rfl) (by decide) (by simp only [maxLen]; omega) (by omega) (by have := HBS.out; simp; omega) _ rfl ?_; intro g3 c3 w3 hown3 hg3 _ _; have S3 := Lib.hid (STEP.out _ w3 _ (Below.alloc (w := wr.drew) (Below.drew (Below.refl _ _)) (Nat.le_refl _) _) hown3 hg3); clear hown3 hg3)
      all_goals
        go_wp2_with fail
        go_roundg (n - (k + 1))
        case measure => omega
        case rel => exact S3.out _ rfl
    · obtain rfl : n = k := by omega
      have FIN := Lib.hid (show GvRes t n W (.returned (.slice A2 n c2)) wr from by
        refine ⟨⟨A2, c2, rfl, ?_, HLEN.out, HFI.out⟩, hb⟩
        rw [List.take_of_length_le (by rw [HLEN.out]; exact Nat.le_refl _)] at ho
        exact ho)
      clear ho hb
      go_wp2_with fail
      go_ret
      exact FIN.out
end Pr
end Go.Proofs.Ytommffcojbdldaa
