/- Layer 19: the contracts of the ring's methods. -/
import Derived.Test.YtommffcojbdldaaPrB
namespace Go.Proofs.Ytommffcojbdldaa
open Go.RowKit
namespace Pr

/-- A cell as a value. -/
def cv (p : Nat × Int) : Value := .agg #[.int .u32 (p.1 : Int), .int .i64 p.2]
/-- The boxes of a ring and of a result. -/
theorem ring_box (W : World) (v : Value) : let w := (W.alloc (.cells #[v] 54)).alloc (.cells #[.int .u32 0, .int .i64 0] 48)
    w.cell? ⟨W.heap.size, 0, none⟩ = some v ∧ w.cell? ⟨W.heap.size + 1, 0, none⟩ = some (.int .u32 0) ∧ w.cell? ⟨W.heap.size + 1, 1, none⟩ = some (.int .i64 0) ∧ w.frozen? ⟨W.heap.size + 1, 0, none⟩ = false ∧ w.frozen? ⟨W.heap.size + 1, 1, none⟩ = false ∧ Below W.heap.size W w := by
  intro w
  refine ⟨by simp [w, go_sem], by simp [w, go_sem], by simp [w, go_sem], by simp [w, go_sem], by simp [w, go_sem], ?_⟩
  exact ((Below.refl _ _).alloc (Nat.le_refl _) _).alloc (by simp) _
theorem box_set {w : World} {B : Nat} {p q : Value} (h1 : w.cell? ⟨B, 0, none⟩ = some p) (h2 : w.cell? ⟨B, 1, none⟩ = some q) (u v : Value) :
    ((w.setCell ⟨B, 0, none⟩ u).setCell ⟨B, 1, none⟩ v).cell? ⟨B, 0, none⟩ = some u ∧ ((w.setCell ⟨B, 0, none⟩ u).setCell ⟨B, 1, none⟩ v).cell? ⟨B, 1, none⟩ = some v := by
  constructor
  · rw [World.cell?_setCell_other, World.cell?_setCell_same (h := h1)]
    intro e
    injection e with _ e
    cases e
  · have : (w.setCell ⟨B, 0, none⟩ u).cell? ⟨B, 1, none⟩ = some q := by
      rw [World.cell?_setCell_other]
      · exact h2
      · intro e
        injection e with _ e
        cases e
    rw [World.cell?_setCell_same (h := this)]
set_option maxHeartbeats 800000 in
theorem at_any (t : Tab) (A : Option Addr) (n c x : Nat) (W : World) (h : RdT W A n t) (h0 : 0 < n) (hn : n ≤ 100000) (hx : x ≤ 1000000) :
    Calls Try.prog 35 #[.agg #[.slice A n c], .int .i64 (x : Int)] W fun e w => e = .returned (cv (cl t (x % n))) ∧ Below W.heap.size W w := by
  obtain ⟨b, off, rfl, hlt, hc⟩ := h.rows h0
  obtain ⟨h1, h2⟩ := hc (x % n) (Nat.mod_lt _ h0)
  unfold cv
  obtain ⟨u, hu⟩ : ∃ u, (cl t (x % n)).1 = u := ⟨_, rfl⟩
  obtain ⟨v, hv⟩ : ∃ v, (cl t (x % n)).2 = v := ⟨_, rfl⟩
  rw [hu] at h1 ⊢
  rw [hv] at h2 ⊢
  obtain ⟨y, hy⟩ : ∃ y, x % n = y := ⟨_, rfl⟩
  have hyn : y < n := by rw [← hy]; exact Nat.mod_lt _ h0
  rw [hy] at h1 h2
  have hm1 : (x : Int).tmod (n : Int) = (y : Int) := by
    rw [Int.tmod_eq_emod_of_nonneg (by omega), ← hy]
    norm_cast
  have hm2 : (x : Int) % (n : Int) = (y : Int) := by rw [← hy]; norm_cast
  have hnn : ¬ (n = 0) := by omega
  have hnn2 : ¬ ((n : Int) = 0) := by omega
  have q0 : (0 : Int) ≤ (y : Int) := by omega
  have q1 : (y : Int) < (n : Int) := by omega
  have bx := ring_box W (.slice (some ⟨b, off, none⟩) n c)
  have h1' := (bx.2.2.2.2.2.cell (p := ⟨b, off + y * 2, none⟩) hlt).trans h1
  have h2' := (bx.2.2.2.2.2.cell (p := ⟨b, off + y * 2 + 1, none⟩) hlt).trans h2
  have hbB : b ≠ W.heap.size + 1 := by omega
  clear h hc hu hv hy h1 h2
  go_enter Try.func35, Try.ntmps35
  go_wp2_with fail
  generalize hw0 : (W.alloc (.cells #[.slice (some ⟨b, off, none⟩) n c] 54)).alloc (.cells #[.int .u32 0, .int .i64 0] 48) = w0 at *
  obtain ⟨k1, k2, k3, k4, k5, k6⟩ := bx
  obtain ⟨B, hB⟩ : ∃ B, W.heap.size = B := ⟨_, rfl⟩
  rw [hB] at k1 k2 k3 k4 k5 hbB ⊢
  have HB := Lib.hid hB
  have K6 := Lib.hid k6
  clear hw0 hB k6
  go_still_tail 9, (by kernel_rfl)
  go_wp2_with fail
  obtain ⟨c1, c2⟩ := box_set (w := w0) (B := B + 1) k2 k3 (.int .u32 (u : Int)) (.int .i64 v)
  exact bodyPost_ret (v := .agg #[.int .u32 (u : Int), .int .i64 v]) (by simp [results, Try.results35, go_sem, c1, c2]) rfl ⟨rfl, ((K6.out.setCell (by simp [HB.out]) _).setCell (by simp [HB.out]) _).drew⟩
end Pr
end Go.Proofs.Ytommffcojbdldaa
