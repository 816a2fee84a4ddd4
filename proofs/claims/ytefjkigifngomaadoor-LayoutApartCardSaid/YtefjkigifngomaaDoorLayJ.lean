/- Layer 9 (layout): the contract of the reference's Same (of two rows of the same runs), and what must come at any rate (the law's own lies). Condition for the package: the table class.sizes holds its ten numbers. -/
import Derived.Test.YtefjkigifngomaaDoorLayI
namespace Go.Proofs.YtefjkigifngomaaDoor
open Go.RowKit
namespace Lay

theorem cells_at (rs : List (Int × Int × Int)) : ∀ k, k < rs.length → ∃ x y z : Int, (cellsOf rs)[k * 3]? = some (.int .i64 x) ∧ (cellsOf rs)[k * 3 + 1]? = some (.int .i64 y) ∧ (cellsOf rs)[k * 3 + 2]? = some (.int .i64 z) := by
  induction rs with
  | nil => intro k hk; simp at hk
  | cons r rs ih =>
    intro k hk
    have e : cellsOf (r :: rs) = rc r.1 r.2.1 r.2.2 ++ cellsOf rs := by simp [cellsOf]
    have hl : (rc r.1 r.2.1 r.2.2).length = 3 := rfl
    cases k with
    | zero => exact ⟨r.1, r.2.1, r.2.2, by rw [e]; rfl, by rw [e]; rfl, by rw [e]; rfl⟩
    | succ k =>
      obtain ⟨x, y, z, h1, h2, h3⟩ := ih k (by simpa using hk)
      refine ⟨x, y, z, ?_, ?_, ?_⟩
      · rw [e, List.getElem?_append_right (by rw [hl]; omega), hl, show (k + 1) * 3 - 3 = k * 3 by omega, h1]
      · rw [e, List.getElem?_append_right (by rw [hl]; omega), hl, show (k + 1) * 3 + 1 - 3 = k * 3 + 1 by omega, h2]
      · rw [e, List.getElem?_append_right (by rw [hl]; omega), hl, show (k + 1) * 3 + 2 - 3 = k * 3 + 2 by omega, h3]
def SameR (W : World) (n : Nat) (i : Value) (w : World) : Prop := ∃ k : Nat, k ≤ n ∧ i = .int .i64 k ∧ Mem.QQ W w
set_option maxHeartbeats 3200000 in
theorem same_eq (v u : Value) (b1 b2 : Nat) (rs : List (Int × Int × Int)) (W : World) (hlen : rs.length ≤ 1000) (hv : W.ownsRow b1 31 3 v rs.length (cellsOf rs)) (hu : W.ownsRow b2 31 3 u rs.length (cellsOf rs)) :
    Calls Tryd.prog 16 #[v, u] W fun e W' => e = .returned (.bool true) ∧ Below W.heap.size W W' := by
  by_cases h0 : rs.length = 0
  · rw [h0] at hv hu
    obtain ⟨A, c, rfl, _⟩ := Mem.own_shape hv
    obtain ⟨B, d, rfl, _⟩ := Mem.own_shape hu
    clear hv hu h0
    go_enter Tryd.func16, Tryd.ntmps16
    go_wp2
    go_loop [5] (fun i => i = .int .i64 0) (fun _ => 0)
    case atStart => rfl
    case round =>
      subst hrel
      go_wp2
      go_ret
      exact ⟨rfl, Below.refl _ _⟩
  · obtain ⟨g, c, rfl, _, _⟩ := hv.form (by omega)
    obtain ⟨f, d, rfl, _, _⟩ := hu.form (by omega)
    have hc1 := fun j hj => hv.cellAt j hj
    have hc2 := fun j hj => hu.cellAt j hj
    have HC1 := Lib.hid hc1
    have HC2 := Lib.hid hc2
    have HA := Lib.hid (cells_at rs)
    clear hv hu hc1 hc2 h0
    obtain ⟨n, hn⟩ : ∃ n, rs.length = n := ⟨_, rfl⟩
    rw [hn] at hlen HC1 HC2 HA ⊢
    clear hn
    go_enter Tryd.func16, Tryd.ntmps16
    go_wp2
    go_loopw [5] (SameR W n) (fun i _ => n - (intOf i).toNat)
    case atStart => exact ⟨0, by omega, rfl, Mem.QQ.refl _⟩
    case round =>
      obtain ⟨k, hk, rfl, q, rfl⟩ := hrel
      by_cases hlt : k < n
      · obtain ⟨x, y, z, e1, e2, e3⟩ := HA.out k hlt
        have p1 : W.cell? ⟨g, k * 3, none⟩ = some (.int .i64 x) := (HC1.out _ (by omega)).trans e1
        have p2 : W.cell? ⟨g, k * 3 + 1, none⟩ = some (.int .i64 y) := (HC1.out _ (by omega)).trans e2
        have p3 : W.cell? ⟨g, k * 3 + 2, none⟩ = some (.int .i64 z) := (HC1.out _ (by omega)).trans e3
        have r1 : W.cell? ⟨f, k * 3, none⟩ = some (.int .i64 x) := (HC2.out _ (by omega)).trans e1
        have r2 : W.cell? ⟨f, k * 3 + 1, none⟩ = some (.int .i64 y) := (HC2.out _ (by omega)).trans e2
        have r3 : W.cell? ⟨f, k * 3 + 2, none⟩ = some (.int .i64 z) := (HC2.out _ (by omega)).trans e3
        have hk0 : (0 : Int) ≤ (k : Int) := by omega
        have hk1 : (k : Int) < (n : Int) := by omega
        clear e1 e2 e3
        go_wp2_with fail
        go_quiet (fail)
        go_wp2
        go_roundw
        case rel => exact ⟨k + 1, by omega, by go_num, _, rfl⟩
        case measure => simp [intOf]; omega
      · obtain rfl : k = n := by omega
        go_wp2
        go_ret
        exact ⟨rfl, below_drewN (Below.refl _ _) _⟩
end Lay
end Go.Proofs.YtefjkigifngomaaDoor
