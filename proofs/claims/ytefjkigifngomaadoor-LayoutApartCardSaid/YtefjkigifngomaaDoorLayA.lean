/- Layer 9 (layout): words; the contracts of is, Blocks(1), Right of both sides. Condition for the package: the table class.sizes holds its ten numbers. -/
import Derived.Test.YtefjkigifngomaaDoorChecked
import Derived.WalkKit
import Derived.WalkSpells
import Derived.WalkLawsBesides
import Derived.LoopTactic
import Derived.Lib.Hide
import Derived.Deep.RegionWith
import Derived.IntWalk
import Derived.WalkSmall
import Derived.BigQuiet
import Derived.Deep.QuietTactic
namespace Go.Proofs.YtefjkigifngomaaDoor
open Go.RowKit
namespace Lay

theorem ret_int {k : IntKind} {a b : Int} (h : b = a) : Ending.returned (.int k a) = .returned (.int k b) := by rw [h]
theorem ret_bool {a b : Bool} (h : b = a) : Ending.returned (.bool a) = .returned (.bool b) := by rw [h]
theorem ret_ib {k : IntKind} {a b : Int} {x y : Bool} (h : b = a ∧ y = x) : Ending.returned (.tuple #[.int k a, .bool x]) = .returned (.tuple #[.int k b, .bool y]) := by rw [h.1, h.2]

/-- The world holds the table of sizes in block 0. -/
def Tab (w : World) : Prop := ∃ t fr, w.heap[0]? = some (.cells #[.int .i64 0, .int .i64 32, .int .i64 48, .int .i64 64, .int .i64 96, .int .i64 128, .int .i64 192, .int .i64 256, .int .i64 384, .int .i64 512] t fr)
theorem Tab.lt {w : World} (h : Tab w) : 0 < w.heap.size := by
  obtain ⟨t, fr, h⟩ := h
  exact lt_of_block h
theorem Tab.below {w w' : World} (h : Tab w) (hb : Below w.heap.size w w') : Tab w' := by
  have hl := h.lt
  obtain ⟨t, fr, h⟩ := h
  exact ⟨t, fr, (hb.block _ hl).trans h⟩
theorem Tab.cell1 {w : World} (h : Tab w) : w.cell? ⟨0, 1, none⟩ = some (.int .i64 32) := by
  obtain ⟨t, fr, h⟩ := h
  simp [World.cell?, h]
theorem Tab.alloc {w : World} (h : Tab w) (o : Obj) : Tab (w.alloc o) := h.below ((Below.refl _ _).alloc (Nat.le_refl _) _)

theorem Tab.drewN {w : World} (h : Tab w) (n : Nat) : Tab (w.drewN n) := h
theorem is_one (w : World) : Calls Tryd.prog 33 #[.int .i64 1] w fun e w' => e = .returned (.bool true) ∧ w = w' := by
  go_enter Tryd.func33, Tryd.ntmps33
  go_wp2
  go_ret
  exact ⟨rfl, rfl⟩
theorem blocks_one (w : World) (hT : Tab w) : Calls Tryd.prog 28 #[.int .i64 1] w fun e w' => e = .returned (.int .i64 32) ∧ w = w' := by
  have hc := hT.cell1
  go_enter Tryd.func28, Tryd.ntmps28
  go_wp2_with (go_at_call 33; refine (is_one _).mono ?_; rintro e w' ⟨rfl, rfl⟩)
  go_ret
  exact ⟨rfl, rfl⟩

/-- Is a config of s slabs, t slots right? -/
def rt (s t : Int) : Bool := decide (7 ≤ s ∧ s ≤ 64 ∧ t % 2 = 0 ∧ 32 * s ≤ t ∧ t ≤ 8192)
theorem rt_yes {s t : Int} (h : rt s t = true) : 7 ≤ s ∧ s ≤ 64 ∧ t % 2 = 0 ∧ 32 * s ≤ t ∧ t ≤ 8192 := of_decide_eq_true h
theorem rt_no {s t : Int} (h : rt s t = false) : ¬ (7 ≤ s ∧ s ≤ 64 ∧ t % 2 = 0 ∧ 32 * s ≤ t ∧ t ≤ 8192) := of_decide_eq_false h
theorem tmod2 (t : Int) : (t.tmod 2 = 0) ↔ t % 2 = 0 := by
  rcases Int.le_total 0 t with h | h
  · rw [Int.tmod_eq_emod_of_nonneg h]
  · have e : t = -(-t) := by omega
    rw [e, Int.neg_tmod, Int.tmod_eq_emod_of_nonneg (by omega)]
    omega
end Lay
end Go.Proofs.YtefjkigifngomaaDoor
