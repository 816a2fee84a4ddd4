/- The contracts of layer 8 (package class and its reference): what each function returns, and that it leaves the world alone. Condition: the table class.sizes holds its ten numbers. -/
import Derived.Test.YteekbpcifiojlaaDoorChecked
import Derived.WalkKit
import Derived.WalkSpells
import Derived.WalkLawsBesides
import Derived.LoopTactic
import Derived.Lib.Hide
import Derived.BigQuiet
import Derived.Deep.QuietTactic
namespace Go.Proofs.YteekbpcifiojlaaDoor
open Go.RowKit
namespace Cls

theorem ret_int {k : IntKind} {a b : Int} (h : b = a) : Ending.returned (.int k a) = .returned (.int k b) := by rw [h]
theorem ret_two {k l : IntKind} {a b c d : Int} (h : c = a ∧ d = b) : Ending.returned (.tuple #[.int k a, .int l b]) = .returned (.tuple #[.int k c, .int l d]) := by rw [h.1, h.2]

/-- The world holds the table of sizes in block 0. -/
def Tab (w : World) : Prop := ∃ t fr, w.heap[0]? = some (.cells #[.int .i64 0, .int .i64 32, .int .i64 48, .int .i64 64, .int .i64 96, .int .i64 128, .int .i64 192, .int .i64 256, .int .i64 384, .int .i64 512] t fr)

def sz (c : Int) : Int := if c = 1 then 32 else if c = 2 then 48 else if c = 3 then 64 else if c = 4 then 96 else if c = 5 then 128 else if c = 6 then 192 else if c = 7 then 256 else if c = 8 then 384 else if c = 9 then 512 else 0
def bl (c : Int) : Int := if c = 1 then 32 else if c = 2 then 21 else if c = 3 then 16 else if c = 4 then 10 else if c = 5 then 8 else if c = 6 then 5 else if c = 7 then 4 else if c = 8 then 2 else if c = 9 then 2 else 0
def pd (c : Int) : Int := if c = 2 then 16 else if c = 4 then 64 else if c = 6 then 64 else if c = 8 then 256 else 0
def ofC (s : Int) : Int := if s < 1 then 0 else if s ≤ 32 then 1 else if s ≤ 48 then 2 else if s ≤ 64 then 3 else if s ≤ 96 then 4 else if s ≤ 128 then 5 else if s ≤ 192 then 6 else if s ≤ 256 then 7 else if s ≤ 384 then 8 else if s ≤ 512 then 9 else 0
def ofE (s : Int) : Int := if s < 1 then 2 else if s ≤ 512 then 0 else 22

theorem c_cases (c : Int) : c < 1 ∨ 9 < c ∨ c = 1 ∨ c = 2 ∨ c = 3 ∨ c = 4 ∨ c = 5 ∨ c = 6 ∨ c = 7 ∨ c = 8 ∨ c = 9 := by omega
theorem sz_out (c : Int) (h : c < 1 ∨ 9 < c) : sz c = 0 := by unfold sz; repeat (rw [if_neg (by omega)])
theorem bl_out (c : Int) (h : c < 1 ∨ 9 < c) : bl c = 0 := by unfold bl; repeat (rw [if_neg (by omega)])
theorem pd_out (c : Int) (h : c < 1 ∨ 9 < c) : pd c = 0 := by unfold pd; repeat (rw [if_neg (by omega)])

theorem is_yes (c : Int) (w : World) (h1 : 1 ≤ c) (h2 : c ≤ 9) : Calls Tryd.prog 25 #[.int .i64 c] w fun e w' => e = .returned (.bool true) ∧ w = w' := by
  go_enter Tryd.func25, Tryd.ntmps25
  go_wp2
  go_ret
  exact ⟨rfl, rfl⟩
theorem is_no (c : Int) (w : World) (h : c < 1 ∨ 9 < c) : Calls Tryd.prog 25 #[.int .i64 c] w fun e w' => e = .returned (.bool false) ∧ w = w' := by
  rcases h with h | h
  · go_enter Tryd.func25, Tryd.ntmps25
    go_wp2
    go_ret
    exact ⟨rfl, rfl⟩
  · have h1 : 1 ≤ c := by omega
    have h2 : decide (c ≤ 9) = false := by simpa using h
    go_enter Tryd.func25, Tryd.ntmps25
    go_wp2
    go_ret
    exact ⟨rfl, rfl⟩

theorem cells {w : World} (h : Tab w) : (∀ i, w.cell? ⟨0, i, none⟩ = (#[.int .i64 0, .int .i64 32, .int .i64 48, .int .i64 64, .int .i64 96, .int .i64 128, .int .i64 192, .int .i64 256, .int .i64 384, .int .i64 512] : Array Value)[i]?) := by
  obtain ⟨t, fr, h⟩ := h
  intro i
  simp [World.cell?, h]

set_option maxHeartbeats 400000 in
theorem size_any (c : Int) (w : World) (hT : Tab w) : Calls Tryd.prog 10 #[.int .i64 c] w fun e w' => e = .returned (.int .i64 (sz c)) ∧ w = w' := by
  have hc := cells hT
  rcases c_cases c with h | h | rfl | rfl | rfl | rfl | rfl | rfl | rfl | rfl | rfl
  · have e := sz_out c (.inl h)
    have H := Lib.hid e
    clear e hc
    go_enter Tryd.func10, Tryd.ntmps10
    go_wp2_with (go_at_call 25; refine (is_no _ _ (.inl h)).mono ?_; rintro e w' ⟨rfl, rfl⟩)
    go_ret
    exact ⟨ret_int H.out, rfl⟩
  · have e := sz_out c (.inr h)
    have H := Lib.hid e
    clear e hc
    go_enter Tryd.func10, Tryd.ntmps10
    go_wp2_with (go_at_call 25; refine (is_no _ _ (.inr h)).mono ?_; rintro e w' ⟨rfl, rfl⟩)
    go_ret
    exact ⟨ret_int H.out, rfl⟩
  all_goals
    go_enter Tryd.func10, Tryd.ntmps10
    go_wp2_with (go_at_call 25; refine (is_yes _ _ (by omega) (by omega)).mono ?_; rintro e w' ⟨rfl, rfl⟩)
    go_ret
    exact ⟨rfl, rfl⟩
theorem size_val (c v : Int) (h : sz c = v) (w : World) (hT : Tab w) : Calls Tryd.prog 10 #[.int .i64 c] w fun e w' => e = .returned (.int .i64 v) ∧ w = w' := h ▸ size_any c w hT
end Cls
end Go.Proofs.YteekbpcifiojlaaDoor
