/- Layer 1 (num): words for bytes in memory and the plain numbers of Load; the contracts of width, divides, place, May. No condition. -/
import Derived.Test.YtijfhgbddkcglaaChecked
import Derived.WalkKit
import Derived.WalkSpells
import Derived.WalkLawsBesides
import Derived.LoopTactic
import Derived.Lib.Hide
import Derived.Deep.RegionWith
import Derived.IntWalk
import Derived.WalkSmall
namespace Go.Proofs.Ytijfhgbddkcglaa
open Go.RowKit
namespace Num

theorem ret_int {k : IntKind} {a b : Int} (h : b = a) : Ending.returned (.int k a) = .returned (.int k b) := by rw [h]
theorem ret_bool {a b : Bool} (h : b = a) : Ending.returned (.bool a) = .returned (.bool b) := by rw [h]
theorem ret_two {k l : IntKind} {a b c d : Int} (h : c = a ∧ d = b) : Ending.returned (.tuple #[.int k a, .int l b]) = .returned (.tuple #[.int k c, .int l d]) := by rw [h.1, h.2]

/-- A slice's cells are these bytes. -/
def Bytes (w : World) (A : Option Addr) (l : List Int) : Prop :=
  (∀ x ∈ l, 0 ≤ x ∧ x ≤ 255) ∧ (0 < l.length → ∃ b off, A = some ⟨b, off, none⟩ ∧ b < w.heap.size ∧ ∀ i, i < l.length → w.cell? ⟨b, off + i, none⟩ = some (.int .u8 (l.getD i 0)))
theorem Bytes.below {w w' : World} {A : Option Addr} {l : List Int} (h : Bytes w A l) (hb : Below w.heap.size w w') : Bytes w' A l := by
  refine ⟨h.1, fun hl => ?_⟩
  obtain ⟨b, off, ha, hlt, hc⟩ := h.2 hl
  exact ⟨b, off, ha, Nat.lt_of_lt_of_le hlt hb.size, fun i hi => (hb.cell (p := ⟨b, off + i, none⟩) hlt).trans (hc i hi)⟩
theorem Bytes.getD {w : World} {A : Option Addr} {l : List Int} (h : Bytes w A l) (i : Nat) : 0 ≤ l.getD i 0 ∧ l.getD i 0 ≤ 255 := by
  rw [List.getD_eq_getElem?_getD]
  by_cases hi : i < l.length
  · rw [List.getElem?_eq_getElem hi]
    exact h.1 _ (List.getElem_mem hi)
  · rw [List.getElem?_eq_none (by omega)]
    exact ⟨by decide, by decide⟩

def isW (w : Int) : Bool := decide (w = 1 ∨ w = 2 ∨ w = 4 ∨ w = 8)
def plE (n at_ w : Int) : Int := if isW w = false then 2 else if at_ < 0 ∨ n < at_ ∨ n - at_ < w then 6 else if at_ % w ≠ 0 then 9 else 0
theorem isW_yes {w : Int} (h : isW w = true) : w = 1 ∨ w = 2 ∨ w = 4 ∨ w = 8 := of_decide_eq_true h
theorem isW_no {w : Int} (h : isW w = false) : ¬ (w = 1 ∨ w = 2 ∨ w = 4 ∨ w = 8) := of_decide_eq_false h
theorem isW_cases (w : Int) : (w < 1 ∧ isW w = false) ∨ (8 < w ∧ isW w = false) ∨ (w = 3 ∧ isW w = false) ∨ (w = 5 ∧ isW w = false) ∨ (w = 6 ∧ isW w = false) ∨ (w = 7 ∧ isW w = false) ∨
    (w = 1 ∧ isW w = true) ∨ (w = 2 ∧ isW w = true) ∨ (w = 4 ∧ isW w = true) ∨ (w = 8 ∧ isW w = true) := by
  unfold isW
  simp only [decide_eq_true_eq, decide_eq_false_iff_not]
  omega

theorem width_any (w : Int) (W : World) : Calls Try.prog 22 #[.int .i64 w] W fun e W' => e = .returned (.bool (isW w)) ∧ W = W' := by
  rcases isW_cases w with ⟨h, k⟩ | ⟨h, k⟩ | ⟨rfl, k⟩ | ⟨rfl, k⟩ | ⟨rfl, k⟩ | ⟨rfl, k⟩ | ⟨rfl, k⟩ | ⟨rfl, k⟩ | ⟨rfl, k⟩ | ⟨rfl, k⟩
  · have K := Lib.hid k
    clear k
    have hd : decide (0 < w) = false := by simp; omega
    go_enter Try.func22, Try.ntmps22
    go_wp2
    go_ret
    exact ⟨ret_bool K.out, rfl⟩
  · have K := Lib.hid k
    clear k
    have h2 : 0 < w := by omega
    have hd : decide (w ≤ 8) = false := by simp; omega
    go_enter Try.func22, Try.ntmps22
    go_wp2
    go_ret
    exact ⟨ret_bool K.out, rfl⟩
  all_goals
    clear k
    go_enter Try.func22, Try.ntmps22
    go_wp2
    go_ret
    exact ⟨rfl, rfl⟩
theorem width_val (w : Int) (x : Bool) (h : isW w = x) (W : World) : Calls Try.prog 22 #[.int .i64 w] W fun e W' => e = .returned (.bool x) ∧ W = W' := h ▸ width_any w W
theorem rwidth_any (w : Int) (W : World) : Calls Try.prog 24 #[.int .i64 w] W fun e W' => e = .returned (.bool (isW w)) ∧ W = W' := by
  rcases isW_cases w with ⟨h, k⟩ | ⟨h, k⟩ | ⟨rfl, k⟩ | ⟨rfl, k⟩ | ⟨rfl, k⟩ | ⟨rfl, k⟩ | ⟨rfl, k⟩ | ⟨rfl, k⟩ | ⟨rfl, k⟩ | ⟨rfl, k⟩
  · have K := Lib.hid k
    clear k
    have h1 : (w == 1) = false := by simp; omega
    have h2 : (w == 2) = false := by simp; omega
    have h4 : (w == 4) = false := by simp; omega
    have h8 : (w == 8) = false := by simp; omega
    go_enter Try.func24, Try.ntmps24
    go_wp2
    go_ret
    exact ⟨ret_bool K.out, rfl⟩
  · have K := Lib.hid k
    clear k
    have h1 : (w == 1) = false := by simp; omega
    have h2 : (w == 2) = false := by simp; omega
    have h4 : (w == 4) = false := by simp; omega
    have h8 : (w == 8) = false := by simp; omega
    go_enter Try.func24, Try.ntmps24
    go_wp2
    go_ret
    exact ⟨ret_bool K.out, rfl⟩
  all_goals
    clear k
    go_enter Try.func24, Try.ntmps24
    go_wp2
    go_ret
    exact ⟨rfl, rfl⟩
theorem rwidth_val (w : Int) (x : Bool) (h : isW w = x) (W : World) : Calls Try.prog 24 #[.int .i64 w] W fun e W' => e = .returned (.bool x) ∧ W = W' := h ▸ rwidth_any w W

/-- divides(by, n), of numbers that are not below 0. -/
theorem divides_any (b n : Int) (h1 : 1 ≤ b) (h0 : 0 ≤ n) (W : World) : Calls Try.prog 25 #[.int .i64 b, .int .i64 n] W fun e W' => e = .returned (.bool (n % b == 0)) ∧ W = W' := by
  have hb : (b == 0) = false := by simp; omega
  go_enter Try.func25, Try.ntmps25
  go_wp2
  go_ret
  exact ⟨rfl, rfl⟩
theorem divides_val (b n : Int) (x : Bool) (hx : (n % b == 0) = x) (h1 : 1 ≤ b) (h0 : 0 ≤ n) (W : World) : Calls Try.prog 25 #[.int .i64 b, .int .i64 n] W fun e W' => e = .returned (.bool x) ∧ W = W' := hx ▸ divides_any b n h1 h0 W
end Num
end Go.Proofs.Ytijfhgbddkcglaa
