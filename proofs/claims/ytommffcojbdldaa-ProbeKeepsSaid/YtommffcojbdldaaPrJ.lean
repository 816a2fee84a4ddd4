/- Layer 19: the contract of known. -/
import Derived.Test.YtommffcojbdldaaPrI
import Derived.Maps.OwnSet
import Derived.Maps.OwnOps
import Derived.Maps.Views
namespace Go.Proofs.Ytommffcojbdldaa
open Go.RowKit Go.Maps
namespace Pr

theorem law : Keyed Try.prog 23 := int_keyed Try.underlying23
theorem zeroI (w : World) : (zeroValue 3).run Try.prog w = .ok (.int .i64 0) w := by kernel_rfl
/-- May a cell be, behind those ahead of it? -/
def okAt (t : Tab) (n i : Nat) : Bool :=
  if (cl t i).1 = 0 then decide ((cl t i).2 = 0) else inB n (cl t i).2 && (List.range i).all fun k => !idAt t (cl t i).1 k
def knownB (t : Tab) : Bool := decide (0 < t.length) && (List.range t.length).all fun i => okAt t t.length i
/-- Which IDs the map has behind k cells. -/
def inK (t : Tab) (k x : Nat) : Bool := (List.range k).any fun j => decide ((cl t j).1 ≠ 0) && idAt t x j
theorem inK_succ (t : Tab) (k x : Nat) : inK t (k + 1) x = (inK t k x || (decide ((cl t k).1 ≠ 0) && idAt t x k)) := by
  unfold inK
  rw [List.range_succ, List.any_append]
  simp
theorem inK_all {t : Tab} {k x : Nat} (hx : x ≠ 0) : (List.range k).all (fun j => !idAt t x j) = !inK t k x := by
  unfold inK
  rw [Bool.eq_iff_iff]
  simp only [List.all_eq_true, List.mem_range, Bool.not_eq_true', List.any_eq_false]
  constructor
  · intro h j hj
    simp [h j hj]
  · intro h j hj
    have := h j hj
    cases hi : idAt t x j with
    | false => rfl
    | true =>
      have e : (cl t j).1 = x := by simpa [idAt] using hi
      exfalso
      apply this
      rw [hi, e]
      simpa using hx
def HasK (D : DataW Unit) (t : Tab) (k : Nat) : Prop := IsMap D ∧ ∀ x : Nat, has D (.int .u32 (x : Int)) = inK t k x
def KnR (t : Tab) (n B : Nat) (W : World) (i : Value) (w : World) : Prop :=
  ∃ (k m : Nat) (D : DataW Unit), k ≤ n ∧ m ≤ k ∧ i = .int .i64 (k : Int) ∧ w.ownsMap Try.prog 23 (plainElem Try.prog 3) B m D ∧ HasK D t k ∧ Below W.heap.size W w ∧ ∀ j, j < k → okAt t n j = true
theorem hasK_skip {D : DataW Unit} {t : Tab} {k : Nat} (h : HasK D t k) (h0 : (cl t k).1 = 0) : HasK D t (k + 1) := by
  refine ⟨h.1, fun x => ?_⟩
  rw [h.2 x, inK_succ, h0]
  simp
theorem hasK_put {D : DataW Unit} {t : Tab} {k : Nat} (h : HasK D t k) (h0 : (cl t k).1 ≠ 0) (d : DataW Unit) : HasK (D.put (.int .u32 ((cl t k).1 : Int)) d) t (k + 1) := by
  refine ⟨h.1.put _ _, fun x => ?_⟩
  rw [inK_succ]
  by_cases e : x = (cl t k).1
  · subst e
    rw [has_put_same h.1 (by trivial)]
    simp [idAt, h0]
  · rw [has_put_other (by intro e2; injection e2 with _ e2; omega), h.2 x]
    have : idAt t x k = false := by simp [idAt]; omega
    rw [this]
    simp
end Pr
end Go.Proofs.Ytommffcojbdldaa
