/- Layer 1 (num): words for rows of bytes that a call makes; the bytes behind a store. No condition. -/
import Derived.Test.YtijfhgbddkcglaaNumT
import Derived.Test.YtijfhgbddkcglaaNumD
import Derived.Deep.AppendLies
namespace Go.Proofs.Ytijfhgbddkcglaa
open Go.RowKit
namespace Num

theorem own_below {w w' : World} {base : Nat} {e : TypeId} {size : Nat} {v : Value} {n : Nat} {xs : List Value} (h : w.ownsRow base e size v n xs) (hb : Below w.heap.size w w') : w'.ownsRow base e size v n xs :=
  h.kept (row := none) ⟨hb.os, hb.tape, hb.output, hb.size, fun k hk _ => hb.block k hk⟩ (by
    cases h0 : v.ownBlock with
    | none => exact .inl rfl
    | some k => exact .inr (by intro h; cases h))

/-- The bytes behind a store of a number of w bytes at a. -/
def st (l : List Int) (a w : Nat) (v : Int) : List Int := (List.range l.length).map fun i => if a ≤ i ∧ i < a + w then sh v (i - a) % 256 else l.getD i 0
theorem st_len (l : List Int) (a w : Nat) (v : Int) : (st l a w v).length = l.length := by simp [st]
theorem st_getD (l : List Int) (a w : Nat) (v : Int) (i : Nat) (hi : i < l.length) : (st l a w v).getD i 0 = if a ≤ i ∧ i < a + w then sh v (i - a) % 256 else l.getD i 0 := by
  rw [List.getD_eq_getElem?_getD]
  simp [st, hi]
theorem st_zero (l : List Int) (a : Nat) (v : Int) : st l a 0 v = l := by
  apply List.ext_getElem?
  intro i
  unfold st
  by_cases hi : i < l.length
  · rw [List.getElem?_map, List.getElem?_range hi]
    simp only [Option.map_some]
    rw [if_neg (by omega), List.getD_eq_getElem?_getD, List.getElem?_eq_getElem hi]
    rfl
  · rw [List.getElem?_eq_none (by simp; omega), List.getElem?_eq_none (by omega)]
theorem st_succ (l : List Int) (a k : Nat) (v : Int) : st l a (k + 1) v = (st l a k v).set (a + k) (sh v k % 256) := by
  apply List.ext_getElem?
  intro i
  rw [List.getElem?_set]
  by_cases hi : i < l.length
  · unfold st
    simp only [List.getElem?_map, List.getElem?_range hi, Option.map_some, List.length_map, List.length_range]
    by_cases he : a + k = i
    · subst he
      rw [if_pos rfl, if_pos hi, if_pos (by omega), show a + k - a = k by omega]
    · rw [if_neg he]
      by_cases h1 : a ≤ i ∧ i < a + k
      · rw [if_pos (by omega), if_pos h1]
      · rw [if_neg (by omega), if_neg h1]
  · rw [List.getElem?_eq_none (by rw [st_len]; omega)]
    split
    · rw [if_neg (by rw [st_len]; omega)]
    · rw [List.getElem?_eq_none (by rw [st_len]; omega)]
theorem st_bytes (l : List Int) (a w : Nat) (v : Int) (h : ∀ i, 0 ≤ l.getD i 0 ∧ l.getD i 0 ≤ 255) : ∀ x ∈ st l a w v, 0 ≤ x ∧ x ≤ 255 := by
  intro x hx
  unfold st at hx
  simp only [List.mem_map, List.mem_range] at hx
  obtain ⟨i, _, rfl⟩ := hx
  split
  · have := Int.emod_nonneg (sh v (i - a)) (show (256 : Int) ≠ 0 by decide)
    have := Int.emod_lt_of_pos (sh v (i - a)) (show (0 : Int) < 256 by decide)
    omega
  · exact h i
/-- The byte k of a number, as a cell of 'eight'. -/
theorem eight_at (v : Int) (h0 : 0 ≤ v) (h1 : v ≤ 18446744073709551615) (k : Nat) (hk : k < 8) : (eight v)[k]? = some (.int .u8 (sh v k % 256)) := by
  have : k = 0 ∨ k = 1 ∨ k = 2 ∨ k = 3 ∨ k = 4 ∨ k = 5 ∨ k = 6 ∨ k = 7 := by omega
  unfold sh
  rcases this with rfl | rfl | rfl | rfl | rfl | rfl | rfl | rfl
  · show some (Value.int .u8 (v % 256)) = _
    rw [show (256 : Int) ^ 0 = 1 from rfl, Int.ediv_one]
  all_goals try rfl
  show some (Value.int .u8 (v / 72057594037927936)) = some (Value.int .u8 (v / 72057594037927936 % 256))
  rw [Int.emod_eq_of_lt (by omega) (by omega)]
/-- A row of the call's own holds these bytes. -/
theorem Bytes.of_own {w : World} {base : Nat} {e : TypeId} {A : Option Addr} {cap : Nat} {l : List Int} (h : w.ownsRow base e 1 (.slice A l.length cap) l.length (l.map (Value.int .u8))) (hb : ∀ x ∈ l, 0 ≤ x ∧ x ≤ 255) : Bytes w A l := by
  refine ⟨hb, fun hl => ?_⟩
  obtain ⟨g, c, hv, _, hlt⟩ := h.form hl
  injection hv with h1 _ h3
  subst h1 h3
  refine ⟨g, 0, rfl, hlt, fun i hi => ?_⟩
  rw [Nat.zero_add, h.cellAt i (by omega), List.getElem?_map, List.getElem?_eq_getElem hi, List.getD_eq_getElem?_getD, List.getElem?_eq_getElem hi]
  rfl

theorem info8 : (Try.prog.info? 5).map (fun i => (i.zero, i.size, i.bytes)) = some (some (.int .u8 0), 1, 1) := by kernel_rfl
/-- What Store answers: these bytes in new memory, and an error's number. -/
def SRes (x : Int) (l : List Int) (W : World) (e : Ending) (W' : World) : Prop :=
  ∃ v, e = .returned (.tuple #[v, .int .i64 x]) ∧ W'.ownsRow W.heap.size 5 1 v l.length (l.map (Value.int .u8)) ∧ Below W.heap.size W W'
theorem SRes.none_ (x : Int) (W : World) : SRes x [] W (.returned (.tuple #[.slice none 0 0, .int .i64 x])) W := ⟨_, rfl, World.ownsRow_nil _ _ _ _, Below.refl _ _⟩
end Num
end Go.Proofs.Ytijfhgbddkcglaa
