/- Layer 19: what inserting and deleting make of a table, place by place; the document's way makes the same. No program's function is spoken of. -/
import Derived.Test.YtommffcojbdldaaPrU
namespace Go.Proofs.Ytommffcojbdldaa
open Go.RowKit
namespace Pr

theorem pos_inj {n a i j : Nat} (hi : i < n) (hj : j < n) (h : (a + i) % n = (a + j) % n) : i = j := by
  rcases Nat.lt_trichotomy i j with hl | hl | hl
  · have h1 : (a + j - (a + i)) % n = 0 := Nat.sub_mod_eq_zero_of_mod_eq h.symm
    rw [show a + j - (a + i) = j - i by omega, Nat.mod_eq_of_lt (by omega)] at h1
    omega
  · exact hl
  · have h1 : (a + i - (a + j)) % n = 0 := Nat.sub_mod_eq_zero_of_mod_eq h
    rw [show a + i - (a + j) = i - j by omega, Nat.mod_eq_of_lt (by omega)] at h1
    omega
/-- Two tables are one if they are so round the ring. -/
theorem tab_ext {t s : Tab} {n : Nat} (a : Nat) (ht : t.length = n) (hs : s.length = n) (h : ∀ i, i < n → cl t ((a + i) % n) = cl s ((a + i) % n)) : t = s := by
  refine List.ext_getElem? fun x => ?_
  rcases Nat.lt_or_ge x n with hx | hx
  · rw [cl_at (by omega), cl_at (by omega)]
    obtain ⟨i, hi, hix⟩ := reach (x := a) hx
    have := h i hi
    rw [hix] at this
    rw [this]
  · rw [List.getElem?_eq_none (by omega), List.getElem?_eq_none (by omega)]
theorem cl_put {t : Tab} {n a i j : Nat} {p : Nat × Int} (ht : t.length = n) (hi : i < n) (hj : j < n) : cl (t.set ((a + j) % n) p) ((a + i) % n) = if i = j then p else cl t ((a + i) % n) := by
  rw [cl_set (by rw [ht]; exact Nat.mod_lt _ (by omega))]
  by_cases e : i = j
  · subst e
    rw [if_pos rfl, if_pos rfl]
  · rw [if_neg e, if_neg (fun h => e (pos_inj hi hj h))]
theorem insL_at {n a : Nat} : ∀ (g : Nat) (t : Tab), t.length = n → g < n → ∀ i, i < n → cl (insL n a g t) ((a + i) % n) = if 1 ≤ i ∧ i ≤ g then cl t ((a + (i - 1)) % n) else cl t ((a + i) % n)
  | 0, t, _, _, i, _ => by
    rw [if_neg (by omega)]
    rfl
  | g + 1, t, ht, hg, i, hi => by
    have ih := insL_at (n := n) (a := a) g (t.set ((a + g + 1) % n) (cl t ((a + g) % n))) (by rw [List.length_set]; exact ht) (by omega) i hi
    unfold insL
    rw [ih]
    rw [show a + g + 1 = a + (g + 1) by omega]
    by_cases h1 : 1 ≤ i ∧ i ≤ g
    · rw [if_pos h1, if_pos (by omega), cl_put ht (by omega) hg, if_neg (by omega)]
    · rw [if_neg h1, cl_put ht hi hg]
      by_cases h2 : i = g + 1
      · subst h2
        rw [if_pos rfl, if_pos (by omega)]
        rfl
      · rw [if_neg h2, if_neg (by omega)]
/-- The table behind an insertion at place a, g places from an empty one. -/
def insS (t : Tab) (n a g : Nat) (p : Nat × Int) : Tab := (insL n a g t).set (a % n) p
theorem insS_len {t : Tab} {n a g : Nat} {p : Nat × Int} (ht : t.length = n) : (insS t n a g p).length = n := by
  unfold insS
  rw [List.length_set, insL_len, ht]
theorem insS_at {t : Tab} {n a g i : Nat} {p : Nat × Int} (ht : t.length = n) (hg : g < n) (hi : i < n) : cl (insS t n a g p) ((a + i) % n) = if i = 0 then p else if i ≤ g then cl t ((a + (i - 1)) % n) else cl t ((a + i) % n) := by
  unfold insS
  have := cl_put (t := insL n a g t) (n := n) (a := a) (i := i) (j := 0) (p := p) (by rw [insL_len, ht]) hi (by omega)
  rw [Nat.add_zero] at this
  rw [this]
  by_cases h0 : i = 0
  · rw [if_pos h0, if_pos h0]
  · rw [if_neg h0, if_neg h0, insL_at g t ht hg i hi]
    by_cases h1 : i ≤ g
    · rw [if_pos ⟨by omega, h1⟩, if_pos h1]
    · rw [if_neg (by omega), if_neg h1]
/-- What is at hand behind j steps of the document's way. -/
def hand (t : Tab) (n a : Nat) (p : Nat × Int) : Nat → Nat × Int
  | 0 => p
  | j + 1 => cl t ((a + j) % n)
/-- Its table behind j steps. -/
def refL (t : Tab) (n a : Nat) (p : Nat × Int) : Nat → Tab
  | 0 => t
  | j + 1 => (refL t n a p j).set ((a + j) % n) (hand t n a p j)
theorem refL_len (t : Tab) (n a : Nat) (p : Nat × Int) : ∀ j, (refL t n a p j).length = t.length
  | 0 => rfl
  | j + 1 => by
    unfold refL
    rw [List.length_set, refL_len t n a p j]
theorem refL_at {t : Tab} {n a : Nat} {p : Nat × Int} (ht : t.length = n) : ∀ (j : Nat), j ≤ n → ∀ i, i < n → cl (refL t n a p j) ((a + i) % n) = if i < j then hand t n a p i else cl t ((a + i) % n)
  | 0, _, i, _ => by
    rw [if_neg (by omega)]
    rfl
  | j + 1, hj, i, hi => by
    unfold refL
    rw [cl_put (by rw [refL_len, ht]) hi (by omega), refL_at ht j (by omega) i hi]
    by_cases h1 : i = j
    · subst h1
      rw [if_pos rfl, if_pos (by omega)]
    · rw [if_neg h1]
      by_cases h2 : i < j
      · rw [if_pos h2, if_pos (by omega)]
      · rw [if_neg h2, if_neg (by omega)]
theorem refL_eq {t : Tab} {n a g : Nat} {p : Nat × Int} (ht : t.length = n) (hg : g < n) : (refL t n a p g).set ((a + g) % n) (hand t n a p g) = insS t n a g p := by
  refine tab_ext a (by rw [List.length_set, refL_len, ht]) (insS_len ht) fun i hi => ?_
  rw [cl_put (by rw [refL_len, ht]) hi hg, refL_at ht g (by omega) i hi, insS_at ht hg hi]
  by_cases h0 : i = 0
  · subst h0
    rw [if_pos rfl]
    by_cases h1 : 0 = g
    · subst h1
      rw [if_pos rfl]
      rfl
    · rw [if_neg h1, if_pos (by omega)]
      rfl
  · rw [if_neg h0]
    obtain ⟨k, rfl⟩ : ∃ k, i = k + 1 := ⟨i - 1, by omega⟩
    by_cases h1 : k + 1 = g
    · subst h1
      rw [if_pos rfl, if_pos (by omega)]
      rfl
    · rw [if_neg h1]
      by_cases h2 : k + 1 < g
      · rw [if_pos h2, if_pos (by omega)]
        rfl
      · rw [if_neg h2, if_neg (by omega)]
theorem insS_mod {t : Tab} {n a g : Nat} {p : Nat × Int} (ht : t.length = n) (hg : g < n) : insS t n (a % n) g p = insS t n a g p := by
  refine tab_ext a (insS_len ht) (insS_len ht) fun i hi => ?_
  have h1 := insS_at (a := a % n) (p := p) ht hg hi
  rw [insS_at ht hg hi]
  simp only [Nat.mod_add_mod] at h1
  exact h1
theorem delL_len (n a : Nat) : ∀ (r i : Nat) (t : Tab), (delL n a r i t).length = t.length
  | 0, _, _ => rfl
  | r + 1, i, t => by
    unfold delL
    rw [delL_len n a r, List.length_set]
theorem delL_at {n a : Nat} : ∀ (r k : Nat) (t : Tab), t.length = n → k + r < n → ∀ i, i < n → cl (delL n a r k t) ((a + i) % n) = if k ≤ i ∧ i < k + r then cl t ((a + (i + 1)) % n) else cl t ((a + i) % n)
  | 0, k, t, _, _, i, _ => by
    rw [if_neg (by omega)]
    rfl
  | r + 1, k, t, ht, hk, i, hi => by
    have ih := delL_at (n := n) (a := a) r (k + 1) (t.set ((a + k) % n) (cl t ((a + k + 1) % n))) (by rw [List.length_set]; exact ht) (by omega) i hi
    unfold delL
    rw [ih]
    by_cases h1 : k + 1 ≤ i ∧ i < k + 1 + r
    · rw [if_pos h1, if_pos (by omega), cl_put ht (by omega) (by omega), if_neg (by omega)]
    · rw [if_neg h1, cl_put ht hi (by omega)]
      by_cases h2 : i = k
      · subst h2
        rw [if_pos rfl, if_pos (by omega)]
        rfl
      · rw [if_neg h2, if_neg (by omega)]
/-- The table behind a deletion at place a, m places from its end. -/
def delS (t : Tab) (n a m : Nat) : Tab := (delL n a m 0 t).set ((a + m) % n) (0, 0)
theorem delS_len {t : Tab} {n a m : Nat} (ht : t.length = n) : (delS t n a m).length = n := by
  unfold delS
  rw [List.length_set, delL_len, ht]
theorem delS_at {t : Tab} {n a m i : Nat} (ht : t.length = n) (hm : m < n) (hi : i < n) : cl (delS t n a m) ((a + i) % n) = if i < m then cl t ((a + (i + 1)) % n) else if i = m then (0, 0) else cl t ((a + i) % n) := by
  unfold delS
  rw [cl_put (by rw [delL_len, ht]) hi hm, delL_at m 0 t ht (by omega) i hi]
  by_cases h1 : i = m
  · rw [if_pos h1, if_neg (by omega), if_pos h1]
  · rw [if_neg h1]
    by_cases h2 : i < m
    · rw [if_pos ⟨by omega, by omega⟩, if_pos h2]
    · rw [if_neg (by omega), if_neg h2, if_neg h1]
theorem delS_zero {t : Tab} {n a : Nat} : delS t n a 0 = t.set (a % n) (0, 0) := rfl
/-- One step more of the document's way. -/
theorem delS_step {t : Tab} {n a s : Nat} (ht : t.length = n) (hs : s + 1 < n) : ((delS t n a s).set ((a + s) % n) (cl (delS t n a s) ((a + (s + 1)) % n))).set ((a + (s + 1)) % n) (0, 0) = delS t n a (s + 1) := by
  have hl : (delS t n a s).length = n := delS_len ht
  refine tab_ext a (by rw [List.length_set, List.length_set, hl]) (delS_len ht) fun i hi => ?_
  rw [cl_put (by rw [List.length_set, hl]) hi hs, cl_put hl hi (by omega), delS_at ht hs hi, delS_at ht (by omega) (show s + 1 < n from hs), delS_at ht (by omega) hi]
  by_cases h1 : i = s + 1
  · subst h1
    rw [if_pos rfl, if_neg (by omega), if_pos rfl]
  · rw [if_neg h1]
    by_cases h2 : i = s
    · subst h2
      rw [if_pos rfl, if_neg (by omega), if_neg (by omega), if_pos (by omega)]
    · rw [if_neg h2]
      by_cases h3 : i < s
      · rw [if_pos h3, if_pos (by omega)]
      · rw [if_neg h3, if_neg h2, if_neg (by omega), if_neg h1]
end Pr
end Go.Proofs.Ytommffcojbdldaa
