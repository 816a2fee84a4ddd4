/- Layer 6: records that are written over: a frame with two sides; rows of which but the lengths are known. No program's function is spoken of. -/
import Derived.Test.YtppahidjiiehkaaRpL
namespace Go.Proofs.Ytppahidjiiehkaa
open Go.RowKit
namespace Rc

/-- The world is as it was, but for the blocks from lo on and below hi, and new ones. -/
structure Win (lo hi : Nat) (w w' : World) : Prop where
  os : w'.os = w.os
  tape : w'.tape = w.tape
  output : w'.output = w.output
  size : w.heap.size ≤ w'.heap.size
  block : ∀ k, k < lo ∨ hi ≤ k → k < w.heap.size → w'.heap[k]? = w.heap[k]?
section
variable {lo hi : Nat} {a b c : World}
theorem Win.refl (lo hi : Nat) (w : World) : Win lo hi w w := ⟨rfl, rfl, rfl, Nat.le_refl _, fun _ _ _ => rfl⟩
theorem Win.trans (h : Win lo hi a b) (k : Win lo hi b c) : Win lo hi a c :=
  ⟨k.os.trans h.os, k.tape.trans h.tape, k.output.trans h.output, Nat.le_trans h.size k.size, fun i h1 h2 => (k.block i h1 (Nat.lt_of_lt_of_le h2 h.size)).trans (h.block i h1 h2)⟩
theorem Win.set (h : Win lo hi a b) {g : Nat} (h1 : lo ≤ g) (h2 : g < hi) (j : Nat) (v : Value) : Win lo hi a (b.setCell ⟨g, j, none⟩ v) :=
  ⟨h.os, h.tape, h.output, by simpa using h.size, fun k h3 h4 => by
    rw [Below.heap_setCell _ _ _ _ (by intro e; simp at e; omega)]
    exact h.block k h3 h4⟩
theorem Win.drew (h : Win lo hi a b) : Win lo hi a b.drew := ⟨h.os, h.tape, h.output, h.size, h.block⟩
theorem Win.drewN (h : Win lo hi a b) (n : Nat) : Win lo hi a (b.drewN n) := ⟨h.os, h.tape, h.output, h.size, h.block⟩
theorem Win.below (h : Win lo hi a b) (hl : lo ≤ a.heap.size) : Below lo a b := ⟨h.os, h.tape, h.output, h.size, fun k hk => h.block k (.inl hk) (Nat.lt_of_lt_of_le hk hl)⟩
/-- A row that lies outside. -/
theorem Win.own (h : Win lo hi a b) {B size n : Nat} {e : TypeId} {v : Value} {xs : List Value} (ho : a.ownsRow B e size v n xs) (hb : hi ≤ B) : b.ownsRow B e size v n xs := by
  refine ⟨ho.1, ?_⟩
  rcases ho.2 with h2 | ⟨g, cap, cur, h3, h4, h5, h6⟩
  · exact .inl h2
  · exact .inr ⟨g, cap, cur, h3, h4, by rw [h.block g (.inr (by omega)) (lt_of_block h5)]; exact h5, h6⟩
theorem Win.recs (h : Win lo hi a b) {B : Nat} {ob : Option Nat} {vs : List Value} {rs : List (List Nat)} (ho : OwnRecs a B ob vs rs) (hb : hi ≤ B) : OwnRecs b B ob vs rs :=
  ⟨ho.len, fun i v r h1 h2 => h.own (ho.own i v r h1 h2) hb, ho.out, ho.apart⟩
end
theorem own_set {w : World} {B n g j : Nat} {e : TypeId} {v : Value} {xs : List Value} (h : w.ownsRow B e 1 v n xs) (hg : v.ownBlock = some g) (hj : j < n) (u : Value) : (w.setCell ⟨g, j, none⟩ u).ownsRow B e 1 v n (xs.set j u) := by
  refine ⟨by rw [List.length_set]; exact h.1, ?_⟩
  rcases h.2 with ⟨h2, _⟩ | ⟨q, cap, cur, h3, h4, h5, h6, h7, h8, h9⟩
  · rw [h2] at hg
    cases hg
  · rw [h3] at hg
    simp only [Value.ownBlock, Option.some.injEq] at hg
    subst hg
    refine .inr ⟨q, cap, cur.setIfInBounds j u, h3, h4, ?_, h6, h7, by simpa using h8, ?_⟩
    · have hlt := lt_of_block h5
      have h' : w.heap[q] = .cells cur e (0, 0) := by
        rw [Array.getElem?_eq_getElem hlt] at h5
        injection h5
      show (w.heap.modify q _)[q]? = _
      rw [Array.getElem?_eq_getElem (by simpa using hlt), Array.getElem_modify_self, h']
      simp
    · rw [← h9]
      refine List.ext_getElem? fun i => ?_
      simp only [List.getElem?_take, List.getElem?_set, Array.toList_setIfInBounds, List.length_take, Array.length_toList, Nat.mul_one]
      by_cases hi : i < n
      · by_cases e2 : j = i
        · subst e2
          have : j < cur.size := by omega
          have h2 : j < min n cur.size := by omega
          simp [hi, this, h2]
        · simp [hi, e2]
      · have : ¬ (j = i) := by omega
        simp [hi, this]
/-- A row of records in blocks from B on and below H, each as long as a list says. -/
structure Ls (w : World) (B H : Nat) (U : Option Addr) (n uc : Nat) (vs : List Value) (ls : List Nat) : Prop where
  row : w.ownsRow B 25 1 (.slice U n uc) n vs
  recs : ∃ ss : List (List Nat), OwnRecs w B (Value.slice U n uc).ownBlock vs ss ∧ ∀ k, (rc ss k).length = ls.getD k 0
  hi : ∀ (i : Nat) (v : Value) (q : Nat), vs[i]? = some v → v.ownBlock = some q → q < H
section
variable {w w' : World} {B H n uc : Nat} {U : Option Addr} {vs : List Value} {ls : List Nat}
theorem Ls.drew (h : Ls w B H U n uc vs ls) : Ls w.drew B H U n uc vs ls := by
  obtain ⟨ss, h1, h2⟩ := h.recs
  exact ⟨h.row, ⟨ss, ⟨h1.len, h1.own, h1.out, h1.apart⟩, h2⟩, h.hi⟩
theorem Ls.win (h : Ls w B H U n uc vs ls) {lo hi : Nat} (hw : Win lo hi w w') (hb : hi ≤ B) : Ls w' B H U n uc vs ls := by
  obtain ⟨ss, h1, h2⟩ := h.recs
  exact ⟨hw.own h.row hb, ⟨ss, hw.recs h1 hb, h2⟩, h.hi⟩
theorem Ls.below (h : Ls w B H U n uc vs ls) (hb : Below w.heap.size w w') : Ls w' B H U n uc vs ls := by
  obtain ⟨ss, h1, h2⟩ := h.recs
  exact ⟨Mem.own_below h.row hb, ⟨ss, h1.below hb, h2⟩, h.hi⟩
theorem rc_none {ss : List (List Nat)} {k : Nat} (h : ss.length ≤ k) : rc ss k = [] := by
  unfold rc
  rw [List.getD_eq_getElem?_getD, List.getElem?_eq_none h]
  rfl
theorem Ls.of (ho : w.ownsRow B 25 1 (.slice U n uc) n vs) {rs : List (List Nat)} (hr : OwnRecs w B (Value.slice U n uc).ownBlock vs rs) : Ls w B w.heap.size U n uc vs (rs.map List.length) := by
  refine ⟨ho, ⟨rs, hr, fun k => ?_⟩, fun i v q h1 h2 => ?_⟩
  · rcases Nat.lt_or_ge k rs.length with hk | hk
    · rw [List.getD_eq_getElem?_getD, List.getElem?_map, rc_at hk]
      rfl
    · rw [rc_none hk, List.getD_eq_getElem?_getD, List.getElem?_eq_none (by simpa using hk)]
      rfl
  · obtain ⟨r, h3⟩ := hr.rec_at h1
    exact (own_lt (hr.own i v r h1 h3) q h2).2
theorem rc_set {ss : List (List Nat)} {i k : Nat} {r : List Nat} (hi : i < ss.length) : rc (ss.set i r) k = if i = k then r else rc ss k := by
  unfold rc
  rw [List.getD_eq_getElem?_getD, List.getElem?_set, List.getD_eq_getElem?_getD]
  by_cases e : i = k
  · subst e
    simp [hi]
  · simp [e]
theorem Ls.at (h : Ls w B H U n uc vs ls) {i : Nat} (hi : i < n) : ∃ b A' l c', U = some ⟨b, 0, none⟩ ∧ ls.getD i 0 = l ∧ w.cell? ⟨b, i, none⟩ = some (.slice A' l c') ∧ l ≤ c' ∧ c' ≤ 9223372036854775807 ∧
    ∀ j, j < l → ∃ g x : Nat, A' = some ⟨g, 0, none⟩ ∧ w.cell? ⟨g, j, none⟩ = some (.int .u8 (x : Int)) ∧ w.frozen? ⟨g, j, none⟩ = false ∧ B ≤ g ∧ g < H ∧ ∀ y : Nat, Ls (w.setCell ⟨g, j, none⟩ (.int .u8 (y : Int))) B H U n uc vs ls := by
  obtain ⟨ss, h1, h2⟩ := h.recs
  have hvl : vs.length = n := by have := h.row.1; omega
  have hsl : ss.length = n := by rw [← h1.len]; exact hvl
  obtain ⟨b, cap, hU, _, hlt⟩ := h.row.form (by omega)
  injection hU with hU _ _
  subst hU
  obtain ⟨v, hv⟩ : ∃ v, vs[i]? = some v := ⟨_, List.getElem?_eq_getElem (by omega)⟩
  have hcell := h.row.cellAt i (by omega)
  have ho := h1.own i v _ hv (rc_at (by omega))
  obtain ⟨A', c', rfl, hc1, hc2, _, _⟩ := own_full ho
  refine ⟨b, A', _, c', rfl, (h2 i).symm, by rw [← hv]; exact hcell, hc1, hc2, fun j hj => ?_⟩
  obtain ⟨g, cap', hA, hBg, hgl⟩ := ho.form (by omega)
  injection hA with hA _ _
  subst hA
  have hj2 := ho.cellAt j (by omega)
  rw [octets_at hj] at hj2
  have hfree : w.frozen? ⟨g, j, none⟩ = false := by
    rcases ho.2 with ⟨h3, _⟩ | ⟨q, _, cur, h3, _, h4, _⟩
    · cases h3
    · injection h3 with h3 _ _
      injection h3 with h3
      injection h3 with h3
      subst h3
      simp [World.frozen?, h4]
  refine ⟨g, byt (rc ss i) j, rfl, hj2, hfree, hBg, h.hi i _ g hv rfl, fun y => ?_⟩
  have hne : (Value.slice (some ⟨b, 0, none⟩) n uc).ownBlock ≠ some g := h1.out i _ g hv rfl
  refine ⟨ownsRow_setCell_other h.row hne _, ⟨ss.set i ((rc ss i).set j y), ⟨by rw [List.length_set]; exact h1.len, fun i' v' r' q1 q2 => ?_, h1.out, h1.apart⟩, fun k => ?_⟩, h.hi⟩
  · rw [List.getElem?_set] at q2
    by_cases e : i = i'
    · subst e
      rw [if_pos rfl, if_pos (by omega)] at q2
      injection q2 with q2
      subst q2
      rw [hv] at q1
      injection q1 with q1
      subst q1
      have := own_set ho rfl hj (.int .u8 (y : Int))
      rw [octets_set] at this
      rw [List.length_set]
      exact this
    · rw [if_neg e] at q2
      refine ownsRow_setCell_other (h1.own i' v' r' q1 q2) ?_ _
      intro e2
      rcases Nat.lt_or_ge i i' with hl | hl
      · exact h1.apart i i' _ _ g hl hv q1 rfl e2
      · exact h1.apart i' i _ _ g (by omega) q1 hv e2 rfl
  · rw [rc_set (by omega)]
    split
    · rename_i e
      subst e
      rw [List.length_set]
      exact h2 i
    · exact h2 k
end
end Rc
end Go.Proofs.Ytppahidjiiehkaa
