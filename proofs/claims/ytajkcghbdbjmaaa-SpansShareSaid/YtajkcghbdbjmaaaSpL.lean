/- Layer 7 (spans): what the walk of SpansShare rests on. -/
import Derived.Test.YtajkcghbdbjmaaaSpK
import Derived.Test.YtajkcghbdbjmaaaRpI
import Derived.ArgAppend
import Derived.StillTailTactics
namespace Go.Proofs.Ytajkcghbdbjmaaa
open Go.RowKit Rc
namespace Sp

theorem rec1_cut (bs : List Nat) (k : Nat) : rec1 bs k = (bs.drop (2 + 2 * num bs + beg bs k)).take (endAt bs k - beg bs k) := by
  unfold rec1
  rw [List.drop_drop]
/-- The views, as they read. -/
theorem views_rd {bs : List Nat} {w : World} {sb N uc : Nat} {V : Option Addr} {vs : List Value} (ok : Ok bs) (hs : Small bs) (hr : Mem.Rd w (some ⟨sb, 0, none⟩) (octets bs)) (ho : w.ownsRow N 22 1 (.slice V (num bs) uc) (num bs) vs)
    (hv : ∀ (i : Nat) (p : Nat × Nat) (u : Value), (spn bs)[i]? = some p → vs[i]? = some u → vw (some ⟨sb, 0, none⟩) p u) : RdRecs w V (num bs) (recs bs) := by
  have hvl : vs.length = num bs := by have := ho.1; omega
  refine ⟨recs_len bs, recs_small hs, fun hV => ?_, fun h0 => ?_⟩
  · rcases ho.2 with ⟨_, h0⟩ | ⟨g, cap, cur, h3, _⟩
    · exact h0
    · injection h3 with h3
      rw [hV] at h3
      cases h3
  · obtain ⟨b, off, hA, hlt, hc⟩ := (Mem.Rd.of_own ho) (by omega)
    refine ⟨b, off, hA, hlt, fun k hk => ?_⟩
    obtain ⟨v, hv2⟩ : ∃ v, vs[k]? = some v := ⟨_, List.getElem?_eq_getElem (by omega)⟩
    have hsp : (spn bs)[k]? = some (2 + 2 * num bs + beg bs k, endAt bs k - beg bs k) := by
      unfold spn
      rw [List.getElem?_map, List.getElem?_range hk]
      rfl
    obtain ⟨A', rfl, hA'⟩ := hv k _ v hsp hv2
    have hl := ok.rec_len hk
    have h1 := ok.end_le hk
    have h2 := ok.beg_le hk
    have h3 := ok.last
    have h4 := ok.most
    rw [rc_recs hk, hl]
    refine ⟨A', _, by rw [hc k (by omega), hv2], ?_, Nat.le_refl _, by omega, fun e => ?_⟩
    · have := Mem.Rd.cut hr (2 + 2 * num bs + beg bs k) (endAt bs k - beg bs k) (by rw [octets_len]; omega) A' hA'
      rw [octets_drop, octets_take, ← rec1_cut] at this
      exact this
    · rcases Nat.eq_zero_or_pos (endAt bs k - beg bs k) with h0 | h0
      · exact ⟨h0, h0⟩
      · have := hA' h0
        rw [e] at this
        cases this
theorem own_set {w : World} {B n g j : Nat} {e : TypeId} {v : Value} {xs : List Value} (h : w.ownsRow B e 1 v n xs) (hg : v.ownBlock = some g) (hj : j < n) (u : Value) : (w.setCell ⟨g, j, none⟩ u).ownsRow B e 1 v n (xs.set j u) := by
  refine ⟨by rw [List.length_set]; exact h.1, ?_⟩
  rcases h.2 with ⟨h2, _⟩ | ⟨q, cap, cur, h3, h4, h5, h6, h7, h8, h9⟩
  · rw [h2] at hg
    cases hg
  · rw [h3] at hg
    simp only [Value.ownBlock, Option.some.injEq] at hg
    subst hg
    refine .inr ⟨q, cap, cur.setIfInBounds j u, h3, h4, ?_, h6, h7, by simpa using h8, ?_⟩
    · have hlt := lt_of_block h5
      have h' : w.heap[q] = .cells cur e (0, 0) := by
        rw [Array.getElem?_eq_getElem hlt] at h5
        injection h5
      show (w.heap.modify q _)[q]? = _
      rw [Array.getElem?_eq_getElem (by simpa using hlt), Array.getElem_modify_self, h']
      simp
    · rw [← h9]
      refine List.ext_getElem? fun i => ?_
      simp only [List.getElem?_take, List.getElem?_set, Array.toList_setIfInBounds, List.length_take, Array.length_toList, Nat.mul_one]
      by_cases hi : i < n
      · by_cases e2 : j = i
        · subst e2
          have : j < cur.size := by omega
          have h2 : j < min n cur.size := by omega
          simp [hi, this, h2]
        · simp [hi, e2]
      · have : ¬ (j = i) := by omega
        simp [hi, this]
/-- A row of bytes, cell by cell. -/
theorem own_byte {w : World} {B n c sb : Nat} {bs : List Nat} (h : w.ownsRow B 5 1 (.slice (some ⟨sb, 0, none⟩) n c) n (octets bs)) {j : Nat} (hj : j < n) : w.cell? ⟨sb, j, none⟩ = some (.int .u8 ((byt bs j : Nat) : Int)) ∧ w.frozen? ⟨sb, j, none⟩ = false := by
  have hl : bs.length = n := by have := h.1; rw [octets_len] at this; omega
  obtain ⟨g, cap, hg, _, _⟩ := h.form (by omega)
  injection hg with hg _ _
  injection hg with hg
  injection hg with hg
  subst hg
  have h2 := h.cellAt j (by omega)
  rw [octets_at (by omega)] at h2
  refine ⟨h2, ?_⟩
  rcases h.2 with ⟨h3, _⟩ | ⟨q, _, cur, h3, _, h4, _⟩
  · cases h3
  · injection h3 with h3 _ _
    injection h3 with h3
    injection h3 with h3
    subst h3
    simp [World.frozen?, h4]
theorem octets_set (cs : List Nat) (i v : Nat) : (octets cs).set i (.int .u8 (v : Int)) = octets (cs.set i v) := by
  unfold octets
  rw [List.map_set]
theorem byt_set {bs : List Nat} {p y i : Nat} (hp : p < bs.length) : byt (bs.set p y) i = if i = p then y else byt bs i := by
  unfold byt
  rw [List.getD_eq_getElem?_getD, List.getElem?_set, List.getD_eq_getElem?_getD]
  by_cases e : p = i
  · subst e
    simp [hp]
  · have : ¬ (i = p) := fun h => e h.symm
    simp [e, this]
/-- The string's bytes. -/
theorem strOf_size (bs : List Nat) : (strOf bs).size = bs.length := by
  unfold strOf
  show (bs.map UInt8.ofNat).toArray.size = _
  simp
theorem strOf_at {bs : List Nat} (hs : Small bs) {i : Nat} (h : i < (strOf bs).size) : ((strOf bs)[i].toNat : Int) = ((byt bs i : Nat) : Int) := by
  have hl : i < bs.length := by rw [← strOf_size]; exact h
  have hb := hs.at i
  have h2 : byt bs i = bs[i] := by
    unfold byt
    rw [List.getD_eq_getElem?_getD, List.getElem?_eq_getElem hl]
    rfl
  rw [h2] at hb ⊢
  have : (strOf bs)[i] = UInt8.ofNat bs[i] := by
    show (bs.map UInt8.ofNat).toArray[i]'(by simpa using hl) = _
    simp
  rw [this]
  simp
  omega
end Sp
end Go.Proofs.Ytajkcghbdbjmaaa
