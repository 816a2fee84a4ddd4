/- Layers 6 and 7: a block of bytes that is known whole; a list of which only some places are filled. No program's function is spoken of. -/
import Derived.Test.YtajkcghbdbjmaaaRpC
import Derived.Laws.CopyOwn
import Derived.OneCell
namespace Go.Proofs.Ytajkcghbdbjmaaa
open Go.RowKit
namespace Rc

/-- A block of its own with these bytes. -/
def Blk (sb : Nat) (cs : List Nat) (w : World) : Prop := w.heap[sb]? = some (.cells (octets cs).toArray 5 (0, 0))
section
variable {sb : Nat} {cs : List Nat} {w w' : World}
theorem Blk.lt (h : Blk sb cs w) : sb < w.heap.size := lt_of_block h
theorem Blk.cell (h : Blk sb cs w) {i : Nat} (hi : i < cs.length) : w.cell? ⟨sb, i, none⟩ = some (.int .u8 ((byt cs i : Nat) : Int)) := by
  rw [cell_of_row w sb i _ _ _ h, List.getElem?_toArray, octets_at hi]
theorem Blk.free (h : Blk sb cs w) (i : Nat) : w.frozen? ⟨sb, i, none⟩ = false := by simp [World.frozen?, show w.heap[sb]? = _ from h]
theorem octets_set (cs : List Nat) (i v : Nat) : (octets cs).set i (.int .u8 (v : Int)) = octets (cs.set i v) := by
  unfold octets
  rw [List.map_set]
theorem Blk.set (h : Blk sb cs w) (i v : Nat) : Blk sb (cs.set i v) (w.setCell ⟨sb, i, none⟩ (.int .u8 (v : Int))) := by
  have hlt := h.lt
  have h' : w.heap[sb] = .cells (octets cs).toArray 5 (0, 0) := by
    have h2 : w.heap[sb]? = _ := h
    rw [Array.getElem?_eq_getElem hlt] at h2
    injection h2
  show (w.heap.modify sb _)[sb]? = _
  rw [Array.getElem?_eq_getElem (by simpa using hlt), Array.getElem_modify_self, h', ← octets_set]
  simp
theorem Blk.below (h : Blk sb cs w) (hb : Below w.heap.size w w') : Blk sb cs w' := by
  unfold Blk
  rw [hb.block sb h.lt]
  exact h
theorem blk_made (w : World) (n : Nat) : Blk w.heap.size (List.replicate n 0) (w.alloc (.cells (madeCells #[.int .u8 0] n) 5)) := by
  unfold Blk
  rw [heap_alloc_new]
  congr 2
  refine Array.ext_getElem? fun i => ?_
  unfold octets
  by_cases hi : i < n
  · simp [madeCells, hi, Nat.mod_one]
  · simp [madeCells, hi]
theorem Blk.own (h : Blk sb cs w) {B n : Nat} (hB : B ≤ sb) (hn : cs.length = n) (hm : n ≤ maxLen) : w.ownsRow B 5 1 (.slice (some ⟨sb, 0, none⟩) n n) n (octets cs) := by
  refine ⟨by rw [octets_len, hn]; omega, .inr ⟨sb, n, _, rfl, hB, h, Nat.le_refl _, hm, ?_, ?_⟩⟩
  · simp [octets_len, hn]
  · rw [List.take_of_length_le]
    · simp [octets_len, hn]
end

/-- Some places of a list; the others are 0. -/
def mask (p : List Nat) (P : Nat → Bool) : List Nat := (List.range p.length).map fun j => if P j then byt p j else 0
theorem mask_len (p : List Nat) (P : Nat → Bool) : (mask p P).length = p.length := by simp [mask]
theorem mask_at {p : List Nat} (P : Nat → Bool) {j : Nat} (h : j < p.length) : (mask p P)[j]? = some (if P j then byt p j else 0) := by
  unfold mask
  rw [List.getElem?_map, List.getElem?_range h]
  rfl
theorem byt_at {p : List Nat} {j : Nat} (h : j < p.length) : p[j]? = some (byt p j) := by
  unfold byt
  rw [List.getD_eq_getElem?_getD, List.getElem?_eq_getElem h]
  rfl
theorem mask_congr {p : List Nat} {P R : Nat → Bool} (h : ∀ j, j < p.length → P j = R j) : mask p P = mask p R := by
  refine List.ext_getElem? fun j => ?_
  rcases Nat.lt_or_ge j p.length with hj | hj
  · rw [mask_at P hj, mask_at R hj, h j hj]
  · rw [List.getElem?_eq_none (by rw [mask_len]; exact hj), List.getElem?_eq_none (by rw [mask_len]; exact hj)]
theorem mask_none (p : List Nat) : mask p (fun _ => false) = List.replicate p.length 0 := by
  refine List.ext_getElem? fun j => ?_
  rcases Nat.lt_or_ge j p.length with hj | hj
  · rw [mask_at _ hj, List.getElem?_replicate, if_pos hj]
    rfl
  · rw [List.getElem?_eq_none (by rw [mask_len]; exact hj), List.getElem?_eq_none (by simpa using hj)]
theorem mask_all {p : List Nat} {P : Nat → Bool} (h : ∀ j, j < p.length → P j = true) : mask p P = p := by
  refine List.ext_getElem? fun j => ?_
  rcases Nat.lt_or_ge j p.length with hj | hj
  · rw [mask_at P hj, h j hj, if_pos rfl, byt_at hj]
  · rw [List.getElem?_eq_none (by rw [mask_len]; exact hj), List.getElem?_eq_none hj]
theorem mask_set {p : List Nat} (P : Nat → Bool) {i v : Nat} (hv : byt p i = v) : (mask p P).set i v = mask p (fun j => P j || decide (j = i)) := by
  refine List.ext_getElem? fun j => ?_
  rcases Nat.lt_or_ge j p.length with hj | hj
  · rw [mask_at _ hj, List.getElem?_set]
    by_cases e : i = j
    · subst e
      rw [if_pos rfl, if_pos (by rw [mask_len]; exact hj)]
      simp [hv]
    · rw [if_neg e, mask_at P hj]
      have : ¬ (j = i) := fun h => e h.symm
      simp [this]
  · rw [List.getElem?_eq_none (by rw [List.length_set, mask_len]; exact hj), List.getElem?_eq_none (by rw [mask_len]; exact hj)]
theorem splice_octets (a b : List Nat) (off : Nat) : splice (octets a) off (octets b) = octets (splice a off b) := by
  unfold splice
  rw [octets_app, octets_app, octets_take, octets_drop, octets_len]
theorem splice_at {L cs : List Nat} {off : Nat} (h : off + cs.length ≤ L.length) (j : Nat) : (splice L off cs)[j]? = if off ≤ j ∧ j < off + cs.length then cs[j - off]? else L[j]? := by
  unfold splice
  rcases Nat.lt_or_ge j off with h1 | h1
  · rw [List.getElem?_append_left (by rw [List.length_take]; omega), List.getElem?_take, if_pos h1, if_neg (by omega)]
  · have hl : (L.take off).length = off := by rw [List.length_take]; omega
    rw [List.getElem?_append_right (by rw [hl]; exact h1), hl]
    by_cases h2 : j < off + cs.length
    · rw [List.getElem?_append_left (by omega), if_pos ⟨h1, h2⟩]
    · rw [List.getElem?_append_right (by omega), if_neg (by omega), List.getElem?_drop]
      congr 1
      omega
theorem mask_splice {p : List Nat} (P : Nat → Bool) {off q : Nat} {cs : List Nat} (h : off + q ≤ p.length) (hc : cs = (p.drop off).take q) : splice (mask p P) off cs = mask p (fun j => P j || (decide (off ≤ j) && decide (j < off + q))) := by
  have hl : cs.length = q := by rw [hc, List.length_take, List.length_drop]; omega
  refine List.ext_getElem? fun j => ?_
  rw [splice_at (by rw [mask_len, hl]; exact h), hl]
  rcases Nat.lt_or_ge j p.length with hj | hj
  · rw [mask_at P hj, mask_at _ hj]
    by_cases e : off ≤ j ∧ j < off + q
    · rw [if_pos e, hc, List.getElem?_take, if_pos (by omega), List.getElem?_drop, show off + (j - off) = j by omega, byt_at hj]
      simp [e.1, e.2]
    · rw [if_neg e]
      have : (decide (off ≤ j) && decide (j < off + q)) = false := by
        rw [Bool.and_eq_false_iff, decide_eq_false_iff_not, decide_eq_false_iff_not]
        omega
      simp [this]
  · rw [if_neg (by omega), List.getElem?_eq_none (by rw [mask_len]; exact hj), List.getElem?_eq_none (by rw [mask_len]; exact hj)]
/-- What Pack has laid behind k rounds. -/
def laidB (rs : List (List Nat)) (k j : Nat) : Bool := decide (j < 2 + 2 * k) || (decide (2 + 2 * rs.length ≤ j) && decide (j < 2 + 2 * rs.length + sumTo (fun x => x) rs k))
theorem packed_heads (rs : List (List Nat)) {k : Nat} (hk : k < rs.length) : byt (packed rs) (2 + 2 * k) = endOf rs k % 256 ∧ byt (packed rs) (2 + 2 * k + 1) = endOf rs k / 256 := by
  have h1 := heads_at rs rs.length hk
  have a1 := packed_at rs (j := 2 * k) (by omega)
  have a2 := packed_at rs (j := 2 * k + 1) (by omega)
  rw [h1.1] at a1
  rw [h1.2] at a2
  unfold byt
  rw [List.getD_eq_getElem?_getD, List.getD_eq_getElem?_getD, a1, Nat.add_assoc, a2]
  exact ⟨rfl, rfl⟩
theorem packed_rec {rs : List (List Nat)} {k : Nat} (hk : k < rs.length) : rc rs k = ((packed rs).drop (2 + 2 * rs.length + sumTo (fun x => x) rs k)).take (rc rs k).length := by
  have h := rec1_packed hk
  unfold rec1 at h
  rw [num_packed, beg_packed (by omega), endAt_packed hk, List.drop_drop] at h
  have he : endOf rs k - sumTo (fun x => x) rs k = (rc rs k).length := by
    unfold endOf
    rw [sumTo_succ _ hk]
    omega
  rw [he] at h
  exact h.symm
theorem laid_start (rs : List (List Nat)) : mask (packed rs) (laidB rs 0) = (List.replicate (packLen rs) 0).set 0 rs.length := by
  have hl := packed_len rs
  have h2 : 2 ≤ (packed rs).length := by rw [hl]; unfold packLen; omega
  have e1 : mask (packed rs) (fun j => (fun j => decide (j = 1)) j || decide (j = 0)) = (mask (packed rs) (fun j => decide (j = 1))).set 0 rs.length := (mask_set _ (byt_packed rs).1).symm
  have e2 : mask (packed rs) (fun j => (fun _ => false) j || decide (j = 1)) = (mask (packed rs) (fun _ => false)).set 1 0 := (mask_set _ (byt_packed rs).2).symm
  have e3 : mask (packed rs) (fun j => decide (j = 1)) = List.replicate (packLen rs) 0 := by
    rw [mask_congr (R := fun j => (fun _ => false) j || decide (j = 1)) (fun j _ => by simp), e2, mask_none, hl]
    refine List.ext_getElem? fun j => ?_
    rw [List.getElem?_set]
    by_cases e : 1 = j
    · subst e
      rw [if_pos rfl, List.length_replicate, List.getElem?_replicate]
    · rw [if_neg e]
  rw [← e3, ← e1]
  refine mask_congr fun j hj => ?_
  unfold laidB
  rw [sumTo_zero, Bool.eq_iff_iff]
  simp
  omega
theorem laid_rec {rs : List (List Nat)} {k : Nat} (hk : k < rs.length) {l : Nat} (hl : (rc rs k).length = l) : splice (mask (packed rs) (laidB rs k)) (2 + 2 * rs.length + sumTo (fun x => x) rs k) (rc rs k) = mask (packed rs) (fun j => decide (j < 2 + 2 * k) || (decide (2 + 2 * rs.length ≤ j) && decide (j < 2 + 2 * rs.length + sumTo (fun x => x) rs (k + 1)))) := by
  have h1 := packed_len rs
  have h2 := sumTo_full (fun x => x) rs (k := k + 1) hk
  have h3 := sumTo_succ (fun x => x) hk
  rw [mask_splice (q := l) _ (by rw [h1]; unfold packLen total; omega) (by rw [← hl]; exact packed_rec hk)]
  refine mask_congr fun j hj => ?_
  unfold laidB
  rw [Bool.eq_iff_iff]
  simp
  omega
theorem laid_ends {rs : List (List Nat)} {k a b : Nat} (hk : k < rs.length) (ha : endOf rs k % 256 = a) (hb : endOf rs k / 256 = b) : ((mask (packed rs) (fun j => decide (j < 2 + 2 * k) || (decide (2 + 2 * rs.length ≤ j) && decide (j < 2 + 2 * rs.length + sumTo (fun x => x) rs (k + 1))))).set (2 + 2 * k) a).set (2 + 2 * k + 1) b = mask (packed rs) (laidB rs (k + 1)) := by
  have h1 := packed_len rs
  unfold packLen at h1
  rw [mask_set _ (by rw [(packed_heads rs hk).1, ha]), mask_set _ (by rw [(packed_heads rs hk).2, hb])]
  refine mask_congr fun j hj => ?_
  unfold laidB
  rw [Bool.eq_iff_iff]
  simp
  omega
theorem laid_end (rs : List (List Nat)) : mask (packed rs) (laidB rs rs.length) = packed rs := by
  have h1 := packed_len rs
  unfold packLen total at h1
  refine mask_all fun j hj => ?_
  unfold laidB
  simp
  omega
end Rc
end Go.Proofs.Ytajkcghbdbjmaaa
