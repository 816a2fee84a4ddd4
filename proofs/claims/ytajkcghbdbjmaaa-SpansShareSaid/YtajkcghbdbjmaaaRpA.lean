/- Layers 6 and 7: the plain law: which bytes records are; a slice that reads as records. No program's function is spoken of. -/
import Derived.Test.YtajkcghbdbjmaaaRcS
namespace Go.Proofs.Ytajkcghbdbjmaaa
open Go.RowKit
namespace Rc

/-- Record k. -/
def rc (rs : List (List Nat)) (k : Nat) : List Nat := rs.getD k []
/-- A sum over the lengths of the first k. -/
def sumTo (f : Nat → Nat) (rs : List (List Nat)) (k : Nat) : Nat := ((rs.take k).map fun r => f r.length).sum
theorem rc_at {rs : List (List Nat)} {k : Nat} (h : k < rs.length) : rs[k]? = some (rc rs k) := by
  unfold rc
  rw [List.getD_eq_getElem?_getD, List.getElem?_eq_getElem h]
  rfl
theorem take_rc {rs : List (List Nat)} {k : Nat} (h : k < rs.length) : rs.take (k + 1) = rs.take k ++ [rc rs k] := by
  rw [List.take_add_one, rc_at h]
  rfl
theorem rc_mem {rs : List (List Nat)} {k : Nat} (h : k < rs.length) : rc rs k ∈ rs := List.mem_of_getElem? (rc_at h)
@[simp] theorem sumTo_zero (f : Nat → Nat) (rs : List (List Nat)) : sumTo f rs 0 = 0 := by simp [sumTo]
theorem sumTo_succ (f : Nat → Nat) {rs : List (List Nat)} {k : Nat} (h : k < rs.length) : sumTo f rs (k + 1) = sumTo f rs k + f (rc rs k).length := by
  unfold sumTo
  rw [take_rc h]
  simp
theorem sumTo_le {f : Nat → Nat} {m : Nat} (hf : ∀ x, f x ≤ m) (rs : List (List Nat)) : ∀ k, k ≤ rs.length → sumTo f rs k ≤ k * m
  | 0, _ => by simp
  | k + 1, h => by
    rw [sumTo_succ f (by omega), Nat.succ_mul]
    have := sumTo_le hf rs k (by omega)
    have := hf (rc rs k).length
    omega
theorem sumTo_mono {f g : Nat → Nat} (h : ∀ x, f x ≤ g x) (rs : List (List Nat)) : ∀ k, k ≤ rs.length → sumTo f rs k ≤ sumTo g rs k
  | 0, _ => by simp
  | k + 1, hk => by
    rw [sumTo_succ f (by omega), sumTo_succ g (by omega)]
    have := sumTo_mono h rs k (by omega)
    have := h (rc rs k).length
    omega
theorem sumTo_up (f : Nat → Nat) (rs : List (List Nat)) {k : Nat} : ∀ d, k + d ≤ rs.length → sumTo f rs k ≤ sumTo f rs (k + d)
  | 0, _ => Nat.le_refl _
  | d + 1, h => by
    rw [← Nat.add_assoc, sumTo_succ f (by omega)]
    have := sumTo_up f rs (k := k) d (by omega)
    omega
theorem sumTo_full (f : Nat → Nat) (rs : List (List Nat)) {k : Nat} (h : k ≤ rs.length) : sumTo f rs k ≤ sumTo f rs rs.length := by
  have := sumTo_up f rs (k := k) (rs.length - k) (by omega)
  rwa [Nat.add_sub_cancel' h] at this
theorem sumTo_one (f : Nat → Nat) {rs : List (List Nat)} {k : Nat} (h : k < rs.length) : f (rc rs k).length ≤ sumTo f rs rs.length := by
  have := sumTo_full f rs (k := k + 1) h
  rw [sumTo_succ f h] at this
  omega
theorem sumTo_two (f : Nat → Nat) (m : Nat) (rs : List (List Nat)) : ∀ k, k ≤ rs.length → sumTo (fun x => m + f x) rs k = m * k + sumTo f rs k
  | 0, _ => by simp
  | k + 1, h => by
    rw [sumTo_succ _ (by omega), sumTo_succ _ (by omega), sumTo_two f m rs k (by omega), Nat.mul_succ]
    omega
/-- Whether the cut sum is the sum. -/
theorem sumTo_cut (m : Nat) (rs : List (List Nat)) : ∀ k, k ≤ rs.length → sumTo (fun x => min x m) rs k = sumTo (fun x => x) rs k ∨ m ≤ sumTo (fun x => min x m) rs k ∧ m ≤ sumTo (fun x => x) rs k
  | 0, _ => by simp
  | k + 1, h => by
    rw [sumTo_succ _ (by omega), sumTo_succ _ (by omega)]
    have := sumTo_cut m rs k (by omega)
    omega
/-- How many bytes of data. -/
def total (rs : List (List Nat)) : Nat := sumTo (fun x => x) rs rs.length
def fewB (rs : List (List Nat)) : Bool := decide (rs.length ≤ 60 ∧ total rs ≤ 3000)
theorem few_of {rs : List (List Nat)} (h : fewB rs = true) : rs.length ≤ 60 ∧ total rs ≤ 3000 := by simpa [fewB] using h
theorem few_full {rs : List (List Nat)} : fewB rs = (decide (rs.length ≤ 60) && decide (sumTo (fun x => min x 9999) rs rs.length ≤ 3000)) := by
  unfold fewB total
  have := sumTo_cut 9999 rs rs.length (Nat.le_refl _)
  rw [Bool.decide_and]
  congr 1
  rw [decide_eq_decide]
  omega
theorem few_stop {rs : List (List Nat)} {k : Nat} (hk : k ≤ rs.length) (h : 3000 < sumTo (fun x => min x 9999) rs k) : fewB rs = false := by
  rw [few_full]
  have := sumTo_full (fun x => min x 9999) rs hk
  rw [Bool.and_eq_false_iff]
  exact .inr (by rw [decide_eq_false_iff_not]; omega)
theorem len_le {rs : List (List Nat)} {k : Nat} (hk : k < rs.length) : (rc rs k).length ≤ total rs := sumTo_one (fun x => x) hk
/-- Why these are no record set; 0: they are. -/
def packE (rs : List (List Nat)) : Nat := if rs.length < 1 ∨ 16 < rs.length then 2 else if 480 < 2 + 2 * rs.length + total rs then 22 else 0
def packLen (rs : List (List Nat)) : Nat := 2 + 2 * rs.length + total rs
def sizeN (rs : List (List Nat)) : Nat := if packE rs = 0 then packLen rs else 0
theorem packE_cut {rs : List (List Nat)} (h1 : 0 < rs.length) (h2 : rs.length ≤ 16) : packE rs = if 480 < 2 + sumTo (fun x => 2 + min x 480) rs rs.length then 22 else 0 := by
  unfold packE total
  rw [if_neg (by omega), sumTo_two (fun x => min x 480) 2 rs _ (Nat.le_refl _)]
  have := sumTo_cut 480 rs rs.length (Nat.le_refl _)
  split <;> split <;> omega
theorem packE_len {rs : List (List Nat)} (h1 : 0 < rs.length) (h2 : rs.length ≤ 16) : packE rs = if 480 < 2 + sumTo (fun x => 2 + x) rs rs.length then 22 else 0 := by
  unfold packE total
  rw [if_neg (by omega), sumTo_two (fun x => x) 2 rs _ (Nat.le_refl _)]
  split <;> split <;> omega
/-- What is known of a record set. -/
structure Fit (rs : List (List Nat)) : Prop where
  pos : 0 < rs.length
  le : rs.length ≤ 16
  most : 2 + 2 * rs.length + total rs ≤ 480
theorem fit_of {rs : List (List Nat)} (h : packE rs = 0) : Fit rs := by
  unfold packE at h
  repeat' split at h
  all_goals try cases h
  exact ⟨by omega, by omega, by omega⟩
theorem Fit.packE {rs : List (List Nat)} (h : Fit rs) : packE rs = 0 := by
  have := h.pos
  have := h.le
  have := h.most
  unfold Rc.packE
  rw [if_neg (by omega), if_neg (by omega)]

/-- Where record i ends in the data. -/
def endOf (rs : List (List Nat)) (i : Nat) : Nat := sumTo (fun x => x) rs (i + 1)
/-- The first k ends, as bytes. -/
def heads (rs : List (List Nat)) (k : Nat) : List Nat := (List.range k).flatMap fun i => [endOf rs i % 256, endOf rs i / 256]
def packed (rs : List (List Nat)) : List Nat := [rs.length, 0] ++ heads rs rs.length ++ rs.flatten
theorem heads_succ (rs : List (List Nat)) (k : Nat) : heads rs (k + 1) = heads rs k ++ [endOf rs k % 256, endOf rs k / 256] := by
  unfold heads
  rw [List.range_succ, List.flatMap_append]
  simp
theorem heads_len (rs : List (List Nat)) : ∀ k, (heads rs k).length = 2 * k
  | 0 => rfl
  | k + 1 => by rw [heads_succ, List.length_append, heads_len rs k]; simp; omega
theorem flat_len (rs : List (List Nat)) : ∀ k, k ≤ rs.length → (rs.take k).flatten.length = sumTo (fun x => x) rs k
  | 0, _ => by simp
  | k + 1, h => by
    rw [take_rc (by omega), List.flatten_append, List.length_append, flat_len rs k (by omega), sumTo_succ _ (by omega)]
    simp
theorem flat_total (rs : List (List Nat)) : rs.flatten.length = total rs := by
  have := flat_len rs rs.length (Nat.le_refl _)
  rwa [List.take_length] at this
theorem packed_len (rs : List (List Nat)) : (packed rs).length = packLen rs := by
  unfold packed packLen
  rw [List.length_append, List.length_append, heads_len, flat_total]
  rfl
theorem endOf_le {rs : List (List Nat)} {i : Nat} (h : i < rs.length) : endOf rs i ≤ total rs := sumTo_full _ rs h
theorem heads_at (rs : List (List Nat)) {i : Nat} : ∀ k, i < k → (heads rs k)[2 * i]? = some (endOf rs i % 256) ∧ (heads rs k)[2 * i + 1]? = some (endOf rs i / 256)
  | 0, h => by omega
  | k + 1, h => by
    rw [heads_succ]
    rcases Nat.lt_or_ge i k with hi | hi
    · have hl := heads_len rs k
      rw [List.getElem?_append_left (by omega), List.getElem?_append_left (by omega)]
      exact heads_at rs k hi
    · obtain rfl : i = k := by omega
      have hl := heads_len rs i
      rw [List.getElem?_append_right (by omega), List.getElem?_append_right (by omega), hl, Nat.sub_self, show 2 * i + 1 - 2 * i = 1 from by omega]
      exact ⟨rfl, rfl⟩
theorem byt_packed (rs : List (List Nat)) : byt (packed rs) 0 = rs.length ∧ byt (packed rs) 1 = 0 := by
  unfold byt packed
  exact ⟨rfl, rfl⟩
theorem packed_at (rs : List (List Nat)) {j : Nat} (h : j < 2 * rs.length) : (packed rs)[2 + j]? = (heads rs rs.length)[j]? := by
  have hl := heads_len rs rs.length
  unfold packed
  rw [List.append_assoc, List.getElem?_append_right (by simp), List.getElem?_append_left (by simp; omega)]
  simp only [List.length_cons, List.length_nil]
  rw [show 2 + j - (0 + 1 + 1) = j from by omega]
theorem endAt_packed {rs : List (List Nat)} {i : Nat} (h : i < rs.length) : endAt (packed rs) i = endOf rs i := by
  have h1 := heads_at rs rs.length h
  unfold endAt byt
  rw [List.getD_eq_getElem?_getD, List.getD_eq_getElem?_getD, packed_at rs (by omega), Nat.add_assoc, packed_at rs (by omega), h1.1, h1.2]
  show endOf rs i % 256 + 256 * (endOf rs i / 256) = endOf rs i
  omega
theorem num_packed (rs : List (List Nat)) : num (packed rs) = rs.length := rfl
theorem beg_packed {rs : List (List Nat)} {i : Nat} (h : i ≤ rs.length) : beg (packed rs) i = sumTo (fun x => x) rs i := by
  unfold beg
  split
  · rename_i h0
    subst h0
    simp
  · rw [endAt_packed (by omega)]
    unfold endOf
    rw [Nat.sub_add_cancel (by omega)]
theorem packed_ok {rs : List (List Nat)} (h : Fit rs) : errE (packed rs) = 0 := by
  have h1 := h.pos
  have h2 := h.le
  have h3 := h.most
  have hl := packed_len rs
  unfold packLen at hl
  have hr : rise (ends (packed rs)) = true := by
    rw [rise_iff, ends_len, num_packed]
    intro i hi
    rw [ends_at (by rw [num_packed]; omega), ends_at (by rw [num_packed]; omega), endAt_packed (by omega), endAt_packed (by omega)]
    exact sumTo_up _ rs (k := i + 1) 1 (by omega)
  have hlast : endAt (packed rs) (rs.length - 1) = total rs := by
    rw [endAt_packed (by omega)]
    unfold endOf total
    rw [Nat.sub_add_cancel (by omega)]
  unfold errE
  rw [if_neg (by omega), num_packed, (byt_packed rs).2, if_neg (by omega), if_neg (by omega), hr, if_neg (by simp), hlast, if_neg (by omega), if_neg (by omega)]
theorem flat_split (rs : List (List Nat)) {k : Nat} (h : k < rs.length) : rs.flatten = (rs.take k).flatten ++ (rc rs k ++ (rs.drop (k + 1)).flatten) := by
  have h1 : rs = rs.take k ++ (rc rs k :: rs.drop (k + 1)) := by
    have := List.take_append_drop k rs
    rw [List.drop_eq_getElem_cons h] at this
    have h2 := rc_at h
    rw [List.getElem?_eq_getElem h] at h2
    injection h2 with h2
    rw [h2] at this
    exact this.symm
  conv => lhs; rw [h1]
  simp
theorem rec1_packed {rs : List (List Nat)} {k : Nat} (h : k < rs.length) : rec1 (packed rs) k = rc rs k := by
  unfold rec1
  rw [num_packed, beg_packed (by omega), endAt_packed h]
  have hd : (packed rs).drop (2 + 2 * rs.length) = rs.flatten := by
    unfold packed
    have hl := heads_len rs rs.length
    rw [List.drop_left' (by simp; omega)]
  have he : endOf rs k - sumTo (fun x => x) rs k = (rc rs k).length := by
    unfold endOf
    rw [sumTo_succ _ h]
    omega
  rw [hd, he, flat_split rs h, List.drop_left' (flat_len rs k (by omega)), List.take_left' rfl]
theorem recs_packed (rs : List (List Nat)) : recs (packed rs) = rs := by
  refine List.ext_getElem? fun i => ?_
  rcases Nat.lt_or_ge i rs.length with h | h
  · rw [recs_at (by rw [num_packed]; exact h), rec1_packed h, rc_at h]
  · rw [List.getElem?_eq_none (by rw [recs_len, num_packed]; exact h), List.getElem?_eq_none h]
theorem small_packed {rs : List (List Nat)} (h : Fit rs) (hs : ∀ r ∈ rs, Small r) : Small (packed rs) := by
  have h2 := h.le
  have h3 := h.most
  intro b hb
  unfold packed at hb
  rw [List.mem_append, List.mem_append] at hb
  rcases hb with (hb | hb) | hb
  · simp at hb
    omega
  · unfold heads at hb
    obtain ⟨i, hi, hb⟩ := List.mem_flatMap.1 hb
    have := endOf_le (rs := rs) (List.mem_range.1 hi)
    simp at hb
    omega
  · obtain ⟨r, hr, hb⟩ := List.mem_flatten.1 hb
    exact hs r hr b hb
/-- The other way round. -/
theorem rc_recs {bs : List Nat} {k : Nat} (h : k < num bs) : rc (recs bs) k = rec1 bs k := by
  have h1 := rc_at (rs := recs bs) (k := k) (by rw [recs_len]; exact h)
  rw [recs_at h] at h1
  injection h1 with h1
  exact h1.symm
theorem sumTo_recs {bs : List Nat} (h : Ok bs) : ∀ k, k ≤ num bs → sumTo (fun x => x) (recs bs) k = beg bs k
  | 0, _ => by simp [beg]
  | k + 1, hk => by
    rw [sumTo_succ _ (by rw [recs_len]; omega), sumTo_recs h k (by omega), rc_recs (by omega), beg_succ]
    have h1 := h.rec_len (i := k) (by omega)
    have h2 := h.beg_le (i := k) (by omega)
    omega
theorem total_recs {bs : List Nat} (h : Ok bs) : total (recs bs) = endAt bs (num bs - 1) := by
  have := h.pos
  unfold total
  rw [recs_len, sumTo_recs h _ (Nat.le_refl _)]
  unfold beg
  rw [if_neg (by omega)]
theorem recs_fit {bs : List Nat} (h : Ok bs) : Fit (recs bs) := by
  have := h.last
  have := h.most
  exact ⟨by rw [recs_len]; exact h.pos, by rw [recs_len]; exact h.le, by rw [recs_len, total_recs h]; omega⟩
theorem endOf_recs {bs : List Nat} (h : Ok bs) {i : Nat} (hi : i < num bs) : endOf (recs bs) i = endAt bs i := by
  unfold endOf
  rw [sumTo_recs h _ (by omega), beg_succ]
theorem flat_recs {bs : List Nat} (h : Ok bs) : ∀ k, k ≤ num bs → ((recs bs).take k).flatten = (bs.drop (2 + 2 * num bs)).take (beg bs k)
  | 0, _ => by simp [beg]
  | k + 1, hk => by
    rw [take_rc (by rw [recs_len]; omega), List.flatten_append, flat_recs h k (by omega), rc_recs (by omega), beg_succ]
    have h2 := h.beg_le (i := k) (by omega)
    unfold rec1
    simp only [List.flatten_cons, List.flatten_nil, List.append_nil]
    obtain ⟨d, hd⟩ : ∃ d, endAt bs k = beg bs k + d := ⟨endAt bs k - beg bs k, by omega⟩
    rw [hd, Nat.add_sub_cancel_left, List.take_add]
theorem packed_recs {bs : List Nat} (h : Ok bs) (hs : Small bs) : packed (recs bs) = bs := by
  have hf := recs_fit h
  have h1 := h.pos
  have h5 := h.last
  have hl : (packed (recs bs)).length = bs.length := by
    rw [packed_len, packLen, recs_len, total_recs h]
    omega
  have hfl : (recs bs).flatten = bs.drop (2 + 2 * num bs) := by
    have := flat_recs h (num bs) (Nat.le_refl _)
    rw [List.take_of_length_le (by rw [recs_len]; exact Nat.le_refl _), List.take_of_length_le (by rw [List.length_drop]; unfold beg; rw [if_neg (by omega)]; omega)] at this
    exact this
  have hbyt : ∀ i, i < bs.length → bs[i]? = some (byt bs i) := fun i hi => by
    unfold byt
    rw [List.getD_eq_getElem?_getD, List.getElem?_eq_getElem hi]
    rfl
  refine List.ext_getElem? fun i => ?_
  have hhl := heads_len (recs bs) (num bs)
  unfold packed
  rw [recs_len, hfl]
  rcases Nat.lt_or_ge i (2 + 2 * num bs) with hi | hi
  · rw [List.getElem?_append_left (by simp; omega), hbyt i (by omega)]
    rcases Nat.lt_or_ge i 2 with h2 | h2
    · rw [List.getElem?_append_left (by simpa using h2)]
      match i, h2 with
      | 0, _ => rfl
      | 1, _ => rw [h.one]; rfl
    · rw [List.getElem?_append_right (by simpa using h2)]
      simp only [List.length_cons, List.length_nil]
      obtain ⟨j, hj⟩ : ∃ j, i = 2 + 2 * j ∨ i = 2 + 2 * j + 1 := ⟨(i - 2) / 2, by omega⟩
      have h6 := heads_at (recs bs) (i := j) (num bs) (by omega)
      rw [endOf_recs h (by omega)] at h6
      have s1 := hs.at (2 + 2 * j)
      have s2 := hs.at (2 + 2 * j + 1)
      unfold endAt at h6
      rcases hj with rfl | rfl
      · rw [show 2 + 2 * j - (0 + 1 + 1) = 2 * j from by omega, h6.1]
        congr 1
        omega
      · rw [show 2 + 2 * j + 1 - (0 + 1 + 1) = 2 * j + 1 from by omega, h6.2]
        congr 1
        omega
  · have hpl : ([num bs, 0] ++ heads (recs bs) (num bs)).length = 2 + 2 * num bs := by simp; omega
    rw [List.getElem?_append_right (by omega), hpl, List.getElem?_drop, Nat.add_sub_cancel' hi]
theorem recs_small {bs : List Nat} (hs : Small bs) : ∀ r ∈ recs bs, Small r := by
  intro r hr b hb
  unfold recs at hr
  obtain ⟨i, _, rfl⟩ := List.mem_map.1 hr
  unfold rec1 at hb
  exact hs b (List.mem_of_mem_drop (List.mem_of_mem_drop (List.mem_of_mem_take hb)))

/-- A slice of slices that reads as records. -/
structure RdRecs (w : World) (A : Option Addr) (n : Nat) (rs : List (List Nat)) : Prop where
  len : rs.length = n
  small : ∀ r ∈ rs, Small r
  none_ : A = none → n = 0
  rows : 0 < n → ∃ b off, A = some ⟨b, off, none⟩ ∧ b < w.heap.size ∧ ∀ k, k < n → ∃ A' c', w.cell? ⟨b, off + k, none⟩ = some (.slice A' (rc rs k).length c') ∧ Mem.Rd w A' (octets (rc rs k)) ∧
    (rc rs k).length ≤ c' ∧ c' ≤ 9223372036854775807 ∧ (A' = none → (rc rs k).length = 0 ∧ c' = 0)
theorem RdRecs.below {w w' : World} {A : Option Addr} {n : Nat} {rs : List (List Nat)} (h : RdRecs w A n rs) (hb : Below w.heap.size w w') : RdRecs w' A n rs := by
  refine ⟨h.len, h.small, h.none_, fun h0 => ?_⟩
  obtain ⟨b, off, ha, hlt, hc⟩ := h.rows h0
  refine ⟨b, off, ha, Nat.lt_of_lt_of_le hlt hb.size, fun k hk => ?_⟩
  obtain ⟨A', c', h1, h2, h3⟩ := hc k hk
  exact ⟨A', c', (hb.cell (p := ⟨b, off + k, none⟩) hlt).trans h1, h2.below hb, h3⟩
theorem RdRecs.nil (w : World) (A : Option Addr) : RdRecs w A 0 [] := ⟨rfl, by simp, fun _ => rfl, fun h => absurd h (by decide)⟩
/-- One record's cell. -/
theorem RdRecs.at {w : World} {A : Option Addr} {n k : Nat} {rs : List (List Nat)} (h : RdRecs w A n rs) (hk : k < n) :
    ∃ b off A' l c', A = some ⟨b, off, none⟩ ∧ (rc rs k).length = l ∧ w.cell? ⟨b, off + k, none⟩ = some (.slice A' l c') ∧ Mem.Rd w A' (octets (rc rs k)) ∧ Small (rc rs k) ∧ l ≤ c' ∧ c' ≤ 9223372036854775807 ∧ (A' = none → l = 0 ∧ c' = 0) := by
  obtain ⟨b, off, ha, _, hc⟩ := h.rows (by omega)
  obtain ⟨A', c', h1, h2, h3, h4, h5⟩ := hc k hk
  exact ⟨b, off, A', _, c', ha, rfl, h1, h2, h.small _ (rc_mem (by rw [h.len]; exact hk)), h3, h4, h5⟩
theorem RdRecs.of_own {w : World} {B B' : Nat} {U : Option Addr} {n uc : Nat} {ob : Option Nat} {vs : List Value} {rs : List (List Nat)} (h : OwnRecs w B ob vs rs) (ho : w.ownsRow B' 22 1 (.slice U n uc) n vs) (hs : ∀ r ∈ rs, Small r) : RdRecs w U n rs := by
  have hn : vs.length = n := by have := ho.1; omega
  have hl : rs.length = n := by rw [← h.len]; exact hn
  refine ⟨hl, hs, fun hU => ?_, fun h0 => ?_⟩
  · rcases ho.2 with ⟨_, h0⟩ | ⟨g, cap, cur, h3, _⟩
    · exact h0
    · injection h3 with h3
      rw [hU] at h3
      cases h3
  · obtain ⟨b, off, hA, hlt, hc⟩ := (Mem.Rd.of_own ho) (by omega)
    refine ⟨b, off, hA, hlt, fun k hk => ?_⟩
    obtain ⟨v, hv⟩ : ∃ v, vs[k]? = some v := ⟨_, List.getElem?_eq_getElem (by omega)⟩
    have h1 := h.own k v _ hv (rc_at (by omega))
    obtain ⟨A', c', rfl, hc'⟩ := Mem.own_shape h1
    refine ⟨A', c', by rw [hc k (by omega), hv], Mem.Rd.of_own h1, hc', ?_, fun hA' => ?_⟩
    · rcases h1.2 with ⟨h2, _⟩ | ⟨g, cap, cur, h3, _, _, _, h5, _⟩
      · injection h2 with _ _ h2
        omega
      · injection h3 with _ _ h3
        subst h3
        have : maxLen = 9223372036854775807 := rfl
        omega
    · rcases h1.2 with ⟨h2, h3⟩ | ⟨g, cap, cur, h3, _⟩
      · injection h2 with _ _ h2
        exact ⟨h3, h2⟩
      · injection h3 with h3
        rw [hA'] at h3
        cases h3
end Rc
end Go.Proofs.Ytajkcghbdbjmaaa
