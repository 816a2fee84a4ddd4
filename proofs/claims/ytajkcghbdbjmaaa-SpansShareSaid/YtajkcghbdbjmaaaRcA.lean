/- Layers 6 and 7: the plain law: which records bytes are; no program is spoken of. -/
import Derived.Test.YtajkcghbdbjmaaaMem
namespace Go.Proofs.Ytajkcghbdbjmaaa
open Go.RowKit
namespace Rc

/-- Byte i. -/
def byt (bs : List Nat) (i : Nat) : Nat := bs.getD i 0
/-- How many records. -/
def num (bs : List Nat) : Nat := byt bs 0
def endAt (bs : List Nat) (i : Nat) : Nat := byt bs (2 + 2 * i) + 256 * byt bs (2 + 2 * i + 1)
def ends (bs : List Nat) : List Nat := (List.range (num bs)).map (endAt bs)
def beg (bs : List Nat) (i : Nat) : Nat := if i = 0 then 0 else endAt bs (i - 1)
/-- Do the ends rise? -/
def rise (es : List Nat) : Bool := decide (∀ i, i < es.length - 1 → es.getD i 0 ≤ es.getD (i + 1) 0)
/-- Why these bytes are no records; 0: they are. -/
def errE (bs : List Nat) : Nat :=
  if bs.length < 2 then 3 else if num bs = 0 ∨ 16 < num bs ∨ byt bs 1 ≠ 0 then 4 else if bs.length < 2 + 2 * num bs then 3 else if rise (ends bs) = false then 4
  else if bs.length - (2 + 2 * num bs) < endAt bs (num bs - 1) then 3 else if endAt bs (num bs - 1) < bs.length - (2 + 2 * num bs) ∨ 480 < bs.length then 4 else 0
/-- Record i. -/
def rec1 (bs : List Nat) (i : Nat) : List Nat := ((bs.drop (2 + 2 * num bs)).drop (beg bs i)).take (endAt bs i - beg bs i)
def recs (bs : List Nat) : List (List Nat) := (List.range (num bs)).map (rec1 bs)
def octets (bs : List Nat) : List Value := bs.map fun (b : Nat) => Value.int .u8 (b : Int)
theorem octets_len (bs : List Nat) : (octets bs).length = bs.length := by simp [octets]
theorem octets_at {l : List Nat} {k : Nat} (h : k < l.length) : (octets l)[k]? = some (.int .u8 ((byt l k : Nat) : Int)) := by
  unfold octets byt
  rw [List.getElem?_map, List.getElem?_eq_getElem h, List.getD_eq_getElem?_getD, List.getElem?_eq_getElem h]
  rfl
theorem octets_app (a b : List Nat) : octets (a ++ b) = octets a ++ octets b := by simp [octets]
theorem octets_drop (is : List Nat) (n : Nat) : (octets is).drop n = octets (is.drop n) := by simp [octets]
theorem octets_take (is : List Nat) (n : Nat) : (octets is).take n = octets (is.take n) := by simp [octets]
theorem one_octets (bs : List Nat) : ∀ u ∈ octets bs, u.oneCell' = true := by
  intro u hu
  obtain ⟨b, _, rfl⟩ := List.mem_map.1 hu
  rfl
/-- Each is a byte. -/
def Small (bs : List Nat) : Prop := ∀ b ∈ bs, b < 256
theorem Small.at {bs : List Nat} (h : Small bs) (i : Nat) : byt bs i < 256 := by
  unfold byt
  rw [List.getD_eq_getElem?_getD]
  rcases Nat.lt_or_ge i bs.length with hi | hi
  · rw [List.getElem?_eq_getElem hi]
    exact h _ (List.getElem_mem _)
  · rw [List.getElem?_eq_none hi]
    decide
theorem ends_len (bs : List Nat) : (ends bs).length = num bs := by simp [ends]
theorem ends_at {bs : List Nat} {i : Nat} (h : i < num bs) : (ends bs).getD i 0 = endAt bs i := by
  unfold ends
  rw [List.getD_eq_getElem?_getD, List.getElem?_map, List.getElem?_range h]
  rfl
theorem rise_iff (es : List Nat) : rise es = true ↔ ∀ i, i < es.length - 1 → es.getD i 0 ≤ es.getD (i + 1) 0 := by simp [rise]
theorem recs_len (bs : List Nat) : (recs bs).length = num bs := by simp [recs]
theorem recs_at {bs : List Nat} {i : Nat} (h : i < num bs) : (recs bs)[i]? = some (rec1 bs i) := by
  unfold recs
  rw [List.getElem?_map, List.getElem?_range h]
  rfl
/-- What is known of bytes that are records. -/
structure Ok (bs : List Nat) : Prop where
  pos : 0 < num bs
  le : num bs ≤ 16
  one : byt bs 1 = 0
  up : ∀ i, i + 1 < num bs → endAt bs i ≤ endAt bs (i + 1)
  last : 2 + 2 * num bs + endAt bs (num bs - 1) = bs.length
  most : bs.length ≤ 480
theorem ok_of {bs : List Nat} (h : errE bs = 0) : Ok bs := by
  unfold errE at h
  repeat' split at h
  all_goals try cases h
  rename_i h1 h2 h3 h4 h5 h6
  have hr : rise (ends bs) = true := by simpa using h4
  rw [rise_iff, ends_len] at hr
  refine ⟨by omega, by omega, by omega, fun i hi => ?_, by omega, by omega⟩
  have := hr i (by omega)
  rw [ends_at (by omega), ends_at hi] at this
  exact this
theorem Ok.end_le {bs : List Nat} (h : Ok bs) {i : Nat} (hi : i < num bs) : endAt bs i ≤ endAt bs (num bs - 1) := by
  obtain ⟨d, hd⟩ : ∃ d, num bs - 1 = i + d := ⟨num bs - 1 - i, by omega⟩
  rw [hd]
  have : ∀ d, i + d < num bs → endAt bs i ≤ endAt bs (i + d) := by
    intro d
    induction d with
    | zero => intro _; exact Nat.le_refl _
    | succ d ih => intro hd; exact Nat.le_trans (ih (by omega)) (h.up (i + d) (by omega))
  exact this d (by omega)
theorem Ok.beg_le {bs : List Nat} (h : Ok bs) {i : Nat} (hi : i < num bs) : beg bs i ≤ endAt bs i := by
  unfold beg
  split
  · omega
  · have := h.up (i - 1) (by omega)
    rwa [Nat.sub_add_cancel (by omega)] at this
theorem beg_succ (bs : List Nat) (i : Nat) : beg bs (i + 1) = endAt bs i := by simp [beg]
theorem Ok.rec_len {bs : List Nat} (h : Ok bs) {i : Nat} (hi : i < num bs) : (rec1 bs i).length = endAt bs i - beg bs i := by
  unfold rec1
  rw [List.length_take, List.length_drop, List.length_drop]
  have := h.end_le hi
  have := h.beg_le hi
  have := h.last
  omega
end Rc
end Go.Proofs.Ytajkcghbdbjmaaa
