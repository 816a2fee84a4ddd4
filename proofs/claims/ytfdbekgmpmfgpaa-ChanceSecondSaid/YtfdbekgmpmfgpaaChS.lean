/- Layer 18 (chance): the plain laws of ChanceAll and ChanceSecond; a row of counts in memory. -/
import Derived.Test.YtfdbekgmpmfgpaaChR
namespace Go.Proofs.Ytfdbekgmpmfgpaa
open Go.RowKit
namespace Ch

theorem Inv.first {us0 ov us : List Bool} {all who : List Nat} {x : Nat} (h : Inv us0 ov all [x] who us) : all.getD 0 0 = x := by
  obtain ⟨U, P, _, _, _, _, _, _, ht⟩ := h
  rw [← ht]
  rfl
/-- The first one that goes is who goes next. -/
theorem total_first {us ov : List Bool} {h : Nat} (hh : h < us.length) : (total us ov h).getD 0 0 = (nextOrder us ov h).getD 0 0 := by
  obtain ⟨x, rest, e, hi⟩ := (Inv.start us ov h).step (by intro e; have := ring_len us.length h; rw [e] at this; simp at this; omega)
  have e2 : nextOrder us ov h = x :: rest := e
  rw [e2]
  exact Inv.first (x := x) hi
theorem filter_count (f : Nat → Bool) (j : Nat) (l : List Nat) : (l.filter fun i => !f i).count j + (l.filter f).count j = l.count j := by
  induction l with
  | nil => rfl
  | cons x l ih => cases h : f x <;> simp [h, List.count_cons] <;> omega
theorem total_count {us ov : List Bool} {h j : Nat} (hh : h < us.length) (hj : j < us.length) : (total us ov h).count j = 1 := by
  unfold total
  rw [List.count_append, filter_count]
  obtain ⟨i, hi, e⟩ := ring_has hh hj
  refine List.Nodup.count ring_nodup |>.trans ?_
  rw [if_pos]
  rw [← e, ← ring_at hi, List.getD_eq_getElem?_getD, List.getElem?_eq_getElem (by rw [ring_len]; exact hi)]
  exact List.getElem_mem _
theorem total_mem {us ov : List Bool} {h : Nat} : ∀ x ∈ total us ov h, x < us.length := by
  intro x hx
  unfold total at hx
  rcases List.mem_append.1 hx with h | h
  · exact ring_lt x (List.mem_filter.1 h).1
  · exact ring_lt x (List.mem_filter.1 h).1
theorem total_at_lt {us ov : List Bool} {h k : Nat} (hk : k < us.length) : (total us ov h).getD k 0 < us.length := by
  refine total_mem (us := us) (ov := ov) (h := h) _ ?_
  rw [List.getD_eq_getElem?_getD, List.getElem?_eq_getElem (by rw [total_len]; exact hk)]
  exact List.getElem_mem _
theorem take_more {l : List Nat} {k : Nat} (hk : k < l.length) : l.take (k + 1) = l.take k ++ [l.getD k 0] := by
  rw [List.take_add_one, List.getElem?_eq_getElem hk, List.getD_eq_getElem?_getD, List.getElem?_eq_getElem hk]
  rfl
/-- Whether one of the first k was asked for. -/
def later (us : List Bool) (l : List Nat) (k : Nat) : Bool := (l.take k).any fun i => us.getD i false
theorem later_more {us : List Bool} {l : List Nat} {k : Nat} (hk : k < l.length) : later us l (k + 1) = (later us l k || us.getD (l.getD k 0) false) := by
  unfold later
  rw [take_more hk, List.any_append]
  simp
/-- If nobody is over: behind one that was asked for, all were. -/
theorem later_all {us ov : List Bool} {h k : Nat} (ho : ∀ i, ov.getD i false = false) (hk : k < us.length) (hl : later us (total us ov h) k = true) : us.getD ((total us ov h).getD k 0) false = true := by
  have hs : ∀ i, stay us ov i = us.getD i false := fun i => by unfold stay; rw [ho]; simp
  have hk2 : k < (total us ov h).length := by rw [total_len]; exact hk
  have hlen := hk2
  unfold later total at hl
  unfold total at hk2 ⊢
  have e0 : ∀ l : List Nat, (hk : k < l.length) → l.getD k 0 = l[k] := fun l hk => by
    rw [List.getD_eq_getElem?_getD, List.getElem?_eq_getElem hk]
    rfl
  rw [e0 _ hk2]
  generalize hA : (ring us.length h).filter (fun i => !stay us ov i) = A at *
  generalize hB : (ring us.length h).filter (stay us ov) = B at *
  have fA : ∀ x ∈ A, us.getD x false = false := fun x hx => by
    rw [← hA] at hx
    have := (List.mem_filter.1 hx).2
    rw [hs] at this
    simpa using this
  have fB : ∀ x ∈ B, us.getD x false = true := fun x hx => by
    rw [← hB] at hx
    have := (List.mem_filter.1 hx).2
    rw [hs] at this
    exact this
  have hge : A.length ≤ k := by
    rcases Nat.lt_or_ge k A.length with hlt | hge
    · exfalso
      rw [List.take_append_of_le_length (by omega)] at hl
      obtain ⟨x, hx, hu⟩ := List.any_eq_true.1 hl
      rw [fA x (List.mem_of_mem_take hx)] at hu
      cases hu
    · exact hge
  refine fB _ ?_
  show (A ++ B)[k] ∈ B
  rw [List.getElem_append_right hge]
  exact List.getElem_mem _
/-- A block of its own with these counts. -/
def Cnts (sb n : Nat) (f : Nat → Nat) (w : World) : Prop := sb < w.heap.size ∧ (∀ j, j < n → w.cell? ⟨sb, j, none⟩ = some (.int .i64 ((f j : Nat) : Int))) ∧ ∀ j, w.frozen? ⟨sb, j, none⟩ = false
section
variable {sb n : Nat} {f : Nat → Nat} {w : World}
theorem Cnts.set (h : Cnts sb n f w) {x : Nat} (hx : x < n) (v : Nat) : Cnts sb n (fun j => if x = j then v else f j) (w.setCell ⟨sb, x, none⟩ (.int .i64 (v : Int))) := by
  obtain ⟨h3, h7, h8⟩ := h
  refine ⟨by simpa using h3, fun j hj => ?_, fun j => ?_⟩
  · show _ = some (Value.int .i64 (((if x = j then v else f j : Nat)) : Int))
    by_cases e : x = j
    · subst e
      rw [World.cell?_setCell_same (h := h7 x hx), if_pos rfl]
    · rw [if_neg e, World.cell?_setCell_other]
      · exact h7 j hj
      · intro e2
        injection e2 with _ e2
        exact e e2
  · rw [World.frozen?_setCell]
    exact h8 j
theorem Cnts.drewN (h : Cnts sb n f w) (k : Nat) : Cnts sb n f (w.drewN k) := h
theorem cnts_made (w : World) (n : Nat) (t : TypeId) : Cnts w.heap.size n (fun _ => 0) (w.alloc (.cells (madeCells #[.int .i64 0] n) t)) := by
  refine ⟨by simp, fun j hj => ?_, fun j => by simp⟩
  rw [World.cell?_alloc_new]
  simp [madeCells, hj, Nat.mod_one]
end
theorem rd_made (w : World) (n : Nat) (t : TypeId) : Mem.Rd (w.alloc (.cells (madeCells #[.bool false] n) t)) (some ⟨w.heap.size, 0, none⟩) (bools (List.replicate n false)) := (flags_made w n t).rd
theorem rd_setCell {w : World} {A : Option Addr} {xs : List Value} {sb x : Nat} {v : Value} (h : Mem.Rd w A xs) (hs : ∀ b off, A = some ⟨b, off, none⟩ → b ≠ sb) : Mem.Rd (w.setCell ⟨sb, x, none⟩ v) A xs := fun hl => by
  obtain ⟨b, off, rfl, hlt, hc⟩ := h hl
  refine ⟨b, off, rfl, by simpa using hlt, fun i hi => ?_⟩
  rw [World.cell?_setCell_other]
  · exact hc i hi
  · intro e
    injection e with e _
    exact hs b off rfl e.symm
end Ch
end Go.Proofs.Ytfdbekgmpmfgpaa
