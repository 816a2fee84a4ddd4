/- Layer 18 (chance): the plain law behind the document's Order: those left are the ring from the hand on, without the gone. -/
import Derived.Test.YtfdbekgmpmfgpaaChO
import Derived.Deep.OwnRows
namespace Go.Proofs.Ytfdbekgmpmfgpaa
open Go.RowKit
namespace Ch

def live (g : List Bool) (l : List Nat) : List Nat := l.filter fun i => !g.getD i false
def tail (n hd : Nat) : List Nat := (List.range (n - 1)).map fun i => (hd + 1 + i) % n
theorem ring_cons {n hd : Nat} (h : hd < n) : ring n hd = hd :: tail n hd := by
  obtain ⟨m, rfl⟩ : ∃ m, n = m + 1 := ⟨n - 1, by omega⟩
  unfold ring tail
  rw [List.range_succ_eq_map, List.map_cons, Nat.add_zero, Nat.mod_eq_of_lt h, List.map_map]
  congr 1
  refine List.map_congr_left fun i _ => ?_
  show (hd + (i + 1)) % (m + 1) = _
  rw [show hd + (i + 1) = hd + 1 + i by omega]
theorem ring_next {n hd : Nat} (h : hd < n) : ring n ((hd + 1) % n) = tail n hd ++ [hd] := by
  obtain ⟨m, rfl⟩ : ∃ m, n = m + 1 := ⟨n - 1, by omega⟩
  unfold ring tail
  rw [List.range_succ, List.map_append]
  congr 1
  · refine List.map_congr_left fun i _ => ?_
    rw [Nat.mod_add_mod]
  · show [((hd + 1) % (m + 1) + m) % (m + 1)] = [hd]
    rw [Nat.mod_add_mod, show hd + 1 + m = hd + (m + 1) by omega, Nat.add_mod_right, Nat.mod_eq_of_lt h]
theorem tail_not {n hd : Nat} (h : hd < n) : hd ∉ tail n hd := by
  have := ring_nodup (n := n) (h := hd)
  rw [ring_cons h] at this
  exact (List.nodup_cons.1 this).1
section
variable {n hd : Nat} {g : List Bool}
theorem live_gone (h : hd < n) (hg : g.getD hd false = true) : live g (ring n ((hd + 1) % n)) = live g (ring n hd) := by
  rw [ring_next h, ring_cons h]
  unfold live
  rw [List.filter_append, List.filter_cons_of_neg (by simp only [hg]; decide), List.filter_cons_of_neg (by simp only [hg]; decide)]
  simp
theorem live_head (h : hd < n) (hg : g.getD hd false = false) : live g (ring n hd) = hd :: live g (tail n hd) := by
  rw [ring_cons h]
  unfold live
  rw [List.filter_cons_of_pos (by simp only [hg]; rfl)]
theorem live_next (h : hd < n) (hg : g.getD hd false = false) : live g (ring n ((hd + 1) % n)) = live g (tail n hd) ++ [hd] := by
  rw [ring_next h]
  unfold live
  rw [List.filter_append, List.filter_cons_of_pos (by simp only [hg]; rfl)]
  rfl
theorem getD_true {l : List Bool} {i : Nat} (h : i < l.length) : (l.set i true).getD i false = true := by
  rw [List.getD_eq_getElem?_getD, List.getElem?_set_self h]
  rfl
theorem live_set_tail (h : hd < n) : live (g.set hd true) (tail n hd) = live g (tail n hd) := by
  unfold live
  refine List.filter_congr fun i hi => ?_
  have hne : hd ≠ i := fun e => tail_not h (e ▸ hi)
  simp only [List.getD_eq_getElem?_getD]
  rw [List.getElem?_set_ne hne]
theorem live_set (h : hd < n) (hl : g.length = n) : live (g.set hd true) (ring n hd) = live g (tail n hd) := by
  have e := getD_true (l := g) (i := hd) (by omega)
  rw [← live_set_tail h, ring_cons h]
  show List.filter _ (hd :: tail n hd) = _
  rw [List.filter_cons_of_neg (by simp only [e]; simp)]
  rfl
theorem live_set_next (h : hd < n) (hl : g.length = n) : live (g.set hd true) (ring n ((hd + 1) % n)) = live g (tail n hd) := by
  rw [live_gone h (getD_true (by omega)), live_set h hl]
/-- How far it is to the next one that is left. -/
def dist (g : List Bool) (n hd : Nat) : Nat := ((ring n hd).takeWhile fun i => g.getD i false).length
theorem tw_app {p : Nat → Bool} : ∀ (l m : List Nat), (∃ x ∈ l, p x = false) → (l ++ m).takeWhile p = l.takeWhile p := by
  intro l
  induction l with
  | nil => rintro m ⟨x, h, _⟩; cases h
  | cons y l ih =>
    rintro m ⟨x, hx, hp⟩
    rw [List.cons_append, List.takeWhile_cons, List.takeWhile_cons]
    cases hy : p y with
    | false => rfl
    | true =>
      simp only [if_true]
      congr 1
      refine ih m ?_
      rcases List.mem_cons.1 hx with rfl | h
      · rw [hy] at hp; cases hp
      · exact ⟨x, h, hp⟩
theorem dist_next (h : hd < n) (hg : g.getD hd false = true) (hne : live g (ring n hd) ≠ []) : dist g n ((hd + 1) % n) < dist g n hd := by
  unfold dist
  rw [ring_next h, ring_cons h, tw_app, List.takeWhile_cons, if_pos hg, List.length_cons]
  · omega
  · obtain ⟨x, hx⟩ := List.exists_mem_of_ne_nil _ hne
    unfold live at hx
    rw [ring_cons h] at hx
    obtain ⟨h1, h2⟩ := List.mem_filter.1 hx
    refine ⟨x, ?_, by simpa using h2⟩
    rcases List.mem_cons.1 h1 with rfl | h1
    · rw [hg] at h2; simp at h2
    · exact h1
end
theorem live_none {n hd : Nat} : live (List.replicate n false) (ring n hd) = ring n hd := by
  unfold live
  rw [List.filter_eq_self]
  intro i hi
  have := ring_lt i hi
  simp [List.getD_eq_getElem?_getD, this]
/-- How many rounds are to come. -/
def left (us ov : List Bool) (who : List Nat) : Nat := who.length + (who.filter (stay us ov)).length
theorem filter_off {us ov : List Bool} {hd : Nat} {l : List Nat} (h : hd ∉ l) : l.filter (stay (us.set hd false) ov) = l.filter (stay us ov) := by
  refine List.filter_congr fun i hi => ?_
  have hne : hd ≠ i := fun e => h (e ▸ hi)
  unfold stay
  rw [getD_set_ne hne]
theorem left_stays {us ov : List Bool} {hd : Nat} {l : List Nat} (h : hd ∉ l) (hs : stay us ov hd = true) : left (us.set hd false) ov (l ++ [hd]) < left us ov (hd :: l) := by
  unfold left
  have e : stay (us.set hd false) ov hd = false := by unfold stay; rw [getD_set_self]; rfl
  rw [List.filter_append, List.filter_cons_of_pos hs, filter_off h, List.filter_cons_of_neg (by simp [e])]
  simp
theorem left_goes {us ov : List Bool} {hd : Nat} {l : List Nat} (hs : stay us ov hd = false) : left us ov l < left us ov (hd :: l) := by
  unfold left
  rw [List.filter_cons_of_neg (by simp [hs])]
  simp
theorem flags_made (w : World) (n : Nat) (t : TypeId) : Flags w.heap.size (List.replicate n false) (w.alloc (.cells (madeCells #[.bool false] n) t)) := by
  refine ⟨by simp, fun j hj => ?_, fun j => by simp⟩
  rw [List.length_replicate] at hj
  rw [World.cell?_alloc_new]
  simp [madeCells, List.getD_eq_getElem?_getD, hj, Nat.mod_one]
end Ch
end Go.Proofs.Ytfdbekgmpmfgpaa
