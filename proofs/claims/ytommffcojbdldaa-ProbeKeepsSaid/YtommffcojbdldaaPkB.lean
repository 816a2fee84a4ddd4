/- Layer 19: what ProbeKeeps asks, in plain words: when a table takes an ID, when it lets one go, and that as many cells are not empty. No program's function is spoken of. -/
import Derived.Test.YtommffcojbdldaaPkA
namespace Go.Proofs.Ytommffcojbdldaa
open Go.RowKit
namespace Pr

structure Keep (t l : Tab) (n : Nat) : Prop where
  len : t.length = n
  right : rightB t = true
  cut : Cut t n
  ins : Ins t l
def used (p : Nat × Int) : Bool := decide (p.1 ≠ 0)
def cnt (t : Tab) (k : Nat) : Nat := ((t.take k).filter used).length
theorem cnt_succ {t : Tab} {k : Nat} (hk : k < t.length) : cnt t (k + 1) = cnt t k + (if (cl t k).1 = 0 then 0 else 1) := by
  unfold cnt
  rw [List.take_add_one, cl_at hk]
  simp only [Option.toList_some, List.filter_append, List.length_append]
  by_cases h : (cl t k).1 = 0
  · rw [if_pos h]
    simp [used, h]
  · rw [if_neg h]
    simp [used, h]
theorem nodup_of {l : Tab} (h : (l.map Prod.fst).Nodup) : l.Nodup := by
  have := List.pairwise_map.1 h
  exact this.imp fun hab he => hab (by rw [he])
/-- As many cells are not empty as are in. -/
theorem Keep.count {t l : Tab} {n : Nat} (h : Keep t l n) : cnt t n = l.length := by
  unfold cnt
  rw [List.take_of_length_le (by rw [h.len]; exact Nat.le_refl _)]
  refine List.Perm.length_eq ((List.perm_ext_iff_of_nodup ?_ (nodup_of h.ins.1)).2 fun p => ?_)
  · refine List.pairwise_filter.2 (List.pairwise_iff_getElem.2 fun i j hi hj hij _ h2 he => ?_)
    have e1 := cl_at hi
    have e2 := cl_at hj
    rw [List.getElem?_eq_getElem hi] at e1
    rw [List.getElem?_eq_getElem hj] at e2
    injection e1 with e1
    injection e2 with e2
    exact uniq_lt h.len (right_known h.right) hij (by rw [← h.len]; exact hj) (by rw [← e2]; simpa [used] using h2) (by rw [← e1, ← e2, he])
  · rw [List.mem_filter, h.ins.2 p]
    simp [used]
theorem Keep.few {t l : Tab} {n : Nat} (h : Keep t l n) : l.length ≤ n := by
  rw [← h.count]
  unfold cnt
  exact Nat.le_trans (List.length_filter_le _ _) (by rw [List.length_take]; omega)
theorem Keep.pos {t l : Tab} {n : Nat} (h : Keep t l n) : 0 < n := right_pos h.len h.right
theorem keep_zero {n : Nat} (hn : 0 < n) : Keep (List.replicate n (0, 0)) [] n := by
  have hc : ∀ i, cl (List.replicate n ((0 : Nat), (0 : Int))) i = (0, 0) := fun i => by
    unfold cl
    rw [List.getD_eq_getElem?_getD, List.getElem?_replicate]
    split <;> rfl
  refine ⟨List.length_replicate, right_mk 0 List.length_replicate hn ?_ ?_ ?_ ?_, ⟨0, hn, .inl (by rw [hc]; rfl)⟩, by simp, fun p => ?_⟩
  · intro s _ _
    rw [hc]
  · intro s _ h
    rw [hc] at h
    exact absurd rfl h
  · intro r s _ _ h
    rw [hc] at h
    exact absurd rfl h
  · intro s _ h
    rw [hc] at h
    cases h
  · constructor
    · intro h
      cases h
    · rintro ⟨h1, h2⟩
      rw [List.eq_of_mem_replicate h1] at h2
      exact absurd rfl h2
theorem Keep.at {t l : Tab} {n : Nat} (h : Keep t l n) {k : Nat} (hk : k < l.length) : (cl l k).1 ≠ 0 ∧ ∃ x H : Nat, x < n ∧ cl t x = cl l k ∧ (cl l k).2 = (H : Int) ∧ H < n := by
  have h1 := (h.ins.2 (cl l k)).1 (List.mem_of_getElem? (cl_at hk))
  obtain ⟨x, hx, he⟩ := mem_cl.1 h1.1
  have hxn : x < n := by rw [← h.len]; exact hx
  obtain ⟨g, e1, e2, _⟩ := home_of h.len (right_known h.right) hxn (by rw [he]; exact nz_of h1.2)
  exact ⟨h1.2, x, g, hxn, he, by rw [← he]; exact e1, e2⟩
/-- Whoever is in is found. -/
theorem Keep.found {t l : Tab} {n : Nat} (h : Keep t l n) {k : Nat} (hk : k < l.length) : ∃ a, a < n ∧ fin t n (cl l k).1 (cl l k).2 = some a ∧ (cl t a).1 = (cl l k).1 := by
  obtain ⟨h0, x, H, hx, he, hH, hHn⟩ := h.at hk
  refine ⟨x, hx, ?_, by rw [he]⟩
  rw [hH]
  unfold fin
  rw [if_pos (begE_ok h0 hHn h.right), show ((H : Int)).toNat = H by omega]
  exact fnd_of h.len h.right hx (by rw [he, ← hH]) h0
theorem Keep.gone {t l : Tab} {n id : Nat} (h : Keep t l n) (h0 : id ≠ 0) : fst (idAt l id) l.length = none ↔ ∀ i, i < n → (cl t i).1 ≠ id := by
  constructor
  · intro hf i hi he
    have h1 : cl t i ∈ l := (h.ins.2 _).2 ⟨mem_cl.2 ⟨i, by rw [h.len]; exact hi, rfl⟩, by rw [he]; exact h0⟩
    obtain ⟨j, hj, hje⟩ := mem_cl.1 h1
    have := none_of hf j hj
    unfold idAt at this
    rw [hje, he] at this
    simp at this
  · intro ha
    refine fst_none fun j hj => ?_
    obtain ⟨_, x, _, hx, he, _⟩ := h.at hj
    unfold idAt
    rw [decide_eq_false_iff_not, ← he]
    exact ha x hx
/-- When an ID goes out. -/
theorem Keep.del {t l : Tab} {n id : Nat} {h : Int} (K : Keep t l n) {k : Nat} (hk : fst (idAt l id) l.length = some k) : delE t n id h = 0 ↔ (cl l k).2 = h := by
  obtain ⟨k1, k2, _⟩ := fst_of hk
  have k3 : (cl l k).1 = id := by simpa [idAt] using k2
  obtain ⟨h0, x, H, hx, he, hH, hHn⟩ := K.at k1
  constructor
  · intro e
    unfold delE at e
    split at e
    · rename_i hb
      exact absurd e hb
    · rename_i hb
      have hb : begE t n id h = 0 := by omega
      obtain ⟨_, p1, p2, _, _⟩ := beg_ok hb
      cases hf : fnd t n id h.toNat with
      | none => rw [hf] at e; cases e
      | some a =>
        have h1 := of_fnd hf
        have h2 := uniq K.len (right_known K.right) (fnd_lt hf) hx (by rw [he]; exact h0) (by rw [h1, he, k3])
        rw [← he, ← h2, h1]
        simp only
        omega
  · intro e
    have hh : h = (H : Int) := by rw [← e, hH]
    subst hh
    rw [k3] at h0
    exact delE_c (begE_ok h0 hHn K.right) (a := x) (by
      rw [show ((H : Int)).toNat = H by omega]
      exact fnd_of K.len K.right hx (by rw [he, ← hH, ← k3]) h0)
theorem Keep.del_no {t l : Tab} {n id : Nat} {h : Int} (K : Keep t l n) (hk : fst (idAt l id) l.length = none) : delE t n id h ≠ 0 := by
  intro e
  unfold delE at e
  split at e
  · rename_i hb
    exact absurd e hb
  · rename_i hb
    obtain ⟨h0, _⟩ := beg_ok (show begE t n id h = 0 by omega)
    cases hf : fnd t n id h.toNat with
    | none => rw [hf] at e; cases e
    | some a =>
      have h1 := of_fnd hf
      exact (K.gone h0).1 hk a (fnd_lt hf) (by rw [h1])
theorem Keep.del_keep {t l : Tab} {n id a k : Nat} {h : Int} (K : Keep t l n) (hk : fst (idAt l id) l.length = some k) (e : delE t n id h = 0) (hf : fnd t n id h.toNat = some a) : Keep (delT t n a) (l.eraseIdx k) n := by
  obtain ⟨k1, k2, _⟩ := fst_of hk
  have k3 : (cl l k).1 = id := by simpa [idAt] using k2
  have han := fnd_lt hf
  obtain ⟨m, hm⟩ := dp_some (t := t) (a := a) K.pos
  obtain ⟨m1, _, _⟩ := fst_of hm
  have hc := of_fnd hf
  have h2 := (K.del hk).1 e
  have h3 : 0 ≤ h := by
    obtain ⟨_, _, H, _, _, hH, _⟩ := K.at k1
    omega
  rw [delT_eq hm]
  refine ⟨delS_len K.len, right_del K.len K.right K.cut hm, ⟨(a + m) % n, Nat.mod_lt _ K.pos, .inl ?_⟩, del_in K.len K.right han m1 k1 ?_ K.ins⟩
  · rw [delS_at K.len m1 m1, if_neg (by omega), if_pos rfl]
    rfl
  · rw [hc]
    refine Prod.ext k3.symm ?_
    simp only
    omega
/-- When an ID comes in. -/
theorem Keep.put {t l : Tab} {n id : Nat} {h : Int} (K : Keep t l n) : insE t n id h = 0 ↔ fst (idAt l id) l.length = none ∧ l.length < n ∧ id ≠ 0 ∧ 0 ≤ h ∧ h < (n : Int) := by
  have hfull : hasB t 0 = true ↔ l.length < n := by
    rw [← K.count]
    unfold cnt
    rw [List.take_of_length_le (by rw [K.len]; exact Nat.le_refl _), ← K.len, List.length_filter_lt_length_iff_exists]
    constructor
    · intro hh
      obtain ⟨i, hi, hie⟩ := empty_of rfl (right_known K.right) hh
      exact ⟨cl t i, mem_cl.2 ⟨i, hi, rfl⟩, by rw [nz_false hie]; simp [used]⟩
    · rintro ⟨p, hp, hu⟩
      obtain ⟨i, hi, he⟩ := mem_cl.1 hp
      exact has_of rfl hi (by rw [he]; simpa [used] using hu)
  constructor
  · intro e
    obtain ⟨h0, _, h2, h3, H, _, _, rfl, hH, _⟩ := ins_ok K.len e
    exact ⟨(K.gone h0).2 h2, hfull.1 h3, h0, by omega, by omega⟩
  · rintro ⟨h1, h2, h3, h4, h5⟩
    obtain ⟨H, rfl⟩ : ∃ H : Nat, h = (H : Int) := ⟨h.toNat, by omega⟩
    exact insE_d (begE_ok h3 (by omega) K.right) (not_has K.len ((K.gone h3).1 h1)) (hfull.2 h2)
theorem Keep.put_keep {t l : Tab} {n id : Nat} {h : Int} (K : Keep t l n) (e : insE t n id h = 0) : Keep (insT t n id h.toNat) (l ++ [(id, h)]) n := by
  obtain ⟨h0, h1, h2, h3, H, k0, g, rfl, hH, hk0, hg, hT⟩ := ins_ok K.len e
  obtain ⟨g1, g2, _⟩ := fst_of hg
  rw [hT]
  exact ⟨insS_len K.len, right_ins K.len K.right h0 hH h2 hk0 hg, cut_ins K.len K.right hH hk0 hg, ins_in K.len g1 (by simpa [emp] using g2) h0 h2 K.ins⟩
end Pr
end Go.Proofs.Ytommffcojbdldaa
