/- Layer 6: the contract of records.Clone. -/
import Derived.Test.YtppahidjiiehkaaRpK
import Derived.Lib.BufferWrite
namespace Go.Proofs.Ytppahidjiiehkaa
open Go.RowKit
namespace Rc

theorem OwnRecs.store {w w1 w2 : World} {B sb : Nat} {vs : List Value} {rs : List (List Nat)} {v : Value} {r : List Nat} (h : OwnRecs w B (some sb) vs rs) (hB : B ≤ w.heap.size) (hsb : sb < w.heap.size)
    (hv : w1.ownsRow w.heap.size 5 1 v r.length (octets r)) (hb : Below w.heap.size w w1) (hg : w1.grownBy w2 (some sb)) : OwnRecs w2 B (some sb) (vs ++ [v]) (rs ++ [r]) := by
  have old : ∀ (i : Nat) (v' : Value), vs[i]? = some v' → ∀ k, v'.ownBlock = some k → B ≤ k ∧ k < w.heap.size := fun i v' h1 k hk => by
    obtain ⟨r', hr'⟩ := h.rec_at h1
    exact own_lt (h.own i v' r' h1 hr') k hk
  have new : ∀ k, v.ownBlock = some k → w.heap.size ≤ k ∧ k < w1.heap.size := own_lt hv
  have hlast : ∀ {i : Nat} {v' : Value}, (vs ++ [v])[i]? = some v' → vs[i]? = some v' ∨ i = vs.length ∧ v' = v := fun {i v'} h1 => by
    rcases Nat.lt_or_ge i vs.length with hi | hi
    · rw [List.getElem?_append_left hi] at h1; exact .inl h1
    · rw [List.getElem?_append_right hi] at h1
      have hlt := (List.getElem?_eq_some_iff.1 h1).1
      simp at hlt
      have : i = vs.length := by omega
      subst this
      simp at h1
      exact .inr ⟨rfl, h1.symm⟩
  refine ⟨by simp [h.len], fun i v' r' h1 h2 => ?_, fun i v' k h1 hk => ?_, fun i j v' u k hij h1 h2 hk => ?_⟩
  · rcases hlast h1 with h1 | ⟨rfl, rfl⟩
    · have hi := (List.getElem?_eq_some_iff.1 h1).1
      rw [List.getElem?_append_left (by rw [← h.len]; exact hi)] at h2
      refine (kept_below (h.own i v' r' h1 h2) hb).kept hg ?_
      cases he : v'.ownBlock with
      | none => exact .inl rfl
      | some k => exact .inr fun e => h.out i v' k h1 he e.symm
    · rw [h.len, List.getElem?_append_right (Nat.le_refl _)] at h2
      simp at h2
      subst h2
      refine own_mono (hv.kept hg ?_) hB
      cases he : v'.ownBlock with
      | none => exact .inl rfl
      | some k =>
        refine .inr fun e => ?_
        have := (new k he).1
        injection e with e
        omega
  · rcases hlast h1 with h1 | ⟨rfl, rfl⟩
    · exact h.out i v' k h1 hk
    · intro e
      have := (new k hk).1
      injection e with e
      omega
  · intro e
    rcases hlast h1 with p1 | ⟨p1, p1'⟩
    · rcases hlast h2 with p2 | ⟨p2, p2'⟩
      · exact h.apart i j v' u k hij p1 p2 hk e
      · subst p2'
        have := (old i v' p1 k hk).2
        have := (new k e).1
        omega
    · rcases hlast h2 with p2 | ⟨p2, p2'⟩
      · have := (List.getElem?_eq_some_iff.1 p2).1
        omega
      · omega
/-- A block of its own with these cells. -/
def Cls (sb : Nat) (t : TypeId) (cs : List Value) (w : World) : Prop := w.heap[sb]? = some (.cells cs.toArray t (0, 0))
section
variable {sb : Nat} {t : TypeId} {cs : List Value} {w w' : World}
theorem Cls.lt (h : Cls sb t cs w) : sb < w.heap.size := lt_of_block h
theorem Cls.cell (h : Cls sb t cs w) (i : Nat) : w.cell? ⟨sb, i, none⟩ = cs[i]? := by rw [cell_of_row w sb i _ _ _ h, List.getElem?_toArray]
theorem Cls.free (h : Cls sb t cs w) (i : Nat) : w.frozen? ⟨sb, i, none⟩ = false := by simp [World.frozen?, show w.heap[sb]? = _ from h]
theorem Cls.set (h : Cls sb t cs w) (i : Nat) (v : Value) : Cls sb t (cs.set i v) (w.setCell ⟨sb, i, none⟩ v) := by
  have hlt := h.lt
  have h' : w.heap[sb] = .cells cs.toArray t (0, 0) := by
    have h2 : w.heap[sb]? = _ := h
    rw [Array.getElem?_eq_getElem hlt] at h2
    injection h2
  show (w.heap.modify sb _)[sb]? = _
  rw [Array.getElem?_eq_getElem (by simpa using hlt), Array.getElem_modify_self, h']
  simp
theorem Cls.below (h : Cls sb t cs w) (hb : Below w.heap.size w w') : Cls sb t cs w' := by
  unfold Cls
  rw [hb.block sb h.lt]
  exact h
theorem cls_made (w : World) (n : Nat) (z : Value) (t : TypeId) : Cls w.heap.size t (List.replicate n z) (w.alloc (.cells (madeCells #[z] n) t)) := by
  unfold Cls
  rw [heap_alloc_new]
  congr 2
  refine Array.ext_getElem? fun i => ?_
  by_cases hi : i < n
  · simp [madeCells, hi, Nat.mod_one]
  · simp [madeCells, hi]
theorem Cls.own (h : Cls sb t cs w) {B n : Nat} (hB : B ≤ sb) (hn : cs.length = n) (hm : n ≤ maxLen) : w.ownsRow B t 1 (.slice (some ⟨sb, 0, none⟩) n n) n cs := by
  refine ⟨by rw [hn]; omega, .inr ⟨sb, n, _, rfl, hB, h, Nat.le_refl _, hm, by simp [hn], ?_⟩⟩
  rw [List.take_of_length_le]
  simp [hn]
end
theorem set_next (vs : List Value) (z v : Value) (m : Nat) : (vs ++ List.replicate (m + 1) z).set vs.length v = (vs ++ [v]) ++ List.replicate m z := by
  rw [List.set_append_right _ _ (Nat.le_refl _), Nat.sub_self, List.append_assoc]
  rfl
/-- What Clone answers. -/
def ClnRes (rs : List (List Nat)) (n : Nat) (W : World) (e : Ending) (w : World) : Prop :=
  (∃ U uc vs, e = .returned (.slice U n uc) ∧ w.ownsRow W.heap.size 25 1 (.slice U n uc) n vs ∧ OwnRecs w W.heap.size (Value.slice U n uc).ownBlock vs rs) ∧ Below W.heap.size W w
/-- The relation of its loop. -/
def ClR (rs : List (List Nat)) (n sb : Nat) (W : World) (i : Value) (w : World) : Prop :=
  ∃ (k : Nat) (vs : List Value), k ≤ n ∧ vs.length = k ∧ i = .int .i64 (k : Int) ∧ Cls sb 25 (vs ++ List.replicate (n - k) (.slice none 0 0)) w ∧ OwnRecs w W.heap.size (some sb) vs (rs.take k) ∧ Below W.heap.size W w
theorem cl_step {rs : List (List Nat)} {n sb k : Nat} {W w w1 : World} {vs : List Value} {v : Value} (hn : rs.length = n) (hk : k < n) (hvs : vs.length = k) (hsb : W.heap.size ≤ sb)
    (hC : Cls sb 25 (vs ++ List.replicate (n - k) (.slice none 0 0)) w) (hO : OwnRecs w W.heap.size (some sb) vs (rs.take k)) (hB : Below W.heap.size W w)
    (hv : w1.ownsRow w.heap.size 5 1 v (rc rs k).length (octets (rc rs k))) (hb : Below w.heap.size w w1) :
    (w1.cell? ⟨sb, k, none⟩ = some (.slice none 0 0) ∧ w1.frozen? ⟨sb, k, none⟩ = false) ∧ ∀ i, i = .int .i64 ((k + 1 : Nat) : Int) → ClR rs n sb W i (w1.setCell ⟨sb, k, none⟩ v) := by
  have hC1 := hC.below hb
  obtain ⟨m, hm⟩ : ∃ m, n - k = m + 1 := ⟨n - k - 1, by omega⟩
  refine ⟨⟨?_, hC1.free k⟩, fun i hi => ⟨k + 1, vs ++ [v], hk, by simp [hvs], hi, ?_, ?_, ?_⟩⟩
  · rw [hC1.cell, List.getElem?_append_right (by omega), hvs, Nat.sub_self, hm]
    rfl
  · have := hC1.set k v
    rw [hm, show k = vs.length from hvs.symm, set_next, hvs] at this
    rw [show n - (k + 1) = m by omega]
    exact this
  · rw [take_rc (by omega)]
    exact hO.store hB.size hC.lt hv hb (Lib.grownBy_setCell _ _ _ _)
  · exact (hB.trans (hb.mono hB.size)).setCell (by simpa using hsb) _
set_option maxHeartbeats 3200000 in
theorem clone_recs (rs : List (List Nat)) (A : Option Addr) (n c : Nat) (W : World) (h : RdRecs W A n rs) (hn : n ≤ 100000) (hl : ∀ k, k < n → (rc rs k).length ≤ 100000) :
    Calls Try.prog 17 #[.slice A n c] W (ClnRes rs n W) := by
  have hmk := run_make_row' (P := Try.prog) 22 25 (.slice none 0 0) 24 Try.underlying22 infoR rfl .i64 .i64 n (by omega) (by omega)
  have H := Lib.hid h
  have HL := Lib.hid h.len
  have HLL := Lib.hid hl
  clear h hl
  go_enter Try.func17, Try.ntmps17
  go_wp2_with fail
  obtain ⟨sb, hsb⟩ : ∃ sb, W.heap.size = sb := ⟨_, rfl⟩
  have HST : RowKit.Hid (ClR rs n sb W (.int .i64 0) (W.alloc (.cells (madeCells #[.slice none 0 0] n) 25))) := Lib.hid (by
    refine ⟨0, [], by omega, rfl, rfl, ?_, OwnRecs.nil _ _ _, (Below.refl _ _).alloc (Nat.le_refl _) _⟩
    rw [← hsb]
    exact cls_made W n _ _)
  have HSB := Lib.hid hsb
  rw [hsb]
  clear hsb
  go_loopw [11] (ClR rs n sb W) (fun i _ => n - (intOf i).toNat)
  case atStart => exact HST.out
  case round =>
    obtain ⟨k, vs, hk, hvs, rfl, hC, hO, hB⟩ := hrel
    by_cases hkn : k < n
    · obtain ⟨b, off, A', l, c', rfl, hl, hc, hr, hs, hlc, hcm, hnone⟩ := (H.out.below hB).at hkn
      have CL := Lib.hid (clone_n hl A' c' wr hr hnone (by rw [← hl]; exact HLL.out k hkn))
      have ST := Lib.hid (fun w1 v h1 h2 => cl_step (w1 := w1) (v := v) HL.out hkn hvs (by rw [HSB.out]; exact Nat.le_refl _) hC hO hB h1 h2)
      have h0 : (0 : Int) ≤ (k : Int) := by omega
      have h1 : (k : Int) < (n : Int) := by omega
      clear hl hr hs hnone hvs hC hO hB
      go_wp2_with fail
      refine CL.out.mono ?_
      rintro e w1 ⟨⟨v, rfl, hv⟩, hb⟩
      obtain ⟨⟨g1, g2⟩, g3⟩ := ST.out w1 v hv hb
      obtain ⟨Av, cv, rfl, _⟩ := Mem.own_shape hv
      have G3 := Lib.hid g3
      clear hv hb g3
      go_wp2_with fail
      go_roundw
      case rel => exact G3.out _ (by go_num)
      case measure => simp [intOf]; omega
    · obtain rfl : n = k := by omega
      have hfull : rs.take n = rs := by rw [← HL.out]; exact List.take_length
      rw [hfull] at hO
      rw [Nat.sub_self] at hC
      have FIN : RowKit.Hid (ClnRes rs n W (.returned (.slice (some ⟨sb, 0, none⟩) n n)) wr) := Lib.hid (by
        have ho := hC.own (B := W.heap.size) (n := n) (by rw [HSB.out]; exact Nat.le_refl _) (by simpa using hvs) (by simp only [maxLen]; omega)
        simp only [List.replicate_zero, List.append_nil] at ho
        exact ⟨⟨_, _, vs, rfl, ho, hO⟩, hB⟩)
      clear hfull hO hC hB hvs
      go_wp2_with fail
      go_ret
      exact FIN.out
end Rc
end Go.Proofs.Ytppahidjiiehkaa
