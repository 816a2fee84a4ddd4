/- Layer 19: in a right table, what is there is found. No program's function is spoken of. -/
import Derived.Test.YtommffcojbdldaaPnA
namespace Go.Proofs.Ytommffcojbdldaa
open Go.RowKit
namespace Pr

theorem uniq_lt {t : Tab} {n i j : Nat} (hl : t.length = n) (h : knownB t = true) (hij : i < j) (hj : j < n) (h0 : (cl t j).1 ≠ 0) (he : (cl t i).1 = (cl t j).1) : False := by
  have h1 := known_cell hl h hj
  unfold okAt at h1
  rw [if_neg h0, Bool.and_eq_true, List.all_eq_true] at h1
  have h2 := h1.2 i (List.mem_range.2 hij)
  unfold idAt at h2
  rw [he] at h2
  simp at h2
theorem uniq {t : Tab} {n i j : Nat} (hl : t.length = n) (h : knownB t = true) (hi : i < n) (hj : j < n) (h0 : (cl t j).1 ≠ 0) (he : (cl t i).1 = (cl t j).1) : i = j := by
  rcases Nat.lt_trichotomy i j with h1 | h1 | h1
  · exact (uniq_lt hl h h1 hj h0 he).elim
  · exact h1
  · exact (uniq_lt hl h h1 hi (by rw [he]; exact h0) he.symm).elim
theorem nz_of {p : Nat × Int} (h : p.1 ≠ 0) : nz p = true := by
  rw [nz_or]
  simp [h]
theorem fnd_of {t : Tab} {n x id h : Nat} (hl : t.length = n) (hr : rightB t = true) (hx : x < n) (hc : cl t x = (id, (h : Int))) (h0 : id ≠ 0) : fnd t n id h = some x := by
  have hnz : nz (cl t x) = true := by rw [hc]; exact nz_of h0
  obtain ⟨g, e, h1, h2, h3, h4, h5⟩ := far_of hl (right_known hr) hx hnz
  have hgh : g = h := by
    rw [hc] at h1
    simp only at h1
    omega
  subst hgh
  have NE := near hl hr h2 h3 (by rw [h4]; exact hnz) (by rw [h4, hc])
  have hfe : fst (fp t n id g) n = some e := by
    refine fst_some h3 ?_ fun j hj => ?_
    · have ho : opn t n x e = false := by
        unfold opn
        rw [hnz]
        unfold farT at h5
        rw [h5]
        simp
      unfold fp fm
      rw [h4, ho, hc]
      simp
    · obtain ⟨n1, n2⟩ := NE (e - j) (by omega)
      rw [show e - (e - j) = j by omega] at n1 n2
      have ho : opn t n ((g + j) % n) j = false := by
        unfold opn
        rw [n1]
        unfold farT at n2
        rw [Bool.not_true, Bool.false_or, decide_eq_false_iff_not]
        exact Int.not_lt.2 n2
      unfold fp fm
      rw [ho, Bool.or_false, Bool.not_false, Bool.true_and, decide_eq_false_iff_not]
      intro hcy
      have := uniq hl (right_known hr) (Nat.mod_lt (g + j) (right_pos hl hr)) hx (by rw [hc]; exact h0) (by rw [hcy, hc])
      rw [← h4] at this
      have := pos_inj (by omega) h3 this
      omega
  unfold fnd
  rw [hfe]
  have ho : opn t n x e = false := by
    unfold opn
    rw [hnz]
    unfold farT at h5
    rw [h5]
    simp
  simp only [h4]
  unfold fm
  rw [ho, hc]
  simp
theorem of_fnd {t : Tab} {n a id h : Nat} (hf : fnd t n id h = some a) : cl t a = (id, (h : Int)) := by
  unfold fnd at hf
  split at hf
  · split at hf
    · rename_i k _ hm
      injection hf with hf
      subst hf
      unfold fm at hm
      rw [Bool.and_eq_true] at hm
      simpa using hm.2
    · cases hf
  · cases hf
end Pr
end Go.Proofs.Ytommffcojbdldaa
