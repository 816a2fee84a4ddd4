/- Layer 19: the list of those that are in, and the table, say the same: kept by inserting and by deleting. No program's function is spoken of. -/
import Derived.Test.YtommffcojbdldaaPfH
namespace Go.Proofs.Ytommffcojbdldaa
open Go.RowKit
namespace Pr

/-- The table holds just the list's. -/
def Ins (t l : Tab) : Prop := (l.map Prod.fst).Nodup ∧ ∀ p, p ∈ l ↔ p ∈ t ∧ p.1 ≠ 0
theorem mem_cl {t : Tab} {p : Nat × Int} : p ∈ t ↔ ∃ i, i < t.length ∧ cl t i = p := by
  constructor
  · intro h
    obtain ⟨i, hi, he⟩ := List.getElem_of_mem h
    refine ⟨i, hi, ?_⟩
    have := cl_at hi
    rw [List.getElem?_eq_getElem hi, he] at this
    injection this with this
    exact this.symm
  · rintro ⟨i, hi, rfl⟩
    exact List.mem_of_getElem? (cl_at hi)
theorem mem_ring {t : Tab} {n : Nat} (a : Nat) (hl : t.length = n) (hn : 0 < n) {p : Nat × Int} : p ∈ t ↔ ∃ s, s < n ∧ cl t ((a + s) % n) = p := by
  rw [mem_cl]
  constructor
  · rintro ⟨i, hi, he⟩
    obtain ⟨s, hs, hsi⟩ := reach (x := a) (show i < n by omega)
    exact ⟨s, hs, by rw [hsi]; exact he⟩
  · rintro ⟨s, hs, he⟩
    exact ⟨(a + s) % n, by rw [hl]; exact Nat.mod_lt _ hn, he⟩
theorem ins_in {t l : Tab} {n a g : Nat} {p : Nat × Int} (hl : t.length = n) (hg : g < n) (hemp : nz (cl t ((a + g) % n)) = false) (hp : p.1 ≠ 0) (hid : ∀ i, i < n → (cl t i).1 ≠ p.1) (h : Ins t l) : Ins (insS t n a g p) (l ++ [p]) := by
  have hn : 0 < n := by omega
  have hz := nz_false hemp
  refine ⟨?_, fun q => ?_⟩
  · rw [List.map_append, List.nodup_append]
    refine ⟨h.1, by simp, fun x hx y hy => ?_⟩
    obtain ⟨r, hr, rfl⟩ := List.mem_map.1 hx
    simp only [List.map_cons, List.map_nil, List.mem_singleton] at hy
    subst hy
    obtain ⟨i, hi, he⟩ := mem_cl.1 ((h.2 r).1 hr).1
    rw [← he]
    exact hid i (by omega)
  · rw [List.mem_append, List.mem_singleton, h.2 q, mem_ring a (insS_len hl) hn, mem_ring a hl hn]
    constructor
    · rintro (⟨⟨s, hs, he⟩, h0⟩ | rfl)
      · have hsg : s ≠ g := by
          rintro rfl
          rw [hz] at he
          rw [← he] at h0
          exact h0 rfl
        refine ⟨?_, h0⟩
        rcases Nat.lt_or_ge s g with h1 | h1
        · exact ⟨s + 1, by omega, by rw [insS_at hl hg (by omega), if_neg (by omega), if_pos (by omega), Nat.add_sub_cancel]; exact he⟩
        · exact ⟨s, hs, by rw [insS_at hl hg hs, if_neg (by omega), if_neg (by omega)]; exact he⟩
      · exact ⟨⟨0, hn, by rw [insS_at hl hg hn, if_pos rfl]⟩, hp⟩
    · rintro ⟨⟨s, hs, he⟩, h0⟩
      rw [insS_at hl hg hs] at he
      split at he
      · exact .inr he.symm
      · split at he
        · exact .inl ⟨⟨s - 1, by omega, he⟩, h0⟩
        · exact .inl ⟨⟨s, hs, he⟩, h0⟩
theorem nodup_at {l : Tab} (h : (l.map Prod.fst).Nodup) {i j : Nat} (hi : i < l.length) (hj : j < l.length) (he : (cl l i).1 = (cl l j).1) : i = j := by
  have h1 := cl_at hi
  have h2 := cl_at hj
  refine (List.getElem?_inj (l := l.map Prod.fst) (by rw [List.length_map]; exact hi) h).1 ?_
  rw [List.getElem?_map, List.getElem?_map, h1, h2]
  simp [he]
theorem mem_erase {l : Tab} (h : (l.map Prod.fst).Nodup) {k : Nat} (hk : k < l.length) {q : Nat × Int} : q ∈ l.eraseIdx k ↔ q ∈ l ∧ q ≠ cl l k := by
  rw [List.mem_eraseIdx_iff_getElem?]
  constructor
  · rintro ⟨i, hik, hi⟩
    refine ⟨List.mem_of_getElem? hi, fun he => hik ?_⟩
    have hil : i < l.length := (List.getElem?_eq_some_iff.1 hi).1
    have h1 := cl_at hil
    rw [hi] at h1
    injection h1 with h1
    exact nodup_at h hil hk (by rw [← h1, he])
  · rintro ⟨hq, hne⟩
    obtain ⟨i, hi, he⟩ := mem_cl.1 hq
    refine ⟨i, fun hik => hne ?_, by rw [cl_at hi, he]⟩
    rw [← he, hik]
theorem del_in {t l : Tab} {n a m k : Nat} (hl : t.length = n) (hr : rightB t = true) (ha : a < n) (hm : m < n) (hk : k < l.length) (hc : cl t a = cl l k) (h : Ins t l) : Ins (delS t n a m) (l.eraseIdx k) := by
  have hn : 0 < n := by omega
  have ha0 : (a + 0) % n = a := by rw [Nat.add_zero]; exact Nat.mod_eq_of_lt ha
  refine ⟨?_, fun q => ?_⟩
  · exact h.1.sublist ((List.eraseIdx_sublist l k).map _)
  · rw [mem_erase h.1 hk, h.2 q, mem_ring a (delS_len hl) hn, mem_ring a hl hn]
    constructor
    · rintro ⟨⟨⟨s, hs, he⟩, h0⟩, hne⟩
      have hs0 : s ≠ 0 := by
        rintro rfl
        rw [ha0, hc] at he
        exact hne he.symm
      refine ⟨?_, h0⟩
      rcases Nat.lt_or_ge m s with h1 | h1
      · exact ⟨s, hs, by rw [delS_at hl hm hs, if_neg (by omega), if_neg (by omega)]; exact he⟩
      · exact ⟨s - 1, by omega, by rw [delS_at hl hm (by omega), if_pos (by omega), show s - 1 + 1 = s by omega]; exact he⟩
    · rintro ⟨⟨s, hs, he⟩, h0⟩
      rw [delS_at hl hm hs] at he
      have key : ∀ r, r < n → r ≠ 0 → cl t ((a + r) % n) = q → (((∃ s, s < n ∧ cl t ((a + s) % n) = q) ∧ q.1 ≠ 0) ∧ q ≠ cl l k) := fun r hr1 hr0 hq => by
        refine ⟨⟨⟨r, hr1, hq⟩, h0⟩, fun hqk => hr0 ?_⟩
        have := uniq hl (right_known hr) (Nat.mod_lt (a + r) hn) ha (by rw [hc, ← hqk]; exact h0) (by rw [hq, hqk, hc])
        exact pos_inj hr1 hn (this.trans ha0.symm)
      split at he
      · exact key (s + 1) (by omega) (by omega) he
      · split at he
        · rw [← he] at h0
          exact absurd rfl h0
        · exact key s hs (by omega) he
end Pr
end Go.Proofs.Ytommffcojbdldaa
