/- Layer 18 (chance): the plain law: in which order all of a ring go; no program is spoken of. -/
import Derived.Test.YtfdbekgmpmfgpaaMem
namespace Go.Proofs.Ytfdbekgmpmfgpaa
namespace Ch

/-- The numbers of a ring of n, the hand's first. -/
def ring (n h : Nat) : List Nat := (List.range n).map fun i => (h + i) % n
/-- One may stay once more. -/
def stay (us ov : List Bool) (i : Nat) : Bool := us.getD i false && !ov.getD i false
def clear (us : List Bool) (is : List Nat) : List Bool := is.foldl (fun u i => u.set i false) us
/-- The order in which all go. -/
def total (us ov : List Bool) (h : Nat) : List Nat := (ring us.length h).filter (fun i => !stay us ov i) ++ (ring us.length h).filter (stay us ov)
def turns (us ov : List Bool) (h : Nat) : Nat := ((ring us.length h).takeWhile (stay us ov)).length

theorem getD_set_ne {us : List Bool} {i j : Nat} (h : i ≠ j) : (us.set i false).getD j false = us.getD j false := by
  simp only [List.getD_eq_getElem?_getD]
  rw [List.getElem?_set_ne h]
theorem getD_set_self (us : List Bool) (i : Nat) : (us.set i false).getD i false = false := by
  simp only [List.getD_eq_getElem?_getD]
  by_cases h : i < us.length
  · rw [List.getElem?_set_self h]; rfl
  · rw [List.getElem?_eq_none (by simpa using h)]; rfl
theorem getD_set_le {us : List Bool} {i j : Nat} (h : us.getD j false = false) : (us.set i false).getD j false = false := by
  by_cases e : i = j
  · rw [e]; exact getD_set_self us j
  · rw [getD_set_ne e]; exact h
theorem clear_length (is : List Nat) : ∀ us : List Bool, (clear us is).length = us.length := by
  induction is with
  | nil => intro us; rfl
  | cons i is ih => intro us; show (clear (us.set i false) is).length = _; rw [ih, List.length_set]
theorem clear_le (is : List Nat) : ∀ {us : List Bool} {j : Nat}, us.getD j false = false → (clear us is).getD j false = false := by
  induction is with
  | nil => intro us j h; exact h
  | cons i is ih => intro us j h; exact ih (getD_set_le h)
theorem clear_mem (is : List Nat) : ∀ {us : List Bool} {j : Nat}, j ∈ is → (clear us is).getD j false = false := by
  induction is with
  | nil => intro us j h; cases h
  | cons i is ih =>
    intro us j h
    rcases List.mem_cons.1 h with rfl | h
    · exact clear_le is (getD_set_self us j)
    · exact ih h
theorem clear_not (is : List Nat) : ∀ {us : List Bool} {j : Nat}, j ∉ is → (clear us is).getD j false = us.getD j false := by
  induction is with
  | nil => intro us j h; rfl
  | cons i is ih =>
    intro us j h
    show (clear (us.set i false) is).getD j false = _
    rw [ih (fun hj => h (List.mem_cons_of_mem _ hj)), getD_set_ne (fun e => h (by rw [e]; exact List.mem_cons_self ..))]

/-- The state of the order: who is left, who is out, who may stay. -/
def Inv (us0 ov : List Bool) (all : List Nat) (out who : List Nat) (us : List Bool) : Prop :=
  ∃ U P, who = U ++ P ∧ who.Nodup ∧ us.length = us0.length ∧ (∀ i ∈ who, i < us0.length) ∧ (∀ i ∈ U, us.getD i false = us0.getD i false) ∧ (∀ i ∈ P, us.getD i false = false) ∧
    out ++ U.filter (fun i => !stay us0 ov i) ++ P ++ U.filter (stay us0 ov) = all
section
variable {us0 ov us : List Bool} {all out who tl : List Nat} {x : Nat}
theorem Inv.stays (h : Inv us0 ov all out (x :: tl) us) (hs : stay us ov x = true) : Inv us0 ov all out (tl ++ [x]) (us.set x false) := by
  obtain ⟨U, P, e, hn, hl, hb, hU, hP, ht⟩ := h
  have hux : us.getD x false = true := by
    unfold stay at hs
    simp at hs
    simpa using hs.1
  cases U with
  | nil =>
    exfalso
    have : x ∈ P := by simp at e; rw [← e]; exact List.mem_cons_self ..
    rw [hP x this] at hux
    cases hux
  | cons y U =>
    simp only [List.cons_append, List.cons.injEq] at e
    obtain ⟨rfl, rfl⟩ := e
    have hnx : x ∉ U ++ P := (List.nodup_cons.1 hn).1
    have hs0 : stay us0 ov x = true := by
      unfold stay at hs ⊢
      rw [← hU x (List.mem_cons_self ..)]
      exact hs
    refine ⟨U, P ++ [x], by simp, ?_, by rw [List.length_set]; exact hl, ?_, ?_, ?_, ?_⟩
    · rw [List.nodup_append]
      refine ⟨(List.nodup_cons.1 hn).2, by simp, ?_⟩
      intro a ha b hb hab
      simp only [List.mem_singleton] at hb
      exact hnx (by rw [← hb, ← hab]; exact ha)
    · intro i hi
      refine hb i ?_
      rcases List.mem_append.1 hi with h | h
      · exact List.mem_cons_of_mem _ h
      · rw [List.mem_singleton.1 h]; exact List.mem_cons_self ..
    · intro i hi
      rw [getD_set_ne (fun e => hnx (by rw [e]; exact List.mem_append_left _ hi))]
      exact hU i (List.mem_cons_of_mem _ hi)
    · intro i hi
      simp only [List.mem_append, List.mem_singleton] at hi
      rcases hi with h | h
      · exact getD_set_le (hP i h)
      · rw [h]; exact getD_set_self us x
    · rw [← ht]
      simp [hs0]
theorem Inv.goes (h : Inv us0 ov all out (x :: tl) us) (hs : stay us ov x = false) : Inv us0 ov all (out ++ [x]) tl us := by
  obtain ⟨U, P, e, hn, hl, hb, hU, hP, ht⟩ := h
  cases U with
  | nil =>
    simp only [List.nil_append] at e
    subst e
    refine ⟨[], tl, by simp, (List.nodup_cons.1 hn).2, hl, fun i hi => hb i (List.mem_cons_of_mem _ hi), by simp, fun i hi => hP i (List.mem_cons_of_mem _ hi), ?_⟩
    rw [← ht]
    simp
  | cons y U =>
    simp only [List.cons_append, List.cons.injEq] at e
    obtain ⟨rfl, rfl⟩ := e
    have hs0 : stay us0 ov x = false := by
      unfold stay at hs ⊢
      rw [← hU x (List.mem_cons_self ..)]
      exact hs
    refine ⟨U, P, rfl, (List.nodup_cons.1 hn).2, hl, fun i hi => hb i (List.mem_cons_of_mem _ hi), fun i hi => hU i (List.mem_cons_of_mem _ hi), hP, ?_⟩
    rw [← ht]
    simp [hs0]
end
theorem Inv.pass {us0 ov : List Bool} {all out : List Nat} : ∀ (pre post : List Nat) (us : List Bool), Inv us0 ov all out (pre ++ post) us → (∀ i ∈ pre, stay us ov i = true) → Inv us0 ov all out (post ++ pre) (clear us pre) := by
  intro pre
  induction pre with
  | nil => intro post us h _; simpa [clear] using h
  | cons x pre ih =>
    intro post us h hs
    have h1 := Inv.stays (tl := pre ++ post) h (hs x (List.mem_cons_self ..))
    have hn : x ∉ pre := by
      obtain ⟨_, _, _, hn, _⟩ := h
      rw [List.cons_append] at hn
      exact fun hx => (List.nodup_cons.1 hn).1 (List.mem_append_left _ hx)
    rw [List.append_assoc] at h1
    have h2 := ih (post ++ [x]) (us.set x false) h1 (fun i hi => by
      unfold stay
      rw [getD_set_ne (fun e => hn (by rw [e]; exact hi))]
      exact hs i (List.mem_cons_of_mem _ hi))
    rw [List.append_assoc] at h2
    exact h2
theorem Inv.done {us0 ov us : List Bool} {all out : List Nat} (h : Inv us0 ov all out [] us) : out = all := by
  obtain ⟨U, P, e, _, _, _, _, _, ht⟩ := h
  obtain ⟨rfl, rfl⟩ := List.append_eq_nil_iff.1 e.symm
  simpa using ht
theorem ring_nodup {n h : Nat} : (ring n h).Nodup := by
  unfold ring
  rw [List.nodup_iff_pairwise_ne, List.pairwise_map]
  refine List.Pairwise.imp_of_mem ?_ List.nodup_range
  intro a b ha hb hab e
  have h1 := List.mem_range.1 ha
  have h2 := List.mem_range.1 hb
  have e1 := Nat.sub_mod_eq_zero_of_mod_eq e
  have e2 := Nat.sub_mod_eq_zero_of_mod_eq e.symm
  rw [Nat.add_sub_add_left, Nat.mod_eq_of_lt (by omega)] at e1 e2
  exact hab (by omega)
theorem ring_lt {n h : Nat} : ∀ i ∈ ring n h, i < n := by
  intro i hi
  obtain ⟨j, hj, rfl⟩ := List.mem_map.1 hi
  exact Nat.mod_lt _ (by have := List.mem_range.1 hj; omega)
theorem Inv.start (us ov : List Bool) (h : Nat) : Inv us ov (total us ov h) [] (ring us.length h) us :=
  ⟨ring us.length h, [], by simp, ring_nodup, rfl, ring_lt, fun _ _ => rfl, by simp, by simp [total]⟩
/-- The step of the program's Order: those that may stay are passed, the next one goes. -/
theorem Inv.step {us0 ov us : List Bool} {all out who : List Nat} (h : Inv us0 ov all out who us) (h0 : who ≠ []) :
    ∃ x rest, who.drop (who.takeWhile (stay us ov)).length ++ who.take (who.takeWhile (stay us ov)).length = x :: rest ∧
      Inv us0 ov all (out ++ [x]) rest (clear us (who.take (who.takeWhile (stay us ov)).length)) := by
  obtain ⟨pre, hpre⟩ : ∃ pre, who.takeWhile (stay us ov) = pre := ⟨_, rfl⟩
  obtain ⟨post, hpost⟩ : ∃ post, who.dropWhile (stay us ov) = post := ⟨_, rfl⟩
  have e : who = pre ++ post := by rw [← hpre, ← hpost, List.takeWhile_append_dropWhile]
  have hall : ∀ i ∈ pre, stay us ov i = true := by
    intro i hi
    rw [← hpre] at hi
    have := List.all_takeWhile (l := who) (p := stay us ov)
    rw [List.all_eq_true] at this
    exact this i hi
  rw [hpre]
  have e1 : who.take pre.length = pre := by rw [e]; simp
  have e2 : who.drop pre.length = post := by rw [e]; simp
  rw [e1, e2]
  have h1 := Inv.pass pre post us (e ▸ h) hall
  have hn : (pre ++ post).Nodup := by
    obtain ⟨_, _, _, hn, _⟩ := h
    exact e ▸ hn
  cases hp : post with
  | nil =>
    rw [hp] at h1
    cases hq : pre with
    | nil => exact absurd (by rw [e, hp, hq]; rfl) h0
    | cons x pre' =>
      rw [hq] at h1
      refine ⟨x, pre', rfl, Inv.goes h1 ?_⟩
      unfold stay
      rw [clear_mem _ (List.mem_cons_self ..)]
      rfl
  | cons y post' =>
    rw [hp] at h1
    refine ⟨y, post' ++ pre, rfl, Inv.goes h1 ?_⟩
    have hy : stay us ov y = false := by
      have := List.head?_dropWhile_not (stay us ov) who
      rw [hpost, hp] at this
      simpa using this
    have hny : y ∉ pre := by
      intro hm
      rw [hp, List.nodup_append] at hn
      exact hn.2.2 y hm y (List.mem_cons_self ..) rfl
    unfold stay at hy ⊢
    rw [clear_not _ hny]
    exact hy
end Ch
end Go.Proofs.Ytfdbekgmpmfgpaa
