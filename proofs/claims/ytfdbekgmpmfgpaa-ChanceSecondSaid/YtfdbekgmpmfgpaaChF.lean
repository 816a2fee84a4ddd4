/- Layer 18 (chance): the contract of pass. -/
import Derived.Test.YtfdbekgmpmfgpaaChE
import Derived.Deep.RegionLawGrows
import Derived.Test.YtfdbekgmpmfgpaaTail
namespace Go.Proofs.Ytfdbekgmpmfgpaa
open Go.RowKit
namespace Ch

/-- append of any slice onto a slice that is full. -/
theorem run_append_full {P : Program} (w : World) (t ty e : TypeId) (i : TypeInfo) (z : Value) (bytes : Nat) (ht : P.underlying t = some (.slice e)) (hi : P.info? e = some i) (hz : i.zero = some z)
    (hsize : i.size = 1) (hby : i.bytes = bytes) (hzs : z.cells.size = 1)
    (A : Option Addr) (n : Nat) (olds : List Value) (hn : olds.length = n) (ho : Mem.Rd w A olds)
    (A2 : Option Addr) (m c : Nat) (news : List Value) (hm : news.length = m) (hr : Mem.Rd w A2 news) (h1 : ∀ u ∈ news, u.oneCell' = true)
    (h63 : n + m ≤ maxLen) (hbytes : (n + m) * bytes ≤ 140737488355328) :
    ∃ A' c' w', (Builtin.append_ #[t, t] ty #[.slice A n n, .slice A2 m c]).run P w = .ok (.slice A' (n + m) c') w' ∧ n + m ≤ c' ∧ Mem.Rd w' A' (olds ++ news) ∧ Below w.heap.size w w' ∧ (A' = A ∨ ∃ g, A' = some ⟨g, 0, none⟩ ∧ w.heap.size ≤ g) := by
  by_cases h0 : m = 0
  · subst h0
    obtain rfl : news = [] := List.eq_nil_of_length_eq_zero hm
    refine ⟨A, n, w, ?_, by omega, by simpa using ho, Below.refl _ _, .inl rfl⟩
    rcases A with _ | b <;> rcases A2 with _ | b2 <;>
      simp [Builtin.append_, run_underlying ht, sizeOf, typeInfo, hi, Builtin.lenOf, Builtin.firstCells, storeCells, loadCells, loadCellsFrom]
  · obtain ⟨b2, off2, rfl, hb2, hc2⟩ := hr (by omega)
    have hcells : ∀ j u, news[j]? = some u → w.cell? ((⟨b2, off2, none⟩ : Addr).add j) = some u := by
      intro j u hu
      have hj : j < news.length := (List.getElem?_eq_some_iff.1 hu).1
      rw [Mem.add_none, hc2 j hj, hu]
    have fin : ∀ v' w', w'.ownsRow w.heap.size e 1 v' (n + m) (olds ++ news) → w.grownBy w' none → ∃ A' c', v' = .slice A' (n + m) c' ∧ n + m ≤ c' ∧ Mem.Rd w' A' (olds ++ news) ∧ Below w.heap.size w w' ∧ (A' = A ∨ ∃ g, A' = some ⟨g, 0, none⟩ ∧ w.heap.size ≤ g) := by
      intro v' w' h2 h3
      obtain ⟨A', c', rfl, hc⟩ := Mem.own_shape h2
      obtain ⟨g, cg, e1, e2, _⟩ := h2.form (by omega)
      injection e1 with e1 _ _
      exact ⟨A', c', rfl, hc, Mem.Rd.of_own h2, (Below.refl _ _).grown h3 (Nat.le_refl _) (by intro k hk; cases hk), .inr ⟨g, e1, e2⟩⟩
    rcases A with _ | b
    · have hn0 : n = 0 := by
        rcases Nat.eq_zero_or_pos n with h | h
        · exact h
        · obtain ⟨_, _, h, _⟩ := ho (by omega)
          cases h
      subst hn0
      obtain rfl : olds = [] := List.eq_nil_of_length_eq_zero hn
      obtain ⟨v', w', hrun, r1, r2, _⟩ := run_append_own (P := P) w w.heap.size t ty e i z 1 bytes ht hi hz hsize hby hzs (by decide) (.slice none 0 0) 0 [] (World.ownsRow_nil w _ e 1) ⟨b2, off2, none⟩ m c news (by omega) hcells h1 h63 hbytes (Nat.le_refl _)
      obtain ⟨A', c', rfl, q⟩ := fin v' w' r1 r2
      exact ⟨A', c', w', hrun, q⟩
    · have holds : ∀ j u, olds[j]? = some u → w.cell? (b.add j) = some u := by
        intro j u hu
        have hj : j < olds.length := (List.getElem?_eq_some_iff.1 hu).1
        obtain ⟨b1, off1, h, _, hc⟩ := ho (by omega)
        injection h with h
        subst h
        rw [Mem.add_none, hc j hj, hu]
      obtain ⟨v', w', hrun, r1, r2⟩ := run_append_arg_grows (P := P) w t ty e i z 1 bytes ht hi hz hsize hby hzs (by decide) b n n olds (by omega) holds ⟨b2, off2, none⟩ m c news (by omega) hcells (by omega) h63 hbytes
      obtain ⟨A', c', rfl, q⟩ := fin v' w' r1 r2
      exact ⟨A', c', w', hrun, q⟩
theorem step_append_full {P : Program} {ops : Array Oper} {o : Oper} {a : Act} {w : World} {K : Act → World → Prop} {Q : Exit → Act → World → Prop} {E : Prop} (hgd : o.guard = none) (s x : Operand) (t : TypeId)
    (hop : o.op = .call { callee := .builtin .append, args := #[s, x], argTypes := #[t, t] })
    (e : TypeId) (i : TypeInfo) (z : Value) (bytes : Nat) (ht : P.underlying t = some (.slice e)) (hi : P.info? e = some i) (hz : i.zero = some z)
    (hsize : i.size = 1) (hby : i.bytes = bytes) (hzs : z.cells.size = 1)
    (A : Option Addr) (n : Nat) (olds : List Value) (hs : a.eval s = .slice A n n) (hn : olds.length = n) (ho : Mem.Rd w A olds)
    (A2 : Option Addr) (m c : Nat) (news : List Value) (hx : a.eval x = .slice A2 m c) (hm : news.length = m) (hr : Mem.Rd w A2 news) (h1 : ∀ u ∈ news, u.oneCell' = true)
    (h63 : n + m ≤ maxLen) (hbytes : (n + m) * bytes ≤ 140737488355328)
    (h : ∀ A' c' w', n + m ≤ c' → Mem.Rd w' A' (olds ++ news) → Below w.heap.size w w' → (A' = A ∨ ∃ g, A' = some ⟨g, 0, none⟩ ∧ w.heap.size ≤ g) → K (a.put o.dst (.slice A' (n + m) c')) w') :
    if Region.wanted o (yielded ops a.tmps) = true then Oper.wp P o a w K Q else E := by
  have hw : Region.wanted o (yielded ops a.tmps) = true := by simp [Region.wanted, hgd]
  rw [if_pos hw]
  obtain ⟨A', c', w', hrun, h2, h3, h4, h5⟩ := run_append_full (P := P) w t o.type e i z bytes ht hi hz hsize hby hzs A n olds hn ho A2 m c news hm hr h1 h63 hbytes
  unfold Oper.wp
  simp [execOp, hop, resolve, invoke, builtin, hs, hx, hrun, Result.andThen]
  exact h A' c' w' h2 h3 h4 h5

theorem wpList_append_full {P : Program} {ops : Array Oper} {rest : List Oper} {o : Oper} {a : Act} {w : World} {Q : Exit → Act → World → Prop} (hgd : o.guard = none) (s x : Operand) (t : TypeId)
    (hop : o.op = .call { callee := .builtin .append, args := #[s, x], argTypes := #[t, t] })
    (e : TypeId) (i : TypeInfo) (z : Value) (bytes : Nat) (ht : P.underlying t = some (.slice e)) (hi : P.info? e = some i) (hz : i.zero = some z)
    (hsize : i.size = 1) (hby : i.bytes = bytes) (hzs : z.cells.size = 1)
    (A : Option Addr) (n : Nat) (olds : List Value) (hs : a.eval s = .slice A n n) (hn : olds.length = n) (ho : Mem.Rd w A olds)
    (A2 : Option Addr) (m c : Nat) (news : List Value) (hx : a.eval x = .slice A2 m c) (hm : news.length = m) (hr : Mem.Rd w A2 news) (h1 : ∀ u ∈ news, u.oneCell' = true)
    (h63 : n + m ≤ maxLen) (hbytes : (n + m) * bytes ≤ 140737488355328)
    (h : ∀ A' c' w', n + m ≤ c' → Mem.Rd w' A' (olds ++ news) → Below w.heap.size w w' → (A' = A ∨ ∃ g, A' = some ⟨g, 0, none⟩ ∧ w.heap.size ≤ g) → wpList P ops Q rest (a.put o.dst (.slice A' (n + m) c')) w') : wpList P ops Q (o :: rest) a w := by
  refine wpList_plain hgd fun _ hK => ?_
  obtain ⟨A', c', w', hrun, h2, h3, h4, h5⟩ := run_append_full (P := P) w t o.type e i z bytes ht hi hz hsize hby hzs A n olds hn ho A2 m c news hm hr h1 h63 hbytes
  unfold Oper.wp execOp
  simp only [hop, resolve, invoke, builtin, Sem.run_bind, Sem.run_pure, Result.andThen_ok, List.map_toArray, List.map_cons, List.map_nil, hs, hx, hrun]
  exact hK _ _ (h A' c' w' h2 h3 h4 h5)
/-- The wheel, its who slice said. -/
def WheelA (p ub : Nat) (A : Option Addr) (c uc : Nat) (who : List Nat) (us : List Bool) (vo : Value) (w : World) : Prop :=
  w.heap[p]? = some (.cells #[.slice A who.length c, .slice (some ⟨ub, 0, none⟩) us.length uc, vo] 48 (0, 0)) ∧ ub ≠ p ∧ ub < w.heap.size ∧ who.length ≤ c ∧ us.length ≤ uc ∧
    Mem.Rd w A (ints who) ∧ (∀ j, j < us.length → w.cell? ⟨ub, j, none⟩ = some (.bool (us.getD j false))) ∧ ∀ j, w.frozen? ⟨ub, j, none⟩ = false
theorem cell_set {w : World} {p q : Addr} {u v x : Value} (hp : w.cell? p = some u) (hq : w.cell? q = some v) (hne : u ≠ v) : (w.setCell p x).cell? q = some v := by
  rw [World.cell?_setCell_other]
  · exact hq
  · intro e
    rw [e, hq] at hp
    injection hp with hp
    exact hne hp.symm
theorem ints_is {is : List Nat} {i : Nat} {v : Value} (h : (ints is)[i]? = some v) : ∃ x : Int, v = .int .i64 x := by
  unfold ints at h
  rw [List.getElem?_map] at h
  cases h1 : is[i]? with
  | none => rw [h1] at h; cases h
  | some y =>
    rw [h1] at h
    exact ⟨y, by injection h with h; exact h.symm⟩
theorem rd_set {w : World} {A : Option Addr} {is : List Nat} {p : Addr} {u x : Value} (h : Mem.Rd w A (ints is)) (hp : w.cell? p = some u) (hu : ∀ y, u ≠ .int .i64 y) : Mem.Rd (w.setCell p x) A (ints is) := fun hl => by
  obtain ⟨b, off, ha, hlt, hc⟩ := h hl
  refine ⟨b, off, ha, by simpa using hlt, fun i hi => ?_⟩
  have h1 : (ints is)[i]? = some (ints is)[i] := List.getElem?_eq_getElem hi
  rw [h1]
  refine cell_set hp ((hc i hi).trans h1) ?_
  obtain ⟨y, hy⟩ := ints_is h1
  rw [hy]
  exact hu y
theorem keep_set {p ub : Nat} (w : World) (q : Addr) (x : Value) (h : q.block = p ∨ q.block = ub) : Keep2 p ub w (w.setCell q x) :=
  ⟨rfl, rfl, rfl, by simp, fun k _ h1 h2 => by
    simp only [World.setCell, Array.getElem?_modify]
    rw [if_neg (by rcases h with h | h <;> omega)]⟩
section
variable {p ub c uc : Nat} {A : Option Addr} {who : List Nat} {us : List Bool} {vo : Value} {w : World}
theorem WheelA.wheel (h : WheelA p ub A c uc who us vo w) : Wheel p ub who us vo w := ⟨A, c, uc, h⟩
theorem WheelA.field0 (h : WheelA p ub A c uc who us vo w) : w.cell? ⟨p, 0, none⟩ = some (.slice A who.length c) := by unfold World.cell?; rw [h.1]; rfl
theorem WheelA.field1 (h : WheelA p ub A c uc who us vo w) : w.cell? ⟨p, 1, none⟩ = some (.slice (some ⟨ub, 0, none⟩) us.length uc) := by unfold World.cell?; rw [h.1]; rfl
theorem WheelA.free (h : WheelA p ub A c uc who us vo w) (i : Nat) : w.frozen? ⟨p, i, none⟩ = false := by unfold World.frozen?; rw [h.1]; rfl
theorem WheelA.clear (h : WheelA p ub A c uc who us vo w) {x : Nat} (hx : x < us.length) : WheelA p ub A c uc who (us.set x false) vo (w.setCell ⟨ub, x, none⟩ (.bool false)) := by
  obtain ⟨h1, h2, h3, h4, h5, h6, h7, h8⟩ := h
  refine ⟨?_, h2, by simpa using h3, h4, by rw [List.length_set]; exact h5, rd_set h6 (h7 x hx) (by intro y e; cases e), fun j hj => ?_, fun j => ?_⟩
  · rw [List.length_set]
    refine Eq.trans ?_ h1
    simp only [World.setCell, Array.getElem?_modify]
    rw [if_neg h2]
  · rw [List.length_set] at hj
    by_cases e : x = j
    · subst e
      rw [getD_set_self, World.cell?_setCell_same (h := h7 x hx)]
    · rw [getD_set_ne e, World.cell?_setCell_other]
      · exact h7 j hj
      · intro e2
        injection e2 with _ e2
        exact e e2
  · rw [World.frozen?_setCell]
    exact h8 j
theorem WheelA.turn {w2 : World} {A' : Option Addr} {c' n : Nat} {who' : List Nat} (h : WheelA p ub A c uc who us vo w) (hb : Below w.heap.size w w2) (hn : who'.length = n) (hc : n ≤ c') (hr : Mem.Rd w2 A' (ints who')) :
    WheelA p ub A' c' uc who' us vo (w2.setCell ⟨p, 0, none⟩ (.slice A' n c')) ∧ Keep2 p ub w (w2.setCell ⟨p, 0, none⟩ (.slice A' n c')) := by
  subst hn
  have h0 := h.field0
  obtain ⟨h1, h2, h3, h4, h5, h6, h7, h8⟩ := h
  have hlt := lt_of_block h1
  have hblk : w2.heap[p]? = _ := (hb.block p hlt).trans h1
  have c0 : w2.cell? ⟨p, 0, none⟩ = some (.slice A who.length c) := (hb.cell (p := ⟨p, 0, none⟩) hlt).trans h0
  refine ⟨⟨?_, h2, ?_, hc, h5, rd_set hr c0 (by intro y e; cases e), fun j hj => ?_, fun j => ?_⟩, (Keep2.of_below hb).trans (keep_set _ _ _ (.inl rfl))⟩
  · simp [World.setCell, Array.getElem?_modify, hblk]
  · have := hb.size
    simp only [World.size_setCell]
    omega
  · rw [World.cell?_setCell_other]
    · exact (hb.cell (p := ⟨ub, j, none⟩) h3).trans (h7 j hj)
    · intro e
      injection e with e _
      exact h2 e.symm
  · rw [World.frozen?_setCell, hb.frozen (p := ⟨ub, j, none⟩) h3]
    exact h8 j
end
theorem ints_drop (is : List Nat) (n : Nat) : (ints is).drop n = ints (is.drop n) := by simp [ints]
theorem ints_take (is : List Nat) (n : Nat) : (ints is).take n = ints (is.take n) := by simp [ints]
theorem clear_snoc (us : List Bool) (is : List Nat) (x : Nat) : clear us (is ++ [x]) = (clear us is).set x false := by simp [clear]
theorem pass_cut {w : World} {b off m k : Nat} {who : List Nat} (h : Mem.Rd w (some ⟨b, off, none⟩) (ints who)) (hm : who.length = m) (hk : k ≤ m) :
    Mem.Rd w (if m = k then some ⟨b, off, none⟩ else some ⟨b, off + k, none⟩) (ints (who.drop k)) ∧ Mem.Rd w (some ⟨b, off, none⟩) (ints (who.take k)) := by
  constructor
  · have := Mem.Rd.cut h k (m - k) (by rw [ints_len]; omega) (if m = k then some ⟨b, off, none⟩ else some ⟨b, off + k, none⟩) (fun h0 => by rw [if_neg (by omega)]; simp [Mem.add_none])
    rw [ints_drop, ints_take, List.take_of_length_le (by rw [List.length_drop]; omega)] at this
    exact this
  · have := Mem.Rd.cut h 0 k (by rw [ints_len]; omega) (some ⟨b, off, none⟩) (fun _ => by simp [Mem.add_none])
    rw [List.drop_zero, ints_take] at this
    exact this
/-- The relation of pass's loop. -/
def PassR (p ub : Nat) (A : Option Addr) (c uc n : Nat) (who : List Nat) (us : List Bool) (vo : Value) (W : World) (i : Value) (w : World) : Prop :=
  ∃ k : Nat, k ≤ n ∧ i = .int .i64 k ∧ WheelA p ub A c uc who (clear us (who.take k)) vo w ∧ Keep2 p ub W w
/-- The wheel, the block of its who slice said. -/
def WheelB (p ub blk : Nat) (who : List Nat) (us : List Bool) (vo : Value) (w : World) : Prop := ∃ off c uc, WheelA p ub (some ⟨blk, off, none⟩) c uc who us vo w
theorem WheelB.wheel {p ub blk : Nat} {who : List Nat} {us : List Bool} {vo : Value} {w : World} (h : WheelB p ub blk who us vo w) : Wheel p ub who us vo w := by
  obtain ⟨off, c, uc, h⟩ := h
  exact h.wheel
theorem Wheel.at {p ub : Nat} {who : List Nat} {us : List Bool} {vo : Value} {w : World} (h : Wheel p ub who us vo w) (h0 : 0 < who.length) : ∃ blk, blk < w.heap.size ∧ WheelB p ub blk who us vo w := by
  obtain ⟨A, c, uc, h⟩ := h
  obtain ⟨b, off, rfl, hb, _⟩ := h.2.2.2.2.2.1 (by rw [ints_len]; exact h0)
  exact ⟨b, hb, off, c, uc, h⟩
theorem WheelB.below {p ub blk : Nat} {who : List Nat} {us : List Bool} {vo : Value} {w w' : World} (h : WheelB p ub blk who us vo w) (hb : Below w.heap.size w w') : WheelB p ub blk who us vo w' := by
  obtain ⟨off, c, uc, h1, h2, h3, h4, h5, h6, h7, h8⟩ := h
  refine ⟨off, c, uc, (hb.block _ (lt_of_block h1)).trans h1, h2, Nat.lt_of_lt_of_le h3 hb.size, h4, h5, h6.below hb, fun j hj => (hb.cell (p := ⟨ub, j, none⟩) h3).trans (h7 j hj), fun j => ?_⟩
  rw [hb.frozen (p := ⟨ub, j, none⟩) h3]
  exact h8 j
/-- What pass leaves. -/
def PassRes (p ub blk : Nat) (who : List Nat) (us : List Bool) (vo : Value) (n : Nat) (W : World) (w : World) : Prop :=
  ∃ blk', WheelB p ub blk' (who.drop n ++ who.take n) (clear us (who.take n)) vo w ∧ (blk' = blk ∨ W.heap.size ≤ blk') ∧ Keep2 p ub W w
theorem pass_end {p ub blk off c uc m k c' : Nat} {who : List Nat} {us : List Bool} {vo : Value} {W wr w' : World} {A' : Option Addr} (hk : k ≤ m) (hm : who.length = m)
    (h : WheelA p ub (some ⟨blk, off, none⟩) c uc who (clear us (who.take k)) vo wr) (hkeep : Keep2 p ub W wr) (hb : Below wr.heap.size wr w')
    (hA : A' = (if m = k then some ⟨blk, off, none⟩ else some ⟨blk, off + k, none⟩) ∨ ∃ g, A' = some ⟨g, 0, none⟩ ∧ wr.heap.size ≤ g) (hc : m - k + k ≤ c') (hr : Mem.Rd w' A' (ints (who.drop k) ++ ints (who.take k))) :
    PassRes p ub blk who us vo k W (w'.setCell ⟨p, 0, none⟩ (.slice A' m c')) := by
  rw [Nat.sub_add_cancel hk] at hc
  rw [← ints_app] at hr
  have hl : (who.drop k ++ who.take k).length = m := by simp [hm]; omega
  obtain ⟨h1, h2⟩ := h.turn hb hl hc hr
  rcases hA with hA | ⟨g, hA, hg⟩
  · split at hA
    · subst hA
      exact ⟨blk, ⟨off, c', uc, h1⟩, .inl rfl, hkeep.trans h2⟩
    · subst hA
      exact ⟨blk, ⟨off + k, c', uc, h1⟩, .inl rfl, hkeep.trans h2⟩
  · subst hA
    exact ⟨g, ⟨0, c', uc, h1⟩, .inr (Nat.le_trans hkeep.size hg), hkeep.trans h2⟩
set_option maxHeartbeats 1600000 in
theorem pass_any (p ub blk : Nat) (who : List Nat) (us : List Bool) (vo : Value) (n : Nat) (W : World) (h : WheelB p ub blk who us vo W) (hn : n ≤ who.length) (hwho : ∀ i ∈ who, i < us.length) (hwl : who.length ≤ 1000) (hw0 : 0 < who.length) :
    Calls Try.prog 21 #[.pointer (some ⟨p, 0, none⟩), .int .i64 (n : Int)] W fun e w' => e = .returned (.tuple #[]) ∧ PassRes p ub blk who us vo n W w' := by
  obtain ⟨off, c, uc, h⟩ := h
  obtain ⟨i0, hi0, hz0, hz1, hz2⟩ := info_at infoI
  have I0 := Lib.hid hi0
  have I1 := Lib.hid hz0
  have I2 := Lib.hid hz1
  have I3 := Lib.hid hz2
  obtain ⟨m, hm0⟩ : ∃ m, who.length = m := ⟨_, rfl⟩
  have HWL := Lib.hid hm0
  obtain ⟨l, hl⟩ : ∃ l, us.length = l := ⟨_, rfl⟩
  have HL := Lib.hid hl
  have HWHO := Lib.hid hwho
  have c0 := h.field0
  have hmc : m ≤ c := by rw [← hm0]; exact h.2.2.2.1
  have HW := Lib.hid h
  rw [hm0] at hn hwl c0 hw0
  clear hi0 hz0 hz1 hz2 h hm0 hl hwho
  have hn0 : (0 : Int) ≤ (n : Int) := by omega
  have hn1 : (n : Int) ≤ (m : Int) := by omega
  have hn2 : (n : Int) ≤ (c : Int) := by omega
  have hn3 : n ≤ c := by omega
  go_enter Try.func21, Try.ntmps21
  go_wp2_with fail
  go_loopw [14] (PassR p ub (some ⟨blk, off, none⟩) c uc n who us vo W) (fun i _ => n - (intOf i).toNat)
  case atStart => exact ⟨0, by omega, rfl, HW.out, Keep2.refl _ _ _⟩
  case round =>
    obtain ⟨k, hk, rfl, hw, hkeep⟩ := hrel
    by_cases hlt : k < n
    · have hx : (k : Nat) < who.length := by rw [HWL.out]; omega
      obtain ⟨x, hxe⟩ : ∃ x, who.getD k 0 = x := ⟨_, rfl⟩
      have HX := Lib.hid hxe
      have hxl : x < us.length := by
        rw [← hxe, List.getD_eq_getElem?_getD, List.getElem?_eq_getElem hx]
        exact HWHO.out _ (List.getElem_mem _)
      obtain ⟨b2, off2, e1, hb, hc⟩ := hw.2.2.2.2.2.1 (by rw [ints_len, HWL.out]; omega)
      injection e1 with e1
      injection e1 with e1 e2 _
      subst e1 e2
      have c1 := hc k (by rw [ints_len, HWL.out]; omega)
      rw [ints_at hx, hxe] at c1
      have c2 := hw.field1
      have cl : (clear us (who.take k)).length = l := by rw [clear_length, HL.out]
      have c3 := hw.2.2.2.2.2.2.1 x (by rw [clear_length]; exact hxl)
      have f3 := hw.2.2.2.2.2.2.2 x
      rw [cl] at c2
      rw [HL.out] at hxl
      have hs := hw.clear (x := x) (by rw [cl]; exact hxl)
      have HS := Lib.hid hs
      have HK := Lib.hid hkeep
      have hx0 : (0 : Int) ≤ (x : Int) := by omega
      have hx1 : (x : Int) < (l : Int) := by omega
      have hk0 : (0 : Int) ≤ (k : Int) := by omega
      have hk1 : (k : Int) < (n : Int) := by omega
      clear hs hkeep hw hc hxe hx cl
      go_wp2_with fail
      go_roundw
      case rel =>
        refine ⟨k + 1, by omega, by go_num, ?_, HK.out.trans (keep_set _ _ _ (.inr rfl))⟩
        have e : who[k]? = some x := by rw [List.getElem?_eq_getElem (by rw [HWL.out]; omega), ← HX.out, List.getD_eq_getElem?_getD, List.getElem?_eq_getElem (by rw [HWL.out]; omega)]; rfl
        rw [List.take_add_one, e]
        show WheelA p ub _ c uc who (clear us (who.take k ++ [x])) vo _
        rw [clear_snoc]
        exact HS.out
      case measure => simp [intOf]; omega
    · obtain rfl : k = n := by omega
      have c1 := hw.field0
      have hp0 := lt_of_block hw.1
      have f1 := hw.free 0
      rw [HWL.out] at c1
      have HR := Lib.hid hw.2.2.2.2.2.1
      have HWK := Lib.hid hw
      have HK := Lib.hid hkeep
      clear hw hkeep
      go_wp2_with fail
      refine Mem.wp_region_one_tail 24 (by kernel_rfl) rfl rfl (by kernel_rfl) (by kernel_rfl) (fun _ _ _ h => h) (Or.inl ⟨by rfl, fun w => by rfl⟩) ?_
      simp only [Mem.late, List.set_cons_succ, List.set_cons_zero, List.take_succ_cons, List.take_zero, List.drop_succ_cons, List.drop_zero, Act.put, List.setIfInBounds_toArray]
      repeat still_step
      refine wpStill_nil ?_
      refine wpList_append_full rfl (.tmp 41) (.tmp 48) 24 rfl 3 i0 (.int .i64 0) 8 Try.underlying24 I0.out I1.out I2.out I3.out rfl (if m = k then some ⟨blk, off, none⟩ else some ⟨blk, off + k, none⟩) (m - k) (ints (who.drop k)) (by simp [Act.eval]; done) (by rw [ints_len, List.length_drop, HWL.out]) (by exact (pass_cut HR.out HWL.out hn).1) (some ⟨blk, off, none⟩) k k (ints (who.take k)) (by simp [Act.eval]; done) (by rw [ints_len, List.length_take, HWL.out]; omega) (by exact (pass_cut HR.out HWL.out hn).2) (one_ints _) (by simp only [maxLen]; omega) (by omega) ?_
      obtain ⟨A0, hA0⟩ : ∃ A0, (if m = k then (some ⟨blk, off, none⟩ : Option Addr) else some ⟨blk, off + k, none⟩) = A0 := ⟨_, rfl⟩
      rw [hA0]
      intro A' c' w' hc' hr' hb' hA'
      rw [← hA0] at hA'
      clear hA0
      have cc : w'.cell? ⟨p, 0, none⟩ = some (.slice (some ⟨blk, off, none⟩) m c) := (hb'.cell (p := ⟨p, 0, none⟩) hp0).trans c1
      have ff : w'.frozen? ⟨p, 0, none⟩ = false := (hb'.frozen (p := ⟨p, 0, none⟩) hp0).trans f1
      have ht := pass_end hn HWL.out HWK.out HK.out (Mem.below_of_drew hb') hA' hc' hr'
      clear hr' hb' hA'
      go_wp2_with fail
      go_end0
      exact ⟨rfl, ht⟩
end Ch
end Go.Proofs.Ytfdbekgmpmfgpaa
