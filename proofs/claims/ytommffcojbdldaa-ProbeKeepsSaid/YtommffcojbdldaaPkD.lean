/- Layer 19: the list of acts as it is handed in; a table of empty cells as it is made; append of any part at a step of a drawn region. -/
import Derived.Test.YtommffcojbdldaaPkC
import Derived.Test.YtommffcojbdldaaPtB
namespace Go.Proofs.Ytommffcojbdldaa
open Go.RowKit Go.ChangeShapes Go.WideShapes Go.Deep
namespace Pr

def al (z : List (Bool × Nat × Int)) (k : Nat) : Bool × Nat × Int := z.getD k (false, 0, 0)
/-- A slice that reads as a list of acts. -/
structure RdA (w : World) (A : Option Addr) (n : Nat) (z : List (Bool × Nat × Int)) : Prop where
  fine : ∀ k, (al z k).2.1 < 4294967296 ∧ I64 (al z k).2.2
  rows : 0 < n → ∃ b off, A = some ⟨b, off, none⟩ ∧ b < w.heap.size ∧ ∀ k, k < n → w.cell? ⟨b, off + k * 3, none⟩ = some (.bool (al z k).1) ∧ w.cell? ⟨b, off + k * 3 + 1, none⟩ = some (.int .u32 ((al z k).2.1 : Int)) ∧ w.cell? ⟨b, off + k * 3 + 2, none⟩ = some (.int .i64 (al z k).2.2)
theorem RdA.below {w w' : World} {A : Option Addr} {n : Nat} {z : List (Bool × Nat × Int)} (h : RdA w A n z) (hb : Below w.heap.size w w') : RdA w' A n z := by
  refine ⟨h.fine, fun h0 => ?_⟩
  obtain ⟨b, off, ha, hlt, hc⟩ := h.rows h0
  exact ⟨b, off, ha, Nat.lt_of_lt_of_le hlt hb.size, fun k hk => ⟨(hb.cell (p := ⟨b, off + k * 3, none⟩) hlt).trans (hc k hk).1, (hb.cell (p := ⟨b, off + k * 3 + 1, none⟩) hlt).trans (hc k hk).2.1, (hb.cell (p := ⟨b, off + k * 3 + 2, none⟩) hlt).trans (hc k hk).2.2⟩⟩
theorem act_in {H : Type} {enc : TypeId × Value → H} {W : World} {fuel n c : Nat} {A : Option Addr} {x : DataW H × List MemPlace}
    (hf : DataW.trod enc Try.prog W 0 (fun _ => true) true fuel 43 (Value.slice A n c).cells.toList = some x) : ∃ z, RdA W A n z := by
  have ce : Try.prog.cellsOf 45 = 3 := by kernel_rfl
  rcases open_slice Try.underlying43 hf with ⟨hcs, _⟩ | ⟨a, len, cap, m, k, D, Pl, hcs, _, hl, hm, hmm, _, hc⟩
  · simp [Value.cells] at hcs
    obtain ⟨rfl, rfl, rfl⟩ := hcs
    exact ⟨[], fun k => ⟨by simp [al], by simp [al, I64]⟩, fun h => absurd h (by omega)⟩
  · simp [Value.cells] at hcs
    obtain ⟨rfl, rfl, rfl⟩ := hcs
    have hm2 : n ≤ m := by rw [hmm]; split <;> omega
    have each : ∀ i, i < n → ∃ q : Bool × Nat × Int, (q.2.1 < 4294967296 ∧ I64 q.2.2) ∧ W.cell? (a.add (i * 3)) = some (.bool q.1) ∧ W.cell? (a.add (i * 3 + 1)) = some (.int .u32 (q.2.1 : Int)) ∧ W.cell? (a.add (i * 3 + 2)) = some (.int .i64 q.2.2) := fun i hi => by
      obtain ⟨cs', h1, h2⟩ := hc i (by omega)
      rw [ce] at h1
      obtain ⟨_, hlen, hcell⟩ := World.cells?_some h1
      obtain ⟨xs, k, _, _, _, hxl, hfd⟩ := DataW.trod_struct Try.underlying45 h2
      match xs, hxl, cs', hlen with
      | [y0, y1, y2], _, [v0, v1, v2], _ =>
        have g0 := hfd 0 _ rfl
        have g1 := hfd 1 _ rfl
        have g2 := hfd 2 _ rfl
        have c0 : Try.prog.cellsOf 4 = 1 := by kernel_rfl
        have c1 : Try.prog.cellsOf 23 = 1 := by kernel_rfl
        have c2 : Try.prog.cellsOf 3 = 1 := by kernel_rfl
        simp [c0, c1, c2] at g0 g1 g2
        obtain ⟨b, e0, _⟩ := DataW.trod_bool Try.underlying4 g0
        obtain ⟨u, e1, _, w1⟩ := DataW.trod_int Try.underlying23 g1
        obtain ⟨v, e2, _, w2⟩ := DataW.trod_int Try.underlying3 g2
        simp only [List.cons.injEq, and_true] at e0 e1 e2
        subst e0 e1 e2
        simp [Lit.wf, IntKind.min, IntKind.max, IntKind.signed, IntKind.bits] at w1
        have q0 := hcell 0 (by omega)
        have q1 := hcell 1 (by omega)
        have q2 := hcell 2 (by omega)
        rw [add_add] at q0 q1 q2
        refine ⟨(b, u.toNat, v), ⟨show u.toNat < 4294967296 by omega, bounds_i64 w2⟩, by simpa using q0, ?_, by simpa using q2⟩
        show W.cell? _ = some (.int .u32 ((u.toNat : Nat) : Int))
        rw [show (((u.toNat : Nat) : Int)) = u by omega]
        simpa using q1
    obtain ⟨f, hfq⟩ := choose_lt each
    have hal : ∀ i, i < n → al ((List.range n).map f) i = f i := fun i hi => by
      unfold al
      rw [List.getD_eq_getElem?_getD, List.getElem?_map, List.getElem?_range hi]
      rfl
    refine ⟨(List.range n).map f, fun i => ?_, fun h0 => ?_⟩
    · rcases Nat.lt_or_ge i n with hi | hi
      · rw [hal i hi]
        exact (hfq i hi).1
      · unfold al
        rw [List.getD_eq_getElem?_getD, List.getElem?_eq_none (by simpa using hi)]
        exact ⟨by decide, by unfold I64; decide⟩
    · obtain ⟨b, off, spot⟩ := a
      have h1 := (hfq 0 (by omega)).2.1
      have hspot : spot = none := by simpa [Addr.add] using World.cell?_spot h1
      subst hspot
      have hlt := World.block_lt_of_cell? W _ h1
      refine ⟨b, off, rfl, by simpa [Addr.add] using hlt, fun i hi => ?_⟩
      obtain ⟨_, g0, g1, g2⟩ := hfq i hi
      rw [hal i hi]
      rw [Mem.add_none] at g0 g1 g2
      exact ⟨g0, by rw [Nat.add_assoc]; exact g1, by rw [Nat.add_assoc]; exact g2⟩
/-- A new table. -/
theorem made_table (w : World) (n : Nat) : RdT (w.alloc (.cells (madeCells #[.int .u32 0, .int .i64 0] (n * 2)) 48)) (some ⟨w.heap.size, 0, none⟩) n (List.replicate n (0, 0)) := by
  refine ⟨List.length_replicate, fun p hp => ?_, fun h0 => ⟨_, 0, rfl, by simp, fun k hk => ?_⟩⟩
  · rw [List.eq_of_mem_replicate hp]
    exact ⟨by decide, by unfold I64; decide⟩
  · have hc : cl (List.replicate n ((0 : Nat), (0 : Int))) k = (0, 0) := by
      unfold cl
      rw [List.getD_eq_getElem?_getD, List.getElem?_replicate]
      split <;> rfl
    have hg := heap_alloc_new w (.cells (madeCells #[.int .u32 0, .int .i64 0] (n * 2)) 48)
    rw [hc, cell_of_row _ w.heap.size _ _ _ (0, 0) hg, cell_of_row _ w.heap.size _ _ _ (0, 0) hg]
    have l0 : 0 + k * 2 < n * 2 := by omega
    have l1 : 0 + k * 2 + 1 < n * 2 := by omega
    unfold madeCells
    constructor
    · rw [Array.getElem?_map, Array.getElem?_eq_getElem (by simpa using l0)]
      simp
    · rw [Array.getElem?_map, Array.getElem?_eq_getElem (by simpa using l1)]
      simp
section
variable {P : Program} (w : World)
theorem step_append_lie {ops : Array Oper} {o : Oper} {a : Act} {K : Act → World → Prop} {Q : Exit → Act → World → Prop} {E : Prop} (hgd : o.guard = none) (s x : Operand) (t : TypeId)
    (ho : o.op = .call { callee := .builtin .append, args := #[s, x], argTypes := #[t, t] })
    (base : Nat) (e : TypeId) (i : TypeInfo) (z : Value) (size bytes : Nat) (ht : P.underlying t = some (.slice e)) (hi : P.info? e = some i) (hz : i.zero = some z)
    (hsize : i.size = size) (hby : i.bytes = bytes) (hzs : z.cells.size = size) (hs0 : 0 < size)
    (v : Value) (n : Nat) (xs : List Value) (hs : a.eval s = v) (hown : w.ownsRow base e size v n xs)
    (A : Option Addr) (m c : Nat) (news : List Value) (hx : a.eval x = .slice A m c) (hm : news.length = m * size) (hr : Lie w A news) (h1 : ∀ u ∈ news, u.oneCell' = true)
    (h63 : n + m ≤ maxLen) (hbytes : (n + m) * bytes ≤ 140737488355328) (hbase : base ≤ w.heap.size)
    (h : ∀ v' w', w'.ownsRow base e size v' (n + m) (xs ++ news) → w.grownBy w' v.ownBlock → (v'.ownBlock = v.ownBlock ∨ v'.ownBlock = some w.heap.size) → K (a.put o.dst v') w') : if Region.wanted o (yielded ops a.tmps) = true then Oper.wp P o a w K Q else E := by
  have hw : Region.wanted o (yielded ops a.tmps) = true := by simp [Region.wanted, hgd]
  rw [if_pos hw]
  have key : ∃ v' w', (Builtin.append_ #[t, t] o.type #[v, .slice A m c]).run P w = .ok v' w' ∧ w'.ownsRow base e size v' (n + m) (xs ++ news) ∧ w.grownBy w' v.ownBlock ∧ (v'.ownBlock = v.ownBlock ∨ v'.ownBlock = some w.heap.size) := by
    cases A with
    | none =>
      have h0 : m = 0 := by
        rcases Nat.eq_zero_or_pos m with h0 | h0
        · exact h0
        · obtain ⟨b, off, e1, _⟩ := hr (by rw [hm]; exact Nat.mul_pos h0 hs0)
          cases e1
      subst h0
      have hn : news = [] := List.eq_nil_of_length_eq_zero (by omega)
      subst hn
      exact ⟨v, w, run_append_nil ht hi hown c, by simpa using hown, ⟨rfl, rfl, rfl, Nat.le_refl _, fun _ _ _ => rfl⟩, .inl rfl⟩
    | some ad =>
      have hcells : ∀ j u, news[j]? = some u → w.cell? (ad.add j) = some u := by
        intro j u hu
        have hj : j < news.length := (List.getElem?_eq_some_iff.1 hu).1
        obtain ⟨b, off, e1, _, hc⟩ := hr (by omega)
        injection e1 with e1
        subst e1
        rw [Mem.add_none, hc j hj, hu]
      obtain ⟨v', w', hrun, h2, h3, _, h5⟩ := run_append_own_at (P := P) w base t o.type e i z size bytes ht hi hz hsize hby hzs hs0 v n xs hown ad m c news hm hcells h1 h63 hbytes hbase
      exact ⟨v', w', hrun, h2, h3, h5⟩
  obtain ⟨v', w', hrun, h2, h3, h4⟩ := key
  unfold Oper.wp execOp
  simp only [ho, resolve, invoke, builtin, Sem.run_bind, Sem.run_pure, Result.andThen_ok, List.map_toArray, List.map_cons, List.map_nil, hs, hx, hrun]
  exact h v' w' h2 h3 h4
end
end Pr
end Go.Proofs.Ytommffcojbdldaa
