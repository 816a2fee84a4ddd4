/- Layer 19: the relation of ProbeKeeps' first loop, and how it is kept. -/
import Derived.Test.YtommffcojbdldaaPkD
namespace Go.Proofs.Ytommffcojbdldaa
open Go.RowKit
namespace Pr

/-- The table and the list in memory. -/
structure KpS (w : World) (W : World) (tA iA : Option Addr) (n ic : Nat) (l t : Tab) : Prop where
  own : OwnL w W.heap.size iA l.length ic l
  tab : RdT w tA n t
  apart : ∀ b o, tA = some ⟨b, o, none⟩ → some b ≠ (Value.slice iA l.length ic).ownBlock
  below : Below W.heap.size W w
  keep : Keep t l n
def KpR (m n : Nat) (W : World) (G : Nat) (v5 v6 v7 : Value) (w : World) : Prop :=
  ∃ (k : Nat) (l t : Tab) (tA iA : Option Addr) (tc ic : Nat), k ≤ m ∧ G = m - k ∧ v5 = .slice tA n tc ∧ v6 = .slice iA l.length ic ∧ v7 = .int .i64 (k : Int) ∧ KpS w W tA iA n ic l t
def CnR (t : Tab) (n : Nat) (W : World) (G : Nat) (v14 v15 : Value) (w : World) : Prop :=
  ∃ i : Nat, i ≤ n ∧ G = n - i ∧ v14 = .int .i64 (cnt t i : Nat) ∧ v15 = .int .i64 (i : Int) ∧ w = W
def FoR (n : Nat) (W : World) (G : Nat) (v16 : Value) (w : World) : Prop :=
  ∃ i : Nat, i ≤ n ∧ G = n - i ∧ v16 = .int .i64 (i : Int) ∧ Below W.heap.size W w
theorem KpS.next {w w' W : World} {tA iA : Option Addr} {n ic : Nat} {l t : Tab} (h : KpS w W tA iA n ic l t) (hb : Below w.heap.size w w') : KpS w' W tA iA n ic l t :=
  ⟨h.own.below hb, h.tab.below hb, h.apart, below_next h.below hb, h.keep⟩
/-- Another table. -/
theorem KpS.table {w w' W : World} {tA iA tA' : Option Addr} {n ic tc' B : Nat} {l t t' : Tab} (h : KpS w W tA iA n ic l t) (hb : Below w.heap.size w w') (hB : w.heap.size ≤ B) (ho : OwnT w' B tA' n tc' t') :
    OwnL w' W.heap.size iA l.length ic l ∧ RdT w' tA' n t' ∧ (∀ b o, tA' = some ⟨b, o, none⟩ → some b ≠ (Value.slice iA l.length ic).ownBlock) ∧ Below W.heap.size W w' := by
  refine ⟨h.own.below hb, ho.rd, fun b o e he => ?_, below_next h.below hb⟩
  have h1 := (h.own.block b he.symm).2
  rcases Nat.eq_zero_or_pos n with h0 | h0
  · exact absurd h.keep.pos (by omega)
  · obtain ⟨g, cc, hv, hBg, _⟩ := ho.1.form h0
    injection hv with hv _ _
    rw [hv] at e
    injection e with e
    injection e with e
    omega
theorem infoA : (Try.prog.info? 45).map (fun i => (i.zero, i.size, i.bytes)) = some (some (.agg #[.bool false, .int .u32 0, .int .i64 0]), 3, 16) := by kernel_rfl
theorem own_block {w : World} {B size n : Nat} {e : TypeId} {v : Value} {xs : List Value} (h : w.ownsRow B e size v n xs) : ∀ j, v.ownBlock = some j → B ≤ j ∧ j < w.heap.size := fun j hj => by
  rcases h.2 with ⟨h3, _⟩ | ⟨g, cap, cur, h3, h4, h5, _⟩
  · rw [h3] at hj
    cases hj
  · rw [h3] at hj
    injection hj with hj
    rw [← hj]
    exact ⟨h4, lt_of_block h5⟩
theorem Lie.below {w w' : World} {A : Option Addr} {xs : List Value} (h : Lie w A xs) (hb : Below w.heap.size w w') : Lie w' A xs := fun h0 => by
  obtain ⟨b, off, e, hlt, hc⟩ := h h0
  exact ⟨b, off, e, Nat.lt_of_lt_of_le hlt hb.size, fun i hi => (hb.cell (p := ⟨b, off + i, none⟩) hlt).trans (hc i hi)⟩
theorem lie_new (w : World) (cs : Array Value) (e : TypeId) : Lie (w.alloc (.cells cs e)) (some ⟨w.heap.size, 0, none⟩) cs.toList := fun _ => by
  refine ⟨_, 0, rfl, by simp, fun i _ => ?_⟩
  rw [Nat.zero_add, cell_of_row _ w.heap.size i cs e (0, 0) (heap_alloc_new w _)]
  simp
/-- One more in the list. -/
theorem kps_put {w w' W : World} {tA iA : Option Addr} {n ic : Nat} {l t : Tab} {p : Nat × Int} {v : Value} (ho : OwnL w W.heap.size iA l.length ic l) (ht : RdT w tA n t) (ha : ∀ b o, tA = some ⟨b, o, none⟩ → some b ≠ (Value.slice iA l.length ic).ownBlock) (hb : Below W.heap.size W w)
    (hk : Keep t (l ++ [p]) n) (h1 : w'.ownsRow W.heap.size 45 3 v (l.length + 1) (acs l ++ acv false p)) (hg : w.grownBy w' (Value.slice iA l.length ic).ownBlock) (hv : v.ownBlock = (Value.slice iA l.length ic).ownBlock ∨ v.ownBlock = some w.heap.size) :
    ∃ A' c', v = .slice A' (l ++ [p]).length c' ∧ KpS w' W tA A' n c' (l ++ [p]) t := by
  obtain ⟨A', c', rfl, _⟩ := Mem.own_shape h1
  have hl : (l ++ [p]).length = l.length + 1 := by simp
  refine ⟨A', c', by rw [hl], ⟨by rw [hl, acs_app, acs_one]; exact h1, rfl⟩, ht.grown hg ha, fun b o e => ?_, hb.grown hg hb.size fun j hj => (ho.block j hj).1, hk⟩
  rw [hl]
  rcases hv with hv | hv
  · rw [hv]
    exact ha b o e
  · rw [hv]
    intro he
    injection he with he
    obtain ⟨b', o', e', hlt, _⟩ := ht.rows hk.pos
    rw [e] at e'
    injection e' with e'
    injection e' with e'
    omega
/-- One fewer. -/
theorem kps_out {w w' W : World} {tA : Option Addr} {n q q' len : Nat} {l t : Tab} {v : Value} (hq' : q + 1 = q') (ht : RdT w tA n t) (hb : Below W.heap.size W w)
    (hk : Keep t (l.eraseIdx q) n) (hq : q < l.length) (hlen : len = 0 + q + (l.length - q')) (h1 : w'.ownsRow w.heap.size 45 3 v len (([] ++ acs (l.take q)) ++ acs (l.drop q'))) (hg : Below w.heap.size w w') :
    ∃ A' c', v = .slice A' (l.eraseIdx q).length c' ∧ KpS w' W tA A' n c' (l.eraseIdx q) t := by
  subst hq'
  obtain rfl : len = (l.eraseIdx q).length := by rw [List.length_eraseIdx_of_lt hq]; omega
  rw [List.nil_append, ← acs_app, ← List.eraseIdx_eq_take_drop_succ] at h1
  obtain ⟨A', c', rfl, _⟩ := Mem.own_shape h1
  have ho : OwnL w' w.heap.size A' (l.eraseIdx q).length c' (l.eraseIdx q) := ⟨h1, rfl⟩
  refine ⟨A', c', rfl, ⟨own_mono h1 hb.size, rfl⟩, ht.below hg, fun b o e he => ?_, below_next hb hg, hk⟩
  have h2 := (ho.block b he.symm).1
  obtain ⟨b', o', e', hlt, _⟩ := ht.rows hk.pos
  rw [e] at e'
  injection e' with e'
  injection e' with e'
  omega
end Pr
end Go.Proofs.Ytommffcojbdldaa
