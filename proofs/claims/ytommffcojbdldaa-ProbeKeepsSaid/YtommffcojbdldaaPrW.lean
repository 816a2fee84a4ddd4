/- Layer 19: the contract of the document's Insert. -/
import Derived.Test.YtommffcojbdldaaPrV
namespace Go.Proofs.Ytommffcojbdldaa
open Go.RowKit
namespace Pr

/-- A table of the document's, of the call's own. -/
def OwnR (w : World) (B : Nat) (A : Option Addr) (n c : Nat) (t : Tab) : Prop := w.ownsRow B 51 2 (.slice A n c) n (cels t) ∧ t.length = n ∧ Fine t
theorem OwnR.rd {w : World} {B n c : Nat} {A : Option Addr} {t : Tab} (h : OwnR w B A n c t) : RdT w A n t := by
  refine ⟨h.2.1, h.2.2, fun h0 => ?_⟩
  obtain ⟨g, cap, hg, _, hlt⟩ := h.1.form h0
  injection hg with hg _ _
  refine ⟨g, 0, hg, hlt, fun k hk => ?_⟩
  obtain ⟨a1, a2⟩ := cels_at t k (by rw [h.2.1]; exact hk)
  subst hg
  rw [Nat.zero_add]
  exact ⟨by rw [← a1]; exact h.1.cellAt _ (by omega), by rw [← a2]; exact h.1.cellAt _ (by omega)⟩
theorem OwnR.below {w w' : World} {B n c : Nat} {A : Option Addr} {t : Tab} (h : OwnR w B A n c t) (hb : Below w.heap.size w w') : OwnR w' B A n c t := ⟨Mem.own_below h.1 hb, h.2.1, h.2.2⟩
theorem OwnR.other {w : World} {B n c g : Nat} {t : Tab} (h : OwnR w B (some ⟨g, 0, none⟩) n c t) {q : Nat} (hq : g ≠ q) (j : Nat) (u : Value) : OwnR (w.setCell ⟨q, j, none⟩ u) B (some ⟨g, 0, none⟩) n c t :=
  ⟨ownsRow_setCell_other h.1 (by simpa [Value.ownBlock] using hq) _, h.2.1, h.2.2⟩
theorem OwnR.put {w : World} {B n c g y : Nat} {t : Tab} (h : OwnR w B (some ⟨g, 0, none⟩) n c t) (hy : y < n) {p : Nat × Int} (hp : p.1 < 4294967296 ∧ I64 p.2) :
    OwnR ((w.setCell ⟨g, y * 2, none⟩ (.int .u32 (p.1 : Int))).setCell ⟨g, y * 2 + 1, none⟩ (.int .i64 p.2)) B (some ⟨g, 0, none⟩) n c (t.set y p) := by
  have ho2 := own_set (own_set h.1 rfl (j := y * 2) (by omega) (.int .u32 (p.1 : Int))) rfl (j := y * 2 + 1) (by omega) (.int .i64 p.2)
  rw [cels_set (by rw [h.2.1]; exact hy)] at ho2
  exact ⟨ho2, by rw [List.length_set]; exact h.2.1, h.2.2.set y hp⟩
theorem OwnR.cells {w : World} {B n c g y : Nat} {t : Tab} (h : OwnR w B (some ⟨g, 0, none⟩) n c t) (hy : y < n) :
    w.cell? ⟨g, y * 2, none⟩ = some (.int .u32 ((cl t y).1 : Int)) ∧ w.cell? ⟨g, y * 2 + 1, none⟩ = some (.int .i64 (cl t y).2) ∧ (∀ j, w.frozen? ⟨g, j, none⟩ = false) ∧ g < w.heap.size := by
  obtain ⟨b, off, hb, hlt, hc⟩ := h.rd.rows (by omega)
  injection hb with hb
  injection hb with hb hb2
  subst hb hb2
  obtain ⟨h1, h2⟩ := hc y hy
  rw [Nat.zero_add] at h1 h2
  refine ⟨h1, h2, fun j => ?_, hlt⟩
  rcases h.1.2 with ⟨h3, _⟩ | ⟨q, _, cur, h3, _, h4, _⟩
  · cases h3
  · injection h3 with h3 _ _
    injection h3 with h3
    injection h3 with h3
    subst h3
    simp [World.frozen?, h4]
/-- A box with a cell of the document's. -/
def Box (w : World) (q : Nat) (p : Nat × Int) : Prop := w.heap[q]? = some (.cells #[.int .u32 (p.1 : Int), .int .i64 p.2] 51 (0, 0))
theorem Box.cells {w : World} {q : Nat} {p : Nat × Int} (h : Box w q p) : w.cell? ⟨q, 0, none⟩ = some (.int .u32 (p.1 : Int)) ∧ w.cell? ⟨q, 1, none⟩ = some (.int .i64 p.2) ∧ (∀ j, w.frozen? ⟨q, j, none⟩ = false) ∧ q < w.heap.size := by
  have h2 : w.heap[q]? = _ := h
  exact ⟨by simp [World.cell?, h2], by simp [World.cell?, h2], fun j => by simp [World.frozen?, h2], lt_of_block h⟩
theorem Box.below {w w' : World} {q : Nat} {p : Nat × Int} (h : Box w q p) (hb : Below w.heap.size w w') : Box w' q p := by
  unfold Box
  rw [hb.block q (lt_of_block h)]
  exact h
theorem Box.other {w : World} {q g : Nat} {p : Nat × Int} (h : Box w q p) (hq : g ≠ q) (j : Nat) (u : Value) : Box (w.setCell ⟨g, j, none⟩ u) q p := by
  unfold Box
  rw [Below.heap_setCell _ _ _ _ (fun e => hq e.symm)]
  exact h
theorem block_set {w : World} {q i : Nat} {cs : Array Value} {e : TypeId} {fr : Nat × Nat} (h : w.heap[q]? = some (.cells cs e fr)) (v : Value) : (w.setCell ⟨q, i, none⟩ v).heap[q]? = some (.cells (cs.setIfInBounds i v) e fr) := by
  have hlt := lt_of_block h
  have h' : w.heap[q] = .cells cs e fr := by
    rw [Array.getElem?_eq_getElem hlt] at h
    injection h
  show (w.heap.modify q _)[q]? = _
  rw [Array.getElem?_eq_getElem (by simpa using hlt), Array.getElem_modify_self, h']
  simp
theorem Box.set {w : World} {q : Nat} {p : Nat × Int} (h : Box w q p) (r : Nat × Int) : Box ((w.setCell ⟨q, 0, none⟩ (.int .u32 (r.1 : Int))).setCell ⟨q, 1, none⟩ (.int .i64 r.2)) q r :=
  block_set (i := 1) (block_set (i := 0) h (.int .u32 (r.1 : Int))) (.int .i64 r.2)
/-- The relation of its loop. -/
def RiI (t : Tab) (n a g q B c : Nat) (A : Option Addr) (p : Nat × Int) (W : World) (G : Nat) (i : Value) (w : World) : Prop :=
  ∃ j : Nat, j ≤ g ∧ G = g - j ∧ i = .int .i64 (((a + j) % n : Nat) : Int) ∧ OwnR w B A n c (refL t n a p j) ∧ Box w q (hand t n a p j) ∧ Below W.heap.size W w
theorem RiI.alloc {t : Tab} {n a g q B c G : Nat} {A : Option Addr} {p : Nat × Int} {W w : World} {i : Value} (h : RiI t n a g q B c A p W G i w) (o : Obj) : RiI t n a g q B c A p W G i (w.alloc o) := by
  obtain ⟨j, h1, h2, h3, h4, h5, h6⟩ := h
  have hb : Below w.heap.size w (w.alloc o) := (Below.refl _ _).alloc (Nat.le_refl _) _
  exact ⟨j, h1, h2, h3, h4.below hb, h5.below hb, h6.alloc h6.size _⟩
/-- One step more. -/
theorem ri_step {t : Tab} {n a g q B c gb j : Nat} {p : Nat × Int} {W wr : World} (ht : t.length = n) (hg : g < n) (hj : j < g) (hgq : gb ≠ q) (hWg : W.heap.size ≤ gb) (hWq : W.heap.size ≤ q)
    (ho : OwnR wr B (some ⟨gb, 0, none⟩) n c (refL t n a p j)) (hbx : Box wr q (hand t n a p j)) (hb : Below W.heap.size W wr) (hfp : (hand t n a p j).1 < 4294967296 ∧ I64 (hand t n a p j).2) {y : Nat} (hy : (a + j) % n = y)
    {w1 : World} (hw1 : Below wr.heap.size wr w1) {u : Nat} {v : Int} (hu : (cl t y).1 = u) (hv : (cl t y).2 = v) {u' : Nat} {v' : Int} (hu' : (hand t n a p j).1 = u') (hv' : (hand t n a p j).2 = v') (i : Value) (hi : i = .int .i64 (((a + (j + 1)) % n : Nat) : Int)) :
    RiI t n a g q B c (some ⟨gb, 0, none⟩) p W (g - (j + 1)) i ((((w1.setCell ⟨gb, y * 2, none⟩ (.int .u32 (u' : Int))).setCell ⟨gb, y * 2 + 1, none⟩ (.int .i64 v')).setCell ⟨q, 0, none⟩ (.int .u32 (u : Int))).setCell ⟨q, 1, none⟩ (.int .i64 v)) := by
  subst hu' hv'
  have hyn : y < n := by rw [← hy]; exact Nat.mod_lt _ (by omega)
  have o1 := ((ho.below hw1).put hyn hfp)
  have b1 := ((hbx.below hw1).other hgq (y * 2) (.int .u32 ((hand t n a p j).1 : Int))).other hgq (y * 2 + 1) (.int .i64 (hand t n a p j).2)
  have b2 := b1.set (u, v)
  refine ⟨j + 1, hj, rfl, hi, ?_, ?_, ?_⟩
  · have := (o1.other hgq 0 (.int .u32 (u : Int))).other hgq 1 (.int .i64 v)
    unfold refL
    rw [hy]
    exact this
  · have : hand t n a p (j + 1) = (u, v) := by
      show cl t ((a + j) % n) = _
      rw [hy, ← hu, ← hv]
    rw [this]
    exact b2
  · exact ((((hb.trans (hw1.mono hb.size)).setCell (by simpa using hWg) _).setCell (by simpa using hWg) _).setCell (by simpa using hWq) _).setCell (by simpa using hWq) _
end Pr
end Go.Proofs.Ytommffcojbdldaa
