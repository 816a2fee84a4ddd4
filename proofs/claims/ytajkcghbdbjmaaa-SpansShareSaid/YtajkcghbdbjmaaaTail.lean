/- A law for a region that draws its order: its first operation is but a copy, those behind it only read, and from number n on one waits for the other; only that copy may come up late. No program's function is spoken of. -/
import Derived.Test.YtajkcghbdbjmaaaMem
import Derived.StillTailTactics
namespace Go.Proofs.Ytajkcghbdbjmaaa
namespace Mem
section
variable {P : Program} {Q : Exit → Act → World → Prop} {md : Region.Mode}

/-- The same operation, but that it waits for number 0 too. -/
def late (o : Oper) : Oper := { o with after := o.after.push { on := 0, ground := .data } }
theorem late_at {ops : Array Oper} {n : Nat} {on : Oper} (hn : ops[n]? = some on) (j : Nat) : (ops.setIfInBounds n (late on))[j]? = (ops[j]?).map fun o => if n = j then late on else o := by
  rw [Array.getElem?_setIfInBounds]
  by_cases h : n = j
  · subst h
    have hlt := (Array.getElem?_eq_some_iff.1 hn).1
    simp [hlt]
  · simp [h]
theorem late_yielded {ops : Array Oper} {n : Nat} {on : Oper} (hn : ops[n]? = some on) (t : Array Value) : yielded (ops.setIfInBounds n (late on)) t = yielded ops t := by
  funext j
  unfold yielded
  rw [late_at hn]
  by_cases h : n = j
  · subst h
    rw [hn]
    simp [late]
  · simp [h]
theorem late_ready {ops : Array Oper} {n : Nat} {on : Oper} (hn : ops[n]? = some on) {listed : Array Bool} (h0 : listed.getD 0 false = true) (j : Nat) :
    j ∈ Region.ready md (ops.setIfInBounds n (late on)) listed ↔ j ∈ Region.ready md ops listed := by
  rw [mem_ready, mem_ready, late_at hn]
  by_cases h : n = j
  · subst h
    rw [hn]
    simp only [Option.map_some, if_true, Option.some.injEq, exists_eq_left']
    constructor
    · exact fun ⟨h1, h2⟩ => ⟨h1, fun e he hb => h2 e (by simp [late, he]) hb⟩
    · refine fun ⟨h1, h2⟩ => ⟨h1, fun e he hb => ?_⟩
      simp only [late, Array.mem_push] at he
      rcases he with he | rfl
      · exact h2 e he hb
      · exact h0
  · simp [h]
theorem late_wpOp {ops : Array Oper} {n : Nat} {on : Oper} (hn : ops[n]? = some on) {i : Nat} {K : Act → World → Prop} {a : Act} {w : World} : wpOp P (ops.setIfInBounds n (late on)) Q i K a w = wpOp P ops Q i K a w := by
  unfold wpOp
  rw [late_at hn, late_yielded hn]
  by_cases h : n = i
  · subst h
    rw [hn]
    simp only [Option.map_some, if_true]
    rfl
  · cases ops[i]? with
    | none => rfl
    | some o => simp [h]
/-- With number 0 listed, the orders are the same. -/
theorem wpAny_late {ops : Array Oper} {n : Nat} {on : Oper} (hn : ops[n]? = some on) : ∀ (fuel : Nat) (listed : Array Bool) (a : Act) (w : World), listed.getD 0 false = true →
    wpAny P md (ops.setIfInBounds n (late on)) Q fuel listed a w → wpAny P md ops Q fuel listed a w
  | 0, listed, a, w, h0, h => by
    refine ⟨List.eq_nil_iff_forall_not_mem.2 fun j hj => ?_, h.2⟩
    have := (late_ready (md := md) hn h0 j).2 hj
    rw [h.1] at this
    cases this
  | fuel + 1, listed, a, w, h0, h => by
    refine ⟨fun he => h.1 (List.eq_nil_iff_forall_not_mem.2 fun j hj => ?_), fun i hi => ?_⟩
    · have := (late_ready (md := md) hn h0 j).1 hj
      rw [he] at this
      cases this
    · have h1 := h.2 i ((late_ready hn h0 i).2 hi)
      rw [late_wpOp hn] at h1
      exact wpOp_mono (fun a' w' h' => wpAny_late hn fuel _ a' w' (getD_set_true h0) h') h1
theorem set_zero {k : Nat} (h : 0 < k) : ((Array.replicate k false).setIfInBounds 0 true).getD 0 false = true := by
  simp [Array.getD, h]
/-- What is looked at of the region's text. -/
def oneTailB (ops : Array Oper) (n : Nat) : Bool :=
  Region.noSelect ops && decide (n < ops.size) && decide (0 < n) && Region.sinkB .any ops n && Region.chainB .any ops n && Region.lexHead .any ops (ops.size - n) (n - 1) 1 ((Array.replicate ops.size false).setIfInBounds 0 true) &&
    (Region.ready .any ops (Array.replicate ops.size false)).contains 0
def headB (ops : Array Oper) : Bool :=
  Region.noSelect ops && Region.free .any ops (Array.replicate ops.size false) 0 && (Region.ready .any ops (Array.replicate ops.size false)).contains 0
theorem wp_region_one_tail {id : Nat} {a : Act} {w : World} {o0 on : Oper} {v : Value} {l : List Oper} (n : Nat) (hm : P.follows .mixedOrders = true) (hl0 : l[0]? = some o0) (hln : l[n]? = some on)
    (hH : headB l.toArray = true) (hB : oneTailB (l.set n (late on)).toArray n = true)
    (hQ : ∀ c a w, Q (.panic c) (a.put o0.dst v) w → Q (.panic c) a w) (hy : Yields P l.toArray o0 v a)
    (h : wpStill P (l.set n (late on)).toArray w.drew (fun a' => wpList P (l.set n (late on)).toArray Q ((l.set n (late on)).drop n) a' w.drew) (((l.set n (late on)).take n).drop 1) (a.put o0.dst v)) : (Code.region id l.toArray true).wp P Q a w := by
  simp only [oneTailB, headB, Bool.and_eq_true, decide_eq_true_eq] at hB hH
  obtain ⟨⟨⟨⟨⟨⟨hsel, hn⟩, hn0⟩, hs⟩, hc⟩, hlex⟩, hr1⟩ := hB
  obtain ⟨⟨hsel0, hfree⟩, hr0⟩ := hH
  have hsz : (l.set n (late on)).toArray.size = l.toArray.size := by simp
  have hset : l.toArray.setIfInBounds n (late on) = (l.set n (late on)).toArray := by simp
  generalize hl' : l.set n (late on) = l' at *
  have hn' : n < l'.length := by simpa using hn
  have hlen : ((l'.take n).drop 1).length = n - 1 := by simp; omega
  have hdl : (l'.drop n).length = l'.toArray.size - n := by simp
  have inv0 : HeadInv .any l'.toArray n (Array.replicate l'.toArray.size false) :=
    ⟨by simp, fun j oj _ hl => (by rw [getD_replicate_false] at hl; cases hl), fun t _ ht => getD_in (by simpa using ht) (getD_replicate_false _ _)⟩
  have inv1 := inv0.set (i := 0) (by simpa using hr1) hn0
  have H := wpAnyL_lex (P := P) (w := w.drew) (md := .any) (g := l'.toArray.size - n) hsel hs hc hn ((l'.take n).drop 1) 1 _ _ (fun j hj => by
    rw [hlen] at hj
    simp only [List.getElem?_drop, List.getElem?_take, List.getElem?_toArray]
    rw [if_pos (by omega)]) (by rw [hlen]; omega) inv1 (by rw [hlen]; exact hlex) h
  refine wp_region_any hm ?_
  have h2 := wpAny_of_head (Q' := Q) (g := l'.toArray.size - n) (fun listed a' hL => by
    have := wpAny_of_seq (md := .any) (Q' := Q) (l'.drop n) n listed a' w.drew (fun j => by simp [List.getElem?_drop]) (by rw [hdl]; exact hL.1) hL.2
    rwa [hdl] at this) _ _ _ H
  rw [hlen, show n - 1 + (l'.toArray.size - n) = l.toArray.size - 1 by rw [← hsz]; omega, ← hset] at h2
  have h3 := wpAny_late (by simpa using hln) _ _ _ _ (by rw [hset]; exact set_zero (by simp; omega)) h2
  have : l.toArray.size = (l.toArray.size - 1) + 1 := by rw [← hsz]; omega
  rw [this]
  refine wpAny_take (i := 0) (by simpa using hl0) hsel0 (by rw [← this]; exact hfree) (by rw [← this]; exact hr0) hQ hy ?_
  rw [← this]
  rw [hset, hsz] at h3
  exact h3
end
end Mem
end Go.Proofs.Ytajkcghbdbjmaaa
