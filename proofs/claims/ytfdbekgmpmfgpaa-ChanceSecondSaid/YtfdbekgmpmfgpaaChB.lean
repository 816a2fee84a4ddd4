/- Layer 18 (chance): the wheel in memory, and the contracts of stays and of the closure over it. -/
import Derived.Test.YtfdbekgmpmfgpaaChA
namespace Go.Proofs.Ytfdbekgmpmfgpaa
open Go.RowKit
namespace Ch

/-- All blocks but these two are as they were. -/
structure Keep2 (p q : Nat) (w w' : World) : Prop where
  os : w'.os = w.os
  tape : w'.tape = w.tape
  output : w'.output = w.output
  size : w.heap.size ≤ w'.heap.size
  block : ∀ k, k < w.heap.size → k ≠ p → k ≠ q → w'.heap[k]? = w.heap[k]?
theorem Keep2.refl (p q : Nat) (w : World) : Keep2 p q w w := ⟨rfl, rfl, rfl, Nat.le_refl _, fun _ _ _ _ => rfl⟩
theorem Keep2.trans {p q : Nat} {a b c : World} (h : Keep2 p q a b) (k : Keep2 p q b c) : Keep2 p q a c :=
  ⟨k.os.trans h.os, k.tape.trans h.tape, k.output.trans h.output, Nat.le_trans h.size k.size, fun i hi h1 h2 => (k.block i (Nat.lt_of_lt_of_le hi h.size) h1 h2).trans (h.block i hi h1 h2)⟩
theorem Keep2.below {p q B : Nat} {w w' : World} (h : Keep2 p q w w') (hp : B ≤ p) (hq : B ≤ q) (hB : B ≤ w.heap.size) : Below B w w' :=
  ⟨h.os, h.tape, h.output, h.size, fun k hk => h.block k (by omega) (by omega) (by omega)⟩
theorem Keep2.of_below {p q : Nat} {w w' : World} (h : Below w.heap.size w w') : Keep2 p q w w' := ⟨h.os, h.tape, h.output, h.size, fun k hk _ _ => h.block k hk⟩
theorem Keep2.drewN {p q : Nat} {w w' : World} (h : Keep2 p q w w') (n : Nat) : Keep2 p q w (w'.drewN n) := ⟨h.os, h.tape, h.output, h.size, h.block⟩
theorem Keep2.own {p q : Nat} {w w' : World} (h : Keep2 p q w w') {base : Nat} {e : TypeId} {size : Nat} {v : Value} {n : Nat} {xs : List Value} (ho : w.ownsRow base e size v n xs) (hp : p < base) (hq : q < base) : w'.ownsRow base e size v n xs := by
  obtain ⟨h1, h2⟩ := ho
  refine ⟨h1, ?_⟩
  rcases h2 with h2 | ⟨g, cap, cur, rfl, hb, hg, hr⟩
  · exact .inl h2
  · exact .inr ⟨g, cap, cur, rfl, hb, (h.block g (lt_of_block hg) (by omega) (by omega)).trans hg, hr⟩
theorem Keep2.rd {p q : Nat} {w w' : World} (h : Keep2 p q w w') {A : Option Addr} {xs : List Value} (hr : Mem.Rd w A xs) (hne : ∀ b off, A = some ⟨b, off, none⟩ → 0 < xs.length → b ≠ p ∧ b ≠ q) : Mem.Rd w' A xs := fun hl => by
  obtain ⟨b, off, ha, hlt, hc⟩ := hr hl
  obtain ⟨h1, h2⟩ := hne b off ha hl
  exact ⟨b, off, ha, Nat.lt_of_lt_of_le hlt h.size, fun i hi => (World.cell?_of_block (w := w) (h.block b hlt h1 h2)).trans (hc i hi)⟩
def ints (is : List Nat) : List Value := is.map fun (i : Nat) => Value.int .i64 (i : Int)
def bools (bs : List Bool) : List Value := bs.map Value.bool
theorem ints_len (is : List Nat) : (ints is).length = is.length := by simp [ints]
theorem bools_len (bs : List Bool) : (bools bs).length = bs.length := by simp [bools]

/-- The wheel at p: who's slice, used in a block of its own, over as it came in. -/
def Wheel (p ub : Nat) (who : List Nat) (us : List Bool) (vo : Value) (w : World) : Prop :=
  ∃ A c uc, w.heap[p]? = some (.cells #[.slice A who.length c, .slice (some ⟨ub, 0, none⟩) us.length uc, vo] 48 (0, 0)) ∧ ub ≠ p ∧ ub < w.heap.size ∧ who.length ≤ c ∧ us.length ≤ uc ∧
    Mem.Rd w A (ints who) ∧ (∀ j, j < us.length → w.cell? ⟨ub, j, none⟩ = some (.bool (us.getD j false))) ∧ ∀ j, w.frozen? ⟨ub, j, none⟩ = false
theorem Wheel.below {p ub : Nat} {who : List Nat} {us : List Bool} {vo : Value} {w w' : World} (h : Wheel p ub who us vo w) (hb : Below w.heap.size w w') : Wheel p ub who us vo w' := by
  obtain ⟨A, c, uc, h1, h2, h3, h4, h5, h6, h7, h8⟩ := h
  refine ⟨A, c, uc, (hb.block _ (lt_of_block h1)).trans h1, h2, Nat.lt_of_lt_of_le h3 hb.size, h4, h5, h6.below hb, fun j hj => (hb.cell (p := ⟨ub, j, none⟩) h3).trans (h7 j hj), fun j => ?_⟩
  rw [hb.frozen (p := ⟨ub, j, none⟩) h3]
  exact h8 j
set_option maxHeartbeats 800000 in
theorem stays_any (p ub : Nat) (who : List Nat) (us ov : List Bool) (Ao : Option Addr) (co i : Nat) (w : World) (h : Wheel p ub who us (.slice Ao ov.length co) w) (ho : Mem.Rd w Ao (bools ov)) (hl : us.length = ov.length) (hi : i < us.length) (hm : us.length ≤ 1000) :
    Calls Try.prog 23 #[.pointer (some ⟨p, 0, none⟩), .int .i64 (i : Int)] w fun e w' => e = .returned (.bool (stay us ov i)) ∧ w = w' := by
  obtain ⟨A, c, uc, h1, h2, h3, h4, h5, h6, h7, h8⟩ := h
  obtain ⟨ob, oo, rfl, hob, hoc⟩ := ho (by rw [bools_len]; omega)
  have c1 : w.cell? ⟨p, 1, none⟩ = some (.slice (some ⟨ub, 0, none⟩) us.length uc) := by unfold World.cell?; rw [h1]; rfl
  have c2 : w.cell? ⟨p, 2, none⟩ = some (.slice (some ⟨ob, oo, none⟩) ov.length co) := by unfold World.cell?; rw [h1]; rfl
  have u1 := h7 i hi
  have o1 : w.cell? ⟨ob, oo + i, none⟩ = some (.bool (ov.getD i false)) := by
    rw [hoc i (by rw [bools_len]; omega)]
    unfold bools
    rw [List.getElem?_map, List.getElem?_eq_getElem (by omega), List.getD_eq_getElem?_getD, List.getElem?_eq_getElem (by omega)]
    rfl
  obtain ⟨n, hn⟩ : ∃ n, us.length = n := ⟨_, rfl⟩
  rw [← hl] at c2
  rw [hn] at c1 c2 hi
  have hi0 : (0 : Int) ≤ (i : Int) := by omega
  have hi1 : (i : Int) < (n : Int) := by omega
  have K := Lib.hid (show stay us ov i = (us.getD i false && !ov.getD i false) from rfl)
  obtain ⟨x, hx⟩ : ∃ x, us.getD i false = x := ⟨_, rfl⟩
  obtain ⟨y, hy⟩ : ∃ y, ov.getD i false = y := ⟨_, rfl⟩
  rw [hx] at u1
  rw [hy] at o1
  rw [K.out, hx, hy]
  clear h1 h2 h3 h4 h5 h6 h7 h8 hoc hl hm hn hx hy K ho
  cases x
  · go_enter Try.func23, Try.ntmps23
    go_wp2
    go_ret
    exact ⟨rfl, rfl⟩
  · go_enter Try.func23, Try.ntmps23
    go_wp2
    go_ret
    exact ⟨rfl, rfl⟩
end Ch
end Go.Proofs.Ytfdbekgmpmfgpaa
