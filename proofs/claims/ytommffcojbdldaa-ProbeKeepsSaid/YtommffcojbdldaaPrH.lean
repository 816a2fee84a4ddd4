/- Layer 19: the contract of the method find. -/
import Derived.Test.YtommffcojbdldaaPrG
namespace Go.Proofs.Ytommffcojbdldaa
open Go.RowKit
namespace Pr

/-- Where an ID's cell lies. -/
def fnd (t : Tab) (n id h : Nat) : Option Nat :=
  match fst (fp t n id h) n with
  | some k => if fm t n id h ((h + k) % n) k then some ((h + k) % n) else none
  | none => none
def fndI : Option Nat → Int
  | some k => (k : Int)
  | none => 0
/-- What has been found, behind k steps. -/
def fv (t : Tab) (n id h : Nat) : Nat → Bool
  | 0 => false
  | k + 1 => fm t n id h ((h + k) % n) k
theorem fv_none {t : Tab} {n id h : Nat} (hp : ∀ j, j < n → fp t n id h j = false) : fv t n id h n = false := by
  cases n with
  | zero => rfl
  | succ m =>
    have := hp m (by omega)
    unfold fp at this
    simp only [Bool.or_eq_false_iff] at this
    exact this.1
def FnRes (t : Tab) (n id h : Nat) (W : World) (e : Ending) (w : World) : Prop :=
  e = .returned (.tuple #[.int .i64 (fndI (fnd t n id h)), .bool (fnd t n id h).isSome]) ∧ Below W.heap.size W w
set_option maxRecDepth 20000 in
set_option maxHeartbeats 3200000 in
theorem tfind_any (t : Tab) (A : Option Addr) (n c id h : Nat) (W : World) (hr : RdT W A n t) (hn : n ≤ 100000) (hh : h < n) :
    Calls Try.prog 26 #[.agg #[.slice A n c], .int .u32 (id : Int), .int .i64 (h : Int)] W (FnRes t n id h W) := by
  have hmf : ∀ (fn : Fn) (first cap : Array Value) (w : World), (Instr.makeFunc fn first cap).run Try.prog w = .ok (.func fn first cap) w := fun _ _ _ _ => rfl
  obtain ⟨b, hb⟩ : ∃ b, W.heap.size = b := ⟨_, rfl⟩
  obtain ⟨w0, hw0⟩ : ∃ w0, (((W.alloc (.cells #[.slice A n c] 56)).alloc (.cells #[.int .u32 (id : Int)] 23)).alloc (.cells #[.int .i64 (h : Int)] 3)).alloc (.cells #[.bool false] 4) = w0 := ⟨_, rfl⟩
  have hg0 : W.grownBy w0 none := by
    rw [← hw0]
    exact (((World.grownBy_alloc W _ none).trans (World.grownBy_alloc _ _ none)).trans (World.grownBy_alloc _ _ none)).trans (World.grownBy_alloc _ _ none)
  have k1 : w0.cell? ⟨b, 0, none⟩ = some (.slice A n c) := by rw [← hw0, ← hb]; simp [go_sem]
  have k2 : w0.cell? ⟨b + 1, 0, none⟩ = some (.int .u32 (id : Int)) := by rw [← hw0, ← hb]; simp [go_sem]
  have k3 : w0.cell? ⟨b + 2, 0, none⟩ = some (.int .i64 (h : Int)) := by rw [← hw0, ← hb]; simp [go_sem]
  have k4 : w0.heap[b + 3]? = some (.cells #[.bool false] 4 (0, 0)) := by
    rw [← hw0, ← hb]
    have := heap_alloc_new (((W.alloc (.cells #[.slice A n c] 56)).alloc (.cells #[.int .u32 (id : Int)] 23)).alloc (.cells #[.int .i64 (h : Int)] 3)) (.cells #[.bool false] 4)
    simpa using this
  have sz : w0.heap.size = b + 4 := by rw [← hw0, ← hb]; simp
  have HW0 := Lib.hid hw0
  have hlt : ∀ tb o, 0 < n → A = some ⟨tb, o, none⟩ → tb < b := fun tb o h0 e => by
    obtain ⟨b2, o2, e2, hl, _⟩ := hr.rows h0
    rw [e] at e2
    injection e2 with e2
    injection e2 with e2 _
    omega
  have hrd := hr.below (below_of_grown hg0)
  have FI := Lib.hid (first_any 41 #[] #[.pointer (some ⟨b, 0, none⟩), .pointer (some ⟨b + 1, 0, none⟩), .pointer (some ⟨b + 2, 0, none⟩), .pointer (some ⟨b + 3, 0, none⟩)] A n c h (fp t n id h)
    (fun k w => w.heap[b + 3]? = some (.cells #[.bool (fv t n id h k)] 4 (0, 0))) (some (b + 3)) w0 hn (by omega) (fun args w => by kernel_rfl) (fun q e => by injection e with e; omega)
    (fun w' hg => (hg.block (b + 3) (by omega) (by simp)).trans k4)
    (fun s w hs hg hj => by
      have hA : ∀ tb o, A = some ⟨tb, o, none⟩ → tb ≠ b + 3 := fun tb o e => by have := hlt tb o (by omega) e; omega
      have := find1_any t A n c id h s ((h + s) % n) b (b + 3) (fv t n id h s) w (hrd.grown hg (fun tb o e he => hA tb o e (by injection he))) hn (Nat.mod_lt _ (by omega)) rfl hA
        ((hg.cell_far ⟨b, 0, none⟩ (by show b < _; omega) (by simp)).trans k1) ((hg.cell_far ⟨b + 1, 0, none⟩ (by show b + 1 < _; omega) (by simp)).trans k2) ((hg.cell_far ⟨b + 2, 0, none⟩ (by show b + 2 < _; omega) (by simp)).trans k3) hj
      exact this))
  have f4 : w0.cell? ⟨b + 3, 0, none⟩ = some (.bool false) := cell_of_one k4
  have FIN := Lib.hid (fun w (hg : w0.grownBy w (some (b + 3))) => show w.cell? ⟨b, 0, none⟩ = some (.slice A n c) ∧ w.cell? ⟨b + 2, 0, none⟩ = some (.int .i64 (h : Int)) ∧ Below W.heap.size W w from
    ⟨(hg.cell_far ⟨b, 0, none⟩ (by show b < _; omega) (by simp)).trans k1, (hg.cell_far ⟨b + 2, 0, none⟩ (by show b + 2 < _; omega) (by simp)).trans k3, by
      have h1 := below_of_grown hg0
      exact ⟨hg.os.trans h1.os, hg.tape.trans h1.tape, hg.output.trans h1.output, Nat.le_trans h1.size hg.size, fun k hk => (hg.block k (by omega) (by simp; omega)).trans (h1.block k hk)⟩⟩)
  have HFN := Lib.hid (show fnd t n id h = match fst (fp t n id h) n with | some k => if fm t n id h ((h + k) % n) k then some ((h + k) % n) else none | none => none from rfl)
  have HB := Lib.hid hb
  clear hw0 hg0 hrd hlt hr k4 sz
  go_enter Try.func26, Try.ntmps26
  go_wp2_with fail
  rw [HW0.out]
  refine FI.out.mono ?_
  rintro e w2 ⟨rfl, g2, j2⟩
  obtain ⟨c1, c2, b2⟩ := FIN.out w2 g2
  have B2 := Lib.hid b2
  cases hf : fst (fp t n id h) n with
  | none =>
    have hno := none_of hf
    rw [hf] at j2 HFN
    simp only [seen] at j2
    rw [fv_none hno] at j2
    have c3 : w2.cell? ⟨b + 1 + 1 + 1, 0, none⟩ = some (.bool false) := cell_of_one j2
    have HF := Lib.hid (show fnd t n id h = none from HFN.out)
    simp only [fstI]
    clear j2 g2 b2 hno hf
    go_wp2_with fail
    go_ret2
    exact ⟨by rw [HF.out]; rfl, B2.out⟩
  | some k =>
    obtain ⟨hkn, _, _⟩ := fst_of hf
    rw [hf] at j2 HFN
    simp only [seen, fv] at j2
    simp only at HFN
    obtain ⟨m, hm⟩ : ∃ m, fm t n id h ((h + k) % n) k = m := ⟨_, rfl⟩
    rw [hm] at j2 HFN
    have c3 : w2.cell? ⟨b + 1 + 1 + 1, 0, none⟩ = some (.bool m) := cell_of_one j2
    obtain ⟨y, hy⟩ : ∃ y, (h + k) % n = y := ⟨_, rfl⟩
    obtain ⟨z, hz⟩ : ∃ z, h + k = z := ⟨_, rfl⟩
    rw [hy] at HFN
    rw [hz] at hy
    have hm1 : (z : Int).tmod (n : Int) = (y : Int) := by
      rw [Int.tmod_eq_emod_of_nonneg (by omega), ← hy]
      norm_cast
    have hm2 : (z : Int) % (n : Int) = (y : Int) := by rw [← hy]; norm_cast
    have hwz : IntKind.i64.wrap ((h : Int) + (k : Int)) = (z : Int) := by rw [IntWalk.i64_in _ (by omega)]; omega
    have hnn : ¬ (n = 0) := by omega
    have hnn2 : ¬ ((n : Int) = 0) := by omega
    have z0 : (0 : Int) ≤ (z : Int) := by omega
    simp only [fstI]
    clear j2 g2 b2 hf hm hy hz
    cases m with
    | true =>
      have HF := Lib.hid (show fnd t n id h = some y from by rw [HFN.out]; rfl)
      go_wp2_with fail
      go_ret2
      exact ⟨by rw [HF.out]; rfl, B2.out⟩
    | false =>
      have HF := Lib.hid (show fnd t n id h = none from by rw [HFN.out]; rfl)
      go_wp2_with fail
      go_ret2
      exact ⟨by rw [HF.out]; rfl, B2.out⟩
end Pr
end Go.Proofs.Ytommffcojbdldaa
