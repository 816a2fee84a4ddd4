/- Layer 19: the contract of first. -/
import Derived.Test.YtommffcojbdldaaPrD
namespace Go.Proofs.Ytommffcojbdldaa
open Go.RowKit
namespace Pr

/-- The first one of which a function says so. -/
def fst (p : Nat → Bool) (n : Nat) : Option Nat := (List.range n).find? p
def fstI : Option Nat → Int
  | some k => k
  | none => -1
/-- How many were looked at. -/
def seen (n : Nat) : Option Nat → Nat
  | some k => k + 1
  | none => n
theorem fst_some {p : Nat → Bool} {n k : Nat} (hk : k < n) (h : p k = true) (hj : ∀ j, j < k → p j = false) : fst p n = some k := by
  unfold fst
  rw [List.find?_range_eq_some]
  exact ⟨h, by simpa using hk, fun j hjk => by simp [hj j hjk]⟩
theorem fst_none {p : Nat → Bool} {n : Nat} (hj : ∀ j, j < n → p j = false) : fst p n = none := by
  unfold fst
  rw [List.find?_eq_none]
  intro x hx
  rw [hj x (List.mem_range.1 hx)]
  decide
theorem fst_of {p : Nat → Bool} {n k : Nat} (h : fst p n = some k) : k < n ∧ p k = true ∧ ∀ j, j < k → p j = false := by
  unfold fst at h
  rw [List.find?_range_eq_some] at h
  obtain ⟨h1, h2, h3⟩ := h
  exact ⟨by simpa using h2, h1, fun j hj => by simpa using h3 j hj⟩
theorem none_of {p : Nat → Bool} {n : Nat} (h : fst p n = none) : ∀ j, j < n → p j = false := by
  unfold fst at h
  rw [List.find?_eq_none] at h
  intro j hj
  simpa using h j (List.mem_range.2 hj)
def FiRes (p : Nat → Bool) (n : Nat) (J : Nat → World → Prop) (row : Option Nat) (W : World) (e : Ending) (w : World) : Prop :=
  e = .returned (.int .i64 (fstI (fst p n))) ∧ W.grownBy w row ∧ J (seen n (fst p n)) w
/-- The relation of its loop. -/
def FiR (p : Nat → Bool) (n : Nat) (J : Nat → World → Prop) (row : Option Nat) (W : World) (i : Value) (w : World) : Prop :=
  ∃ k : Nat, k ≤ n ∧ i = .int .i64 (k : Int) ∧ W.grownBy w row ∧ J k w ∧ ∀ j, j < k → p j = false
set_option maxHeartbeats 1600000 in
theorem first_any (F : FuncId) (pre caps : Array Value) (A : Option Addr) (n c x : Nat) (p : Nat → Bool) (J : Nat → World → Prop) (row : Option Nat) (W : World) (hn : n ≤ 100000) (hx : x ≤ 1000000)
    (hF : ∀ args w, (callFunc F args).run Try.prog w = .ok (.enter F args) w) (hrow : ∀ b, row = some b → b < W.heap.size) (hJ : ∀ w', W.grownBy w' none → J 0 w')
    (hC : ∀ s w, s < n → W.grownBy w row → J s w → Calls Try.prog F (pre ++ (#[.int .i64 (s : Int), .int .i64 (((x + s) % n : Nat) : Int)] ++ caps)) w fun e w' => e = .returned (.bool (p s)) ∧ w.grownBy w' row ∧ J (s + 1) w') :
    Calls Try.prog 30 #[.agg #[.slice A n c], .int .i64 (x : Int), .func (.func F) pre caps] W (FiRes p n J row W) := by
  have HC := Lib.hid hC
  have HJ := Lib.hid (hJ _ (World.grownBy_alloc W (.cells #[.slice A n c] 54) none))
  have HG := Lib.hid ((World.grownBy_alloc W (.cells #[.slice A n c] 54) none).but row)
  have HR := Lib.hid hrow
  clear hC hJ hrow
  go_enter Try.func30, Try.ntmps30
  go_wp2_with fail
  have k1 : (W.alloc (.cells #[.slice A n c] 54)).cell? ⟨W.heap.size, 0, none⟩ = some (.slice A n c) := by simp [go_sem]
  have k2 : W.heap.size < (W.alloc (.cells #[.slice A n c] 54)).heap.size := by simp
  generalize hw1 : W.alloc (.cells #[.slice A n c] 54) = w1 at *
  obtain ⟨B, hB⟩ : ∃ B, W.heap.size = B := ⟨_, rfl⟩
  have HBX := Lib.hid (fun w (hg : w1.grownBy w row) => show w.cell? ⟨B, 0, none⟩ = some (.slice A n c) from by
    rw [← hB, ← k1]
    exact hg.cell_far ⟨W.heap.size, 0, none⟩ k2 (fun e => Nat.lt_irrefl _ (HR.out _ e.symm)))
  rw [hB]
  clear hw1 hB k1 k2
  go_loopw [11] (FiR p n J row w1) (fun i _ => n - (intOf i).toNat)
  case atStart => exact ⟨0, by omega, rfl, ⟨rfl, rfl, rfl, Nat.le_refl _, fun _ _ _ => rfl⟩, HJ.out, fun j hj => absurd hj (by omega)⟩
  case round =>
    obtain ⟨k, hk, rfl, hg, hj, hp⟩ := hrel
    have HGR := Lib.hid hg
    have HP := Lib.hid hp
    by_cases hkn : k < n
    · have CL := Lib.hid (HC.out k wr hkn (HG.out.trans hg) hj)
      have b1 := HBX.out wr hg
      obtain ⟨y, hy⟩ : ∃ y, (x + k) % n = y := ⟨_, rfl⟩
      have hyn : y < n := by rw [← hy]; exact Nat.mod_lt _ (by omega)
      obtain ⟨z, hz⟩ : ∃ z, x + k = z := ⟨_, rfl⟩
      rw [hy] at CL
      rw [hz] at hy
      have hm1 : (z : Int).tmod (n : Int) = (y : Int) := by
        rw [Int.tmod_eq_emod_of_nonneg (by omega), ← hy]
        norm_cast
      have hm2 : (z : Int) % (n : Int) = (y : Int) := by rw [← hy]; norm_cast
      have hwz : IntKind.i64.wrap ((x : Int) + (k : Int)) = (z : Int) := by rw [IntWalk.i64_in _ (by omega)]; omega
      have hnn : ¬ (n = 0) := by omega
      have hnn2 : ¬ ((n : Int) = 0) := by omega
      have q1 : (k : Int) < (n : Int) := by omega
      have z0 : (0 : Int) ≤ (z : Int) := by omega
      clear hg hj hp hy hz
      go_wp2_with fail
      refine CL.out.mono ?_
      rintro e w2 ⟨rfl, g2, j2⟩
      have G2 := Lib.hid (HGR.out.trans g2)
      have J2 := Lib.hid j2
      cases hpk : p k with
      | true =>
        have HPK := Lib.hid hpk
        have FI := Lib.hid (fst_some hkn hpk HP.out)
        clear g2 j2 hpk
        go_wp2_with fail
        go_ret
        exact ⟨by rw [FI.out]; rfl, HG.out.trans G2.out, by rw [FI.out]; exact J2.out⟩
      | false =>
        have HPK := Lib.hid hpk
        clear g2 j2 hpk
        go_wp2_with fail
        go_roundw
        case rel => exact ⟨k + 1, by omega, by go_num, G2.out, J2.out, fun j hj => by
          rcases Nat.lt_or_ge j k with h | h
          · exact HP.out j h
          · obtain rfl : j = k := by omega
            exact HPK.out⟩
        case measure => simp [intOf]; omega
    · obtain rfl : n = k := by omega
      have FI := Lib.hid (fst_none hp)
      have HJN := Lib.hid hj
      clear hg hj hp
      go_wp2_with fail
      go_ret
      exact ⟨by rw [FI.out]; rfl, HG.out.trans HGR.out, by rw [FI.out]; exact HJN.out⟩
end Pr
end Go.Proofs.Ytommffcojbdldaa
