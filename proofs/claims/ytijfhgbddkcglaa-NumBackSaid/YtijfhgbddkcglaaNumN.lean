/- Layer 1 (num): the plain arithmetic of Fits, Round and Halves. No program in sight. -/
import Derived.Test.YtijfhgbddkcglaaNumM
namespace Go.Proofs.Ytijfhgbddkcglaa
namespace Num

/-- v without its lowest k bytes. -/
def sh (v : Int) (k : Nat) : Int := v / 256 ^ k
theorem sh_zero (v : Int) : sh v 0 = v := by simp [sh]
theorem sh_succ (v : Int) (k : Nat) : sh v k / 256 = sh v (k + 1) := by
  unfold sh
  rw [pow_succ, Int.ediv_ediv_of_nonneg (Int.le_of_lt (pow_pos k))]
theorem sh_bd (v : Int) (h : 0 ≤ v) (k : Nat) : 0 ≤ sh v k ∧ sh v k ≤ v :=
  ⟨Int.ediv_nonneg h (Int.le_of_lt (pow_pos k)), Int.ediv_le_self _ h⟩
theorem sh_none (v : Int) (h : 0 ≤ v) (k : Nat) : (sh v k == 0) = decide (v < 256 ^ k) := by
  have hp := pow_pos k
  rw [Bool.eq_iff_iff, beq_iff_eq, decide_eq_true_eq]
  unfold sh
  constructor
  · intro e
    have := Int.lt_ediv_add_one_mul_self v hp
    rw [e] at this
    omega
  · intro hl
    exact Int.ediv_eq_zero_of_lt h hl
def fitB (isw : Bool) (v w : Int) : Bool := isw && decide (v < 256 ^ w.toNat)

/-- What n is rounded to. -/
def rd (n t : Int) : Int := if n < 0 ∨ 1073741824 < n ∨ t < 1 ∨ 4096 < t then 0 else if n % t = 0 then n else n + t - n % t
theorem rd_out {n t : Int} (h : n < 0 ∨ 1073741824 < n ∨ t < 1 ∨ 4096 < t) : rd n t = 0 := if_pos h
theorem rd_same {n t : Int} (h : ¬ (n < 0 ∨ 1073741824 < n ∨ t < 1 ∨ 4096 < t)) (hz : n % t = 0) : rd n t = n := (if_neg h).trans (if_pos hz)
theorem rd_up {n t : Int} (h : ¬ (n < 0 ∨ 1073741824 < n ∨ t < 1 ∨ 4096 < t)) (hz : n % t ≠ 0) : rd n t = n + t - n % t := (if_neg h).trans (if_neg hz)
/-- Between n and what it is rounded to there is no multiple. -/
theorem rd_between {n t m : Int} (ht : 1 ≤ t) (hz : n % t ≠ 0) (h1 : n ≤ m) (h2 : m < n + t - n % t) : m % t ≠ 0 := by
  have hr0 := Int.emod_nonneg n (show t ≠ 0 by omega)
  have hr1 := Int.emod_lt_of_pos n (show 0 < t by omega)
  have e : m = n + (m - n) := by omega
  rw [e, ← Int.emod_add_emod, Int.emod_eq_of_lt (by omega) (by omega)]
  omega
theorem rd_at {n t : Int} : (n + t - n % t) % t = 0 := by
  have e : n + t - n % t = t * (n / t + 1) := by
    have := Int.mul_ediv_add_emod n t
    rw [Int.mul_add]
    omega
  rw [e]
  exact Int.mul_emod_right _ _

/-- How often n is halved. -/
def hv (n : Nat) : Nat := if n = 0 then 0 else Nat.log2 n + 1
theorem hv_zero : hv 0 = 0 := rfl
theorem hv_step (n : Nat) (h : 0 < n) : hv n = hv (n / 2) + 1 := by
  unfold hv
  rw [if_neg (by omega)]
  by_cases h2 : 2 ≤ n
  · rw [if_neg (by omega), Nat.log2_def, if_pos h2]
  · rw [if_pos (by omega), Nat.log2_def, if_neg h2]
theorem hv_le (n : Nat) (h : n < 18446744073709551616) : hv n ≤ 64 := by
  unfold hv
  split
  · omega
  · rename_i h0
    have := (Nat.log2_lt h0 (k := 64)).2 (by omega)
    omega
def hvI (n : Int) : Int := hv n.toNat
end Num
end Go.Proofs.Ytijfhgbddkcglaa
