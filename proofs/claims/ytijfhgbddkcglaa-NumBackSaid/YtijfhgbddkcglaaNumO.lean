/- Layer 1 (num): the plain arithmetic of parts of a number. No program in sight. -/
import Derived.Test.YtijfhgbddkcglaaNumN
namespace Go.Proofs.Ytijfhgbddkcglaa
namespace Num

/-- A number's bytes, cut in two. -/
theorem ld_split (l : List Int) (a j k : Nat) : ld l a (j + k) = ld l a j + 256 ^ j * ld l (a + j) k := by
  induction k with
  | zero => simp [ld]
  | succ k ih =>
    have e1 : ld l a (j + (k + 1)) = ld l a (j + k) + l.getD (a + (j + k)) 0 * 256 ^ (j + k) := rfl
    have e2 : ld l (a + j) (k + 1) = ld l (a + j) k + l.getD (a + j + k) 0 * 256 ^ k := rfl
    rw [e1, e2, ih, Int.mul_add, show a + (j + k) = a + j + k by omega, Int.pow_add]
    have : l.getD (a + j + k) 0 * (256 ^ j * 256 ^ k) = 256 ^ j * (l.getD (a + j + k) 0 * 256 ^ k) := by
      rw [← Int.mul_assoc, Int.mul_comm (l.getD (a + j + k) 0), Int.mul_assoc]
    omega
/-- The lowest j bytes of a number of more. -/
theorem ld_low (l : List Int) (a j k : Nat) (h : ∀ i, 0 ≤ l.getD i 0 ∧ l.getD i 0 ≤ 255) : ld l a (j + k) % 256 ^ j = ld l a j := by
  have hb := ld_bd l a h j
  rw [ld_split, Int.add_mul_emod_self_left, Int.emod_eq_of_lt hb.1 hb.2]
theorem ld_high (l : List Int) (a j k : Nat) (h : ∀ i, 0 ≤ l.getD i 0 ∧ l.getD i 0 ≤ 255) : ld l a (j + k) / 256 ^ j = ld l (a + j) k := by
  have hb := ld_bd l a h j
  have hp := pow_pos j
  rw [ld_split, Int.add_mul_ediv_left _ _ (by omega), Int.ediv_eq_zero_of_lt hb.1 hb.2]
  omega
theorem ld_one (l : List Int) (a : Nat) : ld l a 1 = l.getD a 0 := by
  simp [ld]
/-- Byte i of a number of eight. -/
theorem ld_byte (l : List Int) (a i : Nat) (hi : i < 8) (h : ∀ i, 0 ≤ l.getD i 0 ∧ l.getD i 0 ≤ 255) : ld l a 8 / 256 ^ i % 256 = ld l (a + i) 1 := by
  have e : 8 = i + (1 + (7 - i)) := by omega
  rw [e, ld_high l a i _ h]
  have := ld_low l (a + i) 1 (7 - i) h
  exact this
end Num
end Go.Proofs.Ytijfhgbddkcglaa
