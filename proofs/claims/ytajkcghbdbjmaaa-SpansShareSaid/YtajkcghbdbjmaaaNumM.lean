/- Layer 1 (num): the plain arithmetic of little-endian numbers. No program in sight. -/
import Derived.WalkKit
namespace Go.Proofs.Ytajkcghbdbjmaaa
namespace Num

/-- The number of k bytes from offset a on, the least significant one first. -/
def ld (l : List Int) (a : Nat) : Nat → Int
  | 0 => 0
  | k + 1 => ld l a k + l.getD (a + k) 0 * 256 ^ k

theorem two_pow (k : Nat) : (2 : Int) ^ (8 * k) = 256 ^ k := by
  rw [Int.pow_mul]
  rfl
theorem pow_pos (k : Nat) : (0 : Int) < 256 ^ k := Int.pow_pos (by decide)
theorem pow_succ (k : Nat) : (256 : Int) ^ (k + 1) = 256 ^ k * 256 := Int.pow_succ _ _

theorem ld_bd (l : List Int) (a : Nat) (h : ∀ i, 0 ≤ l.getD i 0 ∧ l.getD i 0 ≤ 255) (k : Nat) : 0 ≤ ld l a k ∧ ld l a k < 256 ^ k := by
  induction k with
  | zero => exact ⟨Int.le_refl _, show (0 : Int) < 256 ^ 0 by decide⟩
  | succ k ih =>
    have hb := h (a + k)
    have hp := pow_pos k
    have h1 : 0 ≤ l.getD (a + k) 0 * 256 ^ k := Int.mul_nonneg hb.1 (Int.le_of_lt hp)
    have h2 : l.getD (a + k) 0 * 256 ^ k ≤ 255 * 256 ^ k := Int.mul_le_mul_of_nonneg_right hb.2 (Int.le_of_lt hp)
    rw [pow_succ]
    constructor
    · show 0 ≤ ld l a k + _
      omega
    · show ld l a k + _ < _
      omega
theorem pow_le8 (k : Nat) (h : k ≤ 8) : (256 : Int) ^ k ≤ 18446744073709551616 := by
  have : k = 0 ∨ k = 1 ∨ k = 2 ∨ k = 3 ∨ k = 4 ∨ k = 5 ∨ k = 6 ∨ k = 7 ∨ k = 8 := by omega
  rcases this with rfl | rfl | rfl | rfl | rfl | rfl | rfl | rfl | rfl <;> decide
theorem wrap_u64 (n : Int) (h0 : 0 ≤ n) (h1 : n < 18446744073709551616) : IntKind.u64.wrap n = n := by
  simp only [IntKind.wrap, IntKind.bits, IntKind.signed]
  simp
  exact Int.emod_eq_of_lt h0 h1

theorem or_step (v b : Int) (k : Nat) (hk : k < 8) (h0 : 0 ≤ v) (h1 : v < 256 ^ k) (hb0 : 0 ≤ b) (hb1 : b ≤ 255) :
    bits .or .u64 v (IntKind.u64.wrap (IntKind.u64.wrap b * 2 ^ (8 * k))) = v + b * 256 ^ k := by
  have hp := pow_pos k
  have h8 := pow_le8 (k + 1) (by omega)
  rw [pow_succ] at h8
  have hm0 : 0 ≤ b * 256 ^ k := Int.mul_nonneg hb0 (Int.le_of_lt hp)
  have hm1 : b * 256 ^ k ≤ 255 * 256 ^ k := Int.mul_le_mul_of_nonneg_right hb1 (Int.le_of_lt hp)
  rw [wrap_u64 b hb0 (by omega), two_pow, wrap_u64 (b * 256 ^ k) hm0 (by omega)]
  obtain ⟨V, rfl⟩ := Int.eq_ofNat_of_zero_le h0
  obtain ⟨B, rfl⟩ := Int.eq_ofNat_of_zero_le hb0
  have e : ((B : Nat) : Int) * 256 ^ k = ((B * 256 ^ k : Nat) : Int) := by rw [Int.natCast_mul, Int.natCast_pow]; rfl
  have e2 : (256 : Int) ^ k = ((256 ^ k : Nat) : Int) := by rw [Int.natCast_pow]; rfl
  rw [e] at hm1 ⊢
  rw [e2] at h1 hm1 h8
  have hV : V < 256 ^ k := by omega
  rw [u64_or_nat V (B * 256 ^ k) (by omega) (by omega), Nat.or_comm, nat_join (8 * k) (B * 256 ^ k) V (by
    rw [Nat.pow_mul]
    exact Nat.mul_mod_left _ _) (by rw [Nat.pow_mul]; exact hV)]
  omega
theorem ld_or (l : List Int) (a k : Nat) (hk : k < 8) (h : ∀ i, 0 ≤ l.getD i 0 ∧ l.getD i 0 ≤ 255) :
    bits .or .u64 (ld l a k) (IntKind.u64.wrap (IntKind.u64.wrap (l[a + k]?.getD 0) * 2 ^ (8 * k))) = ld l a (k + 1) := by
  have e : l[a + k]?.getD 0 = l.getD (a + k) 0 := (List.getD_eq_getElem?_getD ..).symm
  have hb := h (a + k)
  have hv := ld_bd l a h k
  rw [e, or_step _ _ k hk hv.1 hv.2 hb.1 hb.2]
  rfl
/-- From the top: one byte more below. -/
theorem ld_front (l : List Int) (a k : Nat) : ld l a (k + 1) = l.getD a 0 + 256 * ld l (a + 1) k := by
  induction k with
  | zero => simp [ld]
  | succ k ih =>
    have e1 : ld l a (k + 1 + 1) = ld l a (k + 1) + l.getD (a + (k + 1)) 0 * 256 ^ (k + 1) := rfl
    have e2 : ld l (a + 1) (k + 1) = ld l (a + 1) k + l.getD (a + 1 + k) 0 * 256 ^ k := rfl
    rw [e1, ih, e2, pow_succ, show a + (k + 1) = a + 1 + k by omega, Int.mul_add]
    have : l.getD (a + 1 + k) 0 * (256 ^ k * 256) = 256 * (l.getD (a + 1 + k) 0 * 256 ^ k) := by
      rw [← Int.mul_assoc, Int.mul_comm]
    omega
/-- The next number from the top fits. -/
theorem ld_top (l : List Int) (a k : Nat) (hk : k < 8) (h : ∀ i, 0 ≤ l.getD i 0 ∧ l.getD i 0 ≤ 255) : 0 ≤ ld l (a + 1) k ∧ 256 * ld l (a + 1) k + l.getD a 0 ≤ 18446744073709551615 := by
  have h1 := ld_bd l a h (k + 1)
  have h2 := ld_bd l (a + 1) h k
  have h3 := pow_le8 (k + 1) (by omega)
  rw [ld_front] at h1
  exact ⟨h2.1, by omega⟩
theorem ld_wrap (l : List Int) (a k : Nat) (hk : k < 8) (h : ∀ i, 0 ≤ l.getD i 0 ∧ l.getD i 0 ≤ 255) :
    IntKind.u64.wrap (256 * ld l (a + 1) k + IntKind.u64.wrap (l[a]?.getD 0)) = ld l a (k + 1) := by
  have e : l[a]?.getD 0 = l.getD a 0 := (List.getD_eq_getElem?_getD ..).symm
  have hb := h a
  have ht := ld_top l a k hk h
  rw [e, wrap_u64 (l.getD a 0) hb.1 (by omega), wrap_u64 _ (by omega) (by omega), ld_front]
  omega
end Num
end Go.Proofs.Ytajkcghbdbjmaaa
