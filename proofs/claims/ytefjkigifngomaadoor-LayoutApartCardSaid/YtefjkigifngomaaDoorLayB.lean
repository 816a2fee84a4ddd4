/- Layer 9 (layout): the contracts of Right of both sides. Condition for the package: the table class.sizes holds its ten numbers. -/
import Derived.Test.YtefjkigifngomaaDoorLayA
import Derived.Test.YtefjkigifngomaaDoorMem
namespace Go.Proofs.YtefjkigifngomaaDoor
open Go.RowKit
namespace Lay

theorem rt_cases (s t : Int) : (s < 7 ∧ rt s t = false) ∨ (7 ≤ s ∧ 64 < s ∧ rt s t = false) ∨ (7 ≤ s ∧ s ≤ 64 ∧ t % 2 ≠ 0 ∧ rt s t = false) ∨ (7 ≤ s ∧ s ≤ 64 ∧ t % 2 = 0 ∧ t < 32 * s ∧ rt s t = false) ∨
    (7 ≤ s ∧ s ≤ 64 ∧ t % 2 = 0 ∧ 32 * s ≤ t ∧ 8192 < t ∧ rt s t = false) ∨ (7 ≤ s ∧ s ≤ 64 ∧ t % 2 = 0 ∧ 32 * s ≤ t ∧ t ≤ 8192 ∧ rt s t = true) := by
  unfold rt
  simp only [decide_eq_true_eq, decide_eq_false_iff_not]
  omega
theorem below_box (W : World) (o : Obj) (n : Nat) : Below W.heap.size W ((W.alloc o).drewN n) := below_drewN ((Below.refl _ _).alloc (Nat.le_refl _) _) n

set_option maxHeartbeats 1600000 in
theorem right_any (s t : Int) (W : World) (hT : Tab W) : Calls Tryd.prog 8 #[.agg #[.int .i64 s, .int .i64 t]] W fun e W' => e = .returned (.bool (rt s t)) ∧ Below W.heap.size W W' := by
  rcases rt_cases s t with ⟨h1, k⟩ | ⟨h1, h2, k⟩ | ⟨h1, h2, h3, k⟩ | ⟨h1, h2, h3, h4, k⟩ | ⟨h1, h2, h3, h4, h5, k⟩ | ⟨h1, h2, h3, h4, h5, k⟩
  · have K := Lib.hid k
    clear k
    by_cases h0 : s = 0
    · subst h0
      cases ht : t == 0
      · go_enter Tryd.func8, Tryd.ntmps8
        go_wp2_with fail
        go_ret
        exact ⟨ret_bool K.out, (Below.refl _ _).alloc (Nat.le_refl _) _⟩
      · go_enter Tryd.func8, Tryd.ntmps8
        go_wp2_with fail
        go_ret
        exact ⟨ret_bool K.out, (Below.refl _ _).alloc (Nat.le_refl _) _⟩
    · have hs : (s == 0) = false := by simpa using h0
      clear h0
      go_enter Tryd.func8, Tryd.ntmps8
      go_wp2_with fail
      go_ret
      exact ⟨ret_bool K.out, (Below.refl _ _).alloc (Nat.le_refl _) _⟩
  · have K := Lib.hid k
    clear k
    have hs : (s == 0) = false := by simp; omega
    go_enter Tryd.func8, Tryd.ntmps8
    go_wp2_with fail
    go_ret
    exact ⟨ret_bool K.out, (Below.refl _ _).alloc (Nat.le_refl _) _⟩
  · have K := Lib.hid k
    have hs : (s == 0) = false := by simp; omega
    have hm : (t.tmod 2 == 0) = false := by rw [beq_eq_false_iff_ne, ne_eq, tmod2]; exact h3
    have hm2 : (t % 2 == 0) = false := by rw [beq_eq_false_iff_ne]; exact h3
    clear k h3
    have hT1 := hT.alloc (.cells #[.int .i64 s, .int .i64 t] 23)
    rcases Int.lt_or_le t 0 with hneg | hneg
    · skip
      go_enter Tryd.func8, Tryd.ntmps8
      go_wp2_with fail
      go_quiet ((go_at_call 28; exact Mem.quiet_of_eq (blocks_one _ (hT1.drewN _))))
      go_wp2
      go_ret
      exact ⟨ret_bool K.out, below_box _ _ _⟩
    · skip
      go_enter Tryd.func8, Tryd.ntmps8
      go_wp2_with fail
      go_quiet ((go_at_call 28; exact Mem.quiet_of_eq (blocks_one _ (hT1.drewN _))))
      go_wp2
      go_ret
      exact ⟨ret_bool K.out, below_box _ _ _⟩
  · have K := Lib.hid k
    have hs : (s == 0) = false := by simp; omega
    have hm : (t.tmod 2 == 0) = true := by rw [beq_iff_eq, tmod2]; exact h3
    have hm2 : (t % 2 == 0) = true := by rw [beq_iff_eq]; exact h3
    clear k h3
    have hT1 := hT.alloc (.cells #[.int .i64 s, .int .i64 t] 23)
    have hd5 : decide (32 * s ≤ t) = false := by simp; omega
    have hd6 : decide (s * 32 ≤ t) = false := by simp; omega
    rcases Int.lt_or_le t 0 with hneg | hneg
    · skip
      go_enter Tryd.func8, Tryd.ntmps8
      go_wp2_with fail
      go_quiet ((go_at_call 28; exact Mem.quiet_of_eq (blocks_one _ (hT1.drewN _))))
      go_wp2
      go_ret
      exact ⟨ret_bool K.out, below_box _ _ _⟩
    · skip
      go_enter Tryd.func8, Tryd.ntmps8
      go_wp2_with fail
      go_quiet ((go_at_call 28; exact Mem.quiet_of_eq (blocks_one _ (hT1.drewN _))))
      go_wp2
      go_ret
      exact ⟨ret_bool K.out, below_box _ _ _⟩
  · have K := Lib.hid k
    have hs : (s == 0) = false := by simp; omega
    have hm : (t.tmod 2 == 0) = true := by rw [beq_iff_eq, tmod2]; exact h3
    have hm2 : (t % 2 == 0) = true := by rw [beq_iff_eq]; exact h3
    clear k h3
    have hT1 := hT.alloc (.cells #[.int .i64 s, .int .i64 t] 23)
    have hd6 : decide (s * 32 ≤ t) = true := by simp; omega
    have hd7 : decide (32 * s ≤ t) = true := by simp; omega
    have hd5 : decide (t ≤ 8192) = false := by simp; omega
    rcases Int.lt_or_le t 0 with hneg | hneg
    · skip
      exact absurd h4 (by omega)
    · skip
      go_enter Tryd.func8, Tryd.ntmps8
      go_wp2_with fail
      go_quiet ((go_at_call 28; exact Mem.quiet_of_eq (blocks_one _ (hT1.drewN _))))
      go_wp2
      go_ret
      exact ⟨ret_bool K.out, below_box _ _ _⟩
  · have K := Lib.hid k
    have hs : (s == 0) = false := by simp; omega
    have hm : (t.tmod 2 == 0) = true := by rw [beq_iff_eq, tmod2]; exact h3
    have hm2 : (t % 2 == 0) = true := by rw [beq_iff_eq]; exact h3
    clear k h3
    have hT1 := hT.alloc (.cells #[.int .i64 s, .int .i64 t] 23)
    have hd6 : decide (s * 32 ≤ t) = true := by simp; omega
    have hd7 : decide (32 * s ≤ t) = true := by simp; omega
    have hd5 : decide (t ≤ 8192) = true := by simp; omega
    rcases Int.lt_or_le t 0 with hneg | hneg
    · skip
      exact absurd h4 (by omega)
    · skip
      go_enter Tryd.func8, Tryd.ntmps8
      go_wp2_with fail
      go_quiet ((go_at_call 28; exact Mem.quiet_of_eq (blocks_one _ (hT1.drewN _))))
      go_wp2
      go_ret
      exact ⟨ret_bool K.out, below_box _ _ _⟩
set_option maxHeartbeats 1600000 in
theorem rright_any (s t : Int) (W : World) : Calls Tryd.prog 9 #[.agg #[.int .i64 s, .int .i64 t]] W fun e W' => e = .returned (.bool (rt s t)) ∧ Below W.heap.size W W' := by
  rcases rt_cases s t with ⟨h1, k⟩ | ⟨h1, h2, k⟩ | ⟨h1, h2, h3, k⟩ | ⟨h1, h2, h3, h4, k⟩ | ⟨h1, h2, h3, h4, h5, k⟩ | ⟨h1, h2, h3, h4, h5, k⟩
  · have K := Lib.hid k
    clear k
    go_enter Tryd.func9, Tryd.ntmps9
    go_wp2_with fail
    go_ret
    exact ⟨ret_bool K.out, (Below.refl _ _).alloc (Nat.le_refl _) _⟩
  · have K := Lib.hid k
    clear k
    go_enter Tryd.func9, Tryd.ntmps9
    go_wp2_with fail
    go_ret
    exact ⟨ret_bool K.out, (Below.refl _ _).alloc (Nat.le_refl _) _⟩
  · have K := Lib.hid k
    have hm : (t.tmod 2 == 0) = false := by rw [beq_eq_false_iff_ne, ne_eq, tmod2]; exact h3
    have hm2 : (t % 2 == 0) = false := by rw [beq_eq_false_iff_ne]; exact h3
    clear k h3
    rcases Int.lt_or_le t 0 with hneg | hneg
    · skip
      go_enter Tryd.func9, Tryd.ntmps9
      go_wp2_with fail
      go_ret
      exact ⟨ret_bool K.out, (Below.refl _ _).alloc (Nat.le_refl _) _⟩
    · skip
      go_enter Tryd.func9, Tryd.ntmps9
      go_wp2_with fail
      go_ret
      exact ⟨ret_bool K.out, (Below.refl _ _).alloc (Nat.le_refl _) _⟩
  · have K := Lib.hid k
    have hm : (t.tmod 2 == 0) = true := by rw [beq_iff_eq, tmod2]; exact h3
    have hm2 : (t % 2 == 0) = true := by rw [beq_iff_eq]; exact h3
    clear k h3
    have hd5 : decide (32 * s ≤ t) = false := by simp; omega
    have hd6 : decide (s * 32 ≤ t) = false := by simp; omega
    rcases Int.lt_or_le t 0 with hneg | hneg
    · skip
      go_enter Tryd.func9, Tryd.ntmps9
      go_wp2_with fail
      go_ret
      exact ⟨ret_bool K.out, (Below.refl _ _).alloc (Nat.le_refl _) _⟩
    · skip
      go_enter Tryd.func9, Tryd.ntmps9
      go_wp2_with fail
      go_ret
      exact ⟨ret_bool K.out, (Below.refl _ _).alloc (Nat.le_refl _) _⟩
  · have K := Lib.hid k
    have hm : (t.tmod 2 == 0) = true := by rw [beq_iff_eq, tmod2]; exact h3
    have hm2 : (t % 2 == 0) = true := by rw [beq_iff_eq]; exact h3
    clear k h3
    have hd6 : decide (s * 32 ≤ t) = true := by simp; omega
    have hd7 : decide (32 * s ≤ t) = true := by simp; omega
    have hd5 : decide (t ≤ 8192) = false := by simp; omega
    rcases Int.lt_or_le t 0 with hneg | hneg
    · skip
      exact absurd h4 (by omega)
    · skip
      go_enter Tryd.func9, Tryd.ntmps9
      go_wp2_with fail
      go_ret
      exact ⟨ret_bool K.out, (Below.refl _ _).alloc (Nat.le_refl _) _⟩
  · have K := Lib.hid k
    have hm : (t.tmod 2 == 0) = true := by rw [beq_iff_eq, tmod2]; exact h3
    have hm2 : (t % 2 == 0) = true := by rw [beq_iff_eq]; exact h3
    clear k h3
    have hd6 : decide (s * 32 ≤ t) = true := by simp; omega
    have hd7 : decide (32 * s ≤ t) = true := by simp; omega
    have hd5 : decide (t ≤ 8192) = true := by simp; omega
    rcases Int.lt_or_le t 0 with hneg | hneg
    · skip
      exact absurd h4 (by omega)
    · skip
      go_enter Tryd.func9, Tryd.ntmps9
      go_wp2_with fail
      go_ret
      exact ⟨ret_bool K.out, (Below.refl _ _).alloc (Nat.le_refl _) _⟩
end Lay
end Go.Proofs.YtefjkigifngomaaDoor
