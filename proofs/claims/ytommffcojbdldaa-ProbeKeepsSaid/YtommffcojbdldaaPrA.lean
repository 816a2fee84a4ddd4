/- Layer 19: distances in a ring: the plain law, and the contracts of both sides' Distance. -/
import Derived.Test.YtommffcojbdldaaMem
namespace Go.Proofs.Ytommffcojbdldaa
open Go.RowKit
namespace Pr

/-- How far it is from home. -/
def D (n h a : Int) : Int := if 0 ≤ h ∧ h < n ∧ 0 ≤ a ∧ a < n then (if a < h then a + n - h else a - h) else 0
def inB (n a : Int) : Bool := decide (0 ≤ a ∧ a < n)
def I64 (x : Int) : Prop := -9223372036854775808 ≤ x ∧ x ≤ 9223372036854775807
theorem wrap_two {n h a : Int} (h2 : h < n) (h3 : 0 ≤ a) (h4 : a < h) (hn : I64 n) : IntKind.i64.wrap (IntKind.i64.wrap (a + n) - h) = a + n - h := by
  unfold I64 at hn
  simp [IntKind.wrap, IntKind.bits, IntKind.signed]
  omega
theorem within_any (n a : Int) (W : World) : Calls Try.prog 25 #[.int .i64 n, .int .i64 a] W fun e w => e = .returned (.bool (inB n a)) ∧ W = w := by
  by_cases h0 : 0 ≤ a
  · by_cases h1 : a < n
    · have HF := Lib.hid (show inB n a = true by simp [inB, h0, h1])
      go_enter Try.func25, Try.ntmps25
      go_wp2_with fail
      go_ret
      exact ⟨by rw [HF.out]; rfl, rfl⟩
    · have HF := Lib.hid (show inB n a = false by simp [inB, h1])
      go_enter Try.func25, Try.ntmps25
      go_wp2_with fail
      go_ret
      exact ⟨by rw [HF.out]; rfl, rfl⟩
  · have HF := Lib.hid (show inB n a = false by simp [inB, h0])
    go_enter Try.func25, Try.ntmps25
    go_wp2_with fail
    go_ret
    exact ⟨by rw [HF.out]; rfl, rfl⟩
theorem distance_any (n h a : Int) (hn : I64 n) (W : World) : Calls Try.prog 21 #[.int .i64 n, .int .i64 h, .int .i64 a] W fun e w => e = .returned (.int .i64 (D n h a)) ∧ W = w := by
  have W1 := Lib.hid (within_any n h W)
  have W2 := Lib.hid (within_any n a W)
  by_cases h0 : 0 ≤ h ∧ h < n
  · have e1 : inB n h = true := by simpa [inB] using h0
    rw [e1] at W1
    by_cases h1 : 0 ≤ a ∧ a < n
    · have e2 : inB n a = true := by simpa [inB] using h1
      rw [e2] at W2
      obtain ⟨p1, p2⟩ := h0
      obtain ⟨p3, p4⟩ := h1
      by_cases h2 : a < h
      · have HF := Lib.hid (show D n h a = a + n - h by unfold D; rw [if_pos ⟨p1, p2, p3, p4⟩, if_pos h2])
        have HW := wrap_two p2 p3 h2 hn
        obtain ⟨s, hs⟩ : ∃ s, IntKind.i64.wrap (a + n) = s := ⟨_, rfl⟩
        obtain ⟨r, hr⟩ : ∃ r, a + n - h = r := ⟨_, rfl⟩
        rw [hs, hr] at HW
        rw [hr] at HF
        clear e1 e2 p1 p2 p3 p4 hr hn
        go_enter Try.func21, Try.ntmps21
        go_wp2_with fail
        refine W1.out.mono ?_
        rintro e w ⟨rfl, rfl⟩
        go_wp2_with fail
        refine W2.out.mono ?_
        rintro e w ⟨rfl, rfl⟩
        go_wp2_with fail
        go_ret
        exact ⟨by rw [HF.out]; rfl, rfl⟩
      · have HF := Lib.hid (show D n h a = a - h by unfold D; rw [if_pos ⟨p1, p2, p3, p4⟩, if_neg h2])
        have HW : IntKind.i64.wrap (a - h) = a - h := IntWalk.i64_in _ (by unfold I64 at hn; omega)
        have h2' : ¬ a < h := h2
        obtain ⟨r, hr⟩ : ∃ r, a - h = r := ⟨_, rfl⟩
        rw [hr] at HW HF
        clear e1 e2 p1 p2 p3 p4 hn
        go_enter Try.func21, Try.ntmps21
        go_wp2_with fail
        refine W1.out.mono ?_
        rintro e w ⟨rfl, rfl⟩
        go_wp2_with fail
        refine W2.out.mono ?_
        rintro e w ⟨rfl, rfl⟩
        go_wp2_with fail
        go_ret
        exact ⟨by rw [HF.out]; rfl, rfl⟩
    · have e2 : inB n a = false := by simpa [inB] using h1
      rw [e2] at W2
      have HF := Lib.hid (show D n h a = 0 by unfold D; rw [if_neg (by rintro ⟨_, _, a1, a2⟩; exact h1 ⟨a1, a2⟩)])
      clear e1 e2 h0 h1 hn
      go_enter Try.func21, Try.ntmps21
      go_wp2_with fail
      refine W1.out.mono ?_
      rintro e w ⟨rfl, rfl⟩
      go_wp2_with fail
      refine W2.out.mono ?_
      rintro e w ⟨rfl, rfl⟩
      go_wp2_with fail
      go_ret
      exact ⟨by rw [HF.out]; rfl, rfl⟩
  · have e1 : inB n h = false := by simpa [inB] using h0
    rw [e1] at W1
    have HF := Lib.hid (show D n h a = 0 by unfold D; rw [if_neg (by rintro ⟨a1, a2, _, _⟩; exact h0 ⟨a1, a2⟩)])
    clear e1 h0 hn
    go_enter Try.func21, Try.ntmps21
    go_wp2_with fail
    refine W1.out.mono ?_
    rintro e w ⟨rfl, rfl⟩
    go_wp2_with fail
    go_ret
    exact ⟨by rw [HF.out]; rfl, rfl⟩
set_option maxHeartbeats 800000 in
theorem refdist_any (n h a : Int) (hn : I64 n) (W : World) : Calls Try.prog 22 #[.int .i64 n, .int .i64 h, .int .i64 a] W fun e w => e = .returned (.int .i64 (D n h a)) ∧ W = w := by
  by_cases h0 : h < 0
  · have HF := Lib.hid (show D n h a = 0 by unfold D; rw [if_neg (by omega)])
    clear hn
    go_enter Try.func22, Try.ntmps22
    go_wp2_with fail
    go_ret
    exact ⟨by rw [HF.out]; rfl, rfl⟩
  by_cases h1 : n ≤ h
  · have HF := Lib.hid (show D n h a = 0 by unfold D; rw [if_neg (by omega)])
    clear hn
    go_enter Try.func22, Try.ntmps22
    go_wp2_with fail
    go_ret
    exact ⟨by rw [HF.out]; rfl, rfl⟩
  by_cases h2 : a < 0
  · have HF := Lib.hid (show D n h a = 0 by unfold D; rw [if_neg (by omega)])
    clear hn
    go_enter Try.func22, Try.ntmps22
    go_wp2_with fail
    go_ret
    exact ⟨by rw [HF.out]; rfl, rfl⟩
  by_cases h3 : n ≤ a
  · have HF := Lib.hid (show D n h a = 0 by unfold D; rw [if_neg (by omega)])
    clear hn
    go_enter Try.func22, Try.ntmps22
    go_wp2_with fail
    go_ret
    exact ⟨by rw [HF.out]; rfl, rfl⟩
  by_cases h4 : a < h
  · have HF := Lib.hid (show D n h a = a + n - h by unfold D; rw [if_pos (by omega), if_pos h4])
    have HW := wrap_two (n := n) (h := h) (a := a) (by omega) (by omega) h4 hn
    have h4' : ¬ h ≤ a := by omega
    obtain ⟨s, hs⟩ : ∃ s, IntKind.i64.wrap (a + n) = s := ⟨_, rfl⟩
    obtain ⟨r, hr⟩ : ∃ r, a + n - h = r := ⟨_, rfl⟩
    rw [hs, hr] at HW
    rw [hr] at HF
    clear hr hn
    go_enter Try.func22, Try.ntmps22
    go_wp2_with fail
    go_ret
    exact ⟨by rw [HF.out]; rfl, rfl⟩
  · have HF := Lib.hid (show D n h a = a - h by unfold D; rw [if_pos (by omega), if_neg h4])
    have HW : IntKind.i64.wrap (a - h) = a - h := IntWalk.i64_in _ (by unfold I64 at hn; omega)
    have h4' : h ≤ a := by omega
    obtain ⟨r, hr⟩ : ∃ r, a - h = r := ⟨_, rfl⟩
    rw [hr] at HW HF
    clear hn
    go_enter Try.func22, Try.ntmps22
    go_wp2_with fail
    go_ret
    exact ⟨by rw [HF.out]; rfl, rfl⟩
end Pr
end Go.Proofs.Ytommffcojbdldaa
