/- The contracts of layer 8, fourth part: Place, Index of the package and of the reference, and the law's own 'classes'. Condition for the package: the table class.sizes holds its ten numbers. -/
import Derived.Test.YteekbpcifiojlaaDoorClassC
namespace Go.Proofs.YteekbpcifiojlaaDoor
open Go.RowKit
namespace Cls

/-- The world is as it was, but for draws. -/
def QQ (w w' : World) : Prop := ∃ n, w' = w.drewN n
theorem QQ.refl (w : World) : QQ w w := ⟨0, rfl⟩
theorem QQ.trans {a b c : World} (h : QQ a b) (k : QQ b c) : QQ a c := by
  obtain ⟨n, rfl⟩ := h
  obtain ⟨m, rfl⟩ := k
  exact ⟨n + m, by rw [World.drewN_drewN]⟩
theorem QQ.heap {a b : World} (h : QQ a b) : b.heap = a.heap := by
  obtain ⟨n, rfl⟩ := h
  exact World.heap_drewN _ _
theorem Tab.q {a b : World} (h : Tab a) (k : QQ a b) : Tab b := by
  unfold Tab at *
  rw [k.heap]
  exact h
theorem quiet_of_eq {P : Program} {f : FuncId} {args : Array Value} {w : World} {n : Nat} {v : Value}
    (h : Calls P f args (w.drewN n) fun e w' => e = .returned v ∧ w.drewN n = w') : Calls P f args (w.drewN n) fun e w'' => e = .returned v ∧ ∃ m, w'' = w.drewN m :=
  h.mono fun _ _ ⟨he, hm⟩ => ⟨he, n, hm.symm⟩
theorem ret_ib {k : IntKind} {a b : Int} {x y : Bool} (h : b = a ∧ y = x) : Ending.returned (.tuple #[.int k a, .bool x]) = .returned (.tuple #[.int k b, .bool y]) := by rw [h.1, h.2]

def plA (c i : Int) : Int := if c < 1 ∨ 9 < c then 0 else if i < 0 ∨ bl c ≤ i then 0 else i * sz c
def plE (c i : Int) : Int := if c < 1 ∨ 9 < c then 2 else if i < 0 ∨ bl c ≤ i then 6 else 0
def ixB (c t : Int) : Bool := decide ((1 ≤ c ∧ c ≤ 9) ∧ 0 ≤ t ∧ t % sz c = 0 ∧ t / sz c < bl c)
def ixI (c t : Int) : Int := if ixB c t = true then t / sz c else 0
theorem ix_no {c t : Int} (h : ¬ ((1 ≤ c ∧ c ≤ 9) ∧ 0 ≤ t ∧ t % sz c = 0 ∧ t / sz c < bl c)) : ixI c t = 0 ∧ ixB c t = false := by
  have : ixB c t = false := decide_eq_false h
  exact ⟨by unfold ixI; rw [this]; rfl, this⟩
theorem ix_yes {c t : Int} (h : (1 ≤ c ∧ c ≤ 9) ∧ 0 ≤ t ∧ t % sz c = 0 ∧ t / sz c < bl c) : ixI c t = t / sz c ∧ ixB c t = true := by
  have : ixB c t = true := decide_eq_true h
  exact ⟨by unfold ixI; rw [this]; rfl, this⟩

theorem place_out (c i : Int) (w : World) (h : c < 1 ∨ 9 < c) : Calls Tryd.prog 21 #[.int .i64 c, .int .i64 i] w fun e w' => e = .returned (.tuple #[.int .i64 (plA c i), .int .i64 (plE c i)]) ∧ w = w' := by
  have H := Lib.hid (show plA c i = 0 ∧ plE c i = 2 from ⟨if_pos h, if_pos h⟩)
  go_enter Tryd.func21, Tryd.ntmps21
  go_wp2_with (go_at_call 25; refine (is_no _ _ h).mono ?_; rintro e w' ⟨rfl, rfl⟩)
  go_ret2
  exact ⟨ret_two H.out, rfl⟩
set_option maxHeartbeats 400000 in
theorem place_1 (i : Int) (w : World) (hT : Tab w) : Calls Tryd.prog 21 #[.int .i64 1, .int .i64 i] w fun e w' => e = .returned (.tuple #[.int .i64 (plA 1 i), .int .i64 (plE 1 i)]) ∧ w = w' := by
  have hc := cells hT
  by_cases h1 : i < 0
  · have H := Lib.hid (show plA 1 i = 0 ∧ plE 1 i = 6 from ⟨(if_neg (by omega)).trans (if_pos (.inl h1)), (if_neg (by omega)).trans (if_pos (.inl h1))⟩)
    go_enter Tryd.func21, Tryd.ntmps21
    go_wp2_with (first | (go_at_call 25; refine (is_yes _ _ (by omega) (by omega)).mono ?_; rintro e w' ⟨rfl, rfl⟩) | (go_at_call 12; refine (blocks_val 1 32 rfl _ hT).mono ?_; rintro e w' ⟨rfl, rfl⟩))
    go_ret2
    exact ⟨ret_two H.out, rfl⟩
  · by_cases h2 : 32 ≤ i
    · have H := Lib.hid (show plA 1 i = 0 ∧ plE 1 i = 6 from ⟨(if_neg (by omega)).trans (if_pos (.inr h2)), (if_neg (by omega)).trans (if_pos (.inr h2))⟩)
      have h3 : 0 ≤ i := by omega
      clear h1
      go_enter Tryd.func21, Tryd.ntmps21
      go_wp2_with (first | (go_at_call 25; refine (is_yes _ _ (by omega) (by omega)).mono ?_; rintro e w' ⟨rfl, rfl⟩) | (go_at_call 12; refine (blocks_val 1 32 rfl _ hT).mono ?_; rintro e w' ⟨rfl, rfl⟩))
      go_ret2
      exact ⟨ret_two H.out, rfl⟩
    · have h3 : 0 ≤ i := by omega
      have h4 : i < 32 := by omega
      have H := Lib.hid (show plA 1 i = i * 32 ∧ plE 1 i = 0 from ⟨(if_neg (by omega)).trans (if_neg (show ¬ (i < 0 ∨ 32 ≤ i) by omega)), (if_neg (by omega)).trans (if_neg (show ¬ (i < 0 ∨ 32 ≤ i) by omega))⟩)
      clear h1 h2
      go_enter Tryd.func21, Tryd.ntmps21
      go_wp2_with (first | (go_at_call 25; refine (is_yes _ _ (by omega) (by omega)).mono ?_; rintro e w' ⟨rfl, rfl⟩) | (go_at_call 12; refine (blocks_val 1 32 rfl _ hT).mono ?_; rintro e w' ⟨rfl, rfl⟩))
      go_ret2
      exact ⟨ret_two H.out, rfl⟩
set_option maxHeartbeats 400000 in
theorem place_2 (i : Int) (w : World) (hT : Tab w) : Calls Tryd.prog 21 #[.int .i64 2, .int .i64 i] w fun e w' => e = .returned (.tuple #[.int .i64 (plA 2 i), .int .i64 (plE 2 i)]) ∧ w = w' := by
  have hc := cells hT
  by_cases h1 : i < 0
  · have H := Lib.hid (show plA 2 i = 0 ∧ plE 2 i = 6 from ⟨(if_neg (by omega)).trans (if_pos (.inl h1)), (if_neg (by omega)).trans (if_pos (.inl h1))⟩)
    go_enter Tryd.func21, Tryd.ntmps21
    go_wp2_with (first | (go_at_call 25; refine (is_yes _ _ (by omega) (by omega)).mono ?_; rintro e w' ⟨rfl, rfl⟩) | (go_at_call 12; refine (blocks_val 2 21 rfl _ hT).mono ?_; rintro e w' ⟨rfl, rfl⟩))
    go_ret2
    exact ⟨ret_two H.out, rfl⟩
  · by_cases h2 : 21 ≤ i
    · have H := Lib.hid (show plA 2 i = 0 ∧ plE 2 i = 6 from ⟨(if_neg (by omega)).trans (if_pos (.inr h2)), (if_neg (by omega)).trans (if_pos (.inr h2))⟩)
      have h3 : 0 ≤ i := by omega
      clear h1
      go_enter Tryd.func21, Tryd.ntmps21
      go_wp2_with (first | (go_at_call 25; refine (is_yes _ _ (by omega) (by omega)).mono ?_; rintro e w' ⟨rfl, rfl⟩) | (go_at_call 12; refine (blocks_val 2 21 rfl _ hT).mono ?_; rintro e w' ⟨rfl, rfl⟩))
      go_ret2
      exact ⟨ret_two H.out, rfl⟩
    · have h3 : 0 ≤ i := by omega
      have h4 : i < 21 := by omega
      have H := Lib.hid (show plA 2 i = i * 48 ∧ plE 2 i = 0 from ⟨(if_neg (by omega)).trans (if_neg (show ¬ (i < 0 ∨ 21 ≤ i) by omega)), (if_neg (by omega)).trans (if_neg (show ¬ (i < 0 ∨ 21 ≤ i) by omega))⟩)
      clear h1 h2
      go_enter Tryd.func21, Tryd.ntmps21
      go_wp2_with (first | (go_at_call 25; refine (is_yes _ _ (by omega) (by omega)).mono ?_; rintro e w' ⟨rfl, rfl⟩) | (go_at_call 12; refine (blocks_val 2 21 rfl _ hT).mono ?_; rintro e w' ⟨rfl, rfl⟩))
      go_ret2
      exact ⟨ret_two H.out, rfl⟩
set_option maxHeartbeats 400000 in
theorem place_3 (i : Int) (w : World) (hT : Tab w) : Calls Tryd.prog 21 #[.int .i64 3, .int .i64 i] w fun e w' => e = .returned (.tuple #[.int .i64 (plA 3 i), .int .i64 (plE 3 i)]) ∧ w = w' := by
  have hc := cells hT
  by_cases h1 : i < 0
  · have H := Lib.hid (show plA 3 i = 0 ∧ plE 3 i = 6 from ⟨(if_neg (by omega)).trans (if_pos (.inl h1)), (if_neg (by omega)).trans (if_pos (.inl h1))⟩)
    go_enter Tryd.func21, Tryd.ntmps21
    go_wp2_with (first | (go_at_call 25; refine (is_yes _ _ (by omega) (by omega)).mono ?_; rintro e w' ⟨rfl, rfl⟩) | (go_at_call 12; refine (blocks_val 3 16 rfl _ hT).mono ?_; rintro e w' ⟨rfl, rfl⟩))
    go_ret2
    exact ⟨ret_two H.out, rfl⟩
  · by_cases h2 : 16 ≤ i
    · have H := Lib.hid (show plA 3 i = 0 ∧ plE 3 i = 6 from ⟨(if_neg (by omega)).trans (if_pos (.inr h2)), (if_neg (by omega)).trans (if_pos (.inr h2))⟩)
      have h3 : 0 ≤ i := by omega
      clear h1
      go_enter Tryd.func21, Tryd.ntmps21
      go_wp2_with (first | (go_at_call 25; refine (is_yes _ _ (by omega) (by omega)).mono ?_; rintro e w' ⟨rfl, rfl⟩) | (go_at_call 12; refine (blocks_val 3 16 rfl _ hT).mono ?_; rintro e w' ⟨rfl, rfl⟩))
      go_ret2
      exact ⟨ret_two H.out, rfl⟩
    · have h3 : 0 ≤ i := by omega
      have h4 : i < 16 := by omega
      have H := Lib.hid (show plA 3 i = i * 64 ∧ plE 3 i = 0 from ⟨(if_neg (by omega)).trans (if_neg (show ¬ (i < 0 ∨ 16 ≤ i) by omega)), (if_neg (by omega)).trans (if_neg (show ¬ (i < 0 ∨ 16 ≤ i) by omega))⟩)
      clear h1 h2
      go_enter Tryd.func21, Tryd.ntmps21
      go_wp2_with (first | (go_at_call 25; refine (is_yes _ _ (by omega) (by omega)).mono ?_; rintro e w' ⟨rfl, rfl⟩) | (go_at_call 12; refine (blocks_val 3 16 rfl _ hT).mono ?_; rintro e w' ⟨rfl, rfl⟩))
      go_ret2
      exact ⟨ret_two H.out, rfl⟩
set_option maxHeartbeats 400000 in
theorem place_4 (i : Int) (w : World) (hT : Tab w) : Calls Tryd.prog 21 #[.int .i64 4, .int .i64 i] w fun e w' => e = .returned (.tuple #[.int .i64 (plA 4 i), .int .i64 (plE 4 i)]) ∧ w = w' := by
  have hc := cells hT
  by_cases h1 : i < 0
  · have H := Lib.hid (show plA 4 i = 0 ∧ plE 4 i = 6 from ⟨(if_neg (by omega)).trans (if_pos (.inl h1)), (if_neg (by omega)).trans (if_pos (.inl h1))⟩)
    go_enter Tryd.func21, Tryd.ntmps21
    go_wp2_with (first | (go_at_call 25; refine (is_yes _ _ (by omega) (by omega)).mono ?_; rintro e w' ⟨rfl, rfl⟩) | (go_at_call 12; refine (blocks_val 4 10 rfl _ hT).mono ?_; rintro e w' ⟨rfl, rfl⟩))
    go_ret2
    exact ⟨ret_two H.out, rfl⟩
  · by_cases h2 : 10 ≤ i
    · have H := Lib.hid (show plA 4 i = 0 ∧ plE 4 i = 6 from ⟨(if_neg (by omega)).trans (if_pos (.inr h2)), (if_neg (by omega)).trans (if_pos (.inr h2))⟩)
      have h3 : 0 ≤ i := by omega
      clear h1
      go_enter Tryd.func21, Tryd.ntmps21
      go_wp2_with (first | (go_at_call 25; refine (is_yes _ _ (by omega) (by omega)).mono ?_; rintro e w' ⟨rfl, rfl⟩) | (go_at_call 12; refine (blocks_val 4 10 rfl _ hT).mono ?_; rintro e w' ⟨rfl, rfl⟩))
      go_ret2
      exact ⟨ret_two H.out, rfl⟩
    · have h3 : 0 ≤ i := by omega
      have h4 : i < 10 := by omega
      have H := Lib.hid (show plA 4 i = i * 96 ∧ plE 4 i = 0 from ⟨(if_neg (by omega)).trans (if_neg (show ¬ (i < 0 ∨ 10 ≤ i) by omega)), (if_neg (by omega)).trans (if_neg (show ¬ (i < 0 ∨ 10 ≤ i) by omega))⟩)
      clear h1 h2
      go_enter Tryd.func21, Tryd.ntmps21
      go_wp2_with (first | (go_at_call 25; refine (is_yes _ _ (by omega) (by omega)).mono ?_; rintro e w' ⟨rfl, rfl⟩) | (go_at_call 12; refine (blocks_val 4 10 rfl _ hT).mono ?_; rintro e w' ⟨rfl, rfl⟩))
      go_ret2
      exact ⟨ret_two H.out, rfl⟩
set_option maxHeartbeats 400000 in
theorem place_5 (i : Int) (w : World) (hT : Tab w) : Calls Tryd.prog 21 #[.int .i64 5, .int .i64 i] w fun e w' => e = .returned (.tuple #[.int .i64 (plA 5 i), .int .i64 (plE 5 i)]) ∧ w = w' := by
  have hc := cells hT
  by_cases h1 : i < 0
  · have H := Lib.hid (show plA 5 i = 0 ∧ plE 5 i = 6 from ⟨(if_neg (by omega)).trans (if_pos (.inl h1)), (if_neg (by omega)).trans (if_pos (.inl h1))⟩)
    go_enter Tryd.func21, Tryd.ntmps21
    go_wp2_with (first | (go_at_call 25; refine (is_yes _ _ (by omega) (by omega)).mono ?_; rintro e w' ⟨rfl, rfl⟩) | (go_at_call 12; refine (blocks_val 5 8 rfl _ hT).mono ?_; rintro e w' ⟨rfl, rfl⟩))
    go_ret2
    exact ⟨ret_two H.out, rfl⟩
  · by_cases h2 : 8 ≤ i
    · have H := Lib.hid (show plA 5 i = 0 ∧ plE 5 i = 6 from ⟨(if_neg (by omega)).trans (if_pos (.inr h2)), (if_neg (by omega)).trans (if_pos (.inr h2))⟩)
      have h3 : 0 ≤ i := by omega
      clear h1
      go_enter Tryd.func21, Tryd.ntmps21
      go_wp2_with (first | (go_at_call 25; refine (is_yes _ _ (by omega) (by omega)).mono ?_; rintro e w' ⟨rfl, rfl⟩) | (go_at_call 12; refine (blocks_val 5 8 rfl _ hT).mono ?_; rintro e w' ⟨rfl, rfl⟩))
      go_ret2
      exact ⟨ret_two H.out, rfl⟩
    · have h3 : 0 ≤ i := by omega
      have h4 : i < 8 := by omega
      have H := Lib.hid (show plA 5 i = i * 128 ∧ plE 5 i = 0 from ⟨(if_neg (by omega)).trans (if_neg (show ¬ (i < 0 ∨ 8 ≤ i) by omega)), (if_neg (by omega)).trans (if_neg (show ¬ (i < 0 ∨ 8 ≤ i) by omega))⟩)
      clear h1 h2
      go_enter Tryd.func21, Tryd.ntmps21
      go_wp2_with (first | (go_at_call 25; refine (is_yes _ _ (by omega) (by omega)).mono ?_; rintro e w' ⟨rfl, rfl⟩) | (go_at_call 12; refine (blocks_val 5 8 rfl _ hT).mono ?_; rintro e w' ⟨rfl, rfl⟩))
      go_ret2
      exact ⟨ret_two H.out, rfl⟩
set_option maxHeartbeats 400000 in
theorem place_6 (i : Int) (w : World) (hT : Tab w) : Calls Tryd.prog 21 #[.int .i64 6, .int .i64 i] w fun e w' => e = .returned (.tuple #[.int .i64 (plA 6 i), .int .i64 (plE 6 i)]) ∧ w = w' := by
  have hc := cells hT
  by_cases h1 : i < 0
  · have H := Lib.hid (show plA 6 i = 0 ∧ plE 6 i = 6 from ⟨(if_neg (by omega)).trans (if_pos (.inl h1)), (if_neg (by omega)).trans (if_pos (.inl h1))⟩)
    go_enter Tryd.func21, Tryd.ntmps21
    go_wp2_with (first | (go_at_call 25; refine (is_yes _ _ (by omega) (by omega)).mono ?_; rintro e w' ⟨rfl, rfl⟩) | (go_at_call 12; refine (blocks_val 6 5 rfl _ hT).mono ?_; rintro e w' ⟨rfl, rfl⟩))
    go_ret2
    exact ⟨ret_two H.out, rfl⟩
  · by_cases h2 : 5 ≤ i
    · have H := Lib.hid (show plA 6 i = 0 ∧ plE 6 i = 6 from ⟨(if_neg (by omega)).trans (if_pos (.inr h2)), (if_neg (by omega)).trans (if_pos (.inr h2))⟩)
      have h3 : 0 ≤ i := by omega
      clear h1
      go_enter Tryd.func21, Tryd.ntmps21
      go_wp2_with (first | (go_at_call 25; refine (is_yes _ _ (by omega) (by omega)).mono ?_; rintro e w' ⟨rfl, rfl⟩) | (go_at_call 12; refine (blocks_val 6 5 rfl _ hT).mono ?_; rintro e w' ⟨rfl, rfl⟩))
      go_ret2
      exact ⟨ret_two H.out, rfl⟩
    · have h3 : 0 ≤ i := by omega
      have h4 : i < 5 := by omega
      have H := Lib.hid (show plA 6 i = i * 192 ∧ plE 6 i = 0 from ⟨(if_neg (by omega)).trans (if_neg (show ¬ (i < 0 ∨ 5 ≤ i) by omega)), (if_neg (by omega)).trans (if_neg (show ¬ (i < 0 ∨ 5 ≤ i) by omega))⟩)
      clear h1 h2
      go_enter Tryd.func21, Tryd.ntmps21
      go_wp2_with (first | (go_at_call 25; refine (is_yes _ _ (by omega) (by omega)).mono ?_; rintro e w' ⟨rfl, rfl⟩) | (go_at_call 12; refine (blocks_val 6 5 rfl _ hT).mono ?_; rintro e w' ⟨rfl, rfl⟩))
      go_ret2
      exact ⟨ret_two H.out, rfl⟩
set_option maxHeartbeats 400000 in
theorem place_7 (i : Int) (w : World) (hT : Tab w) : Calls Tryd.prog 21 #[.int .i64 7, .int .i64 i] w fun e w' => e = .returned (.tuple #[.int .i64 (plA 7 i), .int .i64 (plE 7 i)]) ∧ w = w' := by
  have hc := cells hT
  by_cases h1 : i < 0
  · have H := Lib.hid (show plA 7 i = 0 ∧ plE 7 i = 6 from ⟨(if_neg (by omega)).trans (if_pos (.inl h1)), (if_neg (by omega)).trans (if_pos (.inl h1))⟩)
    go_enter Tryd.func21, Tryd.ntmps21
    go_wp2_with (first | (go_at_call 25; refine (is_yes _ _ (by omega) (by omega)).mono ?_; rintro e w' ⟨rfl, rfl⟩) | (go_at_call 12; refine (blocks_val 7 4 rfl _ hT).mono ?_; rintro e w' ⟨rfl, rfl⟩))
    go_ret2
    exact ⟨ret_two H.out, rfl⟩
  · by_cases h2 : 4 ≤ i
    · have H := Lib.hid (show plA 7 i = 0 ∧ plE 7 i = 6 from ⟨(if_neg (by omega)).trans (if_pos (.inr h2)), (if_neg (by omega)).trans (if_pos (.inr h2))⟩)
      have h3 : 0 ≤ i := by omega
      clear h1
      go_enter Tryd.func21, Tryd.ntmps21
      go_wp2_with (first | (go_at_call 25; refine (is_yes _ _ (by omega) (by omega)).mono ?_; rintro e w' ⟨rfl, rfl⟩) | (go_at_call 12; refine (blocks_val 7 4 rfl _ hT).mono ?_; rintro e w' ⟨rfl, rfl⟩))
      go_ret2
      exact ⟨ret_two H.out, rfl⟩
    · have h3 : 0 ≤ i := by omega
      have h4 : i < 4 := by omega
      have H := Lib.hid (show plA 7 i = i * 256 ∧ plE 7 i = 0 from ⟨(if_neg (by omega)).trans (if_neg (show ¬ (i < 0 ∨ 4 ≤ i) by omega)), (if_neg (by omega)).trans (if_neg (show ¬ (i < 0 ∨ 4 ≤ i) by omega))⟩)
      clear h1 h2
      go_enter Tryd.func21, Tryd.ntmps21
      go_wp2_with (first | (go_at_call 25; refine (is_yes _ _ (by omega) (by omega)).mono ?_; rintro e w' ⟨rfl, rfl⟩) | (go_at_call 12; refine (blocks_val 7 4 rfl _ hT).mono ?_; rintro e w' ⟨rfl, rfl⟩))
      go_ret2
      exact ⟨ret_two H.out, rfl⟩
set_option maxHeartbeats 400000 in
theorem place_8 (i : Int) (w : World) (hT : Tab w) : Calls Tryd.prog 21 #[.int .i64 8, .int .i64 i] w fun e w' => e = .returned (.tuple #[.int .i64 (plA 8 i), .int .i64 (plE 8 i)]) ∧ w = w' := by
  have hc := cells hT
  by_cases h1 : i < 0
  · have H := Lib.hid (show plA 8 i = 0 ∧ plE 8 i = 6 from ⟨(if_neg (by omega)).trans (if_pos (.inl h1)), (if_neg (by omega)).trans (if_pos (.inl h1))⟩)
    go_enter Tryd.func21, Tryd.ntmps21
    go_wp2_with (first | (go_at_call 25; refine (is_yes _ _ (by omega) (by omega)).mono ?_; rintro e w' ⟨rfl, rfl⟩) | (go_at_call 12; refine (blocks_val 8 2 rfl _ hT).mono ?_; rintro e w' ⟨rfl, rfl⟩))
    go_ret2
    exact ⟨ret_two H.out, rfl⟩
  · by_cases h2 : 2 ≤ i
    · have H := Lib.hid (show plA 8 i = 0 ∧ plE 8 i = 6 from ⟨(if_neg (by omega)).trans (if_pos (.inr h2)), (if_neg (by omega)).trans (if_pos (.inr h2))⟩)
      have h3 : 0 ≤ i := by omega
      clear h1
      go_enter Tryd.func21, Tryd.ntmps21
      go_wp2_with (first | (go_at_call 25; refine (is_yes _ _ (by omega) (by omega)).mono ?_; rintro e w' ⟨rfl, rfl⟩) | (go_at_call 12; refine (blocks_val 8 2 rfl _ hT).mono ?_; rintro e w' ⟨rfl, rfl⟩))
      go_ret2
      exact ⟨ret_two H.out, rfl⟩
    · have h3 : 0 ≤ i := by omega
      have h4 : i < 2 := by omega
      have H := Lib.hid (show plA 8 i = i * 384 ∧ plE 8 i = 0 from ⟨(if_neg (by omega)).trans (if_neg (show ¬ (i < 0 ∨ 2 ≤ i) by omega)), (if_neg (by omega)).trans (if_neg (show ¬ (i < 0 ∨ 2 ≤ i) by omega))⟩)
      clear h1 h2
      go_enter Tryd.func21, Tryd.ntmps21
      go_wp2_with (first | (go_at_call 25; refine (is_yes _ _ (by omega) (by omega)).mono ?_; rintro e w' ⟨rfl, rfl⟩) | (go_at_call 12; refine (blocks_val 8 2 rfl _ hT).mono ?_; rintro e w' ⟨rfl, rfl⟩))
      go_ret2
      exact ⟨ret_two H.out, rfl⟩
set_option maxHeartbeats 400000 in
theorem place_9 (i : Int) (w : World) (hT : Tab w) : Calls Tryd.prog 21 #[.int .i64 9, .int .i64 i] w fun e w' => e = .returned (.tuple #[.int .i64 (plA 9 i), .int .i64 (plE 9 i)]) ∧ w = w' := by
  have hc := cells hT
  by_cases h1 : i < 0
  · have H := Lib.hid (show plA 9 i = 0 ∧ plE 9 i = 6 from ⟨(if_neg (by omega)).trans (if_pos (.inl h1)), (if_neg (by omega)).trans (if_pos (.inl h1))⟩)
    go_enter Tryd.func21, Tryd.ntmps21
    go_wp2_with (first | (go_at_call 25; refine (is_yes _ _ (by omega) (by omega)).mono ?_; rintro e w' ⟨rfl, rfl⟩) | (go_at_call 12; refine (blocks_val 9 2 rfl _ hT).mono ?_; rintro e w' ⟨rfl, rfl⟩))
    go_ret2
    exact ⟨ret_two H.out, rfl⟩
  · by_cases h2 : 2 ≤ i
    · have H := Lib.hid (show plA 9 i = 0 ∧ plE 9 i = 6 from ⟨(if_neg (by omega)).trans (if_pos (.inr h2)), (if_neg (by omega)).trans (if_pos (.inr h2))⟩)
      have h3 : 0 ≤ i := by omega
      clear h1
      go_enter Tryd.func21, Tryd.ntmps21
      go_wp2_with (first | (go_at_call 25; refine (is_yes _ _ (by omega) (by omega)).mono ?_; rintro e w' ⟨rfl, rfl⟩) | (go_at_call 12; refine (blocks_val 9 2 rfl _ hT).mono ?_; rintro e w' ⟨rfl, rfl⟩))
      go_ret2
      exact ⟨ret_two H.out, rfl⟩
    · have h3 : 0 ≤ i := by omega
      have h4 : i < 2 := by omega
      have H := Lib.hid (show plA 9 i = i * 512 ∧ plE 9 i = 0 from ⟨(if_neg (by omega)).trans (if_neg (show ¬ (i < 0 ∨ 2 ≤ i) by omega)), (if_neg (by omega)).trans (if_neg (show ¬ (i < 0 ∨ 2 ≤ i) by omega))⟩)
      clear h1 h2
      go_enter Tryd.func21, Tryd.ntmps21
      go_wp2_with (first | (go_at_call 25; refine (is_yes _ _ (by omega) (by omega)).mono ?_; rintro e w' ⟨rfl, rfl⟩) | (go_at_call 12; refine (blocks_val 9 2 rfl _ hT).mono ?_; rintro e w' ⟨rfl, rfl⟩))
      go_ret2
      exact ⟨ret_two H.out, rfl⟩
theorem place_any (c i : Int) (w : World) (hT : Tab w) : Calls Tryd.prog 21 #[.int .i64 c, .int .i64 i] w fun e w' => e = .returned (.tuple #[.int .i64 (plA c i), .int .i64 (plE c i)]) ∧ w = w' := by
  rcases c_cases c with h | h | rfl | rfl | rfl | rfl | rfl | rfl | rfl | rfl | rfl
  · exact place_out c i w (.inl h)
  · exact place_out c i w (.inr h)
  · exact place_1 i w hT
  · exact place_2 i w hT
  · exact place_3 i w hT
  · exact place_4 i w hT
  · exact place_5 i w hT
  · exact place_6 i w hT
  · exact place_7 i w hT
  · exact place_8 i w hT
  · exact place_9 i w hT
theorem place_val (c i a x : Int) (ha : plA c i = a) (hx : plE c i = x) (w : World) (hT : Tab w) : Calls Tryd.prog 21 #[.int .i64 c, .int .i64 i] w fun e w' => e = .returned (.tuple #[.int .i64 a, .int .i64 x]) ∧ w = w' := ha ▸ hx ▸ place_any c i w hT

theorem rplace_out (c i : Int) (w : World) (h : c < 1 ∨ 9 < c) : Calls Tryd.prog 22 #[.int .i64 c, .int .i64 i] w fun e w' => e = .returned (.tuple #[.int .i64 (plA c i), .int .i64 (plE c i)]) ∧ w = w' := by
  have H := Lib.hid (show plA c i = 0 ∧ plE c i = 2 from ⟨if_pos h, if_pos h⟩)
  go_enter Tryd.func22, Tryd.ntmps22
  go_wp2_with (go_at_call 11; refine (rsize_val _ 0 (sz_out _ h) _).mono ?_; rintro e w' ⟨rfl, rfl⟩)
  go_ret2
  exact ⟨ret_two H.out, rfl⟩
set_option maxHeartbeats 400000 in
theorem rplace_1 (i : Int) (w : World) : Calls Tryd.prog 22 #[.int .i64 1, .int .i64 i] w fun e w' => e = .returned (.tuple #[.int .i64 (plA 1 i), .int .i64 (plE 1 i)]) ∧ w = w' := by
  by_cases h1 : i < 0
  · have H := Lib.hid (show plA 1 i = 0 ∧ plE 1 i = 6 from ⟨(if_neg (by omega)).trans (if_pos (.inl h1)), (if_neg (by omega)).trans (if_pos (.inl h1))⟩)
    go_enter Tryd.func22, Tryd.ntmps22
    go_wp2_with (first | (go_at_call 11; refine (rsize_val 1 32 rfl _).mono ?_; rintro e w' ⟨rfl, rfl⟩) | (go_at_call 13; refine (rblocks_val 1 32 rfl _).mono ?_; rintro e w' ⟨rfl, rfl⟩))
    go_ret2
    exact ⟨ret_two H.out, rfl⟩
  · by_cases h2 : 32 ≤ i
    · have H := Lib.hid (show plA 1 i = 0 ∧ plE 1 i = 6 from ⟨(if_neg (by omega)).trans (if_pos (.inr h2)), (if_neg (by omega)).trans (if_pos (.inr h2))⟩)
      have h3 : 0 ≤ i := by omega
      clear h1
      go_enter Tryd.func22, Tryd.ntmps22
      go_wp2_with (first | (go_at_call 11; refine (rsize_val 1 32 rfl _).mono ?_; rintro e w' ⟨rfl, rfl⟩) | (go_at_call 13; refine (rblocks_val 1 32 rfl _).mono ?_; rintro e w' ⟨rfl, rfl⟩))
      go_ret2
      exact ⟨ret_two H.out, rfl⟩
    · have h3 : 0 ≤ i := by omega
      have h4 : i < 32 := by omega
      have H := Lib.hid (show plA 1 i = i * 32 ∧ plE 1 i = 0 from ⟨(if_neg (by omega)).trans (if_neg (show ¬ (i < 0 ∨ 32 ≤ i) by omega)), (if_neg (by omega)).trans (if_neg (show ¬ (i < 0 ∨ 32 ≤ i) by omega))⟩)
      clear h1 h2
      go_enter Tryd.func22, Tryd.ntmps22
      go_wp2_with (first | (go_at_call 11; refine (rsize_val 1 32 rfl _).mono ?_; rintro e w' ⟨rfl, rfl⟩) | (go_at_call 13; refine (rblocks_val 1 32 rfl _).mono ?_; rintro e w' ⟨rfl, rfl⟩))
      go_ret2
      exact ⟨ret_two H.out, rfl⟩
set_option maxHeartbeats 400000 in
theorem rplace_2 (i : Int) (w : World) : Calls Tryd.prog 22 #[.int .i64 2, .int .i64 i] w fun e w' => e = .returned (.tuple #[.int .i64 (plA 2 i), .int .i64 (plE 2 i)]) ∧ w = w' := by
  by_cases h1 : i < 0
  · have H := Lib.hid (show plA 2 i = 0 ∧ plE 2 i = 6 from ⟨(if_neg (by omega)).trans (if_pos (.inl h1)), (if_neg (by omega)).trans (if_pos (.inl h1))⟩)
    go_enter Tryd.func22, Tryd.ntmps22
    go_wp2_with (first | (go_at_call 11; refine (rsize_val 2 48 rfl _).mono ?_; rintro e w' ⟨rfl, rfl⟩) | (go_at_call 13; refine (rblocks_val 2 21 rfl _).mono ?_; rintro e w' ⟨rfl, rfl⟩))
    go_ret2
    exact ⟨ret_two H.out, rfl⟩
  · by_cases h2 : 21 ≤ i
    · have H := Lib.hid (show plA 2 i = 0 ∧ plE 2 i = 6 from ⟨(if_neg (by omega)).trans (if_pos (.inr h2)), (if_neg (by omega)).trans (if_pos (.inr h2))⟩)
      have h3 : 0 ≤ i := by omega
      clear h1
      go_enter Tryd.func22, Tryd.ntmps22
      go_wp2_with (first | (go_at_call 11; refine (rsize_val 2 48 rfl _).mono ?_; rintro e w' ⟨rfl, rfl⟩) | (go_at_call 13; refine (rblocks_val 2 21 rfl _).mono ?_; rintro e w' ⟨rfl, rfl⟩))
      go_ret2
      exact ⟨ret_two H.out, rfl⟩
    · have h3 : 0 ≤ i := by omega
      have h4 : i < 21 := by omega
      have H := Lib.hid (show plA 2 i = i * 48 ∧ plE 2 i = 0 from ⟨(if_neg (by omega)).trans (if_neg (show ¬ (i < 0 ∨ 21 ≤ i) by omega)), (if_neg (by omega)).trans (if_neg (show ¬ (i < 0 ∨ 21 ≤ i) by omega))⟩)
      clear h1 h2
      go_enter Tryd.func22, Tryd.ntmps22
      go_wp2_with (first | (go_at_call 11; refine (rsize_val 2 48 rfl _).mono ?_; rintro e w' ⟨rfl, rfl⟩) | (go_at_call 13; refine (rblocks_val 2 21 rfl _).mono ?_; rintro e w' ⟨rfl, rfl⟩))
      go_ret2
      exact ⟨ret_two H.out, rfl⟩
set_option maxHeartbeats 400000 in
theorem rplace_3 (i : Int) (w : World) : Calls Tryd.prog 22 #[.int .i64 3, .int .i64 i] w fun e w' => e = .returned (.tuple #[.int .i64 (plA 3 i), .int .i64 (plE 3 i)]) ∧ w = w' := by
  by_cases h1 : i < 0
  · have H := Lib.hid (show plA 3 i = 0 ∧ plE 3 i = 6 from ⟨(if_neg (by omega)).trans (if_pos (.inl h1)), (if_neg (by omega)).trans (if_pos (.inl h1))⟩)
    go_enter Tryd.func22, Tryd.ntmps22
    go_wp2_with (first | (go_at_call 11; refine (rsize_val 3 64 rfl _).mono ?_; rintro e w' ⟨rfl, rfl⟩) | (go_at_call 13; refine (rblocks_val 3 16 rfl _).mono ?_; rintro e w' ⟨rfl, rfl⟩))
    go_ret2
    exact ⟨ret_two H.out, rfl⟩
  · by_cases h2 : 16 ≤ i
    · have H := Lib.hid (show plA 3 i = 0 ∧ plE 3 i = 6 from ⟨(if_neg (by omega)).trans (if_pos (.inr h2)), (if_neg (by omega)).trans (if_pos (.inr h2))⟩)
      have h3 : 0 ≤ i := by omega
      clear h1
      go_enter Tryd.func22, Tryd.ntmps22
      go_wp2_with (first | (go_at_call 11; refine (rsize_val 3 64 rfl _).mono ?_; rintro e w' ⟨rfl, rfl⟩) | (go_at_call 13; refine (rblocks_val 3 16 rfl _).mono ?_; rintro e w' ⟨rfl, rfl⟩))
      go_ret2
      exact ⟨ret_two H.out, rfl⟩
    · have h3 : 0 ≤ i := by omega
      have h4 : i < 16 := by omega
      have H := Lib.hid (show plA 3 i = i * 64 ∧ plE 3 i = 0 from ⟨(if_neg (by omega)).trans (if_neg (show ¬ (i < 0 ∨ 16 ≤ i) by omega)), (if_neg (by omega)).trans (if_neg (show ¬ (i < 0 ∨ 16 ≤ i) by omega))⟩)
      clear h1 h2
      go_enter Tryd.func22, Tryd.ntmps22
      go_wp2_with (first | (go_at_call 11; refine (rsize_val 3 64 rfl _).mono ?_; rintro e w' ⟨rfl, rfl⟩) | (go_at_call 13; refine (rblocks_val 3 16 rfl _).mono ?_; rintro e w' ⟨rfl, rfl⟩))
      go_ret2
      exact ⟨ret_two H.out, rfl⟩
set_option maxHeartbeats 400000 in
theorem rplace_4 (i : Int) (w : World) : Calls Tryd.prog 22 #[.int .i64 4, .int .i64 i] w fun e w' => e = .returned (.tuple #[.int .i64 (plA 4 i), .int .i64 (plE 4 i)]) ∧ w = w' := by
  by_cases h1 : i < 0
  · have H := Lib.hid (show plA 4 i = 0 ∧ plE 4 i = 6 from ⟨(if_neg (by omega)).trans (if_pos (.inl h1)), (if_neg (by omega)).trans (if_pos (.inl h1))⟩)
    go_enter Tryd.func22, Tryd.ntmps22
    go_wp2_with (first | (go_at_call 11; refine (rsize_val 4 96 rfl _).mono ?_; rintro e w' ⟨rfl, rfl⟩) | (go_at_call 13; refine (rblocks_val 4 10 rfl _).mono ?_; rintro e w' ⟨rfl, rfl⟩))
    go_ret2
    exact ⟨ret_two H.out, rfl⟩
  · by_cases h2 : 10 ≤ i
    · have H := Lib.hid (show plA 4 i = 0 ∧ plE 4 i = 6 from ⟨(if_neg (by omega)).trans (if_pos (.inr h2)), (if_neg (by omega)).trans (if_pos (.inr h2))⟩)
      have h3 : 0 ≤ i := by omega
      clear h1
      go_enter Tryd.func22, Tryd.ntmps22
      go_wp2_with (first | (go_at_call 11; refine (rsize_val 4 96 rfl _).mono ?_; rintro e w' ⟨rfl, rfl⟩) | (go_at_call 13; refine (rblocks_val 4 10 rfl _).mono ?_; rintro e w' ⟨rfl, rfl⟩))
      go_ret2
      exact ⟨ret_two H.out, rfl⟩
    · have h3 : 0 ≤ i := by omega
      have h4 : i < 10 := by omega
      have H := Lib.hid (show plA 4 i = i * 96 ∧ plE 4 i = 0 from ⟨(if_neg (by omega)).trans (if_neg (show ¬ (i < 0 ∨ 10 ≤ i) by omega)), (if_neg (by omega)).trans (if_neg (show ¬ (i < 0 ∨ 10 ≤ i) by omega))⟩)
      clear h1 h2
      go_enter Tryd.func22, Tryd.ntmps22
      go_wp2_with (first | (go_at_call 11; refine (rsize_val 4 96 rfl _).mono ?_; rintro e w' ⟨rfl, rfl⟩) | (go_at_call 13; refine (rblocks_val 4 10 rfl _).mono ?_; rintro e w' ⟨rfl, rfl⟩))
      go_ret2
      exact ⟨ret_two H.out, rfl⟩
set_option maxHeartbeats 400000 in
theorem rplace_5 (i : Int) (w : World) : Calls Tryd.prog 22 #[.int .i64 5, .int .i64 i] w fun e w' => e = .returned (.tuple #[.int .i64 (plA 5 i), .int .i64 (plE 5 i)]) ∧ w = w' := by
  by_cases h1 : i < 0
  · have H := Lib.hid (show plA 5 i = 0 ∧ plE 5 i = 6 from ⟨(if_neg (by omega)).trans (if_pos (.inl h1)), (if_neg (by omega)).trans (if_pos (.inl h1))⟩)
    go_enter Tryd.func22, Tryd.ntmps22
    go_wp2_with (first | (go_at_call 11; refine (rsize_val 5 128 rfl _).mono ?_; rintro e w' ⟨rfl, rfl⟩) | (go_at_call 13; refine (rblocks_val 5 8 rfl _).mono ?_; rintro e w' ⟨rfl, rfl⟩))
    go_ret2
    exact ⟨ret_two H.out, rfl⟩
  · by_cases h2 : 8 ≤ i
    · have H := Lib.hid (show plA 5 i = 0 ∧ plE 5 i = 6 from ⟨(if_neg (by omega)).trans (if_pos (.inr h2)), (if_neg (by omega)).trans (if_pos (.inr h2))⟩)
      have h3 : 0 ≤ i := by omega
      clear h1
      go_enter Tryd.func22, Tryd.ntmps22
      go_wp2_with (first | (go_at_call 11; refine (rsize_val 5 128 rfl _).mono ?_; rintro e w' ⟨rfl, rfl⟩) | (go_at_call 13; refine (rblocks_val 5 8 rfl _).mono ?_; rintro e w' ⟨rfl, rfl⟩))
      go_ret2
      exact ⟨ret_two H.out, rfl⟩
    · have h3 : 0 ≤ i := by omega
      have h4 : i < 8 := by omega
      have H := Lib.hid (show plA 5 i = i * 128 ∧ plE 5 i = 0 from ⟨(if_neg (by omega)).trans (if_neg (show ¬ (i < 0 ∨ 8 ≤ i) by omega)), (if_neg (by omega)).trans (if_neg (show ¬ (i < 0 ∨ 8 ≤ i) by omega))⟩)
      clear h1 h2
      go_enter Tryd.func22, Tryd.ntmps22
      go_wp2_with (first | (go_at_call 11; refine (rsize_val 5 128 rfl _).mono ?_; rintro e w' ⟨rfl, rfl⟩) | (go_at_call 13; refine (rblocks_val 5 8 rfl _).mono ?_; rintro e w' ⟨rfl, rfl⟩))
      go_ret2
      exact ⟨ret_two H.out, rfl⟩
set_option maxHeartbeats 400000 in
theorem rplace_6 (i : Int) (w : World) : Calls Tryd.prog 22 #[.int .i64 6, .int .i64 i] w fun e w' => e = .returned (.tuple #[.int .i64 (plA 6 i), .int .i64 (plE 6 i)]) ∧ w = w' := by
  by_cases h1 : i < 0
  · have H := Lib.hid (show plA 6 i = 0 ∧ plE 6 i = 6 from ⟨(if_neg (by omega)).trans (if_pos (.inl h1)), (if_neg (by omega)).trans (if_pos (.inl h1))⟩)
    go_enter Tryd.func22, Tryd.ntmps22
    go_wp2_with (first | (go_at_call 11; refine (rsize_val 6 192 rfl _).mono ?_; rintro e w' ⟨rfl, rfl⟩) | (go_at_call 13; refine (rblocks_val 6 5 rfl _).mono ?_; rintro e w' ⟨rfl, rfl⟩))
    go_ret2
    exact ⟨ret_two H.out, rfl⟩
  · by_cases h2 : 5 ≤ i
    · have H := Lib.hid (show plA 6 i = 0 ∧ plE 6 i = 6 from ⟨(if_neg (by omega)).trans (if_pos (.inr h2)), (if_neg (by omega)).trans (if_pos (.inr h2))⟩)
      have h3 : 0 ≤ i := by omega
      clear h1
      go_enter Tryd.func22, Tryd.ntmps22
      go_wp2_with (first | (go_at_call 11; refine (rsize_val 6 192 rfl _).mono ?_; rintro e w' ⟨rfl, rfl⟩) | (go_at_call 13; refine (rblocks_val 6 5 rfl _).mono ?_; rintro e w' ⟨rfl, rfl⟩))
      go_ret2
      exact ⟨ret_two H.out, rfl⟩
    · have h3 : 0 ≤ i := by omega
      have h4 : i < 5 := by omega
      have H := Lib.hid (show plA 6 i = i * 192 ∧ plE 6 i = 0 from ⟨(if_neg (by omega)).trans (if_neg (show ¬ (i < 0 ∨ 5 ≤ i) by omega)), (if_neg (by omega)).trans (if_neg (show ¬ (i < 0 ∨ 5 ≤ i) by omega))⟩)
      clear h1 h2
      go_enter Tryd.func22, Tryd.ntmps22
      go_wp2_with (first | (go_at_call 11; refine (rsize_val 6 192 rfl _).mono ?_; rintro e w' ⟨rfl, rfl⟩) | (go_at_call 13; refine (rblocks_val 6 5 rfl _).mono ?_; rintro e w' ⟨rfl, rfl⟩))
      go_ret2
      exact ⟨ret_two H.out, rfl⟩
set_option maxHeartbeats 400000 in
theorem rplace_7 (i : Int) (w : World) : Calls Tryd.prog 22 #[.int .i64 7, .int .i64 i] w fun e w' => e = .returned (.tuple #[.int .i64 (plA 7 i), .int .i64 (plE 7 i)]) ∧ w = w' := by
  by_cases h1 : i < 0
  · have H := Lib.hid (show plA 7 i = 0 ∧ plE 7 i = 6 from ⟨(if_neg (by omega)).trans (if_pos (.inl h1)), (if_neg (by omega)).trans (if_pos (.inl h1))⟩)
    go_enter Tryd.func22, Tryd.ntmps22
    go_wp2_with (first | (go_at_call 11; refine (rsize_val 7 256 rfl _).mono ?_; rintro e w' ⟨rfl, rfl⟩) | (go_at_call 13; refine (rblocks_val 7 4 rfl _).mono ?_; rintro e w' ⟨rfl, rfl⟩))
    go_ret2
    exact ⟨ret_two H.out, rfl⟩
  · by_cases h2 : 4 ≤ i
    · have H := Lib.hid (show plA 7 i = 0 ∧ plE 7 i = 6 from ⟨(if_neg (by omega)).trans (if_pos (.inr h2)), (if_neg (by omega)).trans (if_pos (.inr h2))⟩)
      have h3 : 0 ≤ i := by omega
      clear h1
      go_enter Tryd.func22, Tryd.ntmps22
      go_wp2_with (first | (go_at_call 11; refine (rsize_val 7 256 rfl _).mono ?_; rintro e w' ⟨rfl, rfl⟩) | (go_at_call 13; refine (rblocks_val 7 4 rfl _).mono ?_; rintro e w' ⟨rfl, rfl⟩))
      go_ret2
      exact ⟨ret_two H.out, rfl⟩
    · have h3 : 0 ≤ i := by omega
      have h4 : i < 4 := by omega
      have H := Lib.hid (show plA 7 i = i * 256 ∧ plE 7 i = 0 from ⟨(if_neg (by omega)).trans (if_neg (show ¬ (i < 0 ∨ 4 ≤ i) by omega)), (if_neg (by omega)).trans (if_neg (show ¬ (i < 0 ∨ 4 ≤ i) by omega))⟩)
      clear h1 h2
      go_enter Tryd.func22, Tryd.ntmps22
      go_wp2_with (first | (go_at_call 11; refine (rsize_val 7 256 rfl _).mono ?_; rintro e w' ⟨rfl, rfl⟩) | (go_at_call 13; refine (rblocks_val 7 4 rfl _).mono ?_; rintro e w' ⟨rfl, rfl⟩))
      go_ret2
      exact ⟨ret_two H.out, rfl⟩
set_option maxHeartbeats 400000 in
theorem rplace_8 (i : Int) (w : World) : Calls Tryd.prog 22 #[.int .i64 8, .int .i64 i] w fun e w' => e = .returned (.tuple #[.int .i64 (plA 8 i), .int .i64 (plE 8 i)]) ∧ w = w' := by
  by_cases h1 : i < 0
  · have H := Lib.hid (show plA 8 i = 0 ∧ plE 8 i = 6 from ⟨(if_neg (by omega)).trans (if_pos (.inl h1)), (if_neg (by omega)).trans (if_pos (.inl h1))⟩)
    go_enter Tryd.func22, Tryd.ntmps22
    go_wp2_with (first | (go_at_call 11; refine (rsize_val 8 384 rfl _).mono ?_; rintro e w' ⟨rfl, rfl⟩) | (go_at_call 13; refine (rblocks_val 8 2 rfl _).mono ?_; rintro e w' ⟨rfl, rfl⟩))
    go_ret2
    exact ⟨ret_two H.out, rfl⟩
  · by_cases h2 : 2 ≤ i
    · have H := Lib.hid (show plA 8 i = 0 ∧ plE 8 i = 6 from ⟨(if_neg (by omega)).trans (if_pos (.inr h2)), (if_neg (by omega)).trans (if_pos (.inr h2))⟩)
      have h3 : 0 ≤ i := by omega
      clear h1
      go_enter Tryd.func22, Tryd.ntmps22
      go_wp2_with (first | (go_at_call 11; refine (rsize_val 8 384 rfl _).mono ?_; rintro e w' ⟨rfl, rfl⟩) | (go_at_call 13; refine (rblocks_val 8 2 rfl _).mono ?_; rintro e w' ⟨rfl, rfl⟩))
      go_ret2
      exact ⟨ret_two H.out, rfl⟩
    · have h3 : 0 ≤ i := by omega
      have h4 : i < 2 := by omega
      have H := Lib.hid (show plA 8 i = i * 384 ∧ plE 8 i = 0 from ⟨(if_neg (by omega)).trans (if_neg (show ¬ (i < 0 ∨ 2 ≤ i) by omega)), (if_neg (by omega)).trans (if_neg (show ¬ (i < 0 ∨ 2 ≤ i) by omega))⟩)
      clear h1 h2
      go_enter Tryd.func22, Tryd.ntmps22
      go_wp2_with (first | (go_at_call 11; refine (rsize_val 8 384 rfl _).mono ?_; rintro e w' ⟨rfl, rfl⟩) | (go_at_call 13; refine (rblocks_val 8 2 rfl _).mono ?_; rintro e w' ⟨rfl, rfl⟩))
      go_ret2
      exact ⟨ret_two H.out, rfl⟩
set_option maxHeartbeats 400000 in
theorem rplace_9 (i : Int) (w : World) : Calls Tryd.prog 22 #[.int .i64 9, .int .i64 i] w fun e w' => e = .returned (.tuple #[.int .i64 (plA 9 i), .int .i64 (plE 9 i)]) ∧ w = w' := by
  by_cases h1 : i < 0
  · have H := Lib.hid (show plA 9 i = 0 ∧ plE 9 i = 6 from ⟨(if_neg (by omega)).trans (if_pos (.inl h1)), (if_neg (by omega)).trans (if_pos (.inl h1))⟩)
    go_enter Tryd.func22, Tryd.ntmps22
    go_wp2_with (first | (go_at_call 11; refine (rsize_val 9 512 rfl _).mono ?_; rintro e w' ⟨rfl, rfl⟩) | (go_at_call 13; refine (rblocks_val 9 2 rfl _).mono ?_; rintro e w' ⟨rfl, rfl⟩))
    go_ret2
    exact ⟨ret_two H.out, rfl⟩
  · by_cases h2 : 2 ≤ i
    · have H := Lib.hid (show plA 9 i = 0 ∧ plE 9 i = 6 from ⟨(if_neg (by omega)).trans (if_pos (.inr h2)), (if_neg (by omega)).trans (if_pos (.inr h2))⟩)
      have h3 : 0 ≤ i := by omega
      clear h1
      go_enter Tryd.func22, Tryd.ntmps22
      go_wp2_with (first | (go_at_call 11; refine (rsize_val 9 512 rfl _).mono ?_; rintro e w' ⟨rfl, rfl⟩) | (go_at_call 13; refine (rblocks_val 9 2 rfl _).mono ?_; rintro e w' ⟨rfl, rfl⟩))
      go_ret2
      exact ⟨ret_two H.out, rfl⟩
    · have h3 : 0 ≤ i := by omega
      have h4 : i < 2 := by omega
      have H := Lib.hid (show plA 9 i = i * 512 ∧ plE 9 i = 0 from ⟨(if_neg (by omega)).trans (if_neg (show ¬ (i < 0 ∨ 2 ≤ i) by omega)), (if_neg (by omega)).trans (if_neg (show ¬ (i < 0 ∨ 2 ≤ i) by omega))⟩)
      clear h1 h2
      go_enter Tryd.func22, Tryd.ntmps22
      go_wp2_with (first | (go_at_call 11; refine (rsize_val 9 512 rfl _).mono ?_; rintro e w' ⟨rfl, rfl⟩) | (go_at_call 13; refine (rblocks_val 9 2 rfl _).mono ?_; rintro e w' ⟨rfl, rfl⟩))
      go_ret2
      exact ⟨ret_two H.out, rfl⟩
theorem rplace_any (c i : Int) (w : World) : Calls Tryd.prog 22 #[.int .i64 c, .int .i64 i] w fun e w' => e = .returned (.tuple #[.int .i64 (plA c i), .int .i64 (plE c i)]) ∧ w = w' := by
  rcases c_cases c with h | h | rfl | rfl | rfl | rfl | rfl | rfl | rfl | rfl | rfl
  · exact rplace_out c i w (.inl h)
  · exact rplace_out c i w (.inr h)
  · exact rplace_1 i w
  · exact rplace_2 i w
  · exact rplace_3 i w
  · exact rplace_4 i w
  · exact rplace_5 i w
  · exact rplace_6 i w
  · exact rplace_7 i w
  · exact rplace_8 i w
  · exact rplace_9 i w
theorem rplace_val (c i a x : Int) (ha : plA c i = a) (hx : plE c i = x) (w : World) : Calls Tryd.prog 22 #[.int .i64 c, .int .i64 i] w fun e w' => e = .returned (.tuple #[.int .i64 a, .int .i64 x]) ∧ w = w' := ha ▸ hx ▸ rplace_any c i w

theorem index_out (c t : Int) (w : World) (h : c < 1 ∨ 9 < c) : Calls Tryd.prog 23 #[.int .i64 c, .int .i64 t] w fun e w' => e = .returned (.tuple #[.int .i64 (ixI c t), .bool (ixB c t)]) ∧ QQ w w' := by
  have H := Lib.hid (ix_no (c := c) (t := t) (by omega))
  go_enter Tryd.func23, Tryd.ntmps23
  go_wp2_with fail
  go_quiet ((go_at_call 25; exact quiet_of_eq (is_no _ _ h)))
  go_wp2
  go_ret2
  exact ⟨ret_ib H.out, _, rfl⟩
set_option maxHeartbeats 800000 in
theorem index_1_no (t : Int) (ht : t ≤ 9223372036854775807) (w : World) (hT : Tab w) (h : t < 0 ∨ (0 ≤ t ∧ t % 32 ≠ 0) ∨ (0 ≤ t ∧ t % 32 = 0 ∧ 32 ≤ t / 32)) : Calls Tryd.prog 23 #[.int .i64 1, .int .i64 t] w fun e w' => e = .returned (.tuple #[.int .i64 (ixI 1 t), .bool (ixB 1 t)]) ∧ QQ w w' := by
  have hc := cells hT
  rcases h with h | ⟨h0, h⟩ | ⟨h0, h, h2⟩
  · have H := Lib.hid (ix_no (c := 1) (t := t) (fun k => by omega))
    go_enter Tryd.func23, Tryd.ntmps23
    go_wp2_with fail
    go_quiet ((first | (go_at_call 25; exact quiet_of_eq (is_yes _ _ (by omega) (by omega))) | (go_at_call 12; exact quiet_of_eq (blocks_val 1 32 rfl _ (hT.q ⟨_, rfl⟩)))))
    go_wp2
    go_ret2
    exact ⟨ret_ib H.out, _, rfl⟩
  · have H := Lib.hid (ix_no (c := 1) (t := t) (fun k => h k.2.2.1))
    have hd : decide (t < 0) = false := by simpa using h0
    have hb : (t % 32 != 0) = true := by simpa using h
    clear h
    go_enter Tryd.func23, Tryd.ntmps23
    go_wp2_with fail
    go_quiet ((first | (go_at_call 25; exact quiet_of_eq (is_yes _ _ (by omega) (by omega))) | (go_at_call 12; exact quiet_of_eq (blocks_val 1 32 rfl _ (hT.q ⟨_, rfl⟩)))))
    go_wp2
    go_ret2
    exact ⟨ret_ib H.out, _, rfl⟩
  · have H := Lib.hid (ix_no (c := 1) (t := t) (fun k => absurd (show t / 32 < 32 from k.2.2.2) (by omega)))
    have hd : decide (t < 0) = false := by simpa using h0
    have hb : (t % 32 != 0) = false := by simpa using h
    have he : decide (32 ≤ t / 32) = true := by simpa using h2
    clear h
    go_enter Tryd.func23, Tryd.ntmps23
    go_wp2_with fail
    go_quiet ((first | (go_at_call 25; exact quiet_of_eq (is_yes _ _ (by omega) (by omega))) | (go_at_call 12; exact quiet_of_eq (blocks_val 1 32 rfl _ (hT.q ⟨_, rfl⟩)))))
    go_wp2
    go_ret2
    exact ⟨ret_ib H.out, _, rfl⟩
set_option maxHeartbeats 800000 in
theorem index_1_yes (t : Int) (ht : t ≤ 9223372036854775807) (w : World) (hT : Tab w) (h0 : 0 ≤ t) (h : t % 32 = 0) (h2 : t / 32 < 32) : Calls Tryd.prog 23 #[.int .i64 1, .int .i64 t] w fun e w' => e = .returned (.tuple #[.int .i64 (ixI 1 t), .bool (ixB 1 t)]) ∧ QQ w w' := by
  have hc := cells hT
  have H := Lib.hid (ix_yes (c := 1) (t := t) ⟨by omega, h0, h, h2⟩)
  have hd : decide (t < 0) = false := by simpa using h0
  have hb : (t % 32 != 0) = false := by simpa using h
  have he : decide (32 ≤ t / 32) = false := by simpa using h2
  clear h
  (
    go_enter Tryd.func23, Tryd.ntmps23
    go_wp2_with fail
    go_quiet ((first | (go_at_call 25; exact quiet_of_eq (is_yes _ _ (by omega) (by omega))) | (go_at_call 12; exact quiet_of_eq (blocks_val 1 32 rfl _ (hT.q ⟨_, rfl⟩)))))
    go_wp2
    go_ret2
    exact ⟨ret_ib H.out, _, rfl⟩)
theorem index_1 (t : Int) (ht : t ≤ 9223372036854775807) (w : World) (hT : Tab w) : Calls Tryd.prog 23 #[.int .i64 1, .int .i64 t] w fun e w' => e = .returned (.tuple #[.int .i64 (ixI 1 t), .bool (ixB 1 t)]) ∧ QQ w w' := by
  by_cases h : 0 ≤ t ∧ t % 32 = 0 ∧ t / 32 < 32
  · exact index_1_yes t ht w hT h.1 h.2.1 h.2.2
  · exact index_1_no t ht w hT (by omega)
set_option maxHeartbeats 800000 in
theorem index_2_no (t : Int) (ht : t ≤ 9223372036854775807) (w : World) (hT : Tab w) (h : t < 0 ∨ (0 ≤ t ∧ t % 48 ≠ 0) ∨ (0 ≤ t ∧ t % 48 = 0 ∧ 21 ≤ t / 48)) : Calls Tryd.prog 23 #[.int .i64 2, .int .i64 t] w fun e w' => e = .returned (.tuple #[.int .i64 (ixI 2 t), .bool (ixB 2 t)]) ∧ QQ w w' := by
  have hc := cells hT
  rcases h with h | ⟨h0, h⟩ | ⟨h0, h, h2⟩
  · have H := Lib.hid (ix_no (c := 2) (t := t) (fun k => by omega))
    go_enter Tryd.func23, Tryd.ntmps23
    go_wp2_with fail
    go_quiet ((first | (go_at_call 25; exact quiet_of_eq (is_yes _ _ (by omega) (by omega))) | (go_at_call 12; exact quiet_of_eq (blocks_val 2 21 rfl _ (hT.q ⟨_, rfl⟩)))))
    go_wp2
    go_ret2
    exact ⟨ret_ib H.out, _, rfl⟩
  · have H := Lib.hid (ix_no (c := 2) (t := t) (fun k => h k.2.2.1))
    have hd : decide (t < 0) = false := by simpa using h0
    have hb : (t % 48 != 0) = true := by simpa using h
    clear h
    go_enter Tryd.func23, Tryd.ntmps23
    go_wp2_with fail
    go_quiet ((first | (go_at_call 25; exact quiet_of_eq (is_yes _ _ (by omega) (by omega))) | (go_at_call 12; exact quiet_of_eq (blocks_val 2 21 rfl _ (hT.q ⟨_, rfl⟩)))))
    go_wp2
    go_ret2
    exact ⟨ret_ib H.out, _, rfl⟩
  · have H := Lib.hid (ix_no (c := 2) (t := t) (fun k => absurd (show t / 48 < 21 from k.2.2.2) (by omega)))
    have hd : decide (t < 0) = false := by simpa using h0
    have hb : (t % 48 != 0) = false := by simpa using h
    have he : decide (21 ≤ t / 48) = true := by simpa using h2
    clear h
    go_enter Tryd.func23, Tryd.ntmps23
    go_wp2_with fail
    go_quiet ((first | (go_at_call 25; exact quiet_of_eq (is_yes _ _ (by omega) (by omega))) | (go_at_call 12; exact quiet_of_eq (blocks_val 2 21 rfl _ (hT.q ⟨_, rfl⟩)))))
    go_wp2
    go_ret2
    exact ⟨ret_ib H.out, _, rfl⟩
set_option maxHeartbeats 800000 in
theorem index_2_yes (t : Int) (ht : t ≤ 9223372036854775807) (w : World) (hT : Tab w) (h0 : 0 ≤ t) (h : t % 48 = 0) (h2 : t / 48 < 21) : Calls Tryd.prog 23 #[.int .i64 2, .int .i64 t] w fun e w' => e = .returned (.tuple #[.int .i64 (ixI 2 t), .bool (ixB 2 t)]) ∧ QQ w w' := by
  have hc := cells hT
  have H := Lib.hid (ix_yes (c := 2) (t := t) ⟨by omega, h0, h, h2⟩)
  have hd : decide (t < 0) = false := by simpa using h0
  have hb : (t % 48 != 0) = false := by simpa using h
  have he : decide (21 ≤ t / 48) = false := by simpa using h2
  clear h
  (
    go_enter Tryd.func23, Tryd.ntmps23
    go_wp2_with fail
    go_quiet ((first | (go_at_call 25; exact quiet_of_eq (is_yes _ _ (by omega) (by omega))) | (go_at_call 12; exact quiet_of_eq (blocks_val 2 21 rfl _ (hT.q ⟨_, rfl⟩)))))
    go_wp2
    go_ret2
    exact ⟨ret_ib H.out, _, rfl⟩)
theorem index_2 (t : Int) (ht : t ≤ 9223372036854775807) (w : World) (hT : Tab w) : Calls Tryd.prog 23 #[.int .i64 2, .int .i64 t] w fun e w' => e = .returned (.tuple #[.int .i64 (ixI 2 t), .bool (ixB 2 t)]) ∧ QQ w w' := by
  by_cases h : 0 ≤ t ∧ t % 48 = 0 ∧ t / 48 < 21
  · exact index_2_yes t ht w hT h.1 h.2.1 h.2.2
  · exact index_2_no t ht w hT (by omega)
set_option maxHeartbeats 800000 in
theorem index_3_no (t : Int) (ht : t ≤ 9223372036854775807) (w : World) (hT : Tab w) (h : t < 0 ∨ (0 ≤ t ∧ t % 64 ≠ 0) ∨ (0 ≤ t ∧ t % 64 = 0 ∧ 16 ≤ t / 64)) : Calls Tryd.prog 23 #[.int .i64 3, .int .i64 t] w fun e w' => e = .returned (.tuple #[.int .i64 (ixI 3 t), .bool (ixB 3 t)]) ∧ QQ w w' := by
  have hc := cells hT
  rcases h with h | ⟨h0, h⟩ | ⟨h0, h, h2⟩
  · have H := Lib.hid (ix_no (c := 3) (t := t) (fun k => by omega))
    go_enter Tryd.func23, Tryd.ntmps23
    go_wp2_with fail
    go_quiet ((first | (go_at_call 25; exact quiet_of_eq (is_yes _ _ (by omega) (by omega))) | (go_at_call 12; exact quiet_of_eq (blocks_val 3 16 rfl _ (hT.q ⟨_, rfl⟩)))))
    go_wp2
    go_ret2
    exact ⟨ret_ib H.out, _, rfl⟩
  · have H := Lib.hid (ix_no (c := 3) (t := t) (fun k => h k.2.2.1))
    have hd : decide (t < 0) = false := by simpa using h0
    have hb : (t % 64 != 0) = true := by simpa using h
    clear h
    go_enter Tryd.func23, Tryd.ntmps23
    go_wp2_with fail
    go_quiet ((first | (go_at_call 25; exact quiet_of_eq (is_yes _ _ (by omega) (by omega))) | (go_at_call 12; exact quiet_of_eq (blocks_val 3 16 rfl _ (hT.q ⟨_, rfl⟩)))))
    go_wp2
    go_ret2
    exact ⟨ret_ib H.out, _, rfl⟩
  · have H := Lib.hid (ix_no (c := 3) (t := t) (fun k => absurd (show t / 64 < 16 from k.2.2.2) (by omega)))
    have hd : decide (t < 0) = false := by simpa using h0
    have hb : (t % 64 != 0) = false := by simpa using h
    have he : decide (16 ≤ t / 64) = true := by simpa using h2
    clear h
    go_enter Tryd.func23, Tryd.ntmps23
    go_wp2_with fail
    go_quiet ((first | (go_at_call 25; exact quiet_of_eq (is_yes _ _ (by omega) (by omega))) | (go_at_call 12; exact quiet_of_eq (blocks_val 3 16 rfl _ (hT.q ⟨_, rfl⟩)))))
    go_wp2
    go_ret2
    exact ⟨ret_ib H.out, _, rfl⟩
set_option maxHeartbeats 800000 in
theorem index_3_yes (t : Int) (ht : t ≤ 9223372036854775807) (w : World) (hT : Tab w) (h0 : 0 ≤ t) (h : t % 64 = 0) (h2 : t / 64 < 16) : Calls Tryd.prog 23 #[.int .i64 3, .int .i64 t] w fun e w' => e = .returned (.tuple #[.int .i64 (ixI 3 t), .bool (ixB 3 t)]) ∧ QQ w w' := by
  have hc := cells hT
  have H := Lib.hid (ix_yes (c := 3) (t := t) ⟨by omega, h0, h, h2⟩)
  have hd : decide (t < 0) = false := by simpa using h0
  have hb : (t % 64 != 0) = false := by simpa using h
  have he : decide (16 ≤ t / 64) = false := by simpa using h2
  clear h
  (
    go_enter Tryd.func23, Tryd.ntmps23
    go_wp2_with fail
    go_quiet ((first | (go_at_call 25; exact quiet_of_eq (is_yes _ _ (by omega) (by omega))) | (go_at_call 12; exact quiet_of_eq (blocks_val 3 16 rfl _ (hT.q ⟨_, rfl⟩)))))
    go_wp2
    go_ret2
    exact ⟨ret_ib H.out, _, rfl⟩)
theorem index_3 (t : Int) (ht : t ≤ 9223372036854775807) (w : World) (hT : Tab w) : Calls Tryd.prog 23 #[.int .i64 3, .int .i64 t] w fun e w' => e = .returned (.tuple #[.int .i64 (ixI 3 t), .bool (ixB 3 t)]) ∧ QQ w w' := by
  by_cases h : 0 ≤ t ∧ t % 64 = 0 ∧ t / 64 < 16
  · exact index_3_yes t ht w hT h.1 h.2.1 h.2.2
  · exact index_3_no t ht w hT (by omega)
set_option maxHeartbeats 800000 in
theorem index_4_no (t : Int) (ht : t ≤ 9223372036854775807) (w : World) (hT : Tab w) (h : t < 0 ∨ (0 ≤ t ∧ t % 96 ≠ 0) ∨ (0 ≤ t ∧ t % 96 = 0 ∧ 10 ≤ t / 96)) : Calls Tryd.prog 23 #[.int .i64 4, .int .i64 t] w fun e w' => e = .returned (.tuple #[.int .i64 (ixI 4 t), .bool (ixB 4 t)]) ∧ QQ w w' := by
  have hc := cells hT
  rcases h with h | ⟨h0, h⟩ | ⟨h0, h, h2⟩
  · have H := Lib.hid (ix_no (c := 4) (t := t) (fun k => by omega))
    go_enter Tryd.func23, Tryd.ntmps23
    go_wp2_with fail
    go_quiet ((first | (go_at_call 25; exact quiet_of_eq (is_yes _ _ (by omega) (by omega))) | (go_at_call 12; exact quiet_of_eq (blocks_val 4 10 rfl _ (hT.q ⟨_, rfl⟩)))))
    go_wp2
    go_ret2
    exact ⟨ret_ib H.out, _, rfl⟩
  · have H := Lib.hid (ix_no (c := 4) (t := t) (fun k => h k.2.2.1))
    have hd : decide (t < 0) = false := by simpa using h0
    have hb : (t % 96 != 0) = true := by simpa using h
    clear h
    go_enter Tryd.func23, Tryd.ntmps23
    go_wp2_with fail
    go_quiet ((first | (go_at_call 25; exact quiet_of_eq (is_yes _ _ (by omega) (by omega))) | (go_at_call 12; exact quiet_of_eq (blocks_val 4 10 rfl _ (hT.q ⟨_, rfl⟩)))))
    go_wp2
    go_ret2
    exact ⟨ret_ib H.out, _, rfl⟩
  · have H := Lib.hid (ix_no (c := 4) (t := t) (fun k => absurd (show t / 96 < 10 from k.2.2.2) (by omega)))
    have hd : decide (t < 0) = false := by simpa using h0
    have hb : (t % 96 != 0) = false := by simpa using h
    have he : decide (10 ≤ t / 96) = true := by simpa using h2
    clear h
    go_enter Tryd.func23, Tryd.ntmps23
    go_wp2_with fail
    go_quiet ((first | (go_at_call 25; exact quiet_of_eq (is_yes _ _ (by omega) (by omega))) | (go_at_call 12; exact quiet_of_eq (blocks_val 4 10 rfl _ (hT.q ⟨_, rfl⟩)))))
    go_wp2
    go_ret2
    exact ⟨ret_ib H.out, _, rfl⟩
set_option maxHeartbeats 800000 in
theorem index_4_yes (t : Int) (ht : t ≤ 9223372036854775807) (w : World) (hT : Tab w) (h0 : 0 ≤ t) (h : t % 96 = 0) (h2 : t / 96 < 10) : Calls Tryd.prog 23 #[.int .i64 4, .int .i64 t] w fun e w' => e = .returned (.tuple #[.int .i64 (ixI 4 t), .bool (ixB 4 t)]) ∧ QQ w w' := by
  have hc := cells hT
  have H := Lib.hid (ix_yes (c := 4) (t := t) ⟨by omega, h0, h, h2⟩)
  have hd : decide (t < 0) = false := by simpa using h0
  have hb : (t % 96 != 0) = false := by simpa using h
  have he : decide (10 ≤ t / 96) = false := by simpa using h2
  clear h
  (
    go_enter Tryd.func23, Tryd.ntmps23
    go_wp2_with fail
    go_quiet ((first | (go_at_call 25; exact quiet_of_eq (is_yes _ _ (by omega) (by omega))) | (go_at_call 12; exact quiet_of_eq (blocks_val 4 10 rfl _ (hT.q ⟨_, rfl⟩)))))
    go_wp2
    go_ret2
    exact ⟨ret_ib H.out, _, rfl⟩)
theorem index_4 (t : Int) (ht : t ≤ 9223372036854775807) (w : World) (hT : Tab w) : Calls Tryd.prog 23 #[.int .i64 4, .int .i64 t] w fun e w' => e = .returned (.tuple #[.int .i64 (ixI 4 t), .bool (ixB 4 t)]) ∧ QQ w w' := by
  by_cases h : 0 ≤ t ∧ t % 96 = 0 ∧ t / 96 < 10
  · exact index_4_yes t ht w hT h.1 h.2.1 h.2.2
  · exact index_4_no t ht w hT (by omega)
set_option maxHeartbeats 800000 in
theorem index_5_no (t : Int) (ht : t ≤ 9223372036854775807) (w : World) (hT : Tab w) (h : t < 0 ∨ (0 ≤ t ∧ t % 128 ≠ 0) ∨ (0 ≤ t ∧ t % 128 = 0 ∧ 8 ≤ t / 128)) : Calls Tryd.prog 23 #[.int .i64 5, .int .i64 t] w fun e w' => e = .returned (.tuple #[.int .i64 (ixI 5 t), .bool (ixB 5 t)]) ∧ QQ w w' := by
  have hc := cells hT
  rcases h with h | ⟨h0, h⟩ | ⟨h0, h, h2⟩
  · have H := Lib.hid (ix_no (c := 5) (t := t) (fun k => by omega))
    go_enter Tryd.func23, Tryd.ntmps23
    go_wp2_with fail
    go_quiet ((first | (go_at_call 25; exact quiet_of_eq (is_yes _ _ (by omega) (by omega))) | (go_at_call 12; exact quiet_of_eq (blocks_val 5 8 rfl _ (hT.q ⟨_, rfl⟩)))))
    go_wp2
    go_ret2
    exact ⟨ret_ib H.out, _, rfl⟩
  · have H := Lib.hid (ix_no (c := 5) (t := t) (fun k => h k.2.2.1))
    have hd : decide (t < 0) = false := by simpa using h0
    have hb : (t % 128 != 0) = true := by simpa using h
    clear h
    go_enter Tryd.func23, Tryd.ntmps23
    go_wp2_with fail
    go_quiet ((first | (go_at_call 25; exact quiet_of_eq (is_yes _ _ (by omega) (by omega))) | (go_at_call 12; exact quiet_of_eq (blocks_val 5 8 rfl _ (hT.q ⟨_, rfl⟩)))))
    go_wp2
    go_ret2
    exact ⟨ret_ib H.out, _, rfl⟩
  · have H := Lib.hid (ix_no (c := 5) (t := t) (fun k => absurd (show t / 128 < 8 from k.2.2.2) (by omega)))
    have hd : decide (t < 0) = false := by simpa using h0
    have hb : (t % 128 != 0) = false := by simpa using h
    have he : decide (8 ≤ t / 128) = true := by simpa using h2
    clear h
    go_enter Tryd.func23, Tryd.ntmps23
    go_wp2_with fail
    go_quiet ((first | (go_at_call 25; exact quiet_of_eq (is_yes _ _ (by omega) (by omega))) | (go_at_call 12; exact quiet_of_eq (blocks_val 5 8 rfl _ (hT.q ⟨_, rfl⟩)))))
    go_wp2
    go_ret2
    exact ⟨ret_ib H.out, _, rfl⟩
set_option maxHeartbeats 800000 in
theorem index_5_yes (t : Int) (ht : t ≤ 9223372036854775807) (w : World) (hT : Tab w) (h0 : 0 ≤ t) (h : t % 128 = 0) (h2 : t / 128 < 8) : Calls Tryd.prog 23 #[.int .i64 5, .int .i64 t] w fun e w' => e = .returned (.tuple #[.int .i64 (ixI 5 t), .bool (ixB 5 t)]) ∧ QQ w w' := by
  have hc := cells hT
  have H := Lib.hid (ix_yes (c := 5) (t := t) ⟨by omega, h0, h, h2⟩)
  have hd : decide (t < 0) = false := by simpa using h0
  have hb : (t % 128 != 0) = false := by simpa using h
  have he : decide (8 ≤ t / 128) = false := by simpa using h2
  clear h
  (
    go_enter Tryd.func23, Tryd.ntmps23
    go_wp2_with fail
    go_quiet ((first | (go_at_call 25; exact quiet_of_eq (is_yes _ _ (by omega) (by omega))) | (go_at_call 12; exact quiet_of_eq (blocks_val 5 8 rfl _ (hT.q ⟨_, rfl⟩)))))
    go_wp2
    go_ret2
    exact ⟨ret_ib H.out, _, rfl⟩)
theorem index_5 (t : Int) (ht : t ≤ 9223372036854775807) (w : World) (hT : Tab w) : Calls Tryd.prog 23 #[.int .i64 5, .int .i64 t] w fun e w' => e = .returned (.tuple #[.int .i64 (ixI 5 t), .bool (ixB 5 t)]) ∧ QQ w w' := by
  by_cases h : 0 ≤ t ∧ t % 128 = 0 ∧ t / 128 < 8
  · exact index_5_yes t ht w hT h.1 h.2.1 h.2.2
  · exact index_5_no t ht w hT (by omega)
set_option maxHeartbeats 800000 in
theorem index_6_no (t : Int) (ht : t ≤ 9223372036854775807) (w : World) (hT : Tab w) (h : t < 0 ∨ (0 ≤ t ∧ t % 192 ≠ 0) ∨ (0 ≤ t ∧ t % 192 = 0 ∧ 5 ≤ t / 192)) : Calls Tryd.prog 23 #[.int .i64 6, .int .i64 t] w fun e w' => e = .returned (.tuple #[.int .i64 (ixI 6 t), .bool (ixB 6 t)]) ∧ QQ w w' := by
  have hc := cells hT
  rcases h with h | ⟨h0, h⟩ | ⟨h0, h, h2⟩
  · have H := Lib.hid (ix_no (c := 6) (t := t) (fun k => by omega))
    go_enter Tryd.func23, Tryd.ntmps23
    go_wp2_with fail
    go_quiet ((first | (go_at_call 25; exact quiet_of_eq (is_yes _ _ (by omega) (by omega))) | (go_at_call 12; exact quiet_of_eq (blocks_val 6 5 rfl _ (hT.q ⟨_, rfl⟩)))))
    go_wp2
    go_ret2
    exact ⟨ret_ib H.out, _, rfl⟩
  · have H := Lib.hid (ix_no (c := 6) (t := t) (fun k => h k.2.2.1))
    have hd : decide (t < 0) = false := by simpa using h0
    have hb : (t % 192 != 0) = true := by simpa using h
    clear h
    go_enter Tryd.func23, Tryd.ntmps23
    go_wp2_with fail
    go_quiet ((first | (go_at_call 25; exact quiet_of_eq (is_yes _ _ (by omega) (by omega))) | (go_at_call 12; exact quiet_of_eq (blocks_val 6 5 rfl _ (hT.q ⟨_, rfl⟩)))))
    go_wp2
    go_ret2
    exact ⟨ret_ib H.out, _, rfl⟩
  · have H := Lib.hid (ix_no (c := 6) (t := t) (fun k => absurd (show t / 192 < 5 from k.2.2.2) (by omega)))
    have hd : decide (t < 0) = false := by simpa using h0
    have hb : (t % 192 != 0) = false := by simpa using h
    have he : decide (5 ≤ t / 192) = true := by simpa using h2
    clear h
    go_enter Tryd.func23, Tryd.ntmps23
    go_wp2_with fail
    go_quiet ((first | (go_at_call 25; exact quiet_of_eq (is_yes _ _ (by omega) (by omega))) | (go_at_call 12; exact quiet_of_eq (blocks_val 6 5 rfl _ (hT.q ⟨_, rfl⟩)))))
    go_wp2
    go_ret2
    exact ⟨ret_ib H.out, _, rfl⟩
set_option maxHeartbeats 800000 in
theorem index_6_yes (t : Int) (ht : t ≤ 9223372036854775807) (w : World) (hT : Tab w) (h0 : 0 ≤ t) (h : t % 192 = 0) (h2 : t / 192 < 5) : Calls Tryd.prog 23 #[.int .i64 6, .int .i64 t] w fun e w' => e = .returned (.tuple #[.int .i64 (ixI 6 t), .bool (ixB 6 t)]) ∧ QQ w w' := by
  have hc := cells hT
  have H := Lib.hid (ix_yes (c := 6) (t := t) ⟨by omega, h0, h, h2⟩)
  have hd : decide (t < 0) = false := by simpa using h0
  have hb : (t % 192 != 0) = false := by simpa using h
  have he : decide (5 ≤ t / 192) = false := by simpa using h2
  clear h
  (
    go_enter Tryd.func23, Tryd.ntmps23
    go_wp2_with fail
    go_quiet ((first | (go_at_call 25; exact quiet_of_eq (is_yes _ _ (by omega) (by omega))) | (go_at_call 12; exact quiet_of_eq (blocks_val 6 5 rfl _ (hT.q ⟨_, rfl⟩)))))
    go_wp2
    go_ret2
    exact ⟨ret_ib H.out, _, rfl⟩)
theorem index_6 (t : Int) (ht : t ≤ 9223372036854775807) (w : World) (hT : Tab w) : Calls Tryd.prog 23 #[.int .i64 6, .int .i64 t] w fun e w' => e = .returned (.tuple #[.int .i64 (ixI 6 t), .bool (ixB 6 t)]) ∧ QQ w w' := by
  by_cases h : 0 ≤ t ∧ t % 192 = 0 ∧ t / 192 < 5
  · exact index_6_yes t ht w hT h.1 h.2.1 h.2.2
  · exact index_6_no t ht w hT (by omega)
set_option maxHeartbeats 800000 in
theorem index_7_no (t : Int) (ht : t ≤ 9223372036854775807) (w : World) (hT : Tab w) (h : t < 0 ∨ (0 ≤ t ∧ t % 256 ≠ 0) ∨ (0 ≤ t ∧ t % 256 = 0 ∧ 4 ≤ t / 256)) : Calls Tryd.prog 23 #[.int .i64 7, .int .i64 t] w fun e w' => e = .returned (.tuple #[.int .i64 (ixI 7 t), .bool (ixB 7 t)]) ∧ QQ w w' := by
  have hc := cells hT
  rcases h with h | ⟨h0, h⟩ | ⟨h0, h, h2⟩
  · have H := Lib.hid (ix_no (c := 7) (t := t) (fun k => by omega))
    go_enter Tryd.func23, Tryd.ntmps23
    go_wp2_with fail
    go_quiet ((first | (go_at_call 25; exact quiet_of_eq (is_yes _ _ (by omega) (by omega))) | (go_at_call 12; exact quiet_of_eq (blocks_val 7 4 rfl _ (hT.q ⟨_, rfl⟩)))))
    go_wp2
    go_ret2
    exact ⟨ret_ib H.out, _, rfl⟩
  · have H := Lib.hid (ix_no (c := 7) (t := t) (fun k => h k.2.2.1))
    have hd : decide (t < 0) = false := by simpa using h0
    have hb : (t % 256 != 0) = true := by simpa using h
    clear h
    go_enter Tryd.func23, Tryd.ntmps23
    go_wp2_with fail
    go_quiet ((first | (go_at_call 25; exact quiet_of_eq (is_yes _ _ (by omega) (by omega))) | (go_at_call 12; exact quiet_of_eq (blocks_val 7 4 rfl _ (hT.q ⟨_, rfl⟩)))))
    go_wp2
    go_ret2
    exact ⟨ret_ib H.out, _, rfl⟩
  · have H := Lib.hid (ix_no (c := 7) (t := t) (fun k => absurd (show t / 256 < 4 from k.2.2.2) (by omega)))
    have hd : decide (t < 0) = false := by simpa using h0
    have hb : (t % 256 != 0) = false := by simpa using h
    have he : decide (4 ≤ t / 256) = true := by simpa using h2
    clear h
    go_enter Tryd.func23, Tryd.ntmps23
    go_wp2_with fail
    go_quiet ((first | (go_at_call 25; exact quiet_of_eq (is_yes _ _ (by omega) (by omega))) | (go_at_call 12; exact quiet_of_eq (blocks_val 7 4 rfl _ (hT.q ⟨_, rfl⟩)))))
    go_wp2
    go_ret2
    exact ⟨ret_ib H.out, _, rfl⟩
set_option maxHeartbeats 800000 in
theorem index_7_yes (t : Int) (ht : t ≤ 9223372036854775807) (w : World) (hT : Tab w) (h0 : 0 ≤ t) (h : t % 256 = 0) (h2 : t / 256 < 4) : Calls Tryd.prog 23 #[.int .i64 7, .int .i64 t] w fun e w' => e = .returned (.tuple #[.int .i64 (ixI 7 t), .bool (ixB 7 t)]) ∧ QQ w w' := by
  have hc := cells hT
  have H := Lib.hid (ix_yes (c := 7) (t := t) ⟨by omega, h0, h, h2⟩)
  have hd : decide (t < 0) = false := by simpa using h0
  have hb : (t % 256 != 0) = false := by simpa using h
  have he : decide (4 ≤ t / 256) = false := by simpa using h2
  clear h
  (
    go_enter Tryd.func23, Tryd.ntmps23
    go_wp2_with fail
    go_quiet ((first | (go_at_call 25; exact quiet_of_eq (is_yes _ _ (by omega) (by omega))) | (go_at_call 12; exact quiet_of_eq (blocks_val 7 4 rfl _ (hT.q ⟨_, rfl⟩)))))
    go_wp2
    go_ret2
    exact ⟨ret_ib H.out, _, rfl⟩)
theorem index_7 (t : Int) (ht : t ≤ 9223372036854775807) (w : World) (hT : Tab w) : Calls Tryd.prog 23 #[.int .i64 7, .int .i64 t] w fun e w' => e = .returned (.tuple #[.int .i64 (ixI 7 t), .bool (ixB 7 t)]) ∧ QQ w w' := by
  by_cases h : 0 ≤ t ∧ t % 256 = 0 ∧ t / 256 < 4
  · exact index_7_yes t ht w hT h.1 h.2.1 h.2.2
  · exact index_7_no t ht w hT (by omega)
set_option maxHeartbeats 800000 in
theorem index_8_no (t : Int) (ht : t ≤ 9223372036854775807) (w : World) (hT : Tab w) (h : t < 0 ∨ (0 ≤ t ∧ t % 384 ≠ 0) ∨ (0 ≤ t ∧ t % 384 = 0 ∧ 2 ≤ t / 384)) : Calls Tryd.prog 23 #[.int .i64 8, .int .i64 t] w fun e w' => e = .returned (.tuple #[.int .i64 (ixI 8 t), .bool (ixB 8 t)]) ∧ QQ w w' := by
  have hc := cells hT
  rcases h with h | ⟨h0, h⟩ | ⟨h0, h, h2⟩
  · have H := Lib.hid (ix_no (c := 8) (t := t) (fun k => by omega))
    go_enter Tryd.func23, Tryd.ntmps23
    go_wp2_with fail
    go_quiet ((first | (go_at_call 25; exact quiet_of_eq (is_yes _ _ (by omega) (by omega))) | (go_at_call 12; exact quiet_of_eq (blocks_val 8 2 rfl _ (hT.q ⟨_, rfl⟩)))))
    go_wp2
    go_ret2
    exact ⟨ret_ib H.out, _, rfl⟩
  · have H := Lib.hid (ix_no (c := 8) (t := t) (fun k => h k.2.2.1))
    have hd : decide (t < 0) = false := by simpa using h0
    have hb : (t % 384 != 0) = true := by simpa using h
    clear h
    go_enter Tryd.func23, Tryd.ntmps23
    go_wp2_with fail
    go_quiet ((first | (go_at_call 25; exact quiet_of_eq (is_yes _ _ (by omega) (by omega))) | (go_at_call 12; exact quiet_of_eq (blocks_val 8 2 rfl _ (hT.q ⟨_, rfl⟩)))))
    go_wp2
    go_ret2
    exact ⟨ret_ib H.out, _, rfl⟩
  · have H := Lib.hid (ix_no (c := 8) (t := t) (fun k => absurd (show t / 384 < 2 from k.2.2.2) (by omega)))
    have hd : decide (t < 0) = false := by simpa using h0
    have hb : (t % 384 != 0) = false := by simpa using h
    have he : decide (2 ≤ t / 384) = true := by simpa using h2
    clear h
    go_enter Tryd.func23, Tryd.ntmps23
    go_wp2_with fail
    go_quiet ((first | (go_at_call 25; exact quiet_of_eq (is_yes _ _ (by omega) (by omega))) | (go_at_call 12; exact quiet_of_eq (blocks_val 8 2 rfl _ (hT.q ⟨_, rfl⟩)))))
    go_wp2
    go_ret2
    exact ⟨ret_ib H.out, _, rfl⟩
set_option maxHeartbeats 800000 in
theorem index_8_yes (t : Int) (ht : t ≤ 9223372036854775807) (w : World) (hT : Tab w) (h0 : 0 ≤ t) (h : t % 384 = 0) (h2 : t / 384 < 2) : Calls Tryd.prog 23 #[.int .i64 8, .int .i64 t] w fun e w' => e = .returned (.tuple #[.int .i64 (ixI 8 t), .bool (ixB 8 t)]) ∧ QQ w w' := by
  have hc := cells hT
  have H := Lib.hid (ix_yes (c := 8) (t := t) ⟨by omega, h0, h, h2⟩)
  have hd : decide (t < 0) = false := by simpa using h0
  have hb : (t % 384 != 0) = false := by simpa using h
  have he : decide (2 ≤ t / 384) = false := by simpa using h2
  clear h
  (
    go_enter Tryd.func23, Tryd.ntmps23
    go_wp2_with fail
    go_quiet ((first | (go_at_call 25; exact quiet_of_eq (is_yes _ _ (by omega) (by omega))) | (go_at_call 12; exact quiet_of_eq (blocks_val 8 2 rfl _ (hT.q ⟨_, rfl⟩)))))
    go_wp2
    go_ret2
    exact ⟨ret_ib H.out, _, rfl⟩)
theorem index_8 (t : Int) (ht : t ≤ 9223372036854775807) (w : World) (hT : Tab w) : Calls Tryd.prog 23 #[.int .i64 8, .int .i64 t] w fun e w' => e = .returned (.tuple #[.int .i64 (ixI 8 t), .bool (ixB 8 t)]) ∧ QQ w w' := by
  by_cases h : 0 ≤ t ∧ t % 384 = 0 ∧ t / 384 < 2
  · exact index_8_yes t ht w hT h.1 h.2.1 h.2.2
  · exact index_8_no t ht w hT (by omega)
set_option maxHeartbeats 800000 in
theorem index_9_no (t : Int) (ht : t ≤ 9223372036854775807) (w : World) (hT : Tab w) (h : t < 0 ∨ (0 ≤ t ∧ t % 512 ≠ 0) ∨ (0 ≤ t ∧ t % 512 = 0 ∧ 2 ≤ t / 512)) : Calls Tryd.prog 23 #[.int .i64 9, .int .i64 t] w fun e w' => e = .returned (.tuple #[.int .i64 (ixI 9 t), .bool (ixB 9 t)]) ∧ QQ w w' := by
  have hc := cells hT
  rcases h with h | ⟨h0, h⟩ | ⟨h0, h, h2⟩
  · have H := Lib.hid (ix_no (c := 9) (t := t) (fun k => by omega))
    go_enter Tryd.func23, Tryd.ntmps23
    go_wp2_with fail
    go_quiet ((first | (go_at_call 25; exact quiet_of_eq (is_yes _ _ (by omega) (by omega))) | (go_at_call 12; exact quiet_of_eq (blocks_val 9 2 rfl _ (hT.q ⟨_, rfl⟩)))))
    go_wp2
    go_ret2
    exact ⟨ret_ib H.out, _, rfl⟩
  · have H := Lib.hid (ix_no (c := 9) (t := t) (fun k => h k.2.2.1))
    have hd : decide (t < 0) = false := by simpa using h0
    have hb : (t % 512 != 0) = true := by simpa using h
    clear h
    go_enter Tryd.func23, Tryd.ntmps23
    go_wp2_with fail
    go_quiet ((first | (go_at_call 25; exact quiet_of_eq (is_yes _ _ (by omega) (by omega))) | (go_at_call 12; exact quiet_of_eq (blocks_val 9 2 rfl _ (hT.q ⟨_, rfl⟩)))))
    go_wp2
    go_ret2
    exact ⟨ret_ib H.out, _, rfl⟩
  · have H := Lib.hid (ix_no (c := 9) (t := t) (fun k => absurd (show t / 512 < 2 from k.2.2.2) (by omega)))
    have hd : decide (t < 0) = false := by simpa using h0
    have hb : (t % 512 != 0) = false := by simpa using h
    have he : decide (2 ≤ t / 512) = true := by simpa using h2
    clear h
    go_enter Tryd.func23, Tryd.ntmps23
    go_wp2_with fail
    go_quiet ((first | (go_at_call 25; exact quiet_of_eq (is_yes _ _ (by omega) (by omega))) | (go_at_call 12; exact quiet_of_eq (blocks_val 9 2 rfl _ (hT.q ⟨_, rfl⟩)))))
    go_wp2
    go_ret2
    exact ⟨ret_ib H.out, _, rfl⟩
set_option maxHeartbeats 800000 in
theorem index_9_yes (t : Int) (ht : t ≤ 9223372036854775807) (w : World) (hT : Tab w) (h0 : 0 ≤ t) (h : t % 512 = 0) (h2 : t / 512 < 2) : Calls Tryd.prog 23 #[.int .i64 9, .int .i64 t] w fun e w' => e = .returned (.tuple #[.int .i64 (ixI 9 t), .bool (ixB 9 t)]) ∧ QQ w w' := by
  have hc := cells hT
  have H := Lib.hid (ix_yes (c := 9) (t := t) ⟨by omega, h0, h, h2⟩)
  have hd : decide (t < 0) = false := by simpa using h0
  have hb : (t % 512 != 0) = false := by simpa using h
  have he : decide (2 ≤ t / 512) = false := by simpa using h2
  clear h
  (
    go_enter Tryd.func23, Tryd.ntmps23
    go_wp2_with fail
    go_quiet ((first | (go_at_call 25; exact quiet_of_eq (is_yes _ _ (by omega) (by omega))) | (go_at_call 12; exact quiet_of_eq (blocks_val 9 2 rfl _ (hT.q ⟨_, rfl⟩)))))
    go_wp2
    go_ret2
    exact ⟨ret_ib H.out, _, rfl⟩)
theorem index_9 (t : Int) (ht : t ≤ 9223372036854775807) (w : World) (hT : Tab w) : Calls Tryd.prog 23 #[.int .i64 9, .int .i64 t] w fun e w' => e = .returned (.tuple #[.int .i64 (ixI 9 t), .bool (ixB 9 t)]) ∧ QQ w w' := by
  by_cases h : 0 ≤ t ∧ t % 512 = 0 ∧ t / 512 < 2
  · exact index_9_yes t ht w hT h.1 h.2.1 h.2.2
  · exact index_9_no t ht w hT (by omega)
theorem index_any (c t : Int) (ht : t ≤ 9223372036854775807) (w : World) (hT : Tab w) : Calls Tryd.prog 23 #[.int .i64 c, .int .i64 t] w fun e w' => e = .returned (.tuple #[.int .i64 (ixI c t), .bool (ixB c t)]) ∧ QQ w w' := by
  rcases c_cases c with h | h | rfl | rfl | rfl | rfl | rfl | rfl | rfl | rfl | rfl
  · exact index_out c t w (.inl h)
  · exact index_out c t w (.inr h)
  · exact index_1 t ht w hT
  · exact index_2 t ht w hT
  · exact index_3 t ht w hT
  · exact index_4 t ht w hT
  · exact index_5 t ht w hT
  · exact index_6 t ht w hT
  · exact index_7 t ht w hT
  · exact index_8 t ht w hT
  · exact index_9 t ht w hT
set_option maxHeartbeats 800000 in
theorem rindex_1 (t : Int) (w : World) : Calls Tryd.prog 24 #[.int .i64 1, .int .i64 t] w fun e w' => e = .returned (.tuple #[.int .i64 (ixI 1 t), .bool (ixB 1 t)]) ∧ w = w' := by
  go_enter Tryd.func24, Tryd.ntmps24
  go_wp2
  go_loop [6] (fun i => ∃ k : Nat, (k : Int) ≤ 32 ∧ (0 ≤ t → t < 32 * k → t % 32 ≠ 0) ∧ i = .int .i64 k) (fun i => (2000 - intOf i).toNat)
  case atStart => exact ⟨0, by omega, by omega, rfl⟩
  case round =>
    obtain ⟨k, hk, hno, rfl⟩ := hrel
    by_cases hlt : (k : Int) < 32
    · by_cases heq : (k : Int) * 32 = t
      · have H := Lib.hid (show (k : Int) = ixI 1 t ∧ true = ixB 1 t from ⟨(show (k : Int) = t / 32 by omega).trans (ix_yes (c := 1) (t := t) ⟨by omega, by omega, show t % 32 = 0 by omega, show t / 32 < 32 by omega⟩).1.symm, (ix_yes (c := 1) (t := t) ⟨by omega, by omega, show t % 32 = 0 by omega, show t / 32 < 32 by omega⟩).2.symm⟩)
        have hd : ((k : Int) * 32 == t) = true := by simpa using heq
        clear heq hno
        go_wp2_with (first | (go_at_call 13; refine (rblocks_val 1 32 rfl _).mono ?_; rintro e w' ⟨rfl, rfl⟩) | (go_at_call 11; refine (rsize_val 1 32 rfl _).mono ?_; rintro e w' ⟨rfl, rfl⟩))
        go_ret2
        exact ⟨ret_ib ⟨H.out.1.symm, H.out.2.symm⟩, rfl⟩
      · have hd : ((k : Int) * 32 == t) = false := by simpa using heq
        have hno2 := Lib.hid (show 0 ≤ t → t < 32 * ((k + 1 : Nat) : Int) → t % 32 ≠ 0 by (intro a b; by_cases hh : t < 32 * (k : Int); exact hno a hh; omega))
        clear heq hno
        go_wp2_with (first | (go_at_call 13; refine (rblocks_val 1 32 rfl _).mono ?_; rintro e w' ⟨rfl, rfl⟩) | (go_at_call 11; refine (rsize_val 1 32 rfl _).mono ?_; rintro e w' ⟨rfl, rfl⟩))
        go_round
        case rel => exact ⟨k + 1, by omega, hno2.out, by go_num⟩
        case measure => simp [intOf]; omega
    · have hm : ¬ ((1 ≤ (1 : Int) ∧ (1 : Int) ≤ 9) ∧ 0 ≤ t ∧ t % sz 1 = 0 ∧ t / sz 1 < bl 1) := by
        rintro ⟨-, q1, q2, q3⟩
        have q2' : t % 32 = 0 := q2
        have q3' : t / 32 < 32 := q3
        exact hno q1 (by omega) q2'
      have H := Lib.hid (ix_no hm)
      obtain rfl : k = 32 := by omega
      clear hlt hk hno hm
      go_wp2_with (first | (go_at_call 13; refine (rblocks_val 1 32 rfl _).mono ?_; rintro e w' ⟨rfl, rfl⟩) | (go_at_call 11; refine (rsize_val 1 32 rfl _).mono ?_; rintro e w' ⟨rfl, rfl⟩))
      go_ret2
      exact ⟨ret_ib H.out, rfl⟩
set_option maxHeartbeats 800000 in
theorem rindex_2 (t : Int) (w : World) : Calls Tryd.prog 24 #[.int .i64 2, .int .i64 t] w fun e w' => e = .returned (.tuple #[.int .i64 (ixI 2 t), .bool (ixB 2 t)]) ∧ w = w' := by
  go_enter Tryd.func24, Tryd.ntmps24
  go_wp2
  go_loop [6] (fun i => ∃ k : Nat, (k : Int) ≤ 21 ∧ (0 ≤ t → t < 48 * k → t % 48 ≠ 0) ∧ i = .int .i64 k) (fun i => (2000 - intOf i).toNat)
  case atStart => exact ⟨0, by omega, by omega, rfl⟩
  case round =>
    obtain ⟨k, hk, hno, rfl⟩ := hrel
    by_cases hlt : (k : Int) < 21
    · by_cases heq : (k : Int) * 48 = t
      · have H := Lib.hid (show (k : Int) = ixI 2 t ∧ true = ixB 2 t from ⟨(show (k : Int) = t / 48 by omega).trans (ix_yes (c := 2) (t := t) ⟨by omega, by omega, show t % 48 = 0 by omega, show t / 48 < 21 by omega⟩).1.symm, (ix_yes (c := 2) (t := t) ⟨by omega, by omega, show t % 48 = 0 by omega, show t / 48 < 21 by omega⟩).2.symm⟩)
        have hd : ((k : Int) * 48 == t) = true := by simpa using heq
        clear heq hno
        go_wp2_with (first | (go_at_call 13; refine (rblocks_val 2 21 rfl _).mono ?_; rintro e w' ⟨rfl, rfl⟩) | (go_at_call 11; refine (rsize_val 2 48 rfl _).mono ?_; rintro e w' ⟨rfl, rfl⟩))
        go_ret2
        exact ⟨ret_ib ⟨H.out.1.symm, H.out.2.symm⟩, rfl⟩
      · have hd : ((k : Int) * 48 == t) = false := by simpa using heq
        have hno2 := Lib.hid (show 0 ≤ t → t < 48 * ((k + 1 : Nat) : Int) → t % 48 ≠ 0 by (intro a b; by_cases hh : t < 48 * (k : Int); exact hno a hh; omega))
        clear heq hno
        go_wp2_with (first | (go_at_call 13; refine (rblocks_val 2 21 rfl _).mono ?_; rintro e w' ⟨rfl, rfl⟩) | (go_at_call 11; refine (rsize_val 2 48 rfl _).mono ?_; rintro e w' ⟨rfl, rfl⟩))
        go_round
        case rel => exact ⟨k + 1, by omega, hno2.out, by go_num⟩
        case measure => simp [intOf]; omega
    · have hm : ¬ ((1 ≤ (2 : Int) ∧ (2 : Int) ≤ 9) ∧ 0 ≤ t ∧ t % sz 2 = 0 ∧ t / sz 2 < bl 2) := by
        rintro ⟨-, q1, q2, q3⟩
        have q2' : t % 48 = 0 := q2
        have q3' : t / 48 < 21 := q3
        exact hno q1 (by omega) q2'
      have H := Lib.hid (ix_no hm)
      obtain rfl : k = 21 := by omega
      clear hlt hk hno hm
      go_wp2_with (first | (go_at_call 13; refine (rblocks_val 2 21 rfl _).mono ?_; rintro e w' ⟨rfl, rfl⟩) | (go_at_call 11; refine (rsize_val 2 48 rfl _).mono ?_; rintro e w' ⟨rfl, rfl⟩))
      go_ret2
      exact ⟨ret_ib H.out, rfl⟩
set_option maxHeartbeats 800000 in
theorem rindex_3 (t : Int) (w : World) : Calls Tryd.prog 24 #[.int .i64 3, .int .i64 t] w fun e w' => e = .returned (.tuple #[.int .i64 (ixI 3 t), .bool (ixB 3 t)]) ∧ w = w' := by
  go_enter Tryd.func24, Tryd.ntmps24
  go_wp2
  go_loop [6] (fun i => ∃ k : Nat, (k : Int) ≤ 16 ∧ (0 ≤ t → t < 64 * k → t % 64 ≠ 0) ∧ i = .int .i64 k) (fun i => (2000 - intOf i).toNat)
  case atStart => exact ⟨0, by omega, by omega, rfl⟩
  case round =>
    obtain ⟨k, hk, hno, rfl⟩ := hrel
    by_cases hlt : (k : Int) < 16
    · by_cases heq : (k : Int) * 64 = t
      · have H := Lib.hid (show (k : Int) = ixI 3 t ∧ true = ixB 3 t from ⟨(show (k : Int) = t / 64 by omega).trans (ix_yes (c := 3) (t := t) ⟨by omega, by omega, show t % 64 = 0 by omega, show t / 64 < 16 by omega⟩).1.symm, (ix_yes (c := 3) (t := t) ⟨by omega, by omega, show t % 64 = 0 by omega, show t / 64 < 16 by omega⟩).2.symm⟩)
        have hd : ((k : Int) * 64 == t) = true := by simpa using heq
        clear heq hno
        go_wp2_with (first | (go_at_call 13; refine (rblocks_val 3 16 rfl _).mono ?_; rintro e w' ⟨rfl, rfl⟩) | (go_at_call 11; refine (rsize_val 3 64 rfl _).mono ?_; rintro e w' ⟨rfl, rfl⟩))
        go_ret2
        exact ⟨ret_ib ⟨H.out.1.symm, H.out.2.symm⟩, rfl⟩
      · have hd : ((k : Int) * 64 == t) = false := by simpa using heq
        have hno2 := Lib.hid (show 0 ≤ t → t < 64 * ((k + 1 : Nat) : Int) → t % 64 ≠ 0 by (intro a b; by_cases hh : t < 64 * (k : Int); exact hno a hh; omega))
        clear heq hno
        go_wp2_with (first | (go_at_call 13; refine (rblocks_val 3 16 rfl _).mono ?_; rintro e w' ⟨rfl, rfl⟩) | (go_at_call 11; refine (rsize_val 3 64 rfl _).mono ?_; rintro e w' ⟨rfl, rfl⟩))
        go_round
        case rel => exact ⟨k + 1, by omega, hno2.out, by go_num⟩
        case measure => simp [intOf]; omega
    · have hm : ¬ ((1 ≤ (3 : Int) ∧ (3 : Int) ≤ 9) ∧ 0 ≤ t ∧ t % sz 3 = 0 ∧ t / sz 3 < bl 3) := by
        rintro ⟨-, q1, q2, q3⟩
        have q2' : t % 64 = 0 := q2
        have q3' : t / 64 < 16 := q3
        exact hno q1 (by omega) q2'
      have H := Lib.hid (ix_no hm)
      obtain rfl : k = 16 := by omega
      clear hlt hk hno hm
      go_wp2_with (first | (go_at_call 13; refine (rblocks_val 3 16 rfl _).mono ?_; rintro e w' ⟨rfl, rfl⟩) | (go_at_call 11; refine (rsize_val 3 64 rfl _).mono ?_; rintro e w' ⟨rfl, rfl⟩))
      go_ret2
      exact ⟨ret_ib H.out, rfl⟩
set_option maxHeartbeats 800000 in
theorem rindex_4 (t : Int) (w : World) : Calls Tryd.prog 24 #[.int .i64 4, .int .i64 t] w fun e w' => e = .returned (.tuple #[.int .i64 (ixI 4 t), .bool (ixB 4 t)]) ∧ w = w' := by
  go_enter Tryd.func24, Tryd.ntmps24
  go_wp2
  go_loop [6] (fun i => ∃ k : Nat, (k : Int) ≤ 10 ∧ (0 ≤ t → t < 96 * k → t % 96 ≠ 0) ∧ i = .int .i64 k) (fun i => (2000 - intOf i).toNat)
  case atStart => exact ⟨0, by omega, by omega, rfl⟩
  case round =>
    obtain ⟨k, hk, hno, rfl⟩ := hrel
    by_cases hlt : (k : Int) < 10
    · by_cases heq : (k : Int) * 96 = t
      · have H := Lib.hid (show (k : Int) = ixI 4 t ∧ true = ixB 4 t from ⟨(show (k : Int) = t / 96 by omega).trans (ix_yes (c := 4) (t := t) ⟨by omega, by omega, show t % 96 = 0 by omega, show t / 96 < 10 by omega⟩).1.symm, (ix_yes (c := 4) (t := t) ⟨by omega, by omega, show t % 96 = 0 by omega, show t / 96 < 10 by omega⟩).2.symm⟩)
        have hd : ((k : Int) * 96 == t) = true := by simpa using heq
        clear heq hno
        go_wp2_with (first | (go_at_call 13; refine (rblocks_val 4 10 rfl _).mono ?_; rintro e w' ⟨rfl, rfl⟩) | (go_at_call 11; refine (rsize_val 4 96 rfl _).mono ?_; rintro e w' ⟨rfl, rfl⟩))
        go_ret2
        exact ⟨ret_ib ⟨H.out.1.symm, H.out.2.symm⟩, rfl⟩
      · have hd : ((k : Int) * 96 == t) = false := by simpa using heq
        have hno2 := Lib.hid (show 0 ≤ t → t < 96 * ((k + 1 : Nat) : Int) → t % 96 ≠ 0 by (intro a b; by_cases hh : t < 96 * (k : Int); exact hno a hh; omega))
        clear heq hno
        go_wp2_with (first | (go_at_call 13; refine (rblocks_val 4 10 rfl _).mono ?_; rintro e w' ⟨rfl, rfl⟩) | (go_at_call 11; refine (rsize_val 4 96 rfl _).mono ?_; rintro e w' ⟨rfl, rfl⟩))
        go_round
        case rel => exact ⟨k + 1, by omega, hno2.out, by go_num⟩
        case measure => simp [intOf]; omega
    · have hm : ¬ ((1 ≤ (4 : Int) ∧ (4 : Int) ≤ 9) ∧ 0 ≤ t ∧ t % sz 4 = 0 ∧ t / sz 4 < bl 4) := by
        rintro ⟨-, q1, q2, q3⟩
        have q2' : t % 96 = 0 := q2
        have q3' : t / 96 < 10 := q3
        exact hno q1 (by omega) q2'
      have H := Lib.hid (ix_no hm)
      obtain rfl : k = 10 := by omega
      clear hlt hk hno hm
      go_wp2_with (first | (go_at_call 13; refine (rblocks_val 4 10 rfl _).mono ?_; rintro e w' ⟨rfl, rfl⟩) | (go_at_call 11; refine (rsize_val 4 96 rfl _).mono ?_; rintro e w' ⟨rfl, rfl⟩))
      go_ret2
      exact ⟨ret_ib H.out, rfl⟩
set_option maxHeartbeats 800000 in
theorem rindex_5 (t : Int) (w : World) : Calls Tryd.prog 24 #[.int .i64 5, .int .i64 t] w fun e w' => e = .returned (.tuple #[.int .i64 (ixI 5 t), .bool (ixB 5 t)]) ∧ w = w' := by
  go_enter Tryd.func24, Tryd.ntmps24
  go_wp2
  go_loop [6] (fun i => ∃ k : Nat, (k : Int) ≤ 8 ∧ (0 ≤ t → t < 128 * k → t % 128 ≠ 0) ∧ i = .int .i64 k) (fun i => (2000 - intOf i).toNat)
  case atStart => exact ⟨0, by omega, by omega, rfl⟩
  case round =>
    obtain ⟨k, hk, hno, rfl⟩ := hrel
    by_cases hlt : (k : Int) < 8
    · by_cases heq : (k : Int) * 128 = t
      · have H := Lib.hid (show (k : Int) = ixI 5 t ∧ true = ixB 5 t from ⟨(show (k : Int) = t / 128 by omega).trans (ix_yes (c := 5) (t := t) ⟨by omega, by omega, show t % 128 = 0 by omega, show t / 128 < 8 by omega⟩).1.symm, (ix_yes (c := 5) (t := t) ⟨by omega, by omega, show t % 128 = 0 by omega, show t / 128 < 8 by omega⟩).2.symm⟩)
        have hd : ((k : Int) * 128 == t) = true := by simpa using heq
        clear heq hno
        go_wp2_with (first | (go_at_call 13; refine (rblocks_val 5 8 rfl _).mono ?_; rintro e w' ⟨rfl, rfl⟩) | (go_at_call 11; refine (rsize_val 5 128 rfl _).mono ?_; rintro e w' ⟨rfl, rfl⟩))
        go_ret2
        exact ⟨ret_ib ⟨H.out.1.symm, H.out.2.symm⟩, rfl⟩
      · have hd : ((k : Int) * 128 == t) = false := by simpa using heq
        have hno2 := Lib.hid (show 0 ≤ t → t < 128 * ((k + 1 : Nat) : Int) → t % 128 ≠ 0 by (intro a b; by_cases hh : t < 128 * (k : Int); exact hno a hh; omega))
        clear heq hno
        go_wp2_with (first | (go_at_call 13; refine (rblocks_val 5 8 rfl _).mono ?_; rintro e w' ⟨rfl, rfl⟩) | (go_at_call 11; refine (rsize_val 5 128 rfl _).mono ?_; rintro e w' ⟨rfl, rfl⟩))
        go_round
        case rel => exact ⟨k + 1, by omega, hno2.out, by go_num⟩
        case measure => simp [intOf]; omega
    · have hm : ¬ ((1 ≤ (5 : Int) ∧ (5 : Int) ≤ 9) ∧ 0 ≤ t ∧ t % sz 5 = 0 ∧ t / sz 5 < bl 5) := by
        rintro ⟨-, q1, q2, q3⟩
        have q2' : t % 128 = 0 := q2
        have q3' : t / 128 < 8 := q3
        exact hno q1 (by omega) q2'
      have H := Lib.hid (ix_no hm)
      obtain rfl : k = 8 := by omega
      clear hlt hk hno hm
      go_wp2_with (first | (go_at_call 13; refine (rblocks_val 5 8 rfl _).mono ?_; rintro e w' ⟨rfl, rfl⟩) | (go_at_call 11; refine (rsize_val 5 128 rfl _).mono ?_; rintro e w' ⟨rfl, rfl⟩))
      go_ret2
      exact ⟨ret_ib H.out, rfl⟩
set_option maxHeartbeats 800000 in
theorem rindex_6 (t : Int) (w : World) : Calls Tryd.prog 24 #[.int .i64 6, .int .i64 t] w fun e w' => e = .returned (.tuple #[.int .i64 (ixI 6 t), .bool (ixB 6 t)]) ∧ w = w' := by
  go_enter Tryd.func24, Tryd.ntmps24
  go_wp2
  go_loop [6] (fun i => ∃ k : Nat, (k : Int) ≤ 5 ∧ (0 ≤ t → t < 192 * k → t % 192 ≠ 0) ∧ i = .int .i64 k) (fun i => (2000 - intOf i).toNat)
  case atStart => exact ⟨0, by omega, by omega, rfl⟩
  case round =>
    obtain ⟨k, hk, hno, rfl⟩ := hrel
    by_cases hlt : (k : Int) < 5
    · by_cases heq : (k : Int) * 192 = t
      · have H := Lib.hid (show (k : Int) = ixI 6 t ∧ true = ixB 6 t from ⟨(show (k : Int) = t / 192 by omega).trans (ix_yes (c := 6) (t := t) ⟨by omega, by omega, show t % 192 = 0 by omega, show t / 192 < 5 by omega⟩).1.symm, (ix_yes (c := 6) (t := t) ⟨by omega, by omega, show t % 192 = 0 by omega, show t / 192 < 5 by omega⟩).2.symm⟩)
        have hd : ((k : Int) * 192 == t) = true := by simpa using heq
        clear heq hno
        go_wp2_with (first | (go_at_call 13; refine (rblocks_val 6 5 rfl _).mono ?_; rintro e w' ⟨rfl, rfl⟩) | (go_at_call 11; refine (rsize_val 6 192 rfl _).mono ?_; rintro e w' ⟨rfl, rfl⟩))
        go_ret2
        exact ⟨ret_ib ⟨H.out.1.symm, H.out.2.symm⟩, rfl⟩
      · have hd : ((k : Int) * 192 == t) = false := by simpa using heq
        have hno2 := Lib.hid (show 0 ≤ t → t < 192 * ((k + 1 : Nat) : Int) → t % 192 ≠ 0 by (intro a b; by_cases hh : t < 192 * (k : Int); exact hno a hh; omega))
        clear heq hno
        go_wp2_with (first | (go_at_call 13; refine (rblocks_val 6 5 rfl _).mono ?_; rintro e w' ⟨rfl, rfl⟩) | (go_at_call 11; refine (rsize_val 6 192 rfl _).mono ?_; rintro e w' ⟨rfl, rfl⟩))
        go_round
        case rel => exact ⟨k + 1, by omega, hno2.out, by go_num⟩
        case measure => simp [intOf]; omega
    · have hm : ¬ ((1 ≤ (6 : Int) ∧ (6 : Int) ≤ 9) ∧ 0 ≤ t ∧ t % sz 6 = 0 ∧ t / sz 6 < bl 6) := by
        rintro ⟨-, q1, q2, q3⟩
        have q2' : t % 192 = 0 := q2
        have q3' : t / 192 < 5 := q3
        exact hno q1 (by omega) q2'
      have H := Lib.hid (ix_no hm)
      obtain rfl : k = 5 := by omega
      clear hlt hk hno hm
      go_wp2_with (first | (go_at_call 13; refine (rblocks_val 6 5 rfl _).mono ?_; rintro e w' ⟨rfl, rfl⟩) | (go_at_call 11; refine (rsize_val 6 192 rfl _).mono ?_; rintro e w' ⟨rfl, rfl⟩))
      go_ret2
      exact ⟨ret_ib H.out, rfl⟩
set_option maxHeartbeats 800000 in
theorem rindex_7 (t : Int) (w : World) : Calls Tryd.prog 24 #[.int .i64 7, .int .i64 t] w fun e w' => e = .returned (.tuple #[.int .i64 (ixI 7 t), .bool (ixB 7 t)]) ∧ w = w' := by
  go_enter Tryd.func24, Tryd.ntmps24
  go_wp2
  go_loop [6] (fun i => ∃ k : Nat, (k : Int) ≤ 4 ∧ (0 ≤ t → t < 256 * k → t % 256 ≠ 0) ∧ i = .int .i64 k) (fun i => (2000 - intOf i).toNat)
  case atStart => exact ⟨0, by omega, by omega, rfl⟩
  case round =>
    obtain ⟨k, hk, hno, rfl⟩ := hrel
    by_cases hlt : (k : Int) < 4
    · by_cases heq : (k : Int) * 256 = t
      · have H := Lib.hid (show (k : Int) = ixI 7 t ∧ true = ixB 7 t from ⟨(show (k : Int) = t / 256 by omega).trans (ix_yes (c := 7) (t := t) ⟨by omega, by omega, show t % 256 = 0 by omega, show t / 256 < 4 by omega⟩).1.symm, (ix_yes (c := 7) (t := t) ⟨by omega, by omega, show t % 256 = 0 by omega, show t / 256 < 4 by omega⟩).2.symm⟩)
        have hd : ((k : Int) * 256 == t) = true := by simpa using heq
        clear heq hno
        go_wp2_with (first | (go_at_call 13; refine (rblocks_val 7 4 rfl _).mono ?_; rintro e w' ⟨rfl, rfl⟩) | (go_at_call 11; refine (rsize_val 7 256 rfl _).mono ?_; rintro e w' ⟨rfl, rfl⟩))
        go_ret2
        exact ⟨ret_ib ⟨H.out.1.symm, H.out.2.symm⟩, rfl⟩
      · have hd : ((k : Int) * 256 == t) = false := by simpa using heq
        have hno2 := Lib.hid (show 0 ≤ t → t < 256 * ((k + 1 : Nat) : Int) → t % 256 ≠ 0 by (intro a b; by_cases hh : t < 256 * (k : Int); exact hno a hh; omega))
        clear heq hno
        go_wp2_with (first | (go_at_call 13; refine (rblocks_val 7 4 rfl _).mono ?_; rintro e w' ⟨rfl, rfl⟩) | (go_at_call 11; refine (rsize_val 7 256 rfl _).mono ?_; rintro e w' ⟨rfl, rfl⟩))
        go_round
        case rel => exact ⟨k + 1, by omega, hno2.out, by go_num⟩
        case measure => simp [intOf]; omega
    · have hm : ¬ ((1 ≤ (7 : Int) ∧ (7 : Int) ≤ 9) ∧ 0 ≤ t ∧ t % sz 7 = 0 ∧ t / sz 7 < bl 7) := by
        rintro ⟨-, q1, q2, q3⟩
        have q2' : t % 256 = 0 := q2
        have q3' : t / 256 < 4 := q3
        exact hno q1 (by omega) q2'
      have H := Lib.hid (ix_no hm)
      obtain rfl : k = 4 := by omega
      clear hlt hk hno hm
      go_wp2_with (first | (go_at_call 13; refine (rblocks_val 7 4 rfl _).mono ?_; rintro e w' ⟨rfl, rfl⟩) | (go_at_call 11; refine (rsize_val 7 256 rfl _).mono ?_; rintro e w' ⟨rfl, rfl⟩))
      go_ret2
      exact ⟨ret_ib H.out, rfl⟩
set_option maxHeartbeats 800000 in
theorem rindex_8 (t : Int) (w : World) : Calls Tryd.prog 24 #[.int .i64 8, .int .i64 t] w fun e w' => e = .returned (.tuple #[.int .i64 (ixI 8 t), .bool (ixB 8 t)]) ∧ w = w' := by
  go_enter Tryd.func24, Tryd.ntmps24
  go_wp2
  go_loop [6] (fun i => ∃ k : Nat, (k : Int) ≤ 2 ∧ (0 ≤ t → t < 384 * k → t % 384 ≠ 0) ∧ i = .int .i64 k) (fun i => (2000 - intOf i).toNat)
  case atStart => exact ⟨0, by omega, by omega, rfl⟩
  case round =>
    obtain ⟨k, hk, hno, rfl⟩ := hrel
    by_cases hlt : (k : Int) < 2
    · by_cases heq : (k : Int) * 384 = t
      · have H := Lib.hid (show (k : Int) = ixI 8 t ∧ true = ixB 8 t from ⟨(show (k : Int) = t / 384 by omega).trans (ix_yes (c := 8) (t := t) ⟨by omega, by omega, show t % 384 = 0 by omega, show t / 384 < 2 by omega⟩).1.symm, (ix_yes (c := 8) (t := t) ⟨by omega, by omega, show t % 384 = 0 by omega, show t / 384 < 2 by omega⟩).2.symm⟩)
        have hd : ((k : Int) * 384 == t) = true := by simpa using heq
        clear heq hno
        go_wp2_with (first | (go_at_call 13; refine (rblocks_val 8 2 rfl _).mono ?_; rintro e w' ⟨rfl, rfl⟩) | (go_at_call 11; refine (rsize_val 8 384 rfl _).mono ?_; rintro e w' ⟨rfl, rfl⟩))
        go_ret2
        exact ⟨ret_ib ⟨H.out.1.symm, H.out.2.symm⟩, rfl⟩
      · have hd : ((k : Int) * 384 == t) = false := by simpa using heq
        have hno2 := Lib.hid (show 0 ≤ t → t < 384 * ((k + 1 : Nat) : Int) → t % 384 ≠ 0 by (intro a b; by_cases hh : t < 384 * (k : Int); exact hno a hh; omega))
        clear heq hno
        go_wp2_with (first | (go_at_call 13; refine (rblocks_val 8 2 rfl _).mono ?_; rintro e w' ⟨rfl, rfl⟩) | (go_at_call 11; refine (rsize_val 8 384 rfl _).mono ?_; rintro e w' ⟨rfl, rfl⟩))
        go_round
        case rel => exact ⟨k + 1, by omega, hno2.out, by go_num⟩
        case measure => simp [intOf]; omega
    · have hm : ¬ ((1 ≤ (8 : Int) ∧ (8 : Int) ≤ 9) ∧ 0 ≤ t ∧ t % sz 8 = 0 ∧ t / sz 8 < bl 8) := by
        rintro ⟨-, q1, q2, q3⟩
        have q2' : t % 384 = 0 := q2
        have q3' : t / 384 < 2 := q3
        exact hno q1 (by omega) q2'
      have H := Lib.hid (ix_no hm)
      obtain rfl : k = 2 := by omega
      clear hlt hk hno hm
      go_wp2_with (first | (go_at_call 13; refine (rblocks_val 8 2 rfl _).mono ?_; rintro e w' ⟨rfl, rfl⟩) | (go_at_call 11; refine (rsize_val 8 384 rfl _).mono ?_; rintro e w' ⟨rfl, rfl⟩))
      go_ret2
      exact ⟨ret_ib H.out, rfl⟩
set_option maxHeartbeats 800000 in
theorem rindex_9 (t : Int) (w : World) : Calls Tryd.prog 24 #[.int .i64 9, .int .i64 t] w fun e w' => e = .returned (.tuple #[.int .i64 (ixI 9 t), .bool (ixB 9 t)]) ∧ w = w' := by
  go_enter Tryd.func24, Tryd.ntmps24
  go_wp2
  go_loop [6] (fun i => ∃ k : Nat, (k : Int) ≤ 2 ∧ (0 ≤ t → t < 512 * k → t % 512 ≠ 0) ∧ i = .int .i64 k) (fun i => (2000 - intOf i).toNat)
  case atStart => exact ⟨0, by omega, by omega, rfl⟩
  case round =>
    obtain ⟨k, hk, hno, rfl⟩ := hrel
    by_cases hlt : (k : Int) < 2
    · by_cases heq : (k : Int) * 512 = t
      · have H := Lib.hid (show (k : Int) = ixI 9 t ∧ true = ixB 9 t from ⟨(show (k : Int) = t / 512 by omega).trans (ix_yes (c := 9) (t := t) ⟨by omega, by omega, show t % 512 = 0 by omega, show t / 512 < 2 by omega⟩).1.symm, (ix_yes (c := 9) (t := t) ⟨by omega, by omega, show t % 512 = 0 by omega, show t / 512 < 2 by omega⟩).2.symm⟩)
        have hd : ((k : Int) * 512 == t) = true := by simpa using heq
        clear heq hno
        go_wp2_with (first | (go_at_call 13; refine (rblocks_val 9 2 rfl _).mono ?_; rintro e w' ⟨rfl, rfl⟩) | (go_at_call 11; refine (rsize_val 9 512 rfl _).mono ?_; rintro e w' ⟨rfl, rfl⟩))
        go_ret2
        exact ⟨ret_ib ⟨H.out.1.symm, H.out.2.symm⟩, rfl⟩
      · have hd : ((k : Int) * 512 == t) = false := by simpa using heq
        have hno2 := Lib.hid (show 0 ≤ t → t < 512 * ((k + 1 : Nat) : Int) → t % 512 ≠ 0 by (intro a b; by_cases hh : t < 512 * (k : Int); exact hno a hh; omega))
        clear heq hno
        go_wp2_with (first | (go_at_call 13; refine (rblocks_val 9 2 rfl _).mono ?_; rintro e w' ⟨rfl, rfl⟩) | (go_at_call 11; refine (rsize_val 9 512 rfl _).mono ?_; rintro e w' ⟨rfl, rfl⟩))
        go_round
        case rel => exact ⟨k + 1, by omega, hno2.out, by go_num⟩
        case measure => simp [intOf]; omega
    · have hm : ¬ ((1 ≤ (9 : Int) ∧ (9 : Int) ≤ 9) ∧ 0 ≤ t ∧ t % sz 9 = 0 ∧ t / sz 9 < bl 9) := by
        rintro ⟨-, q1, q2, q3⟩
        have q2' : t % 512 = 0 := q2
        have q3' : t / 512 < 2 := q3
        exact hno q1 (by omega) q2'
      have H := Lib.hid (ix_no hm)
      obtain rfl : k = 2 := by omega
      clear hlt hk hno hm
      go_wp2_with (first | (go_at_call 13; refine (rblocks_val 9 2 rfl _).mono ?_; rintro e w' ⟨rfl, rfl⟩) | (go_at_call 11; refine (rsize_val 9 512 rfl _).mono ?_; rintro e w' ⟨rfl, rfl⟩))
      go_ret2
      exact ⟨ret_ib H.out, rfl⟩
theorem rindex_out (c t : Int) (w : World) (h : c < 1 ∨ 9 < c) : Calls Tryd.prog 24 #[.int .i64 c, .int .i64 t] w fun e w' => e = .returned (.tuple #[.int .i64 (ixI c t), .bool (ixB c t)]) ∧ w = w' := by
  have H := Lib.hid (ix_no (c := c) (t := t) (by omega))
  go_enter Tryd.func24, Tryd.ntmps24
  go_wp2
  go_loop [6] (fun i => i = .int .i64 0) (fun _ => 0)
  case atStart => rfl
  case round =>
    subst hrel
    go_wp2_with (go_at_call 13; refine (rblocks_val _ 0 (bl_out _ h) _).mono ?_; rintro e w' ⟨rfl, rfl⟩)
    go_ret2
    exact ⟨ret_ib H.out, rfl⟩
theorem rindex_any (c t : Int) (w : World) : Calls Tryd.prog 24 #[.int .i64 c, .int .i64 t] w fun e w' => e = .returned (.tuple #[.int .i64 (ixI c t), .bool (ixB c t)]) ∧ w = w' := by
  rcases c_cases c with h | h | rfl | rfl | rfl | rfl | rfl | rfl | rfl | rfl | rfl
  · exact rindex_out c t w (.inl h)
  · exact rindex_out c t w (.inr h)
  · exact rindex_1 t w
  · exact rindex_2 t w
  · exact rindex_3 t w
  · exact rindex_4 t w
  · exact rindex_5 t w
  · exact rindex_6 t w
  · exact rindex_7 t w
  · exact rindex_8 t w
  · exact rindex_9 t w
set_option maxHeartbeats 800000 in
theorem classes_true (w : World) (hT : Tab w) : Calls Tryd.prog 16 #[] w fun e w' => e = .returned (.bool true) ∧ w = w' := by
  go_enter Tryd.func16, Tryd.ntmps16
  go_wp2_with (first
    | (go_at_call 8; refine (of_val 33 2 0 rfl rfl _ hT).mono ?_; rintro e w' ⟨rfl, rfl⟩)
    | (go_at_call 21; refine (place_val 2 20 960 0 rfl rfl _ hT).mono ?_; rintro e w' ⟨rfl, rfl⟩)
    | (go_at_call 17; refine (entry_val 480 9 0 rfl rfl _ hT).mono ?_; rintro e w' ⟨rfl, rfl⟩)
    | (go_at_call 19; refine (node_val 17 2 0 rfl rfl _ hT).mono ?_; rintro e w' ⟨rfl, rfl⟩)
    | (go_at_call 12; refine (blocks_val 2 21 rfl _ hT).mono ?_; rintro e w' ⟨rfl, rfl⟩)
    | (go_at_call 14; refine (pad_val 2 16 rfl _ hT).mono ?_; rintro e w' ⟨rfl, rfl⟩)
    | (go_at_call 10; refine (size_val 9 512 rfl _ hT).mono ?_; rintro e w' ⟨rfl, rfl⟩))
  go_ret
  exact ⟨rfl, rfl⟩
end Cls
end Go.Proofs.YteekbpcifiojlaaDoor
