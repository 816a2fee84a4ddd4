/- Layers 6 and 7: the contracts of Few, Size and the document's Size. -/
import Derived.Test.YtajkcghbdbjmaaaRpA
import Derived.Lib.MinMax
namespace Go.Proofs.Ytajkcghbdbjmaaa
open Go.RowKit
namespace Rc

theorem wrap64 {a : Int} {m : Nat} (h : a = (m : Int)) (hm : m ≤ 9223372036854775807) : IntKind.i64.wrap a = (m : Int) := by
  rw [h]
  exact IntWalk.i64_in _ (by omega)
/-- The relation of the loops that sum. -/
def SumR (f : Nat → Nat) (t m : Nat) (rs : List (List Nat)) (W : World) (s i : Value) (w : World) : Prop :=
  ∃ k : Nat, k ≤ rs.length ∧ s = .int .i64 ((t + sumTo f rs k : Nat) : Int) ∧ i = .int .i64 (k : Int) ∧ w = W ∧ t + sumTo f rs k ≤ m
set_option maxHeartbeats 1600000 in
theorem few_any (rs : List (List Nat)) (A : Option Addr) (n c : Nat) (W : World) (h : RdRecs W A n rs) (hn : n ≤ 9223372036854775807) :
    Calls Try.prog 17 #[.slice A n c] W fun e w => e = .returned (.bool (fewB rs)) ∧ W = w := by
  have H := Lib.hid h
  have HL := Lib.hid h.len
  clear h
  go_enter Try.func17, Try.ntmps17
  go_wp2_with fail
  go_loopw [3, 4] (SumR (fun x => min x 9999) 0 13000 rs W) (fun _ i _ => n - (intOf i).toNat)
  case atStart => exact ⟨0, by omega, by simp, rfl, rfl, by simp⟩
  case round =>
    obtain ⟨k, hk, rfl, rfl, rfl, hs⟩ := hrel
    rw [HL.out] at hk
    rw [Nat.zero_add] at hs ⊢
    obtain ⟨s, hs0⟩ : ∃ s, sumTo (fun x => min x 9999) rs k = s := ⟨_, rfl⟩
    have HS := Lib.hid hs0
    rw [hs0] at hs ⊢
    clear hs0
    by_cases hkn : k < n
    · by_cases h3 : s ≤ 3000
      · obtain ⟨b, off, A', l, c', rfl, hl, hc, _, _, hlc, hcm, _⟩ := H.out.at hkn
        have HL1 := Lib.hid hl
        have h0 : (0 : Int) ≤ (k : Int) := by omega
        have h1 : (k : Int) < (n : Int) := by omega
        have h3' : (s : Int) ≤ 3000 := by omega
        obtain ⟨t, ht⟩ : ∃ t, min l 9999 = t := ⟨_, rfl⟩
        have hm : min (l : Int) 9999 = (t : Int) := by omega
        have hw : IntKind.i64.wrap ((s : Int) + (t : Int)) = ((s + t : Nat) : Int) := wrap64 (by omega) (by omega)
        have HT := Lib.hid ht
        clear hl ht
        go_wp2_with fail
        go_roundw
        case rel => exact ⟨k + 1, by rw [HL.out]; omega, by rw [Nat.zero_add, sumTo_succ _ (by rw [HL.out]; exact hkn), HS.out, HL1.out, HT.out]; exact congrArg _ (by omega), by go_num, rfl, by rw [Nat.zero_add, sumTo_succ _ (by rw [HL.out]; exact hkn), HS.out, HL1.out, HT.out]; omega⟩
        case measure => simp [intOf]; omega
      · have hf : fewB rs = false := few_stop (k := k) (by rw [HL.out]; exact hk) (by rw [HS.out]; omega)
        have HF := Lib.hid hf
        have h1 : (k : Int) < (n : Int) := by omega
        have h3' : ¬ ((s : Int) ≤ 3000) := by omega
        clear hf
        by_cases h6 : n ≤ 60
        · have h6' : (n : Int) ≤ 60 := by omega
          go_wp2_with fail
          go_ret
          exact ⟨by rw [HF.out]; simp, rfl⟩
        · have h6' : ¬ ((n : Int) ≤ 60) := by omega
          go_wp2_with fail
          go_ret
          exact ⟨by rw [HF.out]; simp, rfl⟩
    · obtain rfl : n = k := by omega
      have hf : fewB rs = (decide (n ≤ 60) && decide (s ≤ 3000)) := by rw [few_full, HL.out, HS.out]
      have HF := Lib.hid hf
      clear hf
      by_cases h6 : n ≤ 60
      · have h6' : (n : Int) ≤ 60 := by omega
        by_cases h3 : s ≤ 3000
        · have h3' : (s : Int) ≤ 3000 := by omega
          go_wp2_with fail
          go_ret
          exact ⟨by rw [HF.out]; simp [h6, h3], rfl⟩
        · have h3' : ¬ ((s : Int) ≤ 3000) := by omega
          go_wp2_with fail
          go_ret
          exact ⟨by rw [HF.out]; simp [h6, h3], rfl⟩
      · have h6' : ¬ ((n : Int) ≤ 60) := by omega
        go_wp2_with fail
        go_ret
        exact ⟨by rw [HF.out]; simp [h6], rfl⟩
theorem one_any (A : Option Addr) (l c : Nat) (W : World) : Calls Try.prog 30 #[.slice A l c] W fun e w => e = .returned (.int .i64 ((2 + min l 480 : Nat) : Int)) ∧ W = w := by
  obtain ⟨t, ht⟩ : ∃ t, min l 480 = t := ⟨_, rfl⟩
  have hm : min (l : Int) 480 = (t : Int) := by omega
  have hw : IntKind.i64.wrap (2 + (t : Int)) = ((2 + t : Nat) : Int) := wrap64 (by omega) (by omega)
  rw [ht]
  clear ht
  go_enter Try.func30, Try.ntmps30
  go_wp2_with fail
  go_ret
  exact ⟨rfl, rfl⟩
set_option maxHeartbeats 1600000 in
theorem summed_any (rs : List (List Nat)) (A : Option Addr) (n c : Nat) (W : World) (h : RdRecs W A n rs) (hn : n ≤ 16) :
    Calls Try.prog 29 #[.slice A n c, .func (.func 30) #[] #[]] W fun e w => e = .returned (.int .i64 ((sumTo (fun x => 2 + min x 480) rs rs.length : Nat) : Int)) ∧ W = w := by
  have H := Lib.hid h
  have HL := Lib.hid h.len
  clear h
  go_enter Try.func29, Try.ntmps29
  go_wp2_with fail
  go_loopw [5, 10] (SumR (fun x => 2 + min x 480) 0 16000 rs W) (fun _ i _ => n - (intOf i).toNat)
  case atStart => exact ⟨0, by omega, by simp, rfl, rfl, by simp⟩
  case round =>
    obtain ⟨k, hk, rfl, rfl, rfl, hs⟩ := hrel
    rw [HL.out] at hk
    rw [Nat.zero_add] at hs ⊢
    have hst := sumTo_le (f := fun x => 2 + min x 480) (m := 482) (by intro x; omega) rs (k + 1)
    obtain ⟨s, hs0⟩ : ∃ s, sumTo (fun x => 2 + min x 480) rs k = s := ⟨_, rfl⟩
    have HS := Lib.hid hs0
    rw [hs0] at hs ⊢
    by_cases hkn : k < n
    · rw [HL.out, sumTo_succ _ (by rw [HL.out]; exact hkn), hs0] at hst
      obtain ⟨b, off, A', l, c', rfl, hl, hc, _, _, hlc, hcm, _⟩ := H.out.at hkn
      have HL1 := Lib.hid hl
      rw [hl] at hst
      have hone := Lib.hid (one_any A' l c' wr)
      obtain ⟨t, ht⟩ : ∃ t, 2 + min l 480 = t := ⟨_, rfl⟩
      rw [ht] at hst hone
      have h0 : (0 : Int) ≤ (k : Int) := by omega
      have h1 : (k : Int) < (n : Int) := by omega
      have hst' := hst (by omega)
      have hw : IntKind.i64.wrap ((s : Int) + (t : Int)) = ((s + t : Nat) : Int) := wrap64 (by omega) (by omega)
      have HT := Lib.hid ht
      clear hl ht hs0 hst
      go_wp2_with fail
      refine hone.out.mono ?_
      rintro e w' ⟨rfl, rfl⟩
      go_wp2_with fail
      go_roundw
      case rel => exact ⟨k + 1, by rw [HL.out]; omega, by rw [Nat.zero_add, sumTo_succ _ (by rw [HL.out]; exact hkn), HS.out, HL1.out, HT.out]; exact congrArg _ (by omega), by go_num, rfl, by rw [Nat.zero_add, sumTo_succ _ (by rw [HL.out]; exact hkn), HS.out, HL1.out, HT.out]; omega⟩
      case measure => simp [intOf]; omega
    · obtain rfl : n = k := by omega
      clear hs0 hst
      go_wp2_with fail
      go_ret
      exact ⟨by rw [HL.out, HS.out]; rfl, rfl⟩
/-- What Size answers. -/
def SzRes (rs : List (List Nat)) (W : World) (e : Ending) (w : World) : Prop :=
  e = .returned (.tuple #[.int .i64 (sizeN rs : Nat), .int .i64 (packE rs : Nat)]) ∧ W = w
set_option maxHeartbeats 1600000 in
theorem size_any (rs : List (List Nat)) (A : Option Addr) (n c : Nat) (W : World) (h : RdRecs W A n rs) (hn : n ≤ 9223372036854775807) :
    Calls Try.prog 26 #[.slice A n c] W (SzRes rs W) := by
  have HL := Lib.hid h.len
  by_cases h1 : n < 1
  · have hp : packE rs = 2 := by unfold packE; rw [if_pos (by rw [HL.out]; omega)]
    have HP := Lib.hid (show sizeN rs = 0 ∧ packE rs = 2 by unfold sizeN; rw [hp]; exact ⟨rfl, rfl⟩)
    have h1' : (n : Int) < 1 := by omega
    clear h hp
    go_enter Try.func26, Try.ntmps26
    go_wp2_with fail
    go_ret2
    exact ⟨by rw [HP.out.1, HP.out.2]; rfl, rfl⟩
  have h1' : ¬ ((n : Int) < 1) := by omega
  by_cases h2 : 16 < n
  · have hp : packE rs = 2 := by unfold packE; rw [if_pos (by rw [HL.out]; omega)]
    have HP := Lib.hid (show sizeN rs = 0 ∧ packE rs = 2 by unfold sizeN; rw [hp]; exact ⟨rfl, rfl⟩)
    have h2' : (16 : Int) < (n : Int) := by omega
    clear h hp
    go_enter Try.func26, Try.ntmps26
    go_wp2_with fail
    go_ret2
    exact ⟨by rw [HP.out.1, HP.out.2]; rfl, rfl⟩
  have h2' : ¬ ((16 : Int) < (n : Int)) := by omega
  have hsum := summed_any rs A n c W h (by omega)
  have hcut := packE_cut (rs := rs) (by rw [HL.out]; omega) (by rw [HL.out]; omega)
  have hle := sumTo_le (f := fun x => 2 + min x 480) (m := 482) (by intro x; omega) rs _ (Nat.le_refl _)
  have hlong : sumTo (fun x => 2 + min x 480) rs rs.length + 2 ≤ 480 → 2 + sumTo (fun x => 2 + min x 480) rs rs.length = packLen rs := by
    unfold packLen total
    rw [sumTo_two (fun x => min x 480) 2 rs _ (Nat.le_refl _)]
    have := sumTo_cut 480 rs rs.length (Nat.le_refl _)
    omega
  obtain ⟨s, hs⟩ : ∃ s, sumTo (fun x => 2 + min x 480) rs rs.length = s := ⟨_, rfl⟩
  rw [hs] at hsum hcut hle hlong
  rw [HL.out] at hle
  have HS := Lib.hid hsum
  have hw : IntKind.i64.wrap (2 + (s : Int)) = ((2 + s : Nat) : Int) := wrap64 (by omega) (by omega)
  by_cases h3 : 480 < 2 + s
  · have HP := Lib.hid (show sizeN rs = 0 ∧ packE rs = 22 by unfold sizeN; rw [hcut, if_pos h3]; exact ⟨rfl, rfl⟩)
    have h3' : (480 : Int) < 2 + (s : Int) := by omega
    clear h hsum hcut hlong hs
    go_enter Try.func26, Try.ntmps26
    go_wp2_with (go_at_call 29; refine HS.out.mono ?_; rintro e w ⟨rfl, rfl⟩)
    go_ret2
    exact ⟨by rw [HP.out.1, HP.out.2]; rfl, rfl⟩
  · have HP := Lib.hid (show sizeN rs = 2 + s ∧ packE rs = 0 by unfold sizeN; rw [hcut, if_neg h3, hlong (by omega)]; exact ⟨rfl, rfl⟩)
    have h3' : ¬ ((480 : Int) < 2 + (s : Int)) := by omega
    clear h hsum hcut hlong hs
    go_enter Try.func26, Try.ntmps26
    go_wp2_with (go_at_call 29; refine HS.out.mono ?_; rintro e w ⟨rfl, rfl⟩)
    go_ret2
    exact ⟨by rw [HP.out.1, HP.out.2]; exact congrArg (fun z => Ending.returned (.tuple #[.int .i64 z, .int .i64 0])) (by omega), rfl⟩
end Rc
end Go.Proofs.Ytajkcghbdbjmaaa
