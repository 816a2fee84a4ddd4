/- Layer 6: the contracts of bytes.Equal, slices.EqualFunc and records.Same. -/
import Derived.Test.YtppahidjiiehkaaRpC
namespace Go.Proofs.Ytppahidjiiehkaa
open Go.RowKit
namespace Rc

theorem equal_any (x y : List Nat) (A B : Option Addr) (l c m d : Nat) (W : World) (hl : x.length = l) (hm : y.length = m) (hr : Mem.Rd W A (octets x)) (hr' : Mem.Rd W B (octets y)) (hs : Small x) (hs' : Small y) (hA : A = none → l = 0) (hB : B = none → m = 0) :
    Calls Try.prog 24 #[.slice A l c, .slice B m d] W fun e w => e = .returned (.bool (decide (x = y))) ∧ W = w := by
  have k1 := conv_str x A l c W hl hr hs hA
  have k2 := conv_str y B m d W hm hr' hs' hB
  by_cases hxy : x = y
  · subst hxy
    have HF := Lib.hid (show decide (x = x) = true by simp)
    clear hl hm hr hr' hs hs' hA hB
    go_enter Try.func24, Try.ntmps24
    go_wp2_with fail
    go_ret
    exact ⟨rfl, rfl⟩
  · have HF := Lib.hid (show decide (x = y) = false by simpa using hxy)
    have hne := strOf_ne hs hs' hxy
    obtain ⟨u, hu⟩ : ∃ u, strOf x = u := ⟨_, rfl⟩
    obtain ⟨v, hv⟩ : ∃ v, strOf y = v := ⟨_, rfl⟩
    rw [hu] at k1 hne
    rw [hv] at k2 hne
    have hxy2 := hne.2
    replace hne := hne.1
    clear hl hm hr hr' hs hs' hA hB hxy hu hv
    go_enter Try.func24, Try.ntmps24
    go_wp2_with fail
    go_ret
    exact ⟨by rw [HF.out]; rfl, rfl⟩
/-- The relation of EqualFunc's loop. -/
def EqR (n : Nat) (rs ss : List (List Nat)) (W : World) (i : Value) (w : World) : Prop :=
  ∃ k : Nat, k ≤ n ∧ i = .int .i64 (k : Int) ∧ w = W ∧ ∀ j, j < k → rc rs j = rc ss j
def EqRes (rs ss : List (List Nat)) (W : World) (e : Ending) (w : World) : Prop := e = .returned (.bool (decide (rs = ss))) ∧ W = w
set_option maxHeartbeats 1600000 in
theorem equalfunc_any (rs ss : List (List Nat)) (A B : Option Addr) (n c m d : Nat) (W : World) (h : RdRecs W A n rs) (h' : RdRecs W B m ss) (hn : n ≤ 9223372036854775807) (hm : m ≤ 9223372036854775807) :
    Calls Try.prog 23 #[.slice A n c, .slice B m d, .func (.func 24) #[] #[]] W (EqRes rs ss W) := by
  have HL := Lib.hid h.len
  have HM := Lib.hid h'.len
  by_cases hnm : n = m
  case neg =>
    have HF := Lib.hid (show decide (rs = ss) = false by
      rw [decide_eq_false_iff_not]
      intro e
      have := congrArg List.length e
      rw [HL.out, HM.out] at this
      exact hnm this)
    have q1 : ((n : Int) != (m : Int)) = true := by simp; omega
    have q2 : ¬ ((n : Int) = (m : Int)) := by omega
    clear h h'
    go_enter Try.func23, Try.ntmps23
    go_wp2_with fail
    go_ret
    exact ⟨by rw [HF.out]; rfl, rfl⟩
  subst hnm
  have H := Lib.hid h
  have H' := Lib.hid h'
  clear h h'
  go_enter Try.func23, Try.ntmps23
  go_wp2_with fail
  go_loopw [17] (EqR n rs ss W) (fun i _ => n - (intOf i).toNat)
  case atStart => exact ⟨0, by omega, rfl, rfl, fun j hj => absurd hj (by omega)⟩
  case round =>
    obtain ⟨k, hk, rfl, rfl, he⟩ := hrel
    have HE := Lib.hid he
    clear he
    by_cases hkn : k < n
    · obtain ⟨b, off, A1, l1, c1, rfl, hl1, hc1, hr1, hs1, _, _, hn1⟩ := H.out.at hkn
      obtain ⟨b', off', A2, l2, c2, rfl, hl2, hc2, hr2, hs2, _, _, hn2⟩ := H'.out.at hkn
      have EQ := Lib.hid (equal_any _ _ A1 A2 l1 c1 l2 c2 wr hl1 hl2 hr1 hr2 hs1 hs2 (fun e => (hn1 e).1) (fun e => (hn2 e).1))
      have h0 : (0 : Int) ≤ (k : Int) := by omega
      have h1 : (k : Int) < (n : Int) := by omega
      clear hl1 hl2 hr1 hr2 hs1 hs2 hn1 hn2
      by_cases hrk : rc rs k = rc ss k
      · have HR := Lib.hid hrk
        have hd : decide (rc rs k = rc ss k) = true := by simpa using hrk
        rw [hd] at EQ
        clear hrk hd
        go_wp2_with fail
        refine EQ.out.mono ?_
        rintro e w' ⟨rfl, rfl⟩
        go_wp2_with fail
        go_roundw
        case rel => exact ⟨k + 1, by omega, by go_num, rfl, fun j hj => by
          rcases Nat.lt_or_ge j k with h | h
          · exact HE.out j h
          · obtain rfl : j = k := by omega
            exact HR.out⟩
        case measure => simp [intOf]; omega
      · have HF := Lib.hid (show decide (rs = ss) = false by
          rw [decide_eq_false_iff_not]
          intro e
          exact hrk (by rw [e]))
        have hd : decide (rc rs k = rc ss k) = false := by simpa using hrk
        rw [hd] at EQ
        clear hrk hd
        go_wp2_with fail
        refine EQ.out.mono ?_
        rintro e w' ⟨rfl, rfl⟩
        go_wp2_with fail
        go_ret
        exact ⟨by rw [HF.out]; rfl, rfl⟩
    · obtain rfl : n = k := by omega
      have HF := Lib.hid (show decide (rs = ss) = true by
        rw [decide_eq_true_iff]
        exact ext_rc HL.out HM.out HE.out)
      go_wp2_with fail
      go_ret
      exact ⟨by rw [HF.out]; rfl, rfl⟩
theorem same_any (rs ss : List (List Nat)) (A B : Option Addr) (n c m d : Nat) (W : World) (h : RdRecs W A n rs) (h' : RdRecs W B m ss) (hn : n ≤ 9223372036854775807) (hm : m ≤ 9223372036854775807) :
    Calls Try.prog 18 #[.slice A n c, .slice B m d] W (EqRes rs ss W) := by
  have EQ := Lib.hid (equalfunc_any rs ss A B n c m d W h h' hn hm)
  obtain ⟨v, hv⟩ : ∃ v, decide (rs = ss) = v := ⟨_, rfl⟩
  have HV := Lib.hid hv
  clear h h' hv
  go_enter Try.func18, Try.ntmps18
  go_wp2_with fail
  refine EQ.out.mono ?_
  rintro e w' ⟨rfl, rfl⟩
  rw [HV.out]
  go_wp2_with fail
  go_ret
  exact ⟨by rw [HV.out]; rfl, rfl⟩
end Rc
end Go.Proofs.Ytppahidjiiehkaa
