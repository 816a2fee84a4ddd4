/- Layers 6 and 7: the contracts of the document's Size and of both sides' Same. -/
import Derived.Test.YtppahidjiiehkaaRpB
import Derived.BigQuiet
import Derived.Deep.QuietTactic
namespace Go.Proofs.Ytppahidjiiehkaa
open Go.RowKit
namespace Rc

/-- The relation of the document's loop. -/
def SumL (n : Nat) (rs : List (List Nat)) (W : World) (s i : Value) (w : World) : Prop :=
  ∃ k : Nat, k ≤ n ∧ s = .int .i64 ((2 + sumTo (fun x => 2 + x) rs k : Nat) : Int) ∧ i = .int .i64 (k : Int) ∧ w = W ∧ sumTo (fun x => 2 + x) rs k ≤ k * 482
set_option maxHeartbeats 1600000 in
theorem refsize_any (rs : List (List Nat)) (A : Option Addr) (n c : Nat) (W : World) (h : RdRecs W A n rs) (hn : n ≤ 9223372036854775807) :
    Calls Try.prog 13 #[.slice A n c] W (SzRes rs W) := by
  have HL := Lib.hid h.len
  by_cases h1 : n < 1
  · have hp : packE rs = 2 := by unfold packE; rw [if_pos (by rw [HL.out]; omega)]
    have HP := Lib.hid (show sizeN rs = 0 ∧ packE rs = 2 by unfold sizeN; rw [hp]; exact ⟨rfl, rfl⟩)
    have h1' : (n : Int) < 1 := by omega
    clear h hp
    go_enter Try.func13, Try.ntmps13
    go_wp2_with fail
    go_ret2
    exact ⟨by rw [HP.out.1, HP.out.2]; rfl, rfl⟩
  have h1' : ¬ ((n : Int) < 1) := by omega
  by_cases h2 : 16 < n
  · have hp : packE rs = 2 := by unfold packE; rw [if_pos (by rw [HL.out]; omega)]
    have HP := Lib.hid (show sizeN rs = 0 ∧ packE rs = 2 by unfold sizeN; rw [hp]; exact ⟨rfl, rfl⟩)
    have h2' : (16 : Int) < (n : Int) := by omega
    clear h hp
    go_enter Try.func13, Try.ntmps13
    go_wp2_with fail
    go_ret2
    exact ⟨by rw [HP.out.1, HP.out.2]; rfl, rfl⟩
  have h2' : ¬ ((16 : Int) < (n : Int)) := by omega
  have H := Lib.hid h
  clear h
  go_enter Try.func13, Try.ntmps13
  go_wp2_with fail
  go_loopw [4, 5] (SumL n rs W) (fun _ i _ => n - (intOf i).toNat)
  case atStart => exact ⟨0, by omega, by simp, rfl, rfl, by simp⟩
  case round =>
    obtain ⟨k, hk, rfl, rfl, rfl, hs⟩ := hrel
    obtain ⟨s, hs0⟩ : ∃ s, sumTo (fun x => 2 + x) rs k = s := ⟨_, rfl⟩
    have HS := Lib.hid hs0
    rw [hs0] at hs ⊢
    clear hs0
    by_cases hkn : k < n
    · obtain ⟨b, off, A', l, c', rfl, hl, hc, _, _, hlc, hcm, _⟩ := H.out.at hkn
      have HL1 := Lib.hid hl
      have h0 : (0 : Int) ≤ (k : Int) := by omega
      have h1 : (k : Int) < (n : Int) := by omega
      by_cases h4 : 480 < l
      · have h4' : (480 : Int) < (l : Int) := by omega
        have hp : packE rs = 22 := by
          unfold packE
          have := len_le (rs := rs) (k := k) (by rw [HL.out]; exact hkn)
          rw [hl] at this
          rw [HL.out, if_neg (by omega), if_pos (by omega)]
        have HP := Lib.hid (show sizeN rs = 0 ∧ packE rs = 22 by unfold sizeN; rw [hp]; exact ⟨rfl, rfl⟩)
        clear hl hp
        go_wp2_with fail
        go_ret2
        exact ⟨by rw [HP.out.1, HP.out.2]; rfl, rfl⟩
      · have h4' : ¬ ((480 : Int) < (l : Int)) := by omega
        have hw1 : IntKind.i64.wrap (((2 + s : Nat) : Int) + 2) = ((4 + s : Nat) : Int) := wrap64 (by omega) (by omega)
        have hw2 : IntKind.i64.wrap (((4 + s : Nat) : Int) + (l : Int)) = ((4 + s + l : Nat) : Int) := wrap64 (by omega) (by omega)
        clear hl
        go_wp2_with fail
        go_roundw
        case rel => exact ⟨k + 1, by omega, by rw [sumTo_succ _ (by rw [HL.out]; exact hkn), HS.out, HL1.out]; exact congrArg _ (by omega), by go_num, rfl, by rw [sumTo_succ _ (by rw [HL.out]; exact hkn), HS.out, HL1.out]; omega⟩
        case measure => simp [intOf]; omega
    · obtain rfl : n = k := by omega
      have hcut := packE_len (rs := rs) (by rw [HL.out]; omega) (by rw [HL.out]; omega)
      have hlong : 2 + sumTo (fun x => 2 + x) rs rs.length = packLen rs := by
        unfold packLen total
        rw [sumTo_two (fun x => x) 2 rs _ (Nat.le_refl _)]
        omega
      rw [HL.out, HS.out] at hcut hlong
      by_cases h3 : 480 < 2 + s
      · have HP := Lib.hid (show sizeN rs = 0 ∧ packE rs = 22 by unfold sizeN; rw [hcut, if_pos h3]; exact ⟨rfl, rfl⟩)
        have h3' : (480 : Int) < ((2 + s : Nat) : Int) := by omega
        clear hcut hlong
        go_wp2_with fail
        go_ret2
        exact ⟨by rw [HP.out.1, HP.out.2]; rfl, rfl⟩
      · have HP := Lib.hid (show sizeN rs = 2 + s ∧ packE rs = 0 by unfold sizeN; rw [hcut, if_neg h3, hlong]; exact ⟨rfl, rfl⟩)
        have h3' : ¬ ((480 : Int) < ((2 + s : Nat) : Int)) := by omega
        clear hcut hlong
        go_wp2_with fail
        go_ret2
        exact ⟨by rw [HP.out.1, HP.out.2]; exact congrArg (fun z => Ending.returned (.tuple #[.int .i64 z, .int .i64 0])) (by omega), rfl⟩

theorem strOf_inj {a b : List Nat} (ha : Small a) (hb : Small b) (h : strOf a = strOf b) : a = b := by
  unfold strOf at h
  injection h with h
  have h1 : a.map UInt8.ofNat = b.map UInt8.ofNat := by simpa using h
  have hl : a.length = b.length := by
    have := congrArg List.length h1
    simpa using this
  refine List.ext_getElem hl fun i hi hj => ?_
  have h2 := congrArg (fun l => l[i]?) h1
  simp only [List.getElem?_map, List.getElem?_eq_getElem hi, List.getElem?_eq_getElem hj, Option.map_some, Option.some.injEq] at h2
  have h3 := congrArg UInt8.toNat h2
  have q1 := ha _ (List.getElem_mem hi)
  have q2 := hb _ (List.getElem_mem hj)
  simp at h3
  omega
theorem strOf_ne {a b : List Nat} (ha : Small a) (hb : Small b) (h : ¬ a = b) : ((strOf a).toList == (strOf b).toList) = false ∧ ((strOf a).toList != (strOf b).toList) = true := by
  have : ¬ ((strOf a).toList = (strOf b).toList) := by
    rw [ByteArray.toList_eq, ByteArray.toList_eq]
    intro e
    refine h (strOf_inj ha hb ?_)
    unfold strOf at e ⊢
    simp only [ByteArray.mk.injEq]
    simpa using e
  exact ⟨by simpa using this, by simpa using this⟩
theorem ext_rc {rs ss : List (List Nat)} {n : Nat} (h1 : rs.length = n) (h2 : ss.length = n) (h : ∀ k, k < n → rc rs k = rc ss k) : rs = ss := by
  refine List.ext_getElem? fun i => ?_
  rcases Nat.lt_or_ge i n with hi | hi
  · rw [rc_at (by omega), rc_at (by omega), h i hi]
  · rw [List.getElem?_eq_none (by omega), List.getElem?_eq_none (by omega)]
/-- The relation of the loops that compare. -/
def SmR (n : Nat) (rs ss : List (List Nat)) (W : World) (i : Value) (w : World) : Prop :=
  ∃ k : Nat, k ≤ n ∧ i = .int .i64 (k : Int) ∧ Mem.QQ W w ∧ ∀ j, j < k → rc rs j = rc ss j
def SmRes (rs ss : List (List Nat)) (W : World) (e : Ending) (w : World) : Prop := e = .returned (.bool (decide (rs = ss))) ∧ Mem.QQ W w
set_option maxHeartbeats 1600000 in
theorem refsame_any (rs ss : List (List Nat)) (A B : Option Addr) (n c m d : Nat) (W : World) (h : RdRecs W A n rs) (h' : RdRecs W B m ss) (hn : n ≤ 9223372036854775807) (hm : m ≤ 9223372036854775807) :
    Calls Try.prog 16 #[.slice A n c, .slice B m d] W (SmRes rs ss W) := by
  have HL := Lib.hid h.len
  have HM := Lib.hid h'.len
  by_cases hnm : n = m
  case neg =>
    have HF := Lib.hid (show decide (rs = ss) = false by
      rw [decide_eq_false_iff_not]
      intro e
      have := congrArg List.length e
      rw [HL.out, HM.out] at this
      exact hnm this)
    have q1 : ((n : Int) != (m : Int)) = true := by simp; omega
    have q2 : ¬ ((n : Int) = (m : Int)) := by omega
    clear h h'
    go_enter Try.func16, Try.ntmps16
    go_wp2_with fail
    go_ret
    exact ⟨by rw [HF.out]; rfl, Mem.QQ.refl _⟩
  subst hnm
  have H := Lib.hid h
  have H' := Lib.hid h'
  clear h h'
  go_enter Try.func16, Try.ntmps16
  go_wp2_with fail
  go_loopw [5] (SmR n rs ss W) (fun i _ => n - (intOf i).toNat)
  case atStart => exact ⟨0, by omega, rfl, Mem.QQ.refl _, fun j hj => absurd hj (by omega)⟩
  case round =>
    obtain ⟨k, hk, rfl, hq, he⟩ := hrel
    have HE := Lib.hid he
    have HQ := Lib.hid hq
    clear he
    by_cases hkn : k < n
    · have G := H.out.below hq.below
      have G' := H'.out.below hq.below
      obtain ⟨b, off, A1, l1, c1, rfl, hl1, hc1, hr1, hs1, _, _, hn1⟩ := G.at hkn
      obtain ⟨b', off', A2, l2, c2, rfl, hl2, hc2, hr2, hs2, _, _, hn2⟩ := G'.at hkn
      have k1 : ∀ a, (convert 25 9 (.slice A1 l1 c1)).run Try.prog (wr.drewN a) = .ok (.string (strOf (rc rs k))) (wr.drewN a) := fun a => conv_str _ A1 l1 c1 _ hl1 (hr1.drewN a) hs1 (fun e => (hn1 e).1)
      have k2 : ∀ a, (convert 25 9 (.slice A2 l2 c2)).run Try.prog (wr.drewN a) = .ok (.string (strOf (rc ss k))) (wr.drewN a) := fun a => conv_str _ A2 l2 c2 _ hl2 (hr2.drewN a) hs2 (fun e => (hn2 e).1)
      have h0 : (0 : Int) ≤ (k : Int) := by omega
      have h1 : (k : Int) < (n : Int) := by omega
      have g1 : ∀ a, (wr.drewN a).cell? ⟨b, off + k, none⟩ = some (.slice A1 l1 c1) := fun a => hc1
      have g2 : ∀ a, (wr.drewN a).cell? ⟨b', off' + k, none⟩ = some (.slice A2 l2 c2) := fun a => hc2
      by_cases hrk : rc rs k = rc ss k
      · have HR := Lib.hid hrk
        rw [← hrk] at k2
        clear hl1 hl2 hr1 hr2 hs1 hs2 hn1 hn2 G G' hrk hq
        go_wp2_with fail
        go_quiet (fail)
        go_wp2_with fail
        go_roundw
        case rel => exact ⟨k + 1, by omega, by go_num, HQ.out.trans ⟨nq, rfl⟩, fun j hj => by
          rcases Nat.lt_or_ge j k with h | h
          · exact HE.out j h
          · obtain rfl : j = k := by omega
            exact HR.out⟩
        case measure => simp [intOf]; omega
      · have HF := Lib.hid (show decide (rs = ss) = false by
          rw [decide_eq_false_iff_not]
          intro e
          exact hrk (by rw [e]))
        have hxy := strOf_ne hs1 hs2 hrk
        obtain ⟨x, hx⟩ : ∃ x, strOf (rc rs k) = x := ⟨_, rfl⟩
        obtain ⟨y, hy⟩ : ∃ y, strOf (rc ss k) = y := ⟨_, rfl⟩
        rw [hx] at k1 hxy
        rw [hy] at k2 hxy
        have hxy2 := hxy.2
        replace hxy := hxy.1
        clear hl1 hl2 hr1 hr2 hs1 hs2 hn1 hn2 G G' hrk hq hx hy
        go_wp2_with fail
        go_quiet (fail)
        go_wp2_with fail
        go_ret
        exact ⟨by rw [HF.out]; rfl, HQ.out.trans ⟨nq, rfl⟩⟩
    · obtain rfl : n = k := by omega
      have HF := Lib.hid (show decide (rs = ss) = true by
        rw [decide_eq_true_iff]
        exact ext_rc HL.out HM.out HE.out)
      clear hq
      go_wp2_with fail
      go_ret
      exact ⟨by rw [HF.out]; rfl, HQ.out⟩
end Rc
end Go.Proofs.Ytppahidjiiehkaa
