/- Layers 6 and 7: the contracts of the document's Size and of both sides' Same. -/
import Derived.Test.YtajkcghbdbjmaaaRpB
import Derived.BigQuiet
import Derived.Deep.QuietTactic
namespace Go.Proofs.Ytajkcghbdbjmaaa
open Go.RowKit
namespace Rc

theorem strOf_inj {a b : List Nat} (ha : Small a) (hb : Small b) (h : strOf a = strOf b) : a = b := by
  unfold strOf at h
  injection h with h
  have h1 : a.map UInt8.ofNat = b.map UInt8.ofNat := by simpa using h
  have hl : a.length = b.length := by
    have := congrArg List.length h1
    simpa using this
  refine List.ext_getElem hl fun i hi hj => ?_
  have h2 := congrArg (fun l => l[i]?) h1
  simp only [List.getElem?_map, List.getElem?_eq_getElem hi, List.getElem?_eq_getElem hj, Option.map_some, Option.some.injEq] at h2
  have h3 := congrArg UInt8.toNat h2
  have q1 := ha _ (List.getElem_mem hi)
  have q2 := hb _ (List.getElem_mem hj)
  simp at h3
  omega
theorem strOf_ne {a b : List Nat} (ha : Small a) (hb : Small b) (h : ¬ a = b) : ((strOf a).toList == (strOf b).toList) = false ∧ ((strOf a).toList != (strOf b).toList) = true := by
  have : ¬ ((strOf a).toList = (strOf b).toList) := by
    rw [ByteArray.toList_eq, ByteArray.toList_eq]
    intro e
    refine h (strOf_inj ha hb ?_)
    unfold strOf at e ⊢
    simp only [ByteArray.mk.injEq]
    simpa using e
  exact ⟨by simpa using this, by simpa using this⟩
theorem ext_rc {rs ss : List (List Nat)} {n : Nat} (h1 : rs.length = n) (h2 : ss.length = n) (h : ∀ k, k < n → rc rs k = rc ss k) : rs = ss := by
  refine List.ext_getElem? fun i => ?_
  rcases Nat.lt_or_ge i n with hi | hi
  · rw [rc_at (by omega), rc_at (by omega), h i hi]
  · rw [List.getElem?_eq_none (by omega), List.getElem?_eq_none (by omega)]
/-- The relation of the loops that compare. -/
def SmR (n : Nat) (rs ss : List (List Nat)) (W : World) (i : Value) (w : World) : Prop :=
  ∃ k : Nat, k ≤ n ∧ i = .int .i64 (k : Int) ∧ Mem.QQ W w ∧ ∀ j, j < k → rc rs j = rc ss j
def SmRes (rs ss : List (List Nat)) (W : World) (e : Ending) (w : World) : Prop := e = .returned (.bool (decide (rs = ss))) ∧ Mem.QQ W w
set_option maxHeartbeats 1600000 in
theorem refsame_any (rs ss : List (List Nat)) (A B : Option Addr) (n c m d : Nat) (W : World) (h : RdRecs W A n rs) (h' : RdRecs W B m ss) (hn : n ≤ 9223372036854775807) (hm : m ≤ 9223372036854775807) :
    Calls Try.prog 20 #[.slice A n c, .slice B m d] W (SmRes rs ss W) := by
  have HL := Lib.hid h.len
  have HM := Lib.hid h'.len
  by_cases hnm : n = m
  case neg =>
    have HF := Lib.hid (show decide (rs = ss) = false by
      rw [decide_eq_false_iff_not]
      intro e
      have := congrArg List.length e
      rw [HL.out, HM.out] at this
      exact hnm this)
    have q1 : ((n : Int) != (m : Int)) = true := by simp; omega
    have q2 : ¬ ((n : Int) = (m : Int)) := by omega
    clear h h'
    go_enter Try.func20, Try.ntmps20
    go_wp2_with fail
    go_ret
    exact ⟨by rw [HF.out]; rfl, Mem.QQ.refl _⟩
  subst hnm
  have H := Lib.hid h
  have H' := Lib.hid h'
  clear h h'
  go_enter Try.func20, Try.ntmps20
  go_wp2_with fail
  go_loopw [5] (SmR n rs ss W) (fun i _ => n - (intOf i).toNat)
  case atStart => exact ⟨0, by omega, rfl, Mem.QQ.refl _, fun j hj => absurd hj (by omega)⟩
  case round =>
    obtain ⟨k, hk, rfl, hq, he⟩ := hrel
    have HE := Lib.hid he
    have HQ := Lib.hid hq
    clear he
    by_cases hkn : k < n
    · have G := H.out.below hq.below
      have G' := H'.out.below hq.below
      obtain ⟨b, off, A1, l1, c1, rfl, hl1, hc1, hr1, hs1, _, _, hn1⟩ := G.at hkn
      obtain ⟨b', off', A2, l2, c2, rfl, hl2, hc2, hr2, hs2, _, _, hn2⟩ := G'.at hkn
      have k1 : ∀ a, (convert 22 9 (.slice A1 l1 c1)).run Try.prog (wr.drewN a) = .ok (.string (strOf (rc rs k))) (wr.drewN a) := fun a => conv_str _ A1 l1 c1 _ hl1 (hr1.drewN a) hs1 (fun e => (hn1 e).1)
      have k2 : ∀ a, (convert 22 9 (.slice A2 l2 c2)).run Try.prog (wr.drewN a) = .ok (.string (strOf (rc ss k))) (wr.drewN a) := fun a => conv_str _ A2 l2 c2 _ hl2 (hr2.drewN a) hs2 (fun e => (hn2 e).1)
      have h0 : (0 : Int) ≤ (k : Int) := by omega
      have h1 : (k : Int) < (n : Int) := by omega
      have g1 : ∀ a, (wr.drewN a).cell? ⟨b, off + k, none⟩ = some (.slice A1 l1 c1) := fun a => hc1
      have g2 : ∀ a, (wr.drewN a).cell? ⟨b', off' + k, none⟩ = some (.slice A2 l2 c2) := fun a => hc2
      by_cases hrk : rc rs k = rc ss k
      · have HR := Lib.hid hrk
        rw [← hrk] at k2
        clear hl1 hl2 hr1 hr2 hs1 hs2 hn1 hn2 G G' hrk hq
        go_wp2_with fail
        go_quiet (fail)
        go_wp2_with fail
        go_roundw
        case rel => exact ⟨k + 1, by omega, by go_num, HQ.out.trans ⟨nq, rfl⟩, fun j hj => by
          rcases Nat.lt_or_ge j k with h | h
          · exact HE.out j h
          · obtain rfl : j = k := by omega
            exact HR.out⟩
        case measure => simp [intOf]; omega
      · have HF := Lib.hid (show decide (rs = ss) = false by
          rw [decide_eq_false_iff_not]
          intro e
          exact hrk (by rw [e]))
        have hxy := strOf_ne hs1 hs2 hrk
        obtain ⟨x, hx⟩ : ∃ x, strOf (rc rs k) = x := ⟨_, rfl⟩
        obtain ⟨y, hy⟩ : ∃ y, strOf (rc ss k) = y := ⟨_, rfl⟩
        rw [hx] at k1 hxy
        rw [hy] at k2 hxy
        have hxy2 := hxy.2
        replace hxy := hxy.1
        clear hl1 hl2 hr1 hr2 hs1 hs2 hn1 hn2 G G' hrk hq hx hy
        go_wp2_with fail
        go_quiet (fail)
        go_wp2_with fail
        go_ret
        exact ⟨by rw [HF.out]; rfl, HQ.out.trans ⟨nq, rfl⟩⟩
    · obtain rfl : n = k := by omega
      have HF := Lib.hid (show decide (rs = ss) = true by
        rw [decide_eq_true_iff]
        exact ext_rc HL.out HM.out HE.out)
      clear hq
      go_wp2_with fail
      go_ret
      exact ⟨by rw [HF.out]; rfl, HQ.out⟩
end Rc
end Go.Proofs.Ytajkcghbdbjmaaa
