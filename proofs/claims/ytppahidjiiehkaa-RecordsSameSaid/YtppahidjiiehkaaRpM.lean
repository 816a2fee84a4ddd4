/- Layer 6: the walk of the law RecordsSame. -/
import Derived.Test.YtppahidjiiehkaaRpL
import Derived.Test.YtppahidjiiehkaaRpD
namespace Go.Proofs.Ytppahidjiiehkaa
open Go.RowKit
namespace Rc

set_option maxRecDepth 20000 in
set_option maxHeartbeats 3200000 in
theorem recordsSame_walk (rs ss : List (List Nat)) (A B : Option Addr) (n c m d : Nat) (W : World) (h : RdRecs W A n rs) (h' : RdRecs W B m ss) (hn : n ≤ 9223372036854775807) (hm : m ≤ 9223372036854775807) :
    Calls Try.prog 7 #[.slice A n c, .slice B m d] W (Good W) := by
  have FA := Lib.hid (few_any rs A n c W h hn)
  have FB := Lib.hid (few_any ss B m d W h' hm)
  by_cases hf : fewB rs = true
  case neg =>
    have hf' : fewB rs = false := by simpa using hf
    rw [hf'] at FA
    clear h h' hf hf'
    go_enter Try.func7, Try.ntmps7
    go_wp2_with fail
    refine FA.out.mono ?_
    rintro e w ⟨rfl, rfl⟩
    go_wp2_with fail
    refine (packs_good _).mono ?_
    rintro e w1 ⟨rfl, hb⟩
    have HB := Lib.hid hb
    clear hb
    go_wp2_with fail
    go_ret
    exact ⟨rfl, HB.out⟩
  rw [hf] at FA
  by_cases hg : fewB ss = true
  case neg =>
    have hg' : fewB ss = false := by simpa using hg
    rw [hg'] at FB
    clear h h' hf hg hg'
    go_enter Try.func7, Try.ntmps7
    go_wp2_with fail
    refine FA.out.mono ?_
    rintro e w ⟨rfl, rfl⟩
    go_wp2_with fail
    refine FB.out.mono ?_
    rintro e w ⟨rfl, rfl⟩
    go_wp2_with fail
    refine (packs_good _).mono ?_
    rintro e w1 ⟨rfl, hb⟩
    have HB := Lib.hid hb
    clear hb
    go_wp2_with fail
    go_ret
    exact ⟨rfl, HB.out⟩
  rw [hg] at FB
  obtain ⟨f1, f2⟩ := few_of hf
  have hn60 : n ≤ 60 := by rw [← h.len]; exact f1
  have H := Lib.hid h
  have H' := Lib.hid h'
  have HLL := Lib.hid (fun k (hk : k < n) => show (rc rs k).length ≤ 100000 by
    have := len_le (rs := rs) (k := k) (by rw [h.len]; exact hk)
    omega)
  clear hf hg h h' f1 f2
  obtain ⟨v, hv⟩ : ∃ v, decide (rs = ss) = v := ⟨_, rfl⟩
  have HV := Lib.hid hv
  clear hv
  go_enter Try.func7, Try.ntmps7
  go_wp2_with fail
  refine FA.out.mono ?_
  rintro e w ⟨rfl, rfl⟩
  go_wp2_with fail
  refine FB.out.mono ?_
  rintro e w ⟨rfl, rfl⟩
  go_wp2_with fail
  refine (same_any rs ss A B n c m d _ H.out H'.out hn hm).mono ?_
  rintro e w1 ⟨rfl, rfl⟩
  rw [HV.out]
  go_wp2_with fail
  refine (refsame_any rs ss A B n c m d _ H.out H'.out hn hm).mono ?_
  rintro e w1 ⟨rfl, q1⟩
  rw [HV.out]
  have B1 := Lib.hid (q1.below (B := W.heap.size))
  clear q1
  go_wp2_with fail
  refine (same_any rs rs A A n c n c _ (H.out.below B1.out) (H.out.below B1.out) hn hn).mono ?_
  rintro e w2 ⟨rfl, rfl⟩
  rw [show decide (rs = rs) = true from decide_eq_true rfl]
  go_wp2_with fail
  refine (clone_recs rs A n c _ (H.out.below B1.out) (by omega) HLL.out).mono ?_
  rintro e w3 ⟨⟨U, uc, vs, rfl, ho, hr⟩, b3⟩
  have R3 := Lib.hid (RdRecs.of_own hr ho H.out.small)
  have B3 := Lib.hid (below_next B1.out b3)
  clear ho hr b3
  go_wp2_with fail
  refine (refsame_any rs rs U A n uc n c _ R3.out (H.out.below B3.out) hn hn).mono ?_
  rintro e w4 ⟨rfl, q4⟩
  rw [show decide (rs = rs) = true from decide_eq_true rfl]
  have B4 := Lib.hid (below_next B3.out q4.below)
  clear q4
  go_wp2_with fail
  refine (packs_good _).mono ?_
  rintro e w5 ⟨rfl, hb5⟩
  have HB := Lib.hid (below_next B4.out hb5)
  clear hb5
  go_wp2_with fail
  go_ret
  exact ⟨rfl, HB.out⟩
end Rc
end Go.Proofs.Ytppahidjiiehkaa
