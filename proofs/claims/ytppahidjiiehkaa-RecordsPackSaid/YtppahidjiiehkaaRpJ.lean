/- Layer 6: the walk of the law RecordsPack. -/
import Derived.Test.YtppahidjiiehkaaRpH
namespace Go.Proofs.Ytppahidjiiehkaa
open Go.RowKit
namespace Rc

set_option maxRecDepth 20000 in
set_option maxHeartbeats 3200000 in
theorem recordsPack_walk (rs : List (List Nat)) (A : Option Addr) (n c : Nat) (W : World) (h : RdRecs W A n rs) (hn : n ≤ 9223372036854775807) :
    Calls Try.prog 3 #[.slice A n c] W (Good W) := by
  have FEW := Lib.hid (few_any rs A n c W h hn)
  by_cases hf : fewB rs = true
  case neg =>
    have hf' : fewB rs = false := by simpa using hf
    rw [hf'] at FEW
    clear h hf hf'
    go_enter Try.func3, Try.ntmps3
    go_wp2_with fail
    refine FEW.out.mono ?_
    rintro e w ⟨rfl, rfl⟩
    go_wp2_with fail
    refine (packs_good _).mono ?_
    rintro e w1 ⟨rfl, hb⟩
    have HB := Lib.hid hb
    clear hb
    go_wp2_with fail
    go_ret
    exact ⟨rfl, HB.out⟩
  rw [hf] at FEW
  have H := Lib.hid h
  clear hf h
  go_enter Try.func3, Try.ntmps3
  go_wp2_with fail
  refine FEW.out.mono ?_
  rintro e w ⟨rfl, rfl⟩
  go_wp2_with fail
  refine (pack_any rs A n c _ H.out hn).mono ?_
  intro e w1 hp
  obtain ⟨A1, c1, rfl, ho1, hb1⟩ := pk_full hp
  have O1 := Lib.hid ho1
  have B1 := Lib.hid hb1
  clear hp ho1 hb1
  go_wp2_with fail
  refine (refpack_any rs A n c _ (H.out.below B1.out) hn).mono ?_
  intro e w2 hp
  obtain ⟨A2, c2, rfl, ho2, hb2⟩ := pk_full hp
  have O2 := Lib.hid ho2
  have B2 := Lib.hid (below_next B1.out hb2)
  have O3 := Lib.hid (Mem.own_below O1.out hb2)
  clear hp ho2 hb2
  go_wp2_with fail
  refine (size_any rs A n c _ (H.out.below B2.out) hn).mono ?_
  rintro e w3 ⟨rfl, rfl⟩
  go_wp2_with fail
  refine (refsize_any rs A n c _ (H.out.below B2.out) hn).mono ?_
  rintro e w3 ⟨rfl, rfl⟩
  obtain ⟨_, _, e1, _, _, r1, n1⟩ := own_full O3.out
  obtain ⟨_, _, e2, _, _, r2, n2⟩ := own_full O2.out
  injection e1 with e1 _ e1'
  injection e2 with e2 _ e2'
  subst e1 e1' e2 e2'
  have sm := pkB_small H.out.small
  have k1 := conv_str (pkB rs) A1 _ c1 w2 (pkB_len rs) r1 sm (fun e => (n1 e).1)
  have k2 := conv_str (pkB rs) A2 _ c2 w2 (pkB_len rs) r2 sm (fun e => (n2 e).1)
  obtain ⟨x, hx⟩ : ∃ x, strOf (pkB rs) = x := ⟨_, rfl⟩
  obtain ⟨u, hu⟩ : ∃ u, sizeN rs = u := ⟨_, rfl⟩
  obtain ⟨v, hv⟩ : ∃ v, packE rs = v := ⟨_, rfl⟩
  rw [hx, hu] at k1 k2
  rw [hu, hv]
  clear r1 n1 r2 n2 sm hx hu hv
  go_wp2_with fail
  refine (packs_good _).mono ?_
  rintro e w4 ⟨rfl, hb4⟩
  have HB := Lib.hid (below_next B2.out hb4)
  clear hb4
  go_wp2_with fail
  go_ret
  exact ⟨rfl, HB.out⟩
end Rc
end Go.Proofs.Ytppahidjiiehkaa
