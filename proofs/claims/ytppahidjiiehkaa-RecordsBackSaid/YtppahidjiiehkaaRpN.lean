/- Layer 6: the walk of the law RecordsBack. -/
import Derived.Test.YtppahidjiiehkaaRpL
namespace Go.Proofs.Ytppahidjiiehkaa
open Go.RowKit
namespace Rc

set_option maxRecDepth 20000 in
set_option maxHeartbeats 6400000 in
theorem recordsBack_walk (rs : List (List Nat)) (bs : List Nat) (A B : Option Addr) (n c m d : Nat) (W : World) (h : RdRecs W A n rs) (h' : Byts W B m d bs) (hn : n ≤ 9223372036854775807) :
    Calls Try.prog 5 #[.slice A n c, .slice B m d] W (Good W) := by
  have FA := Lib.hid (few_any rs A n c W h hn)
  by_cases hf : fewB rs = true
  case neg =>
    have hf' : fewB rs = false := by simpa using hf
    rw [hf'] at FA
    clear h h' hf hf'
    go_enter Try.func5, Try.ntmps5
    go_wp2_with fail
    refine FA.out.mono ?_
    rintro e w ⟨rfl, rfl⟩
    go_wp2_with fail
    refine (packs_good _).mono ?_
    rintro e w1 ⟨rfl, hb⟩
    have HB := Lib.hid hb
    clear hb
    go_wp2_with fail
    go_ret
    exact ⟨rfl, HB.out⟩
  rw [hf] at FA
  by_cases h1 : 3000 < m
  · have h1' : (3000 : Int) < (m : Int) := by omega
    clear h h' hf
    go_enter Try.func5, Try.ntmps5
    go_wp2_with fail
    refine FA.out.mono ?_
    rintro e w ⟨rfl, rfl⟩
    go_wp2_with fail
    refine (packs_good _).mono ?_
    rintro e w1 ⟨rfl, hb⟩
    have HB := Lib.hid hb
    clear hb
    go_wp2_with fail
    go_ret
    exact ⟨rfl, HB.out⟩
  have h1' : ¬ ((3000 : Int) < (m : Int)) := by omega
  have HLEN := Lib.hid h'.len
  have HS := Lib.hid h'.small
  have HR := Lib.hid h'.rd
  have HNO := Lib.hid h'.none_
  have UN := Lib.hid (fun w (hb : Below W.heap.size W w) => unpack_any bs B d w (h'.rd.below hb) h'.small (by rw [h'.len]; omega) (by rw [h'.len]; exact h'.cap) h'.most)
  rw [h'.len] at UN
  have H := Lib.hid h
  obtain ⟨u, hu⟩ : ∃ u, sizeN rs = u := ⟨_, rfl⟩
  have hu4 := sizeN_le rs
  rw [hu] at hu4
  have HU := Lib.hid hu
  have PE : RowKit.Hid (packE rs = 0 → errE (packed rs) = 0 ∧ recs (packed rs) = rs ∧ num (packed rs) = n ∧ Small (packed rs) ∧ pkB rs = packed rs ∧ (packed rs).length = u) := Lib.hid (fun e => by
    refine ⟨packed_ok (fit_of e), recs_packed rs, by rw [num_packed]; exact h.len, small_packed (fit_of e) h.small, by unfold pkB; rw [if_pos e], ?_⟩
    rw [← hu, ← pkB_len]
    unfold pkB
    rw [if_pos e])
  obtain ⟨v, hv⟩ : ∃ v, packE rs = v := ⟨_, rfl⟩
  have HV := Lib.hid hv
  clear h h' hf hu hv
  go_enter Try.func5, Try.ntmps5
  go_wp2_with fail
  refine FA.out.mono ?_
  rintro e w ⟨rfl, rfl⟩
  go_wp2_with fail
  refine (pack_any rs A n c _ H.out hn).mono ?_
  intro e w1 hp
  obtain ⟨A1, c1, rfl, ho1, hb1⟩ := pk_full hp
  have O1 := Lib.hid ho1
  have B1 := Lib.hid hb1
  rw [HU.out, HV.out]
  clear hp ho1 hb1
  go_wp2_with fail
  refine (size_any rs A n c _ (H.out.below B1.out) hn).mono ?_
  rintro e w3 ⟨rfl, rfl⟩
  rw [HU.out, HV.out]
  by_cases hv0 : v = 0
  · subst hv0
    obtain ⟨e1, e2, e3, e4, e5, e6⟩ := PE.out HV.out
    obtain ⟨_, _, e7, g1, g2, g3, g4⟩ := own_full O1.out
    rw [HU.out, e5] at *
    injection e7 with e7 _ e8
    subst e7 e8
    have UP := Lib.hid (unpack_any (packed rs) A1 c1 w1 g3 e4 (by rw [e6]; omega) (by rw [e6]; exact g1) g2)
    rw [e6] at UP
    have E1 := Lib.hid e1
    have E2 := Lib.hid e2
    have E3 := Lib.hid e3
    have E4 := Lib.hid e4
    clear e1 e2 e3 e4 e5 e6 g1 g2 g3 g4
    go_wp2_with fail
    refine UP.out.mono ?_
    rintro e w4 ⟨⟨_, Q, U, uc, vs, _, rfl, ho, hr⟩ | ⟨hne, _⟩, b4⟩
    case inr => exact absurd E1.out hne
    have R4 := un_rd E4.out ho hr
    rw [E2.out, E3.out] at R4
    rw [E3.out]
    have HR4 := Lib.hid R4
    have B4 := Lib.hid (below_next B1.out b4)
    clear ho hr b4 R4
    go_wp2_with fail
    refine (refsame_any rs rs U A n uc n c _ HR4.out (H.out.below B4.out) hn hn).mono ?_
    rintro e wz ⟨rfl, q4⟩
    rw [show decide (rs = rs) = true from decide_eq_true rfl]
    have BZ := Lib.hid (below_next B4.out q4.below)
    clear q4
    go_wp2_with fail
    refine (UN.out _ BZ.out).mono ?_
    rintro e w5 ⟨⟨h0, Q5, U5, uc5, vs5, _, rfl, ho, hr⟩ | ⟨hne, rfl⟩, b5⟩
    · have ok := ok_of h0
      have pe := (recs_fit ok).packE
      have pb : pkB (recs bs) = bs := by
        unfold pkB
        rw [if_pos pe]
        exact packed_recs ok HS.out
      have pz : sizeN (recs bs) = m := by rw [← pkB_len, pb, HLEN.out]
      have R5 := Lib.hid (un_rd HS.out ho hr)
      have q16 := ok.le
      obtain ⟨q, hq⟩ : ∃ q, num bs = q := ⟨_, rfl⟩
      have B5 := Lib.hid (below_next BZ.out b5)
      rw [hq] at R5 q16 ⊢
      have PE5 := Lib.hid pe
      have PB5 := Lib.hid pb
      have PZ5 := Lib.hid pz
      clear h0 ho hr b5 ok pe pb pz hq
      go_wp2_with fail
      refine (pack_any (recs bs) U5 q uc5 _ R5.out (by omega)).mono ?_
      intro e w6 hp
      obtain ⟨A6, c6, rfl, ho6, hb6⟩ := pk_full hp
      rw [PE5.out, PZ5.out]
      rw [PZ5.out, PB5.out] at ho6
      have B6 := Lib.hid (below_next B5.out hb6)
      obtain ⟨_, _, e7, _, _, g3, g4⟩ := own_full ho6
      injection e7 with e7 _ e8
      subst e7 e8
      have k1 := conv_str bs A6 _ c6 w6 HLEN.out g3 HS.out (fun e => (g4 e).1)
      have k2 := conv_str bs B _ d w6 HLEN.out (HR.out.below B6.out) HS.out (fun e => (HNO.out e).1)
      obtain ⟨x, hx⟩ : ∃ x, strOf bs = x := ⟨_, rfl⟩
      rw [hx] at k1 k2
      clear hp ho6 hb6 g3 g4 hx
      go_wp2_with fail
      refine (packs_good _).mono ?_
      rintro e w8 ⟨rfl, hb8⟩
      have HB := Lib.hid (below_next B6.out hb8)
      clear hb8
      go_wp2_with fail
      go_ret
      exact ⟨rfl, HB.out⟩
    · obtain ⟨y, hy⟩ : ∃ y, errE bs = y := ⟨_, rfl⟩
      rw [hy] at hne ⊢
      have B5 := Lib.hid (below_next BZ.out b5)
      have y1 : ((y : Int) != 0) = true := by simp; omega
      have y2 : ¬ ((y : Int) = 0) := by omega
      clear b5 hy hne
      go_wp2_with fail
      refine (packs_good _).mono ?_
      rintro e w8 ⟨rfl, hb8⟩
      have HB := Lib.hid (below_next B5.out hb8)
      clear hb8
      go_wp2_with fail
      go_ret
      exact ⟨rfl, HB.out⟩
  · have HV0 := Lib.hid hv0
    have z1 : ((v : Int) == 0) = false := by simp; omega
    have z2 : ¬ ((v : Int) = 0) := by omega
    obtain ⟨wz, rfl⟩ : ∃ wz, wz = w1 := ⟨_, rfl⟩
    have BZ := B1
    clear hv0
    go_wp2_with fail
    refine (UN.out _ BZ.out).mono ?_
    rintro e w5 ⟨⟨h0, Q5, U5, uc5, vs5, _, rfl, ho, hr⟩ | ⟨hne, rfl⟩, b5⟩
    · have ok := ok_of h0
      have pe := (recs_fit ok).packE
      have pb : pkB (recs bs) = bs := by
        unfold pkB
        rw [if_pos pe]
        exact packed_recs ok HS.out
      have pz : sizeN (recs bs) = m := by rw [← pkB_len, pb, HLEN.out]
      have R5 := Lib.hid (un_rd HS.out ho hr)
      have q16 := ok.le
      obtain ⟨q, hq⟩ : ∃ q, num bs = q := ⟨_, rfl⟩
      have B5 := Lib.hid (below_next BZ.out b5)
      rw [hq] at R5 q16 ⊢
      have PE5 := Lib.hid pe
      have PB5 := Lib.hid pb
      have PZ5 := Lib.hid pz
      clear h0 ho hr b5 ok pe pb pz hq
      go_wp2_with fail
      refine (pack_any (recs bs) U5 q uc5 _ R5.out (by omega)).mono ?_
      intro e w6 hp
      obtain ⟨A6, c6, rfl, ho6, hb6⟩ := pk_full hp
      rw [PE5.out, PZ5.out]
      rw [PZ5.out, PB5.out] at ho6
      have B6 := Lib.hid (below_next B5.out hb6)
      obtain ⟨_, _, e7, _, _, g3, g4⟩ := own_full ho6
      injection e7 with e7 _ e8
      subst e7 e8
      have k1 := conv_str bs A6 _ c6 w6 HLEN.out g3 HS.out (fun e => (g4 e).1)
      have k2 := conv_str bs B _ d w6 HLEN.out (HR.out.below B6.out) HS.out (fun e => (HNO.out e).1)
      obtain ⟨x, hx⟩ : ∃ x, strOf bs = x := ⟨_, rfl⟩
      rw [hx] at k1 k2
      clear hp ho6 hb6 g3 g4 hx
      go_wp2_with fail
      refine (packs_good _).mono ?_
      rintro e w8 ⟨rfl, hb8⟩
      have HB := Lib.hid (below_next B6.out hb8)
      clear hb8
      go_wp2_with fail
      go_ret
      exact ⟨rfl, HB.out⟩
    · obtain ⟨y, hy⟩ : ∃ y, errE bs = y := ⟨_, rfl⟩
      rw [hy] at hne ⊢
      have B5 := Lib.hid (below_next BZ.out b5)
      have y1 : ((y : Int) != 0) = true := by simp; omega
      have y2 : ¬ ((y : Int) = 0) := by omega
      clear b5 hy hne
      go_wp2_with fail
      refine (packs_good _).mono ?_
      rintro e w8 ⟨rfl, hb8⟩
      have HB := Lib.hid (below_next B5.out hb8)
      clear hb8
      go_wp2_with fail
      go_ret
      exact ⟨rfl, HB.out⟩
end Rc
end Go.Proofs.Ytppahidjiiehkaa
