/- Layer 6: the walk of the law RecordsApart. -/
import Derived.Test.YtppahidjiiehkaaRpO
import Derived.Deep.LoopGhost
import Derived.StillTailTactics
namespace Go.Proofs.Ytppahidjiiehkaa
open Go.RowKit
namespace Rc

/-- The relation of the loops. -/
def LpR (B H : Nat) (U : Option Addr) (m uc : Nat) (vs : List Value) (ls : List Nat) (w0 : World) (n G : Nat) (v : Value) (w : World) : Prop :=
  ∃ k : Nat, k ≤ n ∧ G = n - k ∧ v = .int .i64 (k : Int) ∧ Ls w B H U m uc vs ls ∧ Win B H w0 w
/-- A row that lies below. -/
theorem own_lo {a b : World} {lo B size n : Nat} {e : TypeId} {v : Value} {xs : List Value} (ho : a.ownsRow B e size v n xs) (hb : Below lo a b) (hq : ∀ q, v.ownBlock = some q → q < lo) : b.ownsRow B e size v n xs := by
  refine ⟨ho.1, ?_⟩
  rcases ho.2 with h2 | ⟨g, cap, cur, h3, h4, h5, h6⟩
  · exact .inl h2
  · exact .inr ⟨g, cap, cur, h3, h4, by rw [hb.block g (hq g (by rw [h3]; rfl))]; exact h5, h6⟩
/-- What Unpack answers, as a row that may be written over. -/
theorem un_ls {bs : List Nat} {W w : World} {e : Ending} (h : UnRes bs W e w) : ∃ U n uc B vs ls, e = .returned (.tuple #[.slice U n uc, .int .i64 (errE bs : Nat)]) ∧ n ≤ 16 ∧ (W.heap.size ≤ B ∧ B ≤ w.heap.size) ∧ Ls w B w.heap.size U n uc vs ls ∧ Below W.heap.size W w := by
  obtain ⟨⟨h0, B, U, uc, vs, hB, rfl, ho, hr⟩ | ⟨h0, rfl⟩, hb⟩ := h
  · rw [h0]
    obtain ⟨g, _, _, hg, hlt⟩ := ho.form (ok_of h0).pos
    exact ⟨U, _, uc, B, vs, _, rfl, (ok_of h0).le, ⟨hB, by omega⟩, Ls.of ho hr, hb⟩
  · exact ⟨none, 0, 0, W.heap.size, [], _, rfl, by decide, ⟨Nat.le_refl _, hb.size⟩, Ls.of (World.ownsRow_nil _ _ _ _) (OwnRecs.nil _ _ _), hb⟩
set_option maxRecDepth 100000 in
set_option maxHeartbeats 6400000 in
theorem recordsApart_walk (rs : List (List Nat)) (A : Option Addr) (n c : Nat) (W : World) (h : RdRecs W A n rs) (hn : n ≤ 9223372036854775807) :
    Calls Try.prog 6 #[.slice A n c] W (Good W) := by
  have FA := Lib.hid (few_any rs A n c W h hn)
  by_cases hf : fewB rs = true
  case neg =>
    have hf' : fewB rs = false := by simpa using hf
    rw [hf'] at FA
    clear h hf hf'
    go_enter Try.func6, Try.ntmps6
    go_wp2_with fail
    refine FA.out.mono ?_
    rintro e w ⟨rfl, rfl⟩
    go_wp2_with fail
    refine (packs_good _).mono ?_
    rintro e w1 ⟨rfl, hb⟩
    have HB := Lib.hid hb
    clear hb
    go_wp2_with fail
    go_ret
    exact ⟨rfl, HB.out⟩
  rw [hf] at FA
  obtain ⟨f1, f2⟩ := few_of hf
  have hn60 : n ≤ 60 := by rw [← h.len]; exact f1
  have HLL := Lib.hid (fun k (hk : k < n) => show (rc rs k).length ≤ 100000 by
    have := len_le (rs := rs) (k := k) (by rw [h.len]; exact hk)
    omega)
  have H := Lib.hid h
  obtain ⟨u, hu⟩ : ∃ u, sizeN rs = u := ⟨_, rfl⟩
  have hu4 := sizeN_le rs
  rw [hu] at hu4
  have HU := Lib.hid hu
  have PE : RowKit.Hid (if packE rs = 0 then errE (pkB rs) = 0 ∧ recs (pkB rs) = rs ∧ num (pkB rs) = n else errE (pkB rs) = 3) := Lib.hid (by
    unfold pkB
    split
    · rename_i e
      exact ⟨packed_ok (fit_of e), recs_packed rs, by rw [num_packed]; exact h.len⟩
    · rfl)
  have PL := Lib.hid (show (pkB rs).length = u by rw [pkB_len, hu])
  have PS := Lib.hid (pkB_small h.small)
  obtain ⟨v, hv⟩ : ∃ v, packE rs = v := ⟨_, rfl⟩
  have HV := Lib.hid hv
  obtain ⟨y, hy⟩ : ∃ y, errE (pkB rs) = y := ⟨_, rfl⟩
  have HY := Lib.hid hy
  clear h hf hu hv f1 f2 hy
  go_enter Try.func6, Try.ntmps6
  go_wp2_with fail
  refine FA.out.mono ?_
  rintro e w ⟨rfl, rfl⟩
  go_wp2_with fail
  refine (clone_recs rs A n c _ H.out (by omega) HLL.out).mono ?_
  rintro e w1 ⟨⟨U1, uc1, vs1, rfl, ho1, hr1⟩, b1⟩
  have R1 := Lib.hid (RdRecs.of_own hr1 ho1 H.out.small)
  have B1 := Lib.hid b1
  clear ho1 hr1 b1
  go_wp2_with fail
  refine (clone_recs rs U1 n uc1 _ R1.out (by omega) HLL.out).mono ?_
  rintro e w2 ⟨⟨U2, uc2, vs2, rfl, ho2, hr2⟩, b2⟩
  have L2 := Lib.hid (Ls.of ho2 hr2)
  have B2 := Lib.hid b2
  obtain ⟨ls2, hls2⟩ : ∃ ls2, rs.map List.length = ls2 := ⟨_, rfl⟩
  rw [hls2] at L2
  clear ho2 hr2 b2 hls2
  go_wp2_with fail
  refine (pack_any rs U1 n uc1 _ (R1.out.below B2.out) hn).mono ?_
  intro e w3 hp
  obtain ⟨A3, c3, rfl, ho3, hb3⟩ := pk_full hp
  rw [HU.out] at ho3
  have O3 := Lib.hid ho3
  have B3 := Lib.hid hb3
  rw [HU.out, HV.out]
  clear hp ho3 hb3
  go_wp2_with fail
  obtain ⟨_, _, e3, g1, g2, g3, g4⟩ := own_full O3.out
  injection e3 with e3 _ e3'
  subst e3 e3'
  have UP := Lib.hid (unpack_any (pkB rs) A3 c3 w3 g3 PS.out (by rw [PL.out]; omega) (by rw [PL.out]; exact g1) g2)
  rw [PL.out] at UP
  have HG1 := Lib.hid (And.intro g1 (And.intro g2 g4))
  clear g1 g2 g3 g4
  refine UP.out.mono ?_
  intro e w4 hq
  obtain ⟨U4, m4, uc4, Q, vs4, ls4, rfl, hm4, hQ, hL4, hb4⟩ := un_ls hq
  have L4 := Lib.hid hL4
  have B4 := Lib.hid hb4
  have HQ := Lib.hid hQ.1
  have BQ := Lib.hid hQ.2
  rw [HY.out]
  clear hq hL4 hb4 hQ
  have L24 := Lib.hid ((L2.out.below B3.out).below B4.out)
  obtain ⟨lo2, hlo2⟩ : ∃ lo2, w1.heap.size = lo2 := ⟨_, rfl⟩
  obtain ⟨hi2, hhi2⟩ : ∃ hi2, w2.heap.size = hi2 := ⟨_, rfl⟩
  have HLO2 := Lib.hid hlo2
  have HHI2 := Lib.hid hhi2
  rw [hlo2, hhi2] at L24
  clear hlo2 hhi2
  go_wp2_with fail
  go_loopg [9] n (fun G v w => LpR lo2 hi2 U2 n uc2 vs2 ls2 w4 n G v w)
  case atStart => exact ⟨0, by omega, by omega, rfl, L24.out, Win.refl _ _ _⟩
  case round =>
    obtain ⟨a, ha, rfl, rfl, hLS, hW⟩ := hrel
    have HLS0 := Lib.hid hLS
    have HW0 := Lib.hid hW
    by_cases ham : a < n
    · obtain ⟨b, A', l, c', hU, hl, hc, hlc, hcm, _⟩ := hLS.at ham
      have HL := Lib.hid hl
      have HU := Lib.hid hU
      have q0 : (0 : Int) ≤ (a : Int) := by omega
      have q1 : (a : Int) < (n : Int) := by omega
      have hcm2 : l ≤ 9223372036854775807 := by omega
      clear hl hc hU hLS hW hlc hcm
      generalize hw0 : wr = wb at *
      clear hw0
      go_wp2_with fail
      go_loopg [10] l (fun G v w => LpR lo2 hi2 U2 n uc2 vs2 ls2 w4 l G v w)
      case atStart => exact ⟨0, by omega, by omega, rfl, HLS0.out, HW0.out⟩
      case round =>
        obtain ⟨t, ht, rfl, rfl, hLS, hW⟩ := hrel
        have HLS1 := Lib.hid hLS
        have HW1 := Lib.hid hW
        obtain ⟨b2, A2, l2, c2, hU2, hl2, hc2, hlc2, hcm2, hj⟩ := hLS.at ham
        rw [HU.out] at hU2
        injection hU2 with hU2
        injection hU2 with hU2 _ _
        subst hU2
        obtain rfl : l = l2 := by rw [← HL.out, hl2]
        have HUX := HU.out
        clear hl2 hLS hW
        by_cases htl : t < l
        · obtain ⟨g, x, rfl, hx, hf, hBg, hgH, hset⟩ := hj t htl
          have ST := Lib.hid (fun (y : Nat) => (⟨t + 1, by omega, rfl, rfl, (hset y).drew, (HW1.out.set hBg hgH t _).drew⟩ : LpR lo2 hi2 U2 n uc2 vs2 ls2 w4 l (l - (t + 1)) (.int .i64 ((t + 1 : Nat) : Int)) (wr.setCell ⟨g, t, none⟩ (.int .u8 (y : Int))).drew))
          have q2 : (0 : Int) ≤ (t : Int) := by omega
          have q3 : (t : Int) < (l : Int) := by omega
          clear hj hset hBg hgH
          cases HUX
          go_wp2_with fail
          go_still_tail 14, (by kernel_rfl)
          go_wp2_with fail
          go_roundg (l - (t + 1))
          case measure => omega
          case rel =>
            have h := ST.out ((x + 1) % 256)
            rw [show (((x + 1) % 256 : Nat) : Int) = ((x : Int) + 1) % 256 by omega, show ((t + 1 : Nat) : Int) = (t : Int) + 1 by omega] at h
            exact h
        · obtain rfl : l = t := by omega
          clear hj
          cases HUX
          go_wp2_with fail
          go_roundg (n - (a + 1))
          case measure => omega
          case rel => exact ⟨a + 1, by omega, rfl, by go_num, HLS1.out, HW1.out⟩
    · have W5 := HW0
      have q1 : ¬ ((a : Int) < (n : Int)) := by omega
      clear hLS hW ham
      have B15 := Lib.hid (show Below w1.heap.size w1 wr from (below_next (below_next B2.out B3.out) B4.out).trans (by rw [HLO2.out]; exact W5.out.below (by have := HLO2.out; have := (below_next (below_next B2.out B3.out) B4.out).size; omega)))
      have B5 := Lib.hid (below_next B1.out B15.out)
      go_wp2_with fail
      refine (refsame_any rs rs U1 A n uc1 n c _ (R1.out.below B15.out) (H.out.below B5.out) hn hn).mono ?_
      rintro e w6 ⟨rfl, q6⟩
      rw [show decide (rs = rs) = true from decide_eq_true rfl]
      have BW6 := Lib.hid (below_next B5.out q6.below)
      have hW6 : Win lo2 hi2 w4 w6 := by
        obtain ⟨nd, rfl⟩ := q6
        exact W5.out.drewN nd
      have hq2 : hi2 ≤ Q := by have := HHI2.out; have := HQ.out; have := B3.out.size; omega
      have L6 := Lib.hid (L4.out.win hW6 hq2)
      have O6 := Lib.hid (hW6.own (Mem.own_below O3.out B4.out) (by rw [HHI2.out]; exact Nat.le_refl _))
      have OLT := Lib.hid (fun q hq => show q < Q by have := (own_lt O3.out q hq).2; have := HQ.out; omega)
      obtain ⟨hi4, hhi4⟩ : ∃ hi4, w4.heap.size = hi4 := ⟨_, rfl⟩
      have HHI4 := Lib.hid hhi4
      rw [hhi4] at L6
      have B46 := Lib.hid (show hi4 ≤ w6.heap.size by rw [← hhi4]; exact hW6.size)
      have BSZ := Lib.hid (show W.heap.size ≤ Q by have := B1.out.size; have := B2.out.size; have := B3.out.size; have := HQ.out; omega)
      clear q6 hW6 hq2 hhi4
      go_wp2_with fail
      go_loopg [11] m4 (fun G v w => LpR Q hi4 U4 m4 uc4 vs4 ls4 w6 m4 G v w)
      case atStart => exact ⟨0, by omega, by omega, rfl, L6.out, Win.refl _ _ _⟩
      case round =>
        obtain ⟨a, ha, rfl, rfl, hLS, hW⟩ := hrel
        have HLS0 := Lib.hid hLS
        have HW0 := Lib.hid hW
        by_cases ham : a < m4
        · obtain ⟨b, A', l, c', hU, hl, hc, hlc, hcm, _⟩ := hLS.at ham
          have HL := Lib.hid hl
          have HU := Lib.hid hU
          have q0 : (0 : Int) ≤ (a : Int) := by omega
          have q1 : (a : Int) < (m4 : Int) := by omega
          have hcm2 : l ≤ 9223372036854775807 := by omega
          clear hl hc hU hLS hW hlc hcm
          generalize hw0 : wr = wb at *
          clear hw0
          go_wp2_with fail
          go_loopg [12] l (fun G v w => LpR Q hi4 U4 m4 uc4 vs4 ls4 w6 l G v w)
          case atStart => exact ⟨0, by omega, by omega, rfl, HLS0.out, HW0.out⟩
          case round =>
            obtain ⟨t, ht, rfl, rfl, hLS, hW⟩ := hrel
            have HLS1 := Lib.hid hLS
            have HW1 := Lib.hid hW
            obtain ⟨b2, A2, l2, c2, hU2, hl2, hc2, hlc2, hcm2, hj⟩ := hLS.at ham
            rw [HU.out] at hU2
            injection hU2 with hU2
            injection hU2 with hU2 _ _
            subst hU2
            obtain rfl : l = l2 := by rw [← HL.out, hl2]
            have HUX := HU.out
            clear hl2 hLS hW
            by_cases htl : t < l
            · obtain ⟨g, x, rfl, hx, hf, hBg, hgH, hset⟩ := hj t htl
              have ST := Lib.hid (fun (y : Nat) => (⟨t + 1, by omega, rfl, rfl, (hset y).drew, (HW1.out.set hBg hgH t _).drew⟩ : LpR Q hi4 U4 m4 uc4 vs4 ls4 w6 l (l - (t + 1)) (.int .i64 ((t + 1 : Nat) : Int)) (wr.setCell ⟨g, t, none⟩ (.int .u8 (y : Int))).drew))
              have q2 : (0 : Int) ≤ (t : Int) := by omega
              have q3 : (t : Int) < (l : Int) := by omega
              clear hj hset hBg hgH
              cases HUX
              go_wp2_with fail
              go_still_tail 14, (by kernel_rfl)
              go_wp2_with fail
              go_roundg (l - (t + 1))
              case measure => omega
              case rel =>
                have h := ST.out ((x + 1) % 256)
                rw [show (((x + 1) % 256 : Nat) : Int) = ((x : Int) + 1) % 256 by omega, show ((t + 1 : Nat) : Int) = (t : Int) + 1 by omega] at h
                exact h
            · obtain rfl : l = t := by omega
              clear hj
              cases HUX
              go_wp2_with fail
              go_roundg (m4 - (a + 1))
              case measure => omega
              case rel => exact ⟨a + 1, by omega, rfl, by go_num, HLS1.out, HW1.out⟩
        · have W8 := HW0
          have q1 : ¬ ((a : Int) < (m4 : Int)) := by omega
          clear hLS hW ham
          have B8 := Lib.hid (show Below W.heap.size W wr from BW6.out.trans ((W8.out.below (by have := BQ.out; have := HHI4.out; have := B46.out; omega)).mono (by have := BQ.out; have := BW6.out.size; have := BSZ.out; omega)))
          have O8 := Lib.hid (own_lo O6.out (W8.out.below (by have := BQ.out; have := HHI4.out; have := B46.out; omega)) OLT.out)
          obtain ⟨_, _, e8, _, _, g8, _⟩ := own_full O8.out
          injection e8 with e8 _ e8'
          subst e8 e8'
          have UP8 := Lib.hid (unpack_any (pkB rs) A3 c3 wr g8 PS.out (by rw [PL.out]; omega) (by rw [PL.out]; exact HG1.out.1) HG1.out.2.1)
          rw [PL.out] at UP8
          clear g8
          go_wp2_with fail
          refine UP8.out.mono ?_
          by_cases hv0 : v = 0
          · subst hv0
            have hpe := PE.out
            rw [if_pos HV.out] at hpe
            obtain ⟨e1, e2, e3⟩ := hpe
            have hy0 : y = 0 := by rw [← HY.out, e1]
            subst hy0
            have E3 := Lib.hid e3
            have E2 := Lib.hid e2
            rintro e w9 ⟨⟨_, Q9, U9, uc9, vs9, _, rfl, ho, hr⟩ | ⟨hne, _⟩, b9⟩
            case inr => exact absurd HY.out hne
            have hrd := un_rd PS.out ho hr
            rw [E2.out, E3.out] at hrd
            rw [E3.out]
            have R9 := Lib.hid hrd
            have B9 := Lib.hid (below_next B8.out b9)
            clear e1 e2 e3 ho hr hrd b9
            go_wp2_with fail
            refine (refsame_any rs rs U9 A n uc9 n c _ R9.out (H.out.below B9.out) hn hn).mono ?_
            rintro e w10 ⟨rfl, q10⟩
            rw [show decide (rs = rs) = true from decide_eq_true rfl]
            have B10 := Lib.hid (below_next B9.out q10.below)
            clear q10
            go_wp2_with fail
            refine (packs_good _).mono ?_
            rintro e w11 ⟨rfl, hb11⟩
            have HB := Lib.hid (below_next B10.out hb11)
            clear hb11
            go_wp2_with fail
            go_ret
            exact ⟨rfl, HB.out⟩
          · have hpe := PE.out
            rw [if_neg (by rw [HV.out]; exact hv0)] at hpe
            have hy3 : y = 3 := by rw [← HY.out, hpe]
            subst hy3
            have z1 : ((v : Int) != 0) = true := by simp; omega
            have z2 : ((v : Int) == 0) = false := by simp; omega
            have z3 : ¬ ((v : Int) = 0) := by omega
            rintro e w9 ⟨⟨h0, _⟩ | ⟨_, rfl⟩, b9⟩
            case inl => rw [HY.out] at h0; cases h0
            rw [HY.out]
            have B9 := Lib.hid (below_next B8.out b9)
            clear hpe hv0 b9
            go_wp2_with fail
            refine (packs_good _).mono ?_
            rintro e w11 ⟨rfl, hb11⟩
            have HB := Lib.hid (below_next B9.out hb11)
            clear hb11
            go_wp2_with fail
            go_ret
            exact ⟨rfl, HB.out⟩
end Rc
end Go.Proofs.Ytppahidjiiehkaa
