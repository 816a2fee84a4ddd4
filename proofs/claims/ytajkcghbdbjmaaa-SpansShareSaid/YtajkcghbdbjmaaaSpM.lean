/- Layer 7 (spans): the walk of the law SpansShare. -/
import Derived.Test.YtajkcghbdbjmaaaSpL
import Derived.BigQuiet
import Derived.Deep.QuietTactic
namespace Go.Proofs.Ytajkcghbdbjmaaa
open Go.RowKit Rc
namespace Sp

/-- The relation of the loop. -/
def ShR (N : Nat) (W0 : World) (i : Value) (w : World) : Prop := ∃ k : Nat, k ≤ N ∧ i = .int .i64 (k : Int) ∧ Mem.QQ W0 w
set_option maxRecDepth 100000 in
set_option maxHeartbeats 12800000 in
theorem spansShare_walk (rs : List (List Nat)) (A : Option Addr) (n c : Nat) (wh at_ : Int) (W : World) (h : RdRecs W A n rs) (hn : n ≤ 9223372036854775807) (hw : -9223372036854775808 ≤ wh ∧ wh ≤ 9223372036854775807) (ha : -9223372036854775808 ≤ at_ ∧ at_ ≤ 9223372036854775807) :
    Calls Try.prog 7 #[.slice A n c, .int .i64 wh, .int .i64 at_] W (Good W) := by
  have FA := Lib.hid (few_any rs A n c W h hn)
  by_cases hf : fewB rs = true
  case neg =>
    have hf' : fewB rs = false := by simpa using hf
    rw [hf'] at FA
    clear h hf hf' hw ha
    go_enter Try.func7, Try.ntmps7
    go_wp2_with fail
    refine FA.out.mono ?_
    rintro e w ⟨rfl, rfl⟩
    go_wp2_with fail
    refine (views_good _).mono ?_
    rintro e w1 ⟨rfl, hb⟩
    have HB := Lib.hid hb
    clear hb
    go_wp2_with fail
    go_ret
    exact ⟨rfl, HB.out⟩
  rw [hf] at FA
  have H := Lib.hid h
  by_cases hp : packE rs = 0
  case neg =>
    obtain ⟨v, hv⟩ : ∃ v, packE rs = v := ⟨_, rfl⟩
    have HV := Lib.hid hv
    have HP := Lib.hid hp
    have hvi : ((v : Int) != 0) = true := by simp; omega
    have E3 : RowKit.Hid (errE [] = 3) := Lib.hid (by decide)
    have VI := Lib.hid (fun w => views_any [] none 0 w (Mem.Rd.nil _ _) (by intro b hb; cases hb) (by decide) (by decide) (by decide))
    have OF := Lib.hid (fun w => of_any [] none 0 w (Mem.Rd.nil _ _) (by intro b hb; cases hb) (by decide) (by decide) (by decide))
    rw [List.length_nil] at VI OF
    clear h hf hv hp hw ha
    go_enter Try.func7, Try.ntmps7
    go_wp2_with fail
    refine FA.out.mono ?_
    rintro e w ⟨rfl, rfl⟩
    go_wp2_with fail
    refine (pack_any rs A n c _ H.out hn).mono ?_
    rintro e w1 ⟨⟨h0, _⟩ | ⟨_, rfl⟩, b1⟩
    case inl => exact absurd h0 HP.out
    rw [HV.out]
    have B1 := Lib.hid b1
    clear b1
    go_wp2_with fail
    refine (VI.out w1).mono ?_
    rintro e w2 ⟨⟨h0, _⟩ | ⟨_, rfl⟩, b2⟩
    case inl => rw [E3.out] at h0; cases h0
    rw [E3.out]
    have B2 := Lib.hid (below_next B1.out b2)
    clear b2
    go_wp2_with fail
    refine (OF.out w2).mono ?_
    rintro e w3 ⟨⟨h0, _⟩ | ⟨_, rfl⟩, b3⟩
    case inl => rw [E3.out] at h0; cases h0
    rw [E3.out]
    have B3 := Lib.hid (below_next B2.out b3)
    clear b3
    go_wp2_with fail
    refine (views_good _).mono ?_
    rintro e w4 ⟨rfl, hb⟩
    have HB := Lib.hid (below_next B3.out hb)
    clear hb
    go_wp2_with fail
    go_ret
    exact ⟨rfl, HB.out⟩
  have hfit := fit_of hp
  obtain ⟨bs, hbs⟩ : ∃ bs, packed rs = bs := ⟨_, rfl⟩
  have hE : errE bs = 0 := by rw [← hbs]; exact packed_ok hfit
  have hok := ok_of hE
  have hnum : num bs = n := by rw [← hbs, num_packed]; exact h.len
  have hN0 : bs.length = packLen rs := by rw [← hbs]; exact packed_len rs
  obtain ⟨N, hN⟩ : ∃ N, bs.length = N := ⟨_, rfl⟩
  have hN480 := hok.most
  have hlast := hok.last
  have hn0 := hok.pos
  have hn16 := hok.le
  rw [hN] at hN480 hlast
  rw [hnum] at hlast hn0 hn16
  have HE := Lib.hid hE
  have HOK := Lib.hid hok
  have HNUM := Lib.hid hnum
  have HPL := Lib.hid (show packLen rs = N by rw [← hN0, hN])
  have HN := Lib.hid hN
  have HPK := Lib.hid hbs
  have HP := Lib.hid hp
  have HRS := Lib.hid (show recs bs = rs by rw [← hbs]; exact recs_packed rs)
  have HS := Lib.hid (show Small bs by rw [← hbs]; exact small_packed hfit h.small)
  clear h hf hp hfit hbs hE hok hnum hN0 hN
  have hN0 : 0 < N := by omega
  go_enter Try.func7, Try.ntmps7
  go_wp2_with fail
  refine FA.out.mono ?_
  rintro e w ⟨rfl, rfl⟩
  go_wp2_with fail
  refine (pack_any rs A n c _ H.out hn).mono ?_
  rintro e w1 ⟨⟨_, v0, rfl, ho1⟩ | ⟨hne, _⟩, b1⟩
  case inr => exact absurd HP.out hne
  rw [HPL.out, HPK.out] at ho1
  obtain ⟨A3, c3, rfl, g1, g2, g3, _⟩ := own_full ho1
  obtain ⟨sb, cc, hA3, hsb1, hsb2⟩ := ho1.form (by omega)
  injection hA3 with hA3 _ hcc
  obtain rfl : cc = c3 := hcc.symm
  subst hA3
  have O1 := Lib.hid ho1
  have B1 := Lib.hid b1
  have SB := Lib.hid (And.intro hsb1 hsb2)
  have VI := Lib.hid (views_any bs (some ⟨sb, 0, none⟩) cc w1 g3 HS.out (by rw [HN.out]; omega) (by rw [HN.out]; exact g1) g2)
  have OF := Lib.hid (fun w (hb : Below w1.heap.size w1 w) => of_any bs (some ⟨sb, 0, none⟩) cc w (g3.below hb) HS.out (by rw [HN.out]; omega) (by rw [HN.out]; exact g1) g2)
  rw [HN.out] at VI OF
  clear ho1 b1 g1 g2 g3 hsb1 hsb2
  go_wp2_with fail
  refine VI.out.mono ?_
  rintro e w2 ⟨⟨_, Nv, vv, vs, hNv, rfl, ho2, hvl, hvw⟩ | ⟨hne, _⟩, b2⟩
  case inr => exact absurd HE.out hne
  rw [HNUM.out] at ho2 hvl
  obtain ⟨V, vc, rfl, _⟩ := Mem.own_shape ho2
  have O2 := Lib.hid ho2
  have VW := Lib.hid hvw
  have VL := Lib.hid hvl
  have B2 := Lib.hid b2
  have NV := Lib.hid hNv
  clear ho2 hvl hvw b2 hNv
  go_wp2_with fail
  refine (OF.out w2 B2.out).mono ?_
  rintro e w3 ⟨⟨_, No, vo, hNo, rfl, ho3⟩ | ⟨hne, _⟩, b3⟩
  case inr => exact absurd HE.out hne
  rw [HNUM.out] at ho3
  obtain ⟨ub, uc, rfl, hub, hcl⟩ := cells_two ho3 hn0 (by rw [spn_len, HNUM.out])
  have hub2 : No ≤ ub := by
    obtain ⟨g, _, e1, e2, _⟩ := ho3.form hn0
    injection e1 with e1 _ _
    injection e1 with e1
    injection e1 with e1
    omega
  have UB := Lib.hid hub
  have USB := Lib.hid (show sb ≠ ub by have := SB.out.2; have := B2.out.size; omega)
  have CL := Lib.hid hcl
  have B3 := Lib.hid b3
  clear ho3 hub hub2 hcl b3 hNo
  have R3 := Lib.hid (show RdRecs w3 V n rs by
    have hv2 := views_rd (w := w2) (sb := sb) (N := Nv) (uc := vc) (V := V) (vs := vs) HOK.out HS.out ((Mem.Rd.of_own O1.out).below B2.out) (by rw [HNUM.out]; exact O2.out) VW.out
    rw [HNUM.out, HRS.out] at hv2
    exact hv2.below B3.out)
  have B13 := Lib.hid (below_next B2.out B3.out)
  have BW3 := Lib.hid (below_next B1.out B13.out)
  go_wp2_with fail
  refine (refsame_any rs rs V A n vc n c _ R3.out (H.out.below BW3.out) hn hn).mono ?_
  rintro e w4 ⟨rfl, q4⟩
  rw [show decide (rs = rs) = true from decide_eq_true rfl]
  have B34 := Lib.hid (q4.below (B := w3.heap.size))
  have B14 := Lib.hid (below_next B13.out B34.out)
  have BW4 := Lib.hid (below_next BW3.out B34.out)
  clear q4
  by_cases hwl : wh < 0
  · have BWX := BW4
    clear hw ha
    go_wp2_with fail
    refine (views_good _).mono ?_
    rintro e w9 ⟨rfl, hb⟩
    have HB := Lib.hid (below_next BWX.out hb)
    clear hb
    go_wp2_with fail
    go_ret
    exact ⟨rfl, HB.out⟩
  by_cases hwn : (n : Int) ≤ wh
  · have BWX := BW4
    have hwl' : ¬ wh < 0 := hwl
    clear hw ha
    go_wp2_with fail
    refine (views_good _).mono ?_
    rintro e w9 ⟨rfl, hb⟩
    have HB := Lib.hid (below_next BWX.out hb)
    clear hb
    go_wp2_with fail
    go_ret
    exact ⟨rfl, HB.out⟩
  obtain ⟨k, rfl⟩ : ∃ k : Nat, wh = (k : Int) := ⟨wh.toNat, by omega⟩
  have hkn : k < n := by omega
  obtain ⟨vb, vcc, hV, _, hvlt⟩ := O2.out.form (by omega)
  injection hV with hV _ hvcc
  obtain rfl : vcc = vc := hvcc.symm
  subst hV
  obtain ⟨vv, hvv⟩ : ∃ vv, vs[k]? = some vv := ⟨_, List.getElem?_eq_getElem (by rw [VL.out]; exact hkn)⟩
  have hsp : (spn bs)[k]? = some (2 + 2 * n + beg bs k, endAt bs k - beg bs k) := by
    unfold spn
    rw [List.getElem?_map, List.getElem?_range (by rw [HNUM.out]; exact hkn), HNUM.out]
    rfl
  obtain ⟨A', rfl, hA'⟩ := VW.out k _ vv hsp hvv
  have hel := HOK.out.end_le (i := k) (by rw [HNUM.out]; exact hkn)
  have hbl := HOK.out.beg_le (i := k) (by rw [HNUM.out]; exact hkn)
  have hrl := HOK.out.rec_len (i := k) (by rw [HNUM.out]; exact hkn)
  rw [HNUM.out] at hel
  have hu1 := (CL.out k hkn).1
  have hgd : ((spn bs).getD k (0, 0)).1 = 2 + 2 * n + beg bs k := by rw [List.getD_eq_getElem?_getD, hsp]; rfl
  rw [hgd] at hu1
  have hcut : rec1 bs k = (bs.drop (2 + 2 * n + beg bs k)).take (endAt bs k - beg bs k) := by rw [rec1_cut, HNUM.out]
  obtain ⟨p0, hp0⟩ : ∃ p0, 2 + 2 * n + beg bs k = p0 := ⟨_, rfl⟩
  obtain ⟨q, hq⟩ : ∃ q, endAt bs k - beg bs k = q := ⟨_, rfl⟩
  have hpq : p0 + q ≤ N := by omega
  rw [hp0] at hA' hu1 hcut
  rw [hq] at hA' hrl hcut hvv
  have hc2 : w2.cell? ⟨vb, k, none⟩ = some (.slice A' q q) := by rw [← hvv]; exact O2.out.cellAt k (by omega)
  have B24 := Lib.hid (below_next B3.out B34.out)
  have d1 : w4.cell? ⟨vb, k, none⟩ = some (.slice A' q q) := (B24.out.cell (p := ⟨vb, k, none⟩) hvlt).trans hc2
  have R4 := Lib.hid ((Mem.Rd.of_own O1.out).below B14.out)
  have k1 := conv_str bs (some ⟨sb, 0, none⟩) N cc w4 HN.out R4.out HS.out (fun e => by cases e)
  have HRD := Lib.hid (show Mem.Rd w4 A' (octets (rec1 bs k)) by
    have := Mem.Rd.cut R4.out p0 q (by rw [octets_len, HN.out]; exact hpq) A' hA'
    rw [octets_drop, octets_take, ← hcut] at this
    exact this)
  have HNO : RowKit.Hid (A' = none → q = 0 ∧ q = 0) := Lib.hid (fun e => by
    rcases Nat.eq_zero_or_pos q with h0 | h0
    · exact ⟨h0, h0⟩
    · have := hA' h0
      rw [e] at this
      cases this)
  obtain ⟨R, hR⟩ : ∃ R, octets (rec1 bs k) = R := ⟨_, rfl⟩
  have HRL := Lib.hid (show R.length = q by rw [← hR, octets_len, hrl])
  have HOLD := Lib.hid (show ∀ b, A' = some b → ∀ j u, R[j]? = some u → (w4.alloc (.cells #[.int .u8 77] 5)).cell? (b.add j) = some u from fun b hb j u hj => by
    subst hR
    have hjl := (List.getElem?_eq_some_iff.1 hj).1
    obtain ⟨b2, o2, e2, _, hcc⟩ := (HRD.out.alloc (.cells #[.int .u8 77] 5)) (by omega)
    rw [hb] at e2
    injection e2 with e2
    subst e2
    rw [Mem.add_none, hcc j hjl, hj])
  have H77 := Lib.hid (show ∀ j u, ([.int .u8 77] : List Value)[j]? = some u → (w4.alloc (.cells #[.int .u8 77] 5)).cell? ((⟨w4.heap.size, 0, none⟩ : Addr).add j) = some u from fun j u hj => by
    match j, hj with
    | 0, hj =>
      simp at hj
      subst hj
      simp [Mem.add_none, World.cell?_alloc_new])
  have HGR := Lib.hid (fun w5 (hg : (w4.alloc (.cells #[.int .u8 77] 5)).grownBy w5 none) => show (convert 22 9 (.slice (some ⟨sb, 0, none⟩) N cc)).run Try.prog w5 = .ok (.string (strOf bs)) w5 ∧ w5.cell? ⟨vb, k, none⟩ = some (.slice A' q q) ∧ Below w4.heap.size w4 w5 from by
    have hb : Below w4.heap.size w4 w5 := ((Below.refl _ _).alloc (Nat.le_refl _) _).grown hg (by simp) (by intro k hk; cases hk)
    exact ⟨conv_str bs (some ⟨sb, 0, none⟩) N cc w5 HN.out (R4.out.below hb) HS.out (fun e => by cases e), (hb.cell (p := ⟨vb, k, none⟩) (by have := B24.out.size; show vb < w4.heap.size; omega)).trans d1, hb⟩)
  obtain ⟨i0, hi0, hz0, hz1, hz2⟩ := info_at infoB
  have I0 := Lib.hid hi0
  have I1 := Lib.hid hz0
  have I2 := Lib.hid hz1
  have I3 := Lib.hid hz2
  have SP := Lib.hid (And.intro hp0 hq)
  have HA := Lib.hid hA'
  have HU1 := Lib.hid hu1
  have SSZ := Lib.hid (show (strOf bs).size = N by rw [strOf_size]; exact HN.out)
  have SAT := Lib.hid (fun i (h : i < (strOf bs).size) => strOf_at HS.out h)
  obtain ⟨S, hS⟩ : ∃ S, strOf bs = S := ⟨_, rfl⟩
  rw [hS] at k1 HGR SSZ SAT
  have hwq : IntKind.i64.wrap ((q : Int) + 1) = (q : Int) + 1 := IntWalk.i64_in _ (by omega)
  have y0 : (0 : Int) ≤ (k : Int) := by omega
  have y1 : (k : Int) < (n : Int) := by omega
  have y2 : q < q + 1 := by omega
  clear hi0 hz0 hz1 hz2 hA' hel hbl hrl hu1 hgd hcut hp0 hq hvv hc2 hsp hS hR hw hwl hwn hlast
  have y3 : ¬ (n : Int) ≤ (k : Int) := by omega
  by_cases hal : at_ < 0
  · clear ha
    go_wp2_with (at_builtin; refine wpList_append_grows (w4.alloc (.cells #[.int .u8 77] 5)) rfl (.tmp 82) (.tmp 83) 22 rfl 5 i0 (.int .u8 0) 1 1 Try.underlying22 I0.out I1.out I2.out I3.out rfl (by decide) A' q q R rfl HNO.out (by rw [HRL.out]; omega) HOLD.out ⟨w4.heap.size, 0, none⟩ 1 1 [.int .u8 77] rfl rfl (by intro j u hj; exact H77.out j u hj) (by intro u hu; simp at hu; subst hu; rfl) (by omega) (by simp only [maxLen]; omega) (by omega) ?_; intro v5 w5 hown5 hg5; obtain ⟨A5, c5, rfl, _⟩ := Mem.own_shape hown5; obtain ⟨k2, d2, b45⟩ := HGR.out w5 hg5; have B45 := Lib.hid b45; clear hown5 hg5 b45)
    have BWX := Lib.hid (below_next BW4.out B45.out)
    clear k2 d2
    go_wp2_with fail
    refine (views_good _).mono ?_
    rintro e w9 ⟨rfl, hb⟩
    have HB := Lib.hid (below_next BWX.out hb)
    clear hb
    go_wp2_with fail
    go_ret
    exact ⟨rfl, HB.out⟩
  by_cases haq : (q : Int) ≤ at_
  · clear ha
    go_wp2_with (at_builtin; refine wpList_append_grows (w4.alloc (.cells #[.int .u8 77] 5)) rfl (.tmp 82) (.tmp 83) 22 rfl 5 i0 (.int .u8 0) 1 1 Try.underlying22 I0.out I1.out I2.out I3.out rfl (by decide) A' q q R rfl HNO.out (by rw [HRL.out]; omega) HOLD.out ⟨w4.heap.size, 0, none⟩ 1 1 [.int .u8 77] rfl rfl (by intro j u hj; exact H77.out j u hj) (by intro u hu; simp at hu; subst hu; rfl) (by omega) (by simp only [maxLen]; omega) (by omega) ?_; intro v5 w5 hown5 hg5; obtain ⟨A5, c5, rfl, _⟩ := Mem.own_shape hown5; obtain ⟨k2, d2, b45⟩ := HGR.out w5 hg5; have B45 := Lib.hid b45; clear hown5 hg5 b45)
    have BWX := Lib.hid (below_next BW4.out B45.out)
    clear k2 d2
    go_wp2_with fail
    refine (views_good _).mono ?_
    rintro e w9 ⟨rfl, hb⟩
    have HB := Lib.hid (below_next BWX.out hb)
    clear hb
    go_wp2_with fail
    go_ret
    exact ⟨rfl, HB.out⟩
  obtain ⟨t, rfl⟩ : ∃ t : Nat, at_ = (t : Int) := ⟨at_.toNat, by omega⟩
  have htq : t < q := by omega
  have hAe := HA.out (by omega)
  simp only [Option.map_some, Mem.add_none, Nat.zero_add] at hAe
  subst hAe
  have z0 : (0 : Int) ≤ (t : Int) := by omega
  have z1 : (t : Int) < (q : Int) := by omega
  clear ha hal haq
  have hxs := HS.out.at (p0 + t)
  obtain ⟨x, hx⟩ : ∃ x, byt bs (p0 + t) = x := ⟨_, rfl⟩
  rw [hx] at hxs
  have HX := Lib.hid hx
  clear hx
  go_wp2_with (at_builtin; refine wpList_append_grows (w4.alloc (.cells #[.int .u8 77] 5)) rfl (.tmp 82) (.tmp 83) 22 rfl 5 i0 (.int .u8 0) 1 1 Try.underlying22 I0.out I1.out I2.out I3.out rfl (by decide) (some ⟨sb, p0, none⟩) q q R rfl HNO.out (by rw [HRL.out]; omega) HOLD.out ⟨w4.heap.size, 0, none⟩ 1 1 [.int .u8 77] rfl rfl (by intro j u hj; exact H77.out j u hj) (by intro u hu; simp at hu; subst hu; rfl) (by omega) (by simp only [maxLen]; omega) (by omega) ?_; intro v5 w5 hown5 hg5; obtain ⟨A5, c5, rfl, _⟩ := Mem.own_shape hown5; obtain ⟨k2, d2, b45⟩ := HGR.out w5 hg5; have B45 := Lib.hid b45; clear hown5 hg5 b45)
  have O5 := Lib.hid (Mem.own_below O1.out (below_next B14.out B45.out))
  obtain ⟨cx, fx⟩ := own_byte O5.out (j := p0 + t) (by omega)
  rw [HX.out] at cx
  have U5 := Lib.hid ((B45.out.cell (p := ⟨ub, k * 2, none⟩) (by have := UB.out; have := B34.out.size; show ub < w4.heap.size; omega)).trans ((B34.out.cell (p := ⟨ub, k * 2, none⟩) UB.out).trans HU1.out))
  clear k2
  go_still_tail 14, (by kernel_rfl)
  go_wp2_with fail
  generalize hw6 : (w5.setCell ⟨sb, p0 + t, none⟩ (.int .u8 (((x : Int) + 1) % 256))).drew = w6
  have hy : (((x : Int) + 1) % 256) = (((x + 1) % 256 : Nat) : Int) := by omega
  obtain ⟨y, hy2⟩ : ∃ y, (x + 1) % 256 = y := ⟨_, rfl⟩
  rw [hy, hy2] at hw6
  have hxy : x ≠ y := by omega
  have C6 := Lib.hid (show ∀ i, i < N → w6.cell? ⟨sb, i, none⟩ = some (.int .u8 ((if i = p0 + t then y else byt bs i : Nat) : Int)) from fun i hi => by
    have h1 := own_set O5.out rfl (j := p0 + t) (by omega) (.int .u8 (y : Int))
    rw [octets_set] at h1
    have h2 := (own_byte h1 hi).1
    rw [byt_set (by rw [HN.out]; omega)] at h2
    rw [← hw6]
    exact h2)
  have U6 := Lib.hid (show w6.cell? ⟨ub, k * 2, none⟩ = some (.int .i64 (p0 : Int)) from by
    rw [← hw6]
    show (w5.setCell ⟨sb, p0 + t, none⟩ (.int .u8 (y : Int))).cell? _ = _
    rw [World.cell?_setCell_other]
    · exact U5.out
    · intro e
      injection e with e _
      exact USB.out e)
  have BW6 := Lib.hid (show Below W.heap.size W w6 from by
    rw [← hw6]
    exact ((below_next BW4.out B45.out).setCell (by simpa using SB.out.1) _).drew)
  have HXY := Lib.hid hxy
  obtain ⟨p, hp⟩ : ∃ p, p0 + t = p := ⟨_, rfl⟩
  have hpN : p < N := by omega
  rw [hp] at C6 HX
  have hwp : IntKind.i64.wrap ((p0 : Int) + (t : Int)) = (p : Int) := wrap_of (by omega) (by omega)
  clear hw6 hy hy2 hxy cx fx hp d2
  go_loopw [15] (ShR N w6) (fun i _ => N - (intOf i).toNat)
  case atStart => exact ⟨0, by omega, rfl, Mem.QQ.refl _⟩
  case round =>
    obtain ⟨i, hi, rfl, hq⟩ := hrel
    have HQ := Lib.hid hq
    by_cases hiN : i < N
    · have h1 := C6.out i hiN
      have h2 := SAT.out i (by rw [SSZ.out]; exact hiN)
      have b6 := hq.below (B := w6.heap.size)
      have u7 : ∀ a, (wr.drewN a).cell? ⟨ub, k * 2, none⟩ = some (.int .i64 (p0 : Int)) := fun a => by
        obtain ⟨m, rfl⟩ := hq
        exact U6.out
      have c7 : ∀ a, (wr.drewN a).cell? ⟨sb, i, none⟩ = some (.int .u8 ((if i = p then y else byt bs i : Nat) : Int)) := fun a => by
        obtain ⟨m, rfl⟩ := hq
        exact h1
      have hsz : i < S.size := by rw [SSZ.out]; exact hiN
      have hsz2 : (i : Int) < (S.size : Int) := by omega
      have i0 : (0 : Int) ≤ (i : Int) := by omega
      have i1 : (i : Int) < (N : Int) := by omega
      clear hq b6 h1
      by_cases hip : i = p
      · rw [if_pos hip] at c7
        subst hip
        rw [HX.out] at h2
        have e1 : ((y : Int) != (x : Int)) = true := by have := HXY.out; simp; omega
        have e2 : ¬ ((y : Int) = (x : Int)) := by have := HXY.out; omega
        go_wp2_with fail
        go_quiet (fail)
        go_wp2_with fail
        go_roundw
        case rel => exact ⟨i + 1, by omega, by go_num, HQ.out.trans ⟨nq, rfl⟩⟩
        case measure => simp [intOf]; omega
      · rw [if_neg hip] at c7
        obtain ⟨z, hz⟩ : ∃ z, byt bs i = z := ⟨_, rfl⟩
        rw [hz] at c7 h2
        have e2 : ¬ ((i : Int) = (p : Int)) := by omega
        clear hip hz
        go_wp2_with fail
        go_quiet (fail)
        go_wp2_with fail
        go_roundw
        case rel => exact ⟨i + 1, by omega, by go_num, HQ.out.trans ⟨nq, rfl⟩⟩
        case measure => simp [intOf]; omega
    · have i1 : ¬ ((i : Int) < (N : Int)) := by omega
      have BWX := Lib.hid (below_next BW6.out (hq.below (B := w6.heap.size)))
      clear hq hiN
      go_wp2_with fail
      refine (views_good _).mono ?_
      rintro e w9 ⟨rfl, hb⟩
      have HB := Lib.hid (below_next BWX.out hb)
      clear hb
      go_wp2_with fail
      go_ret
      exact ⟨rfl, HB.out⟩
end Sp
end Go.Proofs.Ytajkcghbdbjmaaa
