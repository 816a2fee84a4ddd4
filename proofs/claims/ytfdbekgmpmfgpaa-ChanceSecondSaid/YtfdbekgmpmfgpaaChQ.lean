/- Layer 18 (chance): the contract of the document's Order. -/
import Derived.Test.YtfdbekgmpmfgpaaChP
namespace Go.Proofs.Ytfdbekgmpmfgpaa
open Go.RowKit
namespace Ch

/-- The state of the document's Order. -/
structure RoS (ub gb B n : Nat) (us ov : List Bool) (h : Nat) (W : World) (hd : Nat) (u g : List Bool) (outl : List Nat) (v : Value) (w : World) : Prop where
  lt : hd < n
  own : w.ownsRow B 3 1 v outl.length (ints outl)
  fu : Flags ub u w
  fg : Flags gb g w
  gl : g.length = n
  inv : Inv us ov (total us ov h) outl (live g (ring n hd)) u
  base : B ≤ w.heap.size
  below : Below W.heap.size W w
/-- The relation of its loop. -/
def RoR (ub gb B n : Nat) (us ov : List Bool) (h : Nat) (W : World) (G : Nat) (hand v : Value) (w : World) : Prop :=
  ∃ hd u g outl, hand = .int .i64 ((hd : Nat) : Int) ∧ G = left u ov (live g (ring n hd)) ∧ RoS ub gb B n us ov h W hd u g outl v w
/-- The relation of the loop within. -/
def RiR (n : Nat) (g : List Bool) (who : List Nat) (W : World) (G : Nat) (hand : Value) (w : World) : Prop :=
  ∃ hd : Nat, hand = .int .i64 (hd : Int) ∧ hd < n ∧ live g (ring n hd) = who ∧ G = dist g n hd ∧ W = w
section
variable {ub gb B n h hd : Nat} {us ov u g : List Bool} {W w : World} {outl : List Nat} {v : Value}
theorem RoS.stays (s : RoS ub gb B n us ov h W hd u g outl v w) (hn : us.length = n) (hub : ub < B) (hne : ub ≠ gb) (hW : W.heap.size ≤ ub) (hg : g.getD hd false = false) (hs : stay u ov hd = true) :
    RoS ub gb B n us ov h W ((hd + 1) % n) (u.set hd false) g outl v (w.setCell ⟨ub, hd, none⟩ (.bool false)) ∧
      left (u.set hd false) ov (live g (ring n ((hd + 1) % n))) < left u ov (live g (ring n hd)) := by
  have hlt := s.lt
  have hul := s.inv.us_len
  have hi := s.inv
  rw [live_head hlt hg] at hi
  have hnot : hd ∉ live g (tail n hd) := fun hm => tail_not hlt (List.mem_filter.1 hm).1
  refine ⟨⟨Nat.mod_lt _ (by omega), ownsRow_setCell_below s.own (by simpa using hub) _, s.fu.set (by omega) false, s.fg.other hne _ _, s.gl, ?_, by simpa using s.base, s.below.setCell (by simpa using hW) _⟩, ?_⟩
  · rw [live_next hlt hg]
    exact hi.stays hs
  · rw [live_next hlt hg, live_head hlt hg]
    exact left_stays hnot hs
theorem RoS.goes (s : RoS ub gb B n us ov h W hd u g outl v w) (hub : ub < B) (hgb : gb < B) (hne : ub ≠ gb) (hW : W.heap.size ≤ gb) (hg : g.getD hd false = false) (hs : stay u ov hd = false) :
    left u ov (live g (tail n hd)) < left u ov (live g (ring n hd)) ∧ (w.setCell ⟨gb, hd, none⟩ (.bool true)).ownsRow B 3 1 v outl.length (ints outl) ∧
    ∀ v2 w2, w2.ownsRow B 3 1 v2 (outl.length + 1) (ints outl ++ [.int .i64 (hd : Int)]) → ((w.setCell ⟨gb, hd, none⟩ (.bool true)).alloc (.cells #[.int .i64 (hd : Int)] 3)).grownBy w2 v.ownBlock →
      RoS ub gb B n us ov h W hd u (g.set hd true) (outl ++ [hd]) v2 w2 ∧ RoS ub gb B n us ov h W ((hd + 1) % n) u (g.set hd true) (outl ++ [hd]) v2 w2 ∧
      live (g.set hd true) (ring n hd) = live g (tail n hd) ∧ live (g.set hd true) (ring n ((hd + 1) % n)) = live g (tail n hd) := by
  have hlt := s.lt
  have hi := s.inv
  rw [live_head hlt hg] at hi
  have hi2 := hi.goes hs
  have how : (w.setCell ⟨gb, hd, none⟩ (.bool true)).ownsRow B 3 1 v outl.length (ints outl) := ownsRow_setCell_below s.own (by simpa using hgb) _
  have hob : ∀ q, q < B → v.ownBlock ≠ some q := fun q hq e => by
    have := (own_lt s.own _ e).1
    omega
  refine ⟨by rw [live_head hlt hg]; exact left_goes hs, how, fun v2 w2 ho2 hg2 => ?_⟩
  have b1 : Below W.heap.size W (w.setCell ⟨gb, hd, none⟩ (.bool true)) := s.below.setCell (by simpa using hW) _
  have b2 : Below W.heap.size W ((w.setCell ⟨gb, hd, none⟩ (.bool true)).alloc (.cells #[.int .i64 (hd : Int)] 3)) := b1.alloc b1.size _
  have hal : Below (w.setCell ⟨gb, hd, none⟩ (.bool true)).heap.size (w.setCell ⟨gb, hd, none⟩ (.bool true)) ((w.setCell ⟨gb, hd, none⟩ (.bool true)).alloc (.cells #[.int .i64 (hd : Int)] 3)) := (Below.refl _ _).alloc (Nat.le_refl _) _
  have f1 : Flags ub u w2 := ((s.fu.other (p := gb) (fun e => hne e.symm) hd (.bool true)).below hal).grown hg2 (hob ub hub)
  have f2 : Flags gb (g.set hd true) w2 := ((s.fg.set (by rw [s.gl]; exact hlt) true).below hal).grown hg2 (hob gb hgb)
  have hb2 : B ≤ w2.heap.size := by
    have h1 := hg2.size
    have h2 := hal.size
    have h3 := s.base
    simp only [World.size_setCell] at h2 h1
    omega
  have hbl : Below W.heap.size W w2 := by
    refine b2.grown hg2 b2.size fun k hk => ?_
    have := (own_lt s.own _ hk).1
    omega
  have ho3 : w2.ownsRow B 3 1 v2 (outl ++ [hd]).length (ints (outl ++ [hd])) := by
    rw [List.length_append, ints_app]
    exact ho2
  have e1 := live_set hlt s.gl
  have e2 := live_set_next hlt s.gl
  refine ⟨⟨hlt, ho3, f1, f2, by rw [List.length_set]; exact s.gl, by rw [e1]; exact hi2, hb2, hbl⟩, ⟨Nat.mod_lt _ (by omega), ho3, f1, f2, by rw [List.length_set]; exact s.gl, by rw [e2]; exact hi2, hb2, hbl⟩, e1, e2⟩
end
set_option maxHeartbeats 6400000 in
theorem reforder_any (us ov : List Bool) (A : Option Addr) (c : Nat) (Ao : Option Addr) (co : Nat) (h : Nat) (W : World) (hr : Mem.Rd W A (bools us)) (ho : Mem.Rd W Ao (bools ov)) (hl : us.length = ov.length) (hm : us.length ≤ 1000) (hh : h < us.length) :
    Calls Try.prog 10 #[.slice A us.length c, .slice Ao ov.length co, .int .i64 (h : Int)] W (OrderRes us ov h W) := by
  have HR := may_any us.length ov.length A c Ao co (h : Int) W
  rw [← hl, rightv_of hh] at HR
  obtain ⟨i0, hi0, hz0, hz1, hz2⟩ := info_at infoB
  have I0 := Lib.hid hi0
  have I1 := Lib.hid hz0
  have I2 := Lib.hid hz1
  have I3 := Lib.hid hz2
  obtain ⟨j0, hj0, hy0, hy1, hy2⟩ := info_at infoI
  have J0 := Lib.hid hj0
  have J1 := Lib.hid hy0
  have J2 := Lib.hid hy1
  have J3 := Lib.hid hy2
  obtain ⟨b0, o0, rfl, hb0, _⟩ := ho (by rw [bools_len]; omega)
  have HO := Lib.hid ho
  have HL := Lib.hid hl
  have HA := Lib.hid (hr.alloc (.cells #[] 4))
  obtain ⟨n, hn⟩ : ∃ n, us.length = n := ⟨_, rfl⟩
  have HN := Lib.hid hn
  rw [← hl] at ⊢
  rw [hn] at hh hm HR ⊢
  have hmk := run_make_row' (P := Try.prog) 22 4 (.bool false) 1 Try.underlying22 infoB rfl .i64 .i64 n (by omega) (by omega)
  clear hr ho hl hn hi0 hz0 hz1 hz2 hj0 hy0 hy1 hy2
  go_enter Try.func10, Try.ntmps10
  go_wp2_with (first | (go_at_call 24; refine HR.mono ?_; rintro e w1 ⟨rfl, rfl⟩) | (at_builtin; refine Mem.wpList_append_rd _ rfl (.tmp 19) (.tmp 20) 22 rfl W.heap.size 4 i0 (.bool false) 1 Try.underlying22 I0.out I1.out I2.out I3.out rfl (.slice (some ⟨W.heap.size, 0, none⟩) 0 0) 0 [] rfl (own_zero W 4 1) A n c (bools us) rfl (by rw [bools_len]; exact HN.out) HA.out (one_bools us) (by simp only [maxLen]; omega) (by omega) (by simp) ?_; intro v1 w1 hown1 hg1 _; obtain ⟨ub, uc, rfl, hub, hlt⟩ := hown1.form (by omega); have hB1 : Below W.heap.size W w1 := ((Below.refl _ _).alloc (Nat.le_refl _) _).grown hg1 (by simp) (by simp [Value.ownBlock]); simp only [Nat.zero_add, List.nil_append] at hown1; have HF := Lib.hid (Flags.of_own HN.out hown1 hlt); have HB1 := Lib.hid hB1; have HUB := Lib.hid hub; have HLT := Lib.hid hlt; clear hown1 hg1 hB1 hub hlt))
  obtain ⟨gb, hgb⟩ : ∃ gb, w1.heap.size = gb := ⟨_, rfl⟩
  have HGB := Lib.hid hgb
  have ST : RoS ub gb (gb + 1) n us ov h W h us (List.replicate n false) [] (.slice none 0 0) (w1.alloc (.cells (madeCells #[.bool false] n) 4)) :=
    ⟨hh, World.ownsRow_nil _ _ _ _, HF.out.below ((Below.refl _ _).alloc (Nat.le_refl _) _), by rw [← hgb]; exact flags_made w1 n _, by simp, by rw [live_none, ← HN.out]; exact Inv.start us ov h, by rw [← hgb]; simp, HB1.out.alloc HB1.out.size _⟩
  have HST := Lib.hid ST
  have hubg : ub < gb := by rw [← hgb]; exact HLT.out
  have hWg : W.heap.size ≤ gb := by rw [← hgb]; exact HB1.out.size
  have HUG := Lib.hid hubg
  have HWG := Lib.hid hWg
  rw [hgb]
  clear hgb ST hubg hWg
  go_loopg [2, 11] (left us ov (live (List.replicate n false) (ring n h))) (fun G a b w => RoR ub gb (gb + 1) n us ov h W G a b w)
  case atStart => exact ⟨h, us, List.replicate n false, [], rfl, rfl, HST.out⟩
  case round =>
    obtain ⟨hd, u, g, outl, rfl, rfl, s⟩ := hrel
    obtain ⟨A1, o1, rfl, ho1⟩ := Mem.own_shape s.own
    have hlen := s.inv.len
    rw [total_len, HN.out] at hlen
    obtain ⟨j, hj⟩ : ∃ j, outl.length = j := ⟨_, rfl⟩
    have HJ := Lib.hid hj
    rw [hj] at ho1 hlen ⊢
    have HS := Lib.hid s
    generalize hw0 : wr = w0 at *
    clear hw0 s hj
    by_cases hjn : j < n
    · have q1 : (j : Int) < (n : Int) := by omega
      go_wp2_with fail
      go_loopg [2] (dist g n hd) (fun G a w => RiR n g (live g (ring n hd)) w0 G a w)
      case atStart => exact ⟨hd, rfl, HS.out.lt, rfl, rfl, rfl⟩
      case round =>
        obtain ⟨hd2, rfl, hd2n, hlive, rfl, rfl⟩ := hrel
        have HLV := Lib.hid hlive
        have c1 := HS.out.fg.2.1 hd2 (by rw [HS.out.gl]; exact hd2n)
        have hx0 : (0 : Int) ≤ (hd2 : Int) := by omega
        have hx1 : (hd2 : Int) < (n : Int) := by omega
        obtain ⟨y, hy⟩ : ∃ y, (hd2 + 1) % n = y := ⟨_, rfl⟩
        have HY := Lib.hid hy
        have hmod2 : ((hd2 : Int) + 1).tmod (n : Int) = (y : Int) := by
          rw [Int.tmod_eq_emod_of_nonneg (by omega), ← hy]
          norm_cast
        have hmod : ((hd2 : Int) + 1) % (n : Int) = (y : Int) := by rw [← Int.tmod_eq_emod_of_nonneg (by omega)]; exact hmod2
        have hwr : IntKind.i64.wrap ((hd2 : Int) + 1) = (hd2 : Int) + 1 := IntWalk.i64_in _ (by omega)
        have hnn : ¬ (n = 0) := by omega
        have hnn2 : ¬ ((n : Int) = 0) := by omega
        have HNE : RowKit.Hid (live g (ring n hd2) ≠ []) := Lib.hid (by
          intro e
          rw [hlive] at e
          rw [e] at hlen
          simp at hlen
          omega)
        clear hlive hy
        cases hg : g.getD hd2 false with
        | true =>
          rw [hg] at c1
          have HG := Lib.hid hg
          clear hg
          go_wp2_with fail
          go_roundg (dist g n y)
          case measure => rw [← HY.out]; exact dist_next hd2n HG.out HNE.out
          case rel => exact ⟨y, rfl, by rw [← HY.out]; exact Nat.mod_lt _ (by omega), by rw [← HY.out, live_gone hd2n HG.out]; exact HLV.out, rfl, rfl⟩
        | false =>
          rw [hg] at c1
          have HG := Lib.hid hg
          clear hg
          have s2 : RoS ub gb (gb + 1) n us ov h W hd2 u g outl (.slice A1 outl.length o1) w0 := ⟨hd2n, HS.out.own, HS.out.fu, HS.out.fg, HS.out.gl, by rw [HLV.out]; exact HS.out.inv, HS.out.base, HS.out.below⟩
          have hul : u.length = n := by rw [← HN.out]; exact s2.inv.us_len
          have d1 := s2.fu.2.1 hd2 (by rw [hul]; exact hd2n)
          have f1 := s2.fu.2.2 hd2
          have f2 := s2.fg.2.2 hd2
          obtain ⟨b2, o2, e2, _, hc2⟩ := (HO.out.below s2.below) (by rw [bools_len, ← HL.out, HN.out]; omega)
          injection e2 with e2
          injection e2 with e2 e3 _
          subst e2 e3
          have d2 := hc2 hd2 (by rw [bools_len, ← HL.out, HN.out]; exact hd2n)
          rw [bools_at (by rw [← HL.out, HN.out]; exact hd2n)] at d2
          have hst : stay u ov hd2 = (u.getD hd2 false && !ov.getD hd2 false) := rfl
          obtain ⟨y1, hy1⟩ : ∃ y1, u.getD hd2 false = y1 := ⟨_, rfl⟩
          obtain ⟨y2, hy2⟩ : ∃ y2, ov.getD hd2 false = y2 := ⟨_, rfl⟩
          rw [hy1] at d1 hst
          rw [hy2] at d2 hst
          have S2 := Lib.hid s2
          have HST2 := Lib.hid hst
          have hug : ub ≠ gb := by have := HUG.out; omega
          have HUGN := Lib.hid hug
          have hst2 : outl.length = j := HJ.out
          clear hc2 hul hst hy1 hy2 s2 hug hst2
          have STAYS : stay u ov hd2 = true → RoR ub gb (gb + 1) n us ov h W (left (u.set hd2 false) ov (live g (ring n y))) (.int .i64 (y : Int)) (.slice A1 j o1) (w0.setCell ⟨ub, hd2, none⟩ (.bool false)) ∧ left (u.set hd2 false) ov (live g (ring n y)) < left u ov (live g (ring n hd)) := by
            intro hs
            obtain ⟨q1, q2⟩ := S2.out.stays HN.out (by have := HUG.out; omega) HUGN.out HUB.out HG.out hs
            rw [HY.out, HLV.out] at q2
            rw [HY.out, HJ.out] at q1
            exact ⟨⟨y, _, g, outl, rfl, rfl, q1⟩, q2⟩
          have GOES : stay u ov hd2 = false → left u ov (live g (tail n hd2)) < left u ov (live g (ring n hd)) ∧ (w0.setCell ⟨gb, hd2, none⟩ (.bool true)).ownsRow (gb + 1) 3 1 (.slice A1 j o1) j (ints outl) ∧
              ∀ v2 w2, w2.ownsRow (gb + 1) 3 1 v2 (j + 1) (ints outl ++ [.int .i64 (hd2 : Int)]) → ((w0.setCell ⟨gb, hd2, none⟩ (.bool true)).alloc (.cells #[.int .i64 (hd2 : Int)] 3)).grownBy w2 (Value.slice A1 j o1).ownBlock →
                RoR ub gb (gb + 1) n us ov h W (left u ov (live g (tail n hd2))) (.int .i64 (hd2 : Int)) v2 w2 ∧ RoR ub gb (gb + 1) n us ov h W (left u ov (live g (tail n hd2))) (.int .i64 (y : Int)) v2 w2 := by
            intro hs
            obtain ⟨q1, q2, q3⟩ := S2.out.goes (by have := HUG.out; omega) (by omega) HUGN.out HWG.out HG.out hs
            rw [HLV.out] at q1
            rw [HJ.out] at q2 q3
            refine ⟨q1, q2, fun v2 w2 h1 h2 => ?_⟩
            obtain ⟨r1, r2, r3, r4⟩ := q3 v2 w2 h1 h2
            rw [HY.out] at r2 r4
            exact ⟨⟨hd2, u, _, _, rfl, by rw [r3], r1⟩, ⟨y, u, _, _, rfl, by rw [r4], r2⟩⟩
          have HSTAYS := Lib.hid STAYS
          have HGOES := Lib.hid GOES
          clear STAYS GOES
          have hbase : gb + 1 ≤ w0.heap.size := S2.out.base
          cases y1 with
          | false =>
            obtain ⟨g1, g2, g3⟩ := HGOES.out (by rw [HST2.out]; rfl)
            have G1 := Lib.hid g1
            have G2 := Lib.hid g2
            have G3 := Lib.hid g3
            clear g1 g2 g3
            by_cases hj2 : j + 1 < n
            · have q2 : (j : Int) + 1 < (n : Int) := by omega
              go_wp2_with (at_builtin; refine Mem.wpList_append_rd _ rfl (.tmp 56) (.tmp 58) 24 rfl (gb + 1) 3 j0 (.int .i64 0) 8 Try.underlying24 J0.out J1.out J2.out J3.out rfl (.slice A1 j o1) j (ints outl) rfl (by exact G2.out.alloc _) (some ⟨(w0.setCell ⟨gb, hd2, none⟩ (.bool true)).heap.size, 0, none⟩) 1 1 [.int .i64 (hd2 : Int)] (by simp [Act.eval]) rfl (by exact rd_new _ hd2 _) (by intro u hu; simp at hu; subst hu; rfl) (by simp only [maxLen]; omega) (by omega) (by simp; omega) ?_; intro v4 w4 hown4 hg4 _; obtain ⟨A4, c4, rfl, _⟩ := Mem.own_shape hown4; have G4 := Lib.hid (G3.out _ w4 hown4 hg4); clear hown4 hg4)
              go_roundg (left u ov (live g (tail n hd2)))
              case measure => exact G1.out
              case rel => exact G4.out.2
            · have q2 : ¬ ((j : Int) + 1 < (n : Int)) := by omega
              go_wp2_with (at_builtin; refine Mem.wpList_append_rd _ rfl (.tmp 56) (.tmp 58) 24 rfl (gb + 1) 3 j0 (.int .i64 0) 8 Try.underlying24 J0.out J1.out J2.out J3.out rfl (.slice A1 j o1) j (ints outl) rfl (by exact G2.out.alloc _) (some ⟨(w0.setCell ⟨gb, hd2, none⟩ (.bool true)).heap.size, 0, none⟩) 1 1 [.int .i64 (hd2 : Int)] (by simp [Act.eval]) rfl (by exact rd_new _ hd2 _) (by intro u hu; simp at hu; subst hu; rfl) (by simp only [maxLen]; omega) (by omega) (by simp; omega) ?_; intro v4 w4 hown4 hg4 _; obtain ⟨A4, c4, rfl, _⟩ := Mem.own_shape hown4; have G4 := Lib.hid (G3.out _ w4 hown4 hg4); clear hown4 hg4)
              go_roundg (left u ov (live g (tail n hd2)))
              case measure => exact G1.out
              case rel => exact G4.out.1
          | true =>
            cases y2 with
            | true =>
              obtain ⟨g1, g2, g3⟩ := HGOES.out (by rw [HST2.out]; rfl)
              have G1 := Lib.hid g1
              have G2 := Lib.hid g2
              have G3 := Lib.hid g3
              clear g1 g2 g3
              by_cases hj2 : j + 1 < n
              · have q2 : (j : Int) + 1 < (n : Int) := by omega
                go_wp2_with (at_builtin; refine Mem.wpList_append_rd _ rfl (.tmp 56) (.tmp 58) 24 rfl (gb + 1) 3 j0 (.int .i64 0) 8 Try.underlying24 J0.out J1.out J2.out J3.out rfl (.slice A1 j o1) j (ints outl) rfl (by exact G2.out.alloc _) (some ⟨(w0.setCell ⟨gb, hd2, none⟩ (.bool true)).heap.size, 0, none⟩) 1 1 [.int .i64 (hd2 : Int)] (by simp [Act.eval]) rfl (by exact rd_new _ hd2 _) (by intro u hu; simp at hu; subst hu; rfl) (by simp only [maxLen]; omega) (by omega) (by simp; omega) ?_; intro v4 w4 hown4 hg4 _; obtain ⟨A4, c4, rfl, _⟩ := Mem.own_shape hown4; have G4 := Lib.hid (G3.out _ w4 hown4 hg4); clear hown4 hg4)
                go_roundg (left u ov (live g (tail n hd2)))
                case measure => exact G1.out
                case rel => exact G4.out.2
              · have q2 : ¬ ((j : Int) + 1 < (n : Int)) := by omega
                go_wp2_with (at_builtin; refine Mem.wpList_append_rd _ rfl (.tmp 56) (.tmp 58) 24 rfl (gb + 1) 3 j0 (.int .i64 0) 8 Try.underlying24 J0.out J1.out J2.out J3.out rfl (.slice A1 j o1) j (ints outl) rfl (by exact G2.out.alloc _) (some ⟨(w0.setCell ⟨gb, hd2, none⟩ (.bool true)).heap.size, 0, none⟩) 1 1 [.int .i64 (hd2 : Int)] (by simp [Act.eval]) rfl (by exact rd_new _ hd2 _) (by intro u hu; simp at hu; subst hu; rfl) (by simp only [maxLen]; omega) (by omega) (by simp; omega) ?_; intro v4 w4 hown4 hg4 _; obtain ⟨A4, c4, rfl, _⟩ := Mem.own_shape hown4; have G4 := Lib.hid (G3.out _ w4 hown4 hg4); clear hown4 hg4)
                go_roundg (left u ov (live g (tail n hd2)))
                case measure => exact G1.out
                case rel => exact G4.out.1
            | false =>
              obtain ⟨g1, g2⟩ := HSTAYS.out (by rw [HST2.out]; rfl)
              have G1 := Lib.hid g1
              have G2 := Lib.hid g2
              clear g1 g2
              go_wp2_with fail
              go_roundg (left (u.set hd2 false) ov (live g (ring n y)))
              case measure => exact G2.out
              case rel => exact G1.out
    · obtain rfl : n = j := by omega
      go_wp2_with fail
      go_ret2
      have hnil : live g (ring n hd) = [] := List.eq_nil_of_length_eq_zero (by omega)
      have hi := HS.out.inv
      rw [hnil] at hi
      refine ⟨A1, o1, by rw [HN.out]; rfl, ?_, by rw [HN.out]; exact ho1, HS.out.below⟩
      rw [← hi.done]
      exact Mem.Rd.of_own HS.out.own
end Ch
end Go.Proofs.Ytfdbekgmpmfgpaa
