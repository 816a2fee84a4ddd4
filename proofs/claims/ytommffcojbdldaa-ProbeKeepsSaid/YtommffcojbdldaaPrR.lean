/- Layer 19: the walk of Delete. -/
import Derived.Test.YtommffcojbdldaaPrQ
namespace Go.Proofs.Ytommffcojbdldaa
open Go.RowKit
namespace Pr

theorem delE_a {t : Tab} {n id : Nat} {h : Int} (e : begE t n id h ≠ 0) : delE t n id h = begE t n id h := by unfold delE; rw [if_pos e]
theorem delE_b {t : Tab} {n id : Nat} {h : Int} (e : begE t n id h = 0) (e2 : fnd t n id h.toNat = none) : delE t n id h = 7 := by unfold delE; rw [if_neg (by omega), e2]; rfl
theorem delE_c {t : Tab} {n id : Nat} {h : Int} {a : Nat} (e : begE t n id h = 0) (e2 : fnd t n id h.toNat = some a) : delE t n id h = 0 := by unfold delE; rw [if_neg (by omega), e2]; rfl
/-- What Delete answers. -/
def DeRes (t : Tab) (n id : Nat) (h : Int) (W : World) (e : Ending) (w : World) : Prop :=
  ((∃ a A c, delE t n id h = 0 ∧ fnd t n id h.toNat = some a ∧ e = .returned (.tuple #[.slice A n c, .int .i64 0]) ∧ OwnT w W.heap.size A n c (delT t n a)) ∨ (delE t n id h ≠ 0 ∧ e = .returned (.tuple #[.slice none 0 0, .int .i64 (delE t n id h : Nat)]))) ∧ Below W.heap.size W w
/-- The relation of its loop. -/
def DeR (F : Tab) (n a m B c : Nat) (A : Option Addr) (w0 : World) (i : Value) (w : World) : Prop :=
  ∃ (k : Nat) (t : Tab), k ≤ m ∧ i = .int .i64 (k : Int) ∧ OwnT w B A n c t ∧ delL n a (m - k) k t = F ∧ w0.grownBy w (Value.slice A n c).ownBlock
set_option maxRecDepth 100000 in
set_option maxHeartbeats 6400000 in
theorem delete_any (t : Tab) (A : Option Addr) (n c id : Nat) (h : Int) (W : World) (hr : RdT W A n t) (hn : n ≤ 100000) :
    Calls Try.prog 14 #[.slice A n c, .int .u32 (id : Int), .int .i64 h] W (DeRes t n id h W) := by
  obtain ⟨p, hp⟩ : ∃ p, W.heap.size = p := ⟨_, rfl⟩
  obtain ⟨Wp, hWp⟩ : ∃ Wp, W.alloc (.cells #[.slice A n c] 25) = Wp := ⟨_, rfl⟩
  have kp : Wp.cell? ⟨p, 0, none⟩ = some (.slice A n c) := by rw [← hWp, ← hp]; simp [go_sem]
  have bp : Below W.heap.size W Wp := by rw [← hWp]; exact (Below.refl _ _).alloc (Nat.le_refl _) _
  have hpl : p < Wp.heap.size := by rw [← hWp, ← hp]; simp
  have BG := Lib.hid (begin_any t A n c id h Wp (hr.below bp) hn)
  have HWP := Lib.hid hWp
  have KP := Lib.hid (And.intro kp hpl)
  have BP := Lib.hid bp
  have c0 := kp
  by_cases hb : begE t n id h = 0
  case neg =>
    have HE := Lib.hid (delE_a hb)
    have HB := Lib.hid hb
    obtain ⟨v, hv⟩ : ∃ v, begE t n id h = v := ⟨_, rfl⟩
    have HV := Lib.hid hv
    have hvi : ((v : Int) != 0) = true := by simp; omega
    clear hr hb hv hWp kp bp hpl
    go_enter Try.func14, Try.ntmps14
    go_wp2_with fail
    rw [HWP.out]
    refine BG.out.mono ?_
    rintro e w1 ⟨⟨h0, _⟩ | ⟨_, rfl⟩, b1⟩
    case inl => exact absurd h0 HB.out
    rw [HV.out]
    have B1 := Lib.hid (below_next BP.out b1)
    clear b1
    go_wp2_with fail
    go_ret2
    exact ⟨.inr ⟨by rw [HE.out]; exact HB.out, by rw [HE.out, HV.out]; rfl⟩, B1.out.alloc B1.out.size _⟩
  obtain ⟨hid0, p1, p2, hrt, hin⟩ := beg_ok hb
  have HB := Lib.hid hb
  obtain ⟨H, hH⟩ : ∃ H : Nat, h = (H : Int) := ⟨h.toNat, by omega⟩
  subst hH
  have hHn : H < n := by omega
  have hn0 : 0 < n := by omega
  have hth : ((H : Int)).toNat = H := by omega
  cases hf : fnd t n id H with
  | none =>
    have HE := Lib.hid (delE_b hb (by rw [hth]; exact hf))
    have HF := Lib.hid hf
    clear hr hb hid0 p1 p2 hrt hin hWp kp bp hpl hf hth
    go_enter Try.func14, Try.ntmps14
    go_wp2_with fail
    rw [HWP.out]
    refine BG.out.mono ?_
    rintro e w1 ⟨⟨_, A1, c1, rfl, ho⟩ | ⟨hne, _⟩, b1⟩
    case inr => exact absurd HB.out hne
    have TF := Lib.hid (fun w (hb : Below w1.heap.size w1 w) => tfind_any t A1 n c1 id H w (ho.rd.below hb) hn hHn)
    have B1 := Lib.hid (below_next BP.out b1)
    have B1x := Lib.hid ((Below.refl w1.heap.size w1).alloc (Nat.le_refl _) (.cells #[.slice A1 n c1] 56))
    clear b1 ho
    go_wp2_with fail
    refine (TF.out _ B1x.out).mono ?_
    rintro e w2 ⟨rfl, b2⟩
    rw [HF.out]
    simp only [fndI, Option.isSome_none]
    have B2 := Lib.hid (below_next B1.out (below_next B1x.out b2))
    clear b2
    go_wp2_with fail
    go_ret2
    exact ⟨.inr ⟨by rw [HE.out]; decide, by rw [HE.out]; rfl⟩, B2.out⟩
  | some a =>
    have hmf : ∀ (fn : Fn) (first cap : Array Value) (w : World), (Instr.makeFunc fn first cap).run Try.prog w = .ok (.func fn first cap) w := fun _ _ _ _ => rfl
    have HE := Lib.hid (delE_c (a := a) hb (by rw [hth]; exact hf))
    have HF := Lib.hid hf
    have han := fnd_lt hf
    obtain ⟨m, hm⟩ := dp_some (t := t) (a := a) hn0
    obtain ⟨hmn, _, _⟩ := fst_of hm
    have hT : delT t n a = (delL n a m 0 t).set ((a + m) % n) (0, 0) := by unfold delT delM; rw [hm]; rfl
    have HT := Lib.hid hT
    have HM := Lib.hid hm
    have hwa : IntKind.i64.wrap ((a : Int) + 1) = (a : Int) + 1 := IntWalk.i64_in _ (by omega)
    obtain ⟨a1, ha1⟩ : ∃ a1, a + 1 = a1 := ⟨_, rfl⟩
    have hwa1 : IntKind.i64.wrap ((a : Int) + 1) = (a1 : Int) := by rw [hwa]; omega
    have HA1 := Lib.hid ha1
    have ha1b : a1 ≤ 1000000 := by omega
    clear hr hb hid0 p1 p2 hrt hin hWp kp bp hpl hf hth hm hT hwa ha1
    go_enter Try.func14, Try.ntmps14
    go_wp2_with fail
    rw [HWP.out]
    refine BG.out.mono ?_
    rintro e w1 ⟨⟨_, A1, c1, rfl, ho⟩ | ⟨hne, _⟩, b1⟩
    case inr => exact absurd HB.out hne
    obtain ⟨gb, cc, hA1, hgb, hgl⟩ := ho.1.form hn0
    injection hA1 with hA1 _ hcc
    obtain rfl : c1 = cc := hcc
    subst hA1
    obtain ⟨q, hq⟩ : ∃ q, w1.heap.size = q := ⟨_, rfl⟩
    obtain ⟨w1a, hw1a⟩ : ∃ w1a, w1.alloc (.cells #[.slice (some ⟨gb, 0, none⟩) n c1] 56) = w1a := ⟨_, rfl⟩
    have kq : w1a.cell? ⟨q, 0, none⟩ = some (.slice (some ⟨gb, 0, none⟩) n c1) := by rw [← hw1a, ← hq]; simp [go_sem]
    have hql : q < w1a.heap.size := by rw [← hw1a, ← hq]; simp
    have hpa : Below w1.heap.size w1 w1a := by rw [← hw1a]; exact (Below.refl _ _).alloc (Nat.le_refl _) _
    have hoa : OwnT w1a Wp.heap.size (some ⟨gb, 0, none⟩) n c1 t := ⟨Mem.own_below ho.1 hpa, ho.2.1, ho.2.2⟩
    have HO := Lib.hid hoa
    have KQ := Lib.hid (And.intro kq hql)
    have B1 := Lib.hid (below_next b1 hpa)
    have KP1 := Lib.hid ((B1.out.cell (p := ⟨p, 0, none⟩) KP.out.2).trans KP.out.1)
    have GQ := Lib.hid (show gb ≠ q ∧ gb ≠ p ∧ Wp.heap.size ≤ gb from ⟨by omega, by have := KP.out.2; omega, hgb⟩)
    have HW1 := Lib.hid hw1a
    clear b1 ho hoa hgb hgl hw1a kq hql hpa
    go_wp2_with fail
    rw [HW1.out]
    refine (tfind_any t (some ⟨gb, 0, none⟩) n c1 id H w1a HO.out.rd hn hHn).mono ?_
    rintro e w2 ⟨rfl, b2⟩
    rw [HF.out]
    simp only [fndI, Option.isSome_some]
    have B2 := Lib.hid b2
    have c3 := (B2.out.cell (p := ⟨q, 0, none⟩) KQ.out.2).trans KQ.out.1
    have c4 : w2.cell? ⟨p, 0, none⟩ = some (.slice A n c) := (B2.out.cell (p := ⟨p, 0, none⟩) (Nat.lt_of_lt_of_le KP.out.2 B1.out.size)).trans KP1.out
    have hrd2 : RdT w2 (some ⟨gb, 0, none⟩) n t := HO.out.rd.below B2.out
    clear b2 c0
    go_wp2_with fail
    refine (first_any 38 #[] #[.pointer (some ⟨p, 0, none⟩), .pointer (some ⟨q, 0, none⟩)] (some ⟨gb, 0, none⟩) n c1 a1 (dp t n a) (fun _ _ => True) none w2 hn ha1b (fun args w => by kernel_rfl) (fun b e => by cases e) (fun _ _ => trivial)
      (fun s w hs hg _ => by
        have h1 := del1_any t (some ⟨gb, 0, none⟩) A n c1 c s ((a1 + s) % n) q p w (hrd2.below (below_of_grown hg)) hn hs (Nat.mod_lt _ hn0) (((below_of_grown hg).cell (p := ⟨q, 0, none⟩) (World.block_lt_of_cell? _ _ c3)).trans c3) (((below_of_grown hg).cell (p := ⟨p, 0, none⟩) (World.block_lt_of_cell? _ _ c4)).trans c4)
        refine h1.mono fun e w' ⟨he, hb⟩ => ⟨?_, grown_of_below hb none, trivial⟩
        rw [he]
        unfold dp
        rw [HA1.out])).mono ?_
    rintro e w5 ⟨rfl, g5, _⟩
    rw [HM.out]
    simp only [fstI]
    have B5 := Lib.hid (below_next B2.out (below_of_grown g5))
    have HO5 : OwnT w5 Wp.heap.size (some ⟨gb, 0, none⟩) n c1 t := ⟨Mem.own_below HO.out.1 B5.out, HO.out.2.1, HO.out.2.2⟩
    have O5 := Lib.hid HO5
    clear g5 c3 c4 hrd2 HO5
    have BW5 := Lib.hid (below_next BP.out (below_next B1.out B5.out))
    have CQ := Lib.hid (fun w (hg : w5.grownBy w (some gb)) => show w.cell? ⟨q, 0, none⟩ = some (.slice (some ⟨gb, 0, none⟩) n c1) ∧ Below W.heap.size W w from
      ⟨(hg.cell_far ⟨q, 0, none⟩ (Nat.lt_of_lt_of_le KQ.out.2 B5.out.size) (fun e => GQ.out.1 (by injection e with e; exact e.symm))).trans ((B5.out.cell (p := ⟨q, 0, none⟩) KQ.out.2).trans KQ.out.1), by
        have h1 := BW5.out
        exact ⟨hg.os.trans h1.os, hg.tape.trans h1.tape, hg.output.trans h1.output, Nat.le_trans h1.size hg.size, fun k hk => (hg.block k (by have := h1.size; omega) (fun e => by injection e with e; have := GQ.out.2.2; have := BP.out.size; omega)).trans (h1.block k hk)⟩⟩)
    have c5 := (CQ.out w5 ⟨rfl, rfl, rfl, Nat.le_refl _, fun _ _ _ => rfl⟩).1
    go_wp2_with fail
    go_loopw [40] (DeR (delL n a m 0 t) n a m Wp.heap.size c1 (some ⟨gb, 0, none⟩) w5) (fun i _ => m - (intOf i).toNat)
    case atStart => exact ⟨0, t, by omega, rfl, O5.out, by rw [Nat.sub_zero], ⟨rfl, rfl, rfl, Nat.le_refl _, fun _ _ _ => rfl⟩⟩
    case round =>
      obtain ⟨k, t', hk, rfl, hot, hdel, hgr⟩ := hrel
      have OT := Lib.hid hot
      have HGR := Lib.hid hgr
      have HDEL := Lib.hid hdel
      have cq := (CQ.out wr hgr).1
      by_cases hkm : k < m
      · obtain ⟨y1, hy1⟩ : ∃ y1, a + k = y1 := ⟨_, rfl⟩
        obtain ⟨y2, hy2⟩ : ∃ y2, a + k + 1 = y2 := ⟨_, rfl⟩
        have hw1 : IntKind.i64.wrap ((a : Int) + (k : Int)) = (y1 : Int) := by rw [IntWalk.i64_in _ (by omega)]; omega
        have hw2 : IntKind.i64.wrap ((y1 : Int) + 1) = (y2 : Int) := by rw [IntWalk.i64_in _ (by omega)]; omega
        have hkm' : (k : Int) < (m : Int) := by omega
        have hyb : y1 ≤ 1000000 ∧ y2 ≤ 1000000 := by omega
        have AT := Lib.hid (fun w (hb : Below wr.heap.size wr w) => at_any t' (some ⟨gb, 0, none⟩) n c1 y2 w (hot.rd.below hb) hn0 hn hyb.2)
        unfold cv at AT
        have hfi := hot.2.2.at (y2 % n)
        have PU := Lib.hid (fun w (hb : Below wr.heap.size wr w) => put_any t' (some ⟨gb, 0, none⟩) n c1 y1 Wp.heap.size (cl t' (y2 % n)) w ⟨Mem.own_below hot.1 hb, hot.2.1, hot.2.2⟩ hn0 hn hyb.1 hfi)
        have hdel2 : delL n a (m - (k + 1)) (k + 1) (t'.set (y1 % n) (cl t' (y2 % n))) = delL n a m 0 t := by
          rw [← hdel, ← hy1, ← hy2, show m - k = (m - (k + 1)) + 1 by omega]
          rfl
        have HD2 := Lib.hid hdel2
        have e1 := cell_regrown cq
        clear hot hgr hdel hy1 hy2 hfi hdel2
        go_wp2_with fail
        refine Mem.wp_region_quiet_tail 12 (by kernel_rfl) (by kernel_rfl) ?_
        simp only [List.take_succ_cons, List.take_zero, List.drop_succ_cons, List.drop_zero]
        repeat (go_big_quiet_step ((go_at_call 35; exact Calls.regrown_of (AT.out _ (below_regrown _ _ _)))))
        refine wpQuiet_nil ?_
        intro w6 hb6
        replace hb6 := below_of_regrown hb6
        have P6 := Lib.hid (PU.out w6 hb6)
        have G6 := Lib.hid (HGR.out.trans (grown_of_below hb6 _))
        clear hb6
        go_wp2_with fail
        refine P6.out.mono ?_
        rintro e w7 ⟨rfl, o7, g7⟩
        have O7 := Lib.hid o7
        have G7 := Lib.hid (G6.out.trans g7)
        clear o7 g7
        go_wp2_with fail
        go_roundw
        case rel => exact ⟨k + 1, _, by omega, by go_num, O7.out, HD2.out, G7.out⟩
        case measure => simp [intOf]; omega
      · obtain rfl : m = k := by omega
        obtain ⟨y1, hy1⟩ : ∃ y1, a + m = y1 := ⟨_, rfl⟩
        have hw1 : IntKind.i64.wrap ((a : Int) + (m : Int)) = (y1 : Int) := by rw [IntWalk.i64_in _ (by omega)]; omega
        have PU := Lib.hid (put_any t' (some ⟨gb, 0, none⟩) n c1 y1 Wp.heap.size (0, 0) wr hot hn0 hn (by omega) ⟨by decide, by unfold I64; decide⟩)
        have HY1 := Lib.hid hy1
        clear hot hgr hdel hy1
        go_wp2_with fail
        refine PU.out.mono ?_
        rintro e w7 ⟨rfl, o7, g7⟩
        have G7 := Lib.hid (HGR.out.trans g7)
        have c7 := (CQ.out w7 G7.out).1
        have O7 := Lib.hid o7
        clear o7 g7
        go_wp2_with fail
        go_ret2
        have hI : t' = delL n a m 0 t := by have := HDEL.out; rwa [Nat.sub_self] at this
        refine ⟨.inl ⟨a, _, _, HE.out, by rw [show ((H : Int)).toNat = H by omega]; exact HF.out, rfl, ?_⟩, (CQ.out w7 G7.out).2⟩
        rw [HT.out, ← hI, HY1.out]
        exact ⟨own_mono O7.out.1 BP.out.size, O7.out.2.1, O7.out.2.2⟩
end Pr
end Go.Proofs.Ytommffcojbdldaa
