/- Layer 19: the contract of Insert. -/
import Derived.Test.YtommffcojbdldaaPrO
namespace Go.Proofs.Ytommffcojbdldaa
open Go.RowKit
namespace Pr

theorem insL_len (n a : Nat) : ∀ (i : Nat) (t : Tab), (insL n a i t).length = t.length
  | 0, _ => rfl
  | i + 1, t => by
    unfold insL
    rw [insL_len n a i, List.length_set]
/-- What Insert answers. -/
def InRes (t : Tab) (n id : Nat) (h : Int) (W : World) (e : Ending) (w : World) : Prop :=
  ((insE t n id h = 0 ∧ ∃ A c, e = .returned (.tuple #[.slice A n c, .int .i64 0]) ∧ OwnT w W.heap.size A n c (insT t n id h.toNat)) ∨ (insE t n id h ≠ 0 ∧ e = .returned (.tuple #[.slice none 0 0, .int .i64 (insE t n id h : Nat)]))) ∧ Below W.heap.size W w
/-- The relation of its loop. -/
def InR (F : Tab) (n a g B c : Nat) (A : Option Addr) (w0 : World) (i : Value) (w : World) : Prop :=
  ∃ (k : Nat) (t : Tab), k ≤ g ∧ i = .int .i64 (k : Int) ∧ OwnT w B A n c t ∧ insL n a k t = F ∧ w0.grownBy w (Value.slice A n c).ownBlock
set_option maxRecDepth 100000 in
set_option maxHeartbeats 6400000 in
theorem insert_any (t : Tab) (A : Option Addr) (n c id : Nat) (h : Int) (W : World) (hr : RdT W A n t) (hn : n ≤ 100000) (hid : id < 4294967296) :
    Calls Try.prog 12 #[.slice A n c, .int .u32 (id : Int), .int .i64 h] W (InRes t n id h W) := by
  have BG := Lib.hid (begin_any t A n c id h W hr hn)
  by_cases hb : begE t n id h = 0
  case neg =>
    have HE := Lib.hid (insE_a hb)
    have HB := Lib.hid hb
    obtain ⟨v, hv⟩ : ∃ v, begE t n id h = v := ⟨_, rfl⟩
    have HV := Lib.hid hv
    have hvi : ((v : Int) != 0) = true := by simp; omega
    clear hr hb hv
    go_enter Try.func12, Try.ntmps12
    go_wp2_with fail
    refine BG.out.mono ?_
    rintro e w1 ⟨⟨h0, _⟩ | ⟨_, rfl⟩, b1⟩
    case inl => exact absurd h0 HB.out
    rw [HV.out]
    have B1 := Lib.hid b1
    clear b1
    go_wp2_with fail
    go_ret2
    exact ⟨.inr ⟨by rw [HE.out]; exact HB.out, by rw [HE.out, HV.out]; rfl⟩, B1.out.alloc B1.out.size _⟩
  obtain ⟨hid0, p1, p2, hrt, hin⟩ := beg_ok hb
  have HS := Lib.hid (fun x w (hb : Below W.heap.size W w) => has_any t A n c x w (hr.below hb) hn)
  have HB := Lib.hid hb
  cases h1 : hasB t id with
  | true =>
    have HE := Lib.hid (insE_b hb h1)
    have HS1 := Lib.hid (fun w hb => HS.out id w hb)
    rw [h1] at HS1
    clear hr hb h1 hid0 p1 p2 hrt hin
    go_enter Try.func12, Try.ntmps12
    go_wp2_with fail
    refine BG.out.mono ?_
    rintro e w1 ⟨⟨_, A1, c1, rfl, _⟩ | ⟨hne, _⟩, b1⟩
    case inr => exact absurd HB.out hne
    have B1 := Lib.hid b1
    have B1a := Lib.hid (fun (o : Obj) => b1.alloc b1.size o)
    clear b1
    go_wp2_with fail
    refine (HS1.out _ (B1a.out _)).mono ?_
    rintro e w2 ⟨rfl, b2⟩
    have B2 := Lib.hid (below_next (B1a.out _) b2)
    clear b2
    go_wp2_with fail
    go_ret2
    exact ⟨.inr ⟨by rw [HE.out]; decide, by rw [HE.out]; rfl⟩, B2.out⟩
  | false =>
  have HS1 := Lib.hid (fun w hb => HS.out id w hb)
  rw [h1] at HS1
  have HS0 := Lib.hid (fun w hb => HS.out 0 w hb)
  cases h2 : hasB t 0 with
  | false =>
    have HE := Lib.hid (insE_c hb h1 h2)
    rw [h2] at HS0
    clear hr hb h1 h2 hid0 p1 p2 hrt hin
    go_enter Try.func12, Try.ntmps12
    go_wp2_with fail
    refine BG.out.mono ?_
    rintro e w1 ⟨⟨_, A1, c1, rfl, _⟩ | ⟨hne, _⟩, b1⟩
    case inr => exact absurd HB.out hne
    have B1a := Lib.hid (fun (o : Obj) => b1.alloc b1.size o)
    clear b1
    go_wp2_with fail
    refine (HS1.out _ (B1a.out _)).mono ?_
    rintro e w2 ⟨rfl, b2⟩
    have B2 := Lib.hid (below_next (B1a.out _) b2)
    clear b2
    go_wp2_with fail
    refine (HS0.out _ B2.out).mono ?_
    rintro e w3 ⟨rfl, b3⟩
    have B3 := Lib.hid (below_next B2.out b3)
    clear b3
    go_wp2_with fail
    go_ret2
    exact ⟨.inr ⟨by rw [HE.out]; decide, by rw [HE.out]; rfl⟩, B3.out⟩
  | true =>
    rw [h2] at HS0
    have hmf : ∀ (fn : Fn) (first cap : Array Value) (w : World), (Instr.makeFunc fn first cap).run Try.prog w = .ok (.func fn first cap) w := fun _ _ _ _ => rfl
    have HE := Lib.hid (insE_d hb h1 h2)
    have hkn : knownB t = true := by
      unfold rightB at hrt
      rw [Bool.and_eq_true] at hrt
      exact hrt.1
    obtain ⟨x, hx, hxe⟩ := empty_of hr.len hkn h2
    obtain ⟨H, hH⟩ : ∃ H : Nat, h = (H : Int) := ⟨h.toNat, by omega⟩
    subst hH
    obtain ⟨k0, hk0⟩ := open_of (h := H) hx hxe
    have hA : insA t n H = H + k0 := by unfold insA; rw [hk0]; rfl
    obtain ⟨g, hg⟩ := emp_of (a := H + k0) hx hxe
    have hG : insG t n H = g := by unfold insG; rw [hA, hg]; rfl
    obtain ⟨hk0n, _, _⟩ := fst_of hk0
    obtain ⟨hgn, _, _⟩ := fst_of hg
    obtain ⟨a, ha⟩ : ∃ a, H + k0 = a := ⟨_, rfl⟩
    rw [ha] at hA hg
    have hT : insT t n id H = (insL n a g t).set (a % n) (id, (H : Int)) := by unfold insT; rw [hA, hG]
    have HT := Lib.hid hT
    have HK0 := Lib.hid hk0
    have HG := Lib.hid hg
    have hn0 : 0 < n := by omega
    have han : a ≤ 300000 := by omega
    have hHn : H ≤ 100000 := by omega
    have hwa : IntKind.i64.wrap ((H : Int) + (k0 : Int)) = (a : Int) := by rw [IntWalk.i64_in _ (by omega)]; omega
    have hH64 : I64 (H : Int) := by unfold I64; omega
    clear hr hb h1 h2 hid0 p1 p2 hrt hin hkn hx hxe hA hG hk0 hg hT ha
    go_enter Try.func12, Try.ntmps12
    go_wp2_with fail
    refine BG.out.mono ?_
    rintro e w1 ⟨⟨_, A1, c1, rfl, ho⟩ | ⟨hne, _⟩, b1⟩
    case inr => exact absurd HB.out hne
    obtain ⟨gb, cc, hA1, hgb, hgl⟩ := ho.1.form hn0
    injection hA1 with hA1 _ hcc
    obtain rfl : c1 = cc := hcc
    subst hA1
    have B1a := Lib.hid (fun (o : Obj) => b1.alloc b1.size o)
    obtain ⟨q, hq⟩ : ∃ q, w1.heap.size = q := ⟨_, rfl⟩
    obtain ⟨w1a, hw1a⟩ : ∃ w1a, w1.alloc (.cells #[.slice (some ⟨gb, 0, none⟩) n c1] 56) = w1a := ⟨_, rfl⟩
    have kq : w1a.cell? ⟨q, 0, none⟩ = some (.slice (some ⟨gb, 0, none⟩) n c1) := by rw [← hw1a, ← hq]; simp [go_sem]
    have hql : q < w1a.heap.size := by rw [← hw1a, ← hq]; simp
    have hoa : OwnT w1a W.heap.size (some ⟨gb, 0, none⟩) n c1 t := by rw [← hw1a]; exact ⟨ho.1.alloc _, ho.2.1, ho.2.2⟩
    have HO := Lib.hid hoa
    have KQ := Lib.hid (And.intro kq hql)
    have BW := Lib.hid (show Below W.heap.size W w1a from by rw [← hw1a]; exact B1a.out _)
    have GQ := Lib.hid (show gb ≠ q ∧ gb < w1a.heap.size ∧ W.heap.size ≤ gb from ⟨by omega, by rw [← hw1a]; simp; omega, hgb⟩)
    have HW1 := Lib.hid hw1a
    clear b1 ho hoa hgb hgl hw1a kq hql
    go_wp2_with fail
    rw [HW1.out]
    refine (HS1.out _ BW.out).mono ?_
    rintro e w2 ⟨rfl, b2⟩
    have B2 := Lib.hid b2
    clear b2
    go_wp2_with fail
    refine (HS0.out _ (below_next BW.out B2.out)).mono ?_
    rintro e w3 ⟨rfl, b3⟩
    have B3 := Lib.hid (below_next B2.out b3)
    have c3 := (B3.out.cell (p := ⟨q, 0, none⟩) KQ.out.2).trans KQ.out.1
    clear b3
    go_wp2_with fail
    have hrd3 : RdT w3 (some ⟨gb, 0, none⟩) n t := HO.out.rd.below B3.out
    refine (first_any 31 #[.agg #[.slice (some ⟨gb, 0, none⟩) n c1]] #[] (some ⟨gb, 0, none⟩) n c1 H (opF t n H) (fun _ _ => True) none w3 hn (by omega) (fun args w => by kernel_rfl) (fun b e => by cases e) (fun _ _ => trivial)
      (fun s w hs hg _ => (ends_any t (some ⟨gb, 0, none⟩) n c1 s ((H + s) % n) w (hrd3.below (below_of_grown hg)) hn (Nat.mod_lt _ hn0)).mono fun e w' ⟨he, hb⟩ => ⟨he, grown_of_below hb none, trivial⟩)).mono ?_
    rintro e w4 ⟨rfl, g4, _⟩
    rw [HK0.out]
    simp only [fstI]
    have B4 := Lib.hid (below_next B3.out (below_of_grown g4))
    have c4 := (B4.out.cell (p := ⟨q, 0, none⟩) KQ.out.2).trans KQ.out.1
    have hrd4 : RdT w4 (some ⟨gb, 0, none⟩) n t := HO.out.rd.below B4.out
    clear g4 c3 hrd3
    go_wp2_with fail
    refine (first_any 32 #[] #[.pointer (some ⟨q, 0, none⟩)] (some ⟨gb, 0, none⟩) n c1 a (emp t n a) (fun _ _ => True) none w4 hn (by omega) (fun args w => by kernel_rfl) (fun b e => by cases e) (fun _ _ => trivial)
      (fun s w hs hg _ => (ins1_any t (some ⟨gb, 0, none⟩) n c1 s ((a + s) % n) q w (hrd4.below (below_of_grown hg)) hn (Nat.mod_lt _ hn0) (((below_of_grown hg).cell (p := ⟨q, 0, none⟩) (World.block_lt_of_cell? _ _ c4)).trans c4)).mono fun e w' ⟨he, hb⟩ => ⟨he, grown_of_below hb none, trivial⟩)).mono ?_
    rintro e w5 ⟨rfl, g5, _⟩
    rw [HG.out]
    simp only [fstI]
    have B5 := Lib.hid (below_next B4.out (below_of_grown g5))
    have HO5 : OwnT w5 W.heap.size (some ⟨gb, 0, none⟩) n c1 t := ⟨Mem.own_below HO.out.1 B5.out, HO.out.2.1, HO.out.2.2⟩
    have O5 := Lib.hid HO5
    clear g5 c4 hrd4 HO5
    have CQ := Lib.hid (fun w (hg : w5.grownBy w (some gb)) => show w.cell? ⟨q, 0, none⟩ = some (.slice (some ⟨gb, 0, none⟩) n c1) ∧ Below W.heap.size W w from
      ⟨(hg.cell_far ⟨q, 0, none⟩ (Nat.lt_of_lt_of_le KQ.out.2 B5.out.size) (fun e => GQ.out.1 (by injection e with e; exact e.symm))).trans ((B5.out.cell (p := ⟨q, 0, none⟩) KQ.out.2).trans KQ.out.1), by
        have h1 := below_next BW.out B5.out
        exact ⟨hg.os.trans h1.os, hg.tape.trans h1.tape, hg.output.trans h1.output, Nat.le_trans h1.size hg.size, fun k hk => (hg.block k (by have := h1.size; omega) (fun e => by injection e with e; have := GQ.out.2.2; omega)).trans (h1.block k hk)⟩⟩)
    have c5 := (CQ.out w5 ⟨rfl, rfl, rfl, Nat.le_refl _, fun _ _ _ => rfl⟩).1
    go_wp2_with fail
    go_loopw [12] (InR (insL n a g t) n a g W.heap.size c1 (some ⟨gb, 0, none⟩) w5) (fun i _ => (intOf i).toNat)
    case atStart => exact ⟨g, t, by omega, rfl, O5.out, rfl, ⟨rfl, rfl, rfl, Nat.le_refl _, fun _ _ _ => rfl⟩⟩
    case round =>
      obtain ⟨k, t', hk, rfl, hot, hins, hgr⟩ := hrel
      have OT := Lib.hid hot
      have HGR := Lib.hid hgr
      have HINS := Lib.hid hins
      have cq := (CQ.out wr hgr).1
      by_cases hk0 : 0 < k
      · obtain ⟨k', hk'⟩ : ∃ k', k = k' + 1 := ⟨k - 1, by omega⟩
        have HK' := Lib.hid hk'
        obtain ⟨y1, hy1⟩ : ∃ y1, a + k = y1 := ⟨_, rfl⟩
        obtain ⟨y2, hy2⟩ : ∃ y2, a + k' = y2 := ⟨_, rfl⟩
        have hw1 : IntKind.i64.wrap ((a : Int) + (k : Int)) = (y1 : Int) := by rw [IntWalk.i64_in _ (by omega)]; omega
        have hw2 : IntKind.i64.wrap ((y1 : Int) - 1) = (y2 : Int) := by rw [IntWalk.i64_in _ (by omega)]; omega
        have hw3 : IntKind.i64.wrap ((k : Int) - 1) = (k' : Int) := by rw [IntWalk.i64_in _ (by omega)]; omega
        have hk0' : (0 : Int) < (k : Int) := by omega
        have hyb : y1 ≤ 1000000 ∧ y2 ≤ 1000000 := by omega
        have AT := Lib.hid (fun w (hb : Below wr.heap.size wr w) => at_any t' (some ⟨gb, 0, none⟩) n c1 y2 w (hot.rd.below hb) hn0 hn hyb.2)
        unfold cv at AT
        have hfi := hot.2.2.at (y2 % n)
        have PU := Lib.hid (fun w (hb : Below wr.heap.size wr w) => put_any t' (some ⟨gb, 0, none⟩) n c1 y1 W.heap.size (cl t' (y2 % n)) w ⟨Mem.own_below hot.1 hb, hot.2.1, hot.2.2⟩ hn0 hn hyb.1 hfi)
        have hins2 : insL n a k' (t'.set (y1 % n) (cl t' (y2 % n))) = insL n a g t := by
          rw [← hins, hk', ← hy1, ← hy2, hk']
          rfl
        have HI2 := Lib.hid hins2
        have e1 := cell_regrown cq
        clear hot hgr hins hy1 hy2 hk' hfi hins2
        go_wp2_with fail
        refine Mem.wp_region_quiet_tail 12 (by kernel_rfl) (by kernel_rfl) ?_
        simp only [List.take_succ_cons, List.take_zero, List.drop_succ_cons, List.drop_zero]
        repeat (go_big_quiet_step ((go_at_call 35; exact Calls.regrown_of (AT.out _ (below_regrown _ _ _)))))
        refine wpQuiet_nil ?_
        intro w6 hb6
        replace hb6 := below_of_regrown hb6
        have P6 := Lib.hid (PU.out w6 hb6)
        have G6 := Lib.hid (HGR.out.trans (grown_of_below hb6 _))
        clear hb6
        go_wp2_with fail
        refine P6.out.mono ?_
        rintro e w7 ⟨rfl, o7, g7⟩
        have O7 := Lib.hid o7
        have G7 := Lib.hid (G6.out.trans g7)
        clear o7 g7
        go_wp2_with fail
        go_roundw
        case rel => exact ⟨k', _, by have := HK'.out; omega, rfl, O7.out, HI2.out, G7.out⟩
        case measure => have := HK'.out; simp [intOf]; omega
      · obtain rfl : k = 0 := by omega
        have PU := Lib.hid (put_any t' (some ⟨gb, 0, none⟩) n c1 a W.heap.size (id, (H : Int)) wr hot hn0 hn (by omega) ⟨hid, hH64⟩)
        clear hot hgr hins hk0
        go_wp2_with fail
        refine PU.out.mono ?_
        rintro e w7 ⟨rfl, o7, g7⟩
        have G7 := Lib.hid (HGR.out.trans g7)
        have c7 := (CQ.out w7 G7.out).1
        have O7 := Lib.hid o7
        clear o7 g7
        go_wp2_with fail
        go_ret2
        have hI : t' = insL n a g t := HINS.out
        exact ⟨.inl ⟨HE.out, _, _, rfl, by rw [show ((H : Int)).toNat = H by omega, HT.out, ← hI]; exact O7.out⟩, (CQ.out w7 G7.out).2⟩
end Pr
end Go.Proofs.Ytommffcojbdldaa
