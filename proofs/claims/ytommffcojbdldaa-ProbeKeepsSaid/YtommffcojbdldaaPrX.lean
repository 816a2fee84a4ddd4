/- Layer 19: the walk of the document's Insert. -/
import Derived.Test.YtommffcojbdldaaPrW
namespace Go.Proofs.Ytommffcojbdldaa
open Go.RowKit
namespace Pr

theorem infoR : (Try.prog.info? 51).map (fun i => (i.zero, i.size, i.bytes)) = some (some (.agg #[.int .u32 0, .int .i64 0]), 2, 16) := by kernel_rfl
/-- What the document's Insert answers. -/
def RiRes (t : Tab) (n id : Nat) (h : Int) (W : World) (e : Ending) (w : World) : Prop :=
  ((insE t n id h = 0 ∧ ∃ A c, e = .returned (.tuple #[.slice A n c, .int .i64 0]) ∧ OwnR w W.heap.size A n c (insT t n id h.toNat)) ∨ (insE t n id h ≠ 0 ∧ e = .returned (.tuple #[.slice none 0 0, .int .i64 (insE t n id h : Nat)]))) ∧ Below W.heap.size W w
theorem hand_fine {t : Tab} (hf : Fine t) (n a : Nat) {p : Nat × Int} (hp : p.1 < 4294967296 ∧ I64 p.2) : ∀ j, (hand t n a p j).1 < 4294967296 ∧ I64 (hand t n a p j).2
  | 0 => hp
  | _ + 1 => hf.at _
set_option maxRecDepth 100000 in
set_option maxHeartbeats 6400000 in
theorem refinsert_any (t : Tab) (A : Option Addr) (n c id : Nat) (h : Int) (W : World) (hr : RdT W A n t) (hn : n ≤ 100000) (hid : id < 4294967296) :
    Calls Try.prog 13 #[.slice A n c, .int .u32 (id : Int), .int .i64 h] W (RiRes t n id h W) := by
  have bad : ∀ (v : Nat) w, v ≠ 0 → insE t n id h = v → Below W.heap.size W w → RiRes t n id h W (.returned (.tuple #[.slice none 0 0, .int .i64 (v : Int)])) w := fun v w hv he hb => ⟨.inr ⟨by omega, by rw [he]⟩, hb⟩
  have BAD := Lib.hid bad
  clear bad
  by_cases h0 : id = 0
  · have hb := beg_a (t := t) (n := n) (h := h) h0
    have HE := Lib.hid ((insE_a (by omega)).trans hb)
    have x1 : (id : Int) = 0 := by omega
    clear hr h0 hb
    go_enter Try.func13, Try.ntmps13
    go_wp2_with fail
    go_ret2
    exact BAD.out 2 _ (by decide) HE.out (Below.refl _ _)
  have x1 : ¬ (id : Int) = 0 := by omega
  have x2 : ((id : Int) == 0) = false := by simpa using x1
  by_cases hh1 : h < 0
  · have hb := beg_b (t := t) (id := id) (in_neg (n := n) hh1)
    have HE := Lib.hid ((insE_a (by omega)).trans hb)
    clear hr h0 hb
    go_enter Try.func13, Try.ntmps13
    go_wp2_with fail
    go_ret2
    exact BAD.out 2 _ (by decide) HE.out (Below.refl _ _)
  by_cases hh2 : (n : Int) ≤ h
  · have hb := beg_b (t := t) (id := id) (in_big (n := n) hh2)
    have HE := Lib.hid ((insE_a (by omega)).trans hb)
    have hh1' : ¬ h < 0 := hh1
    clear hr h0 hb
    go_enter Try.func13, Try.ntmps13
    go_wp2_with fail
    go_ret2
    exact BAD.out 2 _ (by decide) HE.out (Below.refl _ _)
  have hi := in_ok hh1 hh2
  have RI := Lib.hid (refright_any t A n c W hr hn)
  unfold RrRes at RI
  have hh1' : ¬ h < 0 := hh1
  have hh2' : ¬ (n : Int) ≤ h := hh2
  cases hrt : rightB t with
  | false =>
    have hb := beg_c h0 hi hrt
    have HE := Lib.hid ((insE_a (by omega)).trans hb)
    rw [hrt] at RI
    clear hr h0 hi hrt hb
    go_enter Try.func13, Try.ntmps13
    go_wp2_with fail
    refine RI.out.mono ?_
    rintro e w1 ⟨rfl, q1⟩
    have B1 := Lib.hid (q1.below (B := W.heap.size))
    clear q1
    go_wp2_with fail
    go_ret2
    exact BAD.out 4 _ (by decide) HE.out B1.out
  | true =>
  rw [hrt] at RI
  have hb := beg_d h0 hi hrt
  have HS := Lib.hid (fun x w (hq : Mem.QQ W w) => refhas_any t A n c x w (hr.below (hq.below (B := W.heap.size))) hn)
  cases h1 : hasB t id with
  | true =>
    have HE := Lib.hid (insE_b hb h1)
    have HS1 := Lib.hid (fun w hq => HS.out id w hq)
    rw [h1] at HS1
    clear hr h0 hi hrt hb h1
    go_enter Try.func13, Try.ntmps13
    go_wp2_with fail
    refine RI.out.mono ?_
    rintro e w1 ⟨rfl, q1⟩
    have Q1 := Lib.hid q1
    clear q1
    go_wp2_with fail
    refine (HS1.out _ Q1.out).mono ?_
    rintro e w2 ⟨rfl, rfl⟩
    go_wp2_with fail
    go_ret2
    exact BAD.out 8 _ (by decide) HE.out (Q1.out.below (B := W.heap.size))
  | false =>
  have HS1 := Lib.hid (fun w hq => HS.out id w hq)
  rw [h1] at HS1
  have HS0 := Lib.hid (fun w hq => HS.out 0 w hq)
  cases h2 : hasB t 0 with
  | false =>
    have HE := Lib.hid (insE_c hb h1 h2)
    rw [h2] at HS0
    clear hr h0 hi hrt hb h1 h2
    go_enter Try.func13, Try.ntmps13
    go_wp2_with fail
    refine RI.out.mono ?_
    rintro e w1 ⟨rfl, q1⟩
    have Q1 := Lib.hid q1
    clear q1
    go_wp2_with fail
    refine (HS1.out _ Q1.out).mono ?_
    rintro e w2 ⟨rfl, rfl⟩
    go_wp2_with fail
    refine (HS0.out _ Q1.out).mono ?_
    rintro e w2 ⟨rfl, rfl⟩
    go_wp2_with fail
    go_ret2
    exact BAD.out 5 _ (by decide) HE.out (Q1.out.below (B := W.heap.size))
  | true =>
    rw [h2] at HS0
    have HE := Lib.hid (insE_d hb h1 h2)
    have hkb : knownB t = true := by
      unfold rightB at hrt
      rw [Bool.and_eq_true] at hrt
      exact hrt.1
    obtain ⟨x, hx, hxe⟩ := empty_of hr.len hkb h2
    obtain ⟨H, hH⟩ : ∃ H : Nat, h = (H : Int) := ⟨h.toNat, by omega⟩
    subst hH
    obtain ⟨k0, hk0⟩ := open_of (h := H) hx hxe
    have hA : insA t n H = H + k0 := by unfold insA; rw [hk0]; rfl
    obtain ⟨g, hg⟩ := emp_of (a := H + k0) hx hxe
    have hG : insG t n H = g := by unfold insG; rw [hA, hg]; rfl
    obtain ⟨hk0n, _, _⟩ := fst_of hk0
    obtain ⟨hgn, hge, hgb⟩ := fst_of hg
    have hn0 : 0 < n := by omega
    have hHn : H < n := by omega
    obtain ⟨a, ha⟩ : ∃ a, H + k0 = a := ⟨_, rfl⟩
    have PL := Lib.hid (fun w (hq : Below W.heap.size W w) => place_any t A n c H k0 w (hr.below hq) hn hHn hkb hk0)
    rw [ha] at hA hge hgb PL
    have hT : insT t n id H = (refL t n a (id, (H : Int)) g).set ((a + g) % n) (hand t n a (id, (H : Int)) g) := by
      rw [refL_eq hr.len hgn]
      unfold insT insS
      rw [hA, hG]
    have HT := Lib.hid hT
    have HID := Lib.hid (show ∀ j, j ≤ g → ((cl t ((a + j) % n)).1 = 0 ↔ j = g) from fun j hj => by
      have h3 : emp t n a j = decide ((cl t ((a + j) % n)).1 = 0) := by
        unfold emp
        rw [nz_iff hr.len hkb (Nat.mod_lt _ hn0)]
        simp
      rcases Nat.lt_or_ge j g with h4 | h4
      · have := hgb j h4
        rw [h3] at this
        simp at this
        exact ⟨fun e => absurd e this, fun e => by omega⟩
      · obtain rfl : j = g := by omega
        rw [h3] at hge
        exact ⟨fun _ => rfl, fun _ => by simpa using hge⟩)
    have hH64 : (id, (H : Int)).1 < 4294967296 ∧ I64 (id, (H : Int)).2 := ⟨hid, by show I64 (H : Int); unfold I64; omega⟩
    have HHF := Lib.hid (hand_fine hr.fine n a hH64)
    have HLEN := Lib.hid hr.len
    have HL := Lib.hid (fun w (hb : Below W.heap.size W w) => (hr.below hb).lie)
    have HCN := Lib.hid (show (cels t).length = n * 2 by rw [cels_len, hr.len])
    have HFI := Lib.hid hr.fine
    obtain ⟨i0, hi0, hz0, hz1, hz2⟩ := info_at infoR
    have I0 := Lib.hid hi0
    have I1 := Lib.hid hz0
    have I2 := Lib.hid hz1
    have I3 := Lib.hid hz2
    obtain ⟨Tc, hTc⟩ : ∃ Tc, cels t = Tc := ⟨_, rfl⟩
    have HO1 := Lib.hid (show ∀ u ∈ Tc, u.oneCell' = true by rw [← hTc]; exact one_cels t)
    rw [hTc] at HL HCN
    have HTC := Lib.hid hTc
    obtain ⟨y0, hy0⟩ : ∃ y0, a % n = y0 := ⟨_, rfl⟩
    have HY0 := Lib.hid hy0
    rw [hy0] at PL
    have hab : a ≤ 300000 := by omega
    clear hr h0 hi hrt hb h1 h2 hkb hx hxe hk0 hA hg hG hge hgb hT hi0 hz0 hz1 hz2 hTc hH64 ha hy0
    go_enter Try.func13, Try.ntmps13
    go_wp2_with fail
    refine RI.out.mono ?_
    rintro e w1 ⟨rfl, q1⟩
    have Q1 := Lib.hid q1
    clear q1
    go_wp2_with fail
    refine (HS1.out _ Q1.out).mono ?_
    rintro e w2 ⟨rfl, rfl⟩
    go_wp2_with fail
    refine (HS0.out _ Q1.out).mono ?_
    rintro e w2 ⟨rfl, rfl⟩
    have BQ := Lib.hid (Q1.out.below (B := W.heap.size))
    have BQA := Lib.hid (BQ.out.alloc BQ.out.size (.cells #[] 51))
    go_wp2_with (at_builtin; refine wpList_append_lie _ rfl (.tmp 33) (.tmp 34) 22 rfl w1.heap.size 51 i0 (.agg #[.int .u32 0, .int .i64 0]) 2 16 Try.underlying22 I0.out I1.out I2.out I3.out rfl (by decide) (.slice (some ⟨w1.heap.size, 0, none⟩) 0 0) 0 [] rfl (own_zero w1 51 2) A n c Tc rfl HCN.out (HL.out _ BQA.out) HO1.out (by simp only [maxLen]; omega) (by omega) (by simp) ?_; intro v3 w3 hown3 hg3 _; simp only [Nat.zero_add, List.nil_append] at hown3; obtain ⟨A3, c3, rfl, _⟩ := Mem.own_shape hown3; have O3 := Lib.hid hown3; have B13 := Lib.hid (((Below.refl w1.heap.size w1).alloc (Nat.le_refl _) _).grown hg3 (by simp) (by simp [Value.ownBlock])); clear hown3 hg3)
    have BW3 := Lib.hid (below_next BQ.out B13.out)
    refine (PL.out _ BW3.out).mono ?_
    rintro e w4 ⟨rfl, rfl⟩
    obtain ⟨gb, cc, hA3, hgb, hgl⟩ := O3.out.form hn0
    injection hA3 with hA3 _ hcc
    obtain rfl : c3 = cc := hcc
    subst hA3
    go_wp2_with fail
    obtain ⟨q, hq⟩ : ∃ q, w3.heap.size = q := ⟨_, rfl⟩
    obtain ⟨w5, hw5⟩ : ∃ w5, w3.alloc (.cells #[.int .u32 (id : Int), .int .i64 (H : Int)] 51) = w5 := ⟨_, rfl⟩
    have hb35 : Below w3.heap.size w3 w5 := by rw [← hw5]; exact (Below.refl _ _).alloc (Nat.le_refl _) _
    have ST : RiI t n a g q w1.heap.size c3 (some ⟨gb, 0, none⟩) (id, (H : Int)) W g (.int .i64 (y0 : Int)) w5 := by
      refine ⟨0, by omega, by omega, by rw [Nat.add_zero, HY0.out], ?_, ?_, below_next BW3.out hb35⟩
      · refine ⟨?_, HLEN.out, HFI.out⟩
        rw [show refL t n a (id, (H : Int)) 0 = t from rfl, HTC.out]
        exact Mem.own_below O3.out hb35
      · unfold Box
        rw [← hw5, ← hq]
        exact heap_alloc_new w3 _
    have GQ := Lib.hid (show gb ≠ q ∧ W.heap.size ≤ gb ∧ W.heap.size ≤ q ∧ W.heap.size ≤ w1.heap.size from ⟨by omega, Nat.le_trans BQ.out.size hgb, by rw [← hq]; exact BW3.out.size, BQ.out.size⟩)
    have HST := Lib.hid ST
    rw [hw5, hq]
    clear hw5 hb35 ST hgb hgl
    go_loopg [9] g (fun G v w => RiI t n a g q w1.heap.size c3 (some ⟨gb, 0, none⟩) (id, (H : Int)) W G v w)
    case atStart => exact HST.out
    case round =>
      obtain ⟨j, hj, rfl, rfl, ho, hbx, hbel⟩ := hrel
      obtain ⟨y, hy⟩ : ∃ y, (a + j) % n = y := ⟨_, rfl⟩
      have hyn : y < n := by rw [← hy]; exact Nat.mod_lt _ hn0
      obtain ⟨r1, r2, r3, r4⟩ := ho.cells hyn
      obtain ⟨s1, s2, s3, s4⟩ := hbx.cells
      have hid2 := HID.out j hj
      have hrl : cl (refL t n a (id, (H : Int)) j) y = cl t y := by
        rw [← hy, refL_at HLEN.out j (by omega) j (by omega), if_neg (by omega)]
      rw [hrl] at r1 r2
      rw [hy] at hid2 ⊢
      have f1 := r3 (y * 2)
      have f2 := r3 (y * 2 + 1)
      have f3 := s3 0
      have f4 := s3 1
      have HO := Lib.hid ho
      have HBX := Lib.hid hbx
      have HBE := Lib.hid hbel
      have q2 : (0 : Int) ≤ (y : Int) := by omega
      have q3 : (y : Int) < (n : Int) := by omega
      obtain ⟨z, hz⟩ : ∃ z, (a + (j + 1)) % n = z := ⟨_, rfl⟩
      have hyz : (y + 1) % n = z := by rw [← hz, ← hy, Nat.mod_add_mod, Nat.add_assoc]
      obtain ⟨m1, m2, m3, m4, _⟩ := modw hn0 hyz
      have m1' : ((y : Int) + 1).tmod (n : Int) = (z : Int) := by rw [← m1]; norm_cast
      have m2' : ((y : Int) + 1) % (n : Int) = (z : Int) := by rw [← m2]; norm_cast
      have hwy : IntKind.i64.wrap ((y : Int) + 1) = (y : Int) + 1 := IntWalk.i64_in _ (by omega)
      obtain ⟨u, hu⟩ : ∃ u, (cl t y).1 = u := ⟨_, rfl⟩
      obtain ⟨v, hv⟩ : ∃ v, (cl t y).2 = v := ⟨_, rfl⟩
      obtain ⟨u', hu'⟩ : ∃ u', (hand t n a (id, (H : Int)) j).1 = u' := ⟨_, rfl⟩
      obtain ⟨v', hv'⟩ : ∃ v', (hand t n a (id, (H : Int)) j).2 = v' := ⟨_, rfl⟩
      rw [hu] at r1 hid2
      rw [hv] at r2
      rw [hu'] at s1
      rw [hv'] at s2
      have HY := Lib.hid hy
      have HUV := Lib.hid (And.intro hu (And.intro hv (And.intro hu' hv')))
      have HZ := Lib.hid hz
      have e1 : gb ≠ q := GQ.out.1
      have e2 : q ≠ gb := fun h => e1 h.symm
      by_cases hu0 : u = 0
      · obtain rfl : j = g := hid2.1 hu0
        have x3 : (u : Int) = 0 := by omega
        have FIN := Lib.hid (show OwnR ((wr.setCell ⟨gb, y * 2, none⟩ (.int .u32 (u' : Int))).setCell ⟨gb, y * 2 + 1, none⟩ (.int .i64 v')) w1.heap.size (some ⟨gb, 0, none⟩) n c3 (insT t n id H) ∧ Below W.heap.size W ((wr.setCell ⟨gb, y * 2, none⟩ (.int .u32 (u' : Int))).setCell ⟨gb, y * 2 + 1, none⟩ (.int .i64 v')) from by
          have := ho.put hyn (HHF.out j)
          rw [HUV.out.2.2.1, HUV.out.2.2.2, ← HY.out, ← HT.out] at this
          rw [← HY.out]
          exact ⟨this, (hbel.setCell (by simpa using GQ.out.2.1) _).setCell (by simpa using GQ.out.2.1) _⟩)
        clear ho hbx hbel hy hz hyz hu hv hu' hv' hid2 r3 s3 hu0 hrl m1 m2
        go_wp2_with fail
        go_ret2
        refine ⟨.inl ⟨HE.out, _, _, rfl, ?_⟩, FIN.out.2⟩
        rw [show ((H : Int)).toNat = H by omega]
        exact ⟨own_mono FIN.out.1.1 GQ.out.2.2.2, FIN.out.1.2.1, FIN.out.1.2.2⟩
      · have hjg : j < g := by
          rcases Nat.lt_or_ge j g with h4 | h4
          · exact h4
          · exact absurd (hid2.2 (by omega)) hu0
        have x3 : ¬ (u : Int) = 0 := by omega
        have x4 : ((u : Int) != 0) = true := by simpa using x3
        have STEP := Lib.hid (fun i hi => ri_step (i := i) HLEN.out hgn hjg e1 GQ.out.2.1 GQ.out.2.2.1 ho hbx hbel (HHF.out j) hy (Below.refl wr.heap.size wr) hu hv hu' hv' hi)
        have e3 : gb ≠ wr.heap.size := by omega
        have e4 : q ≠ wr.heap.size := by omega
        have e5 : wr.heap.size ≠ gb := by omega
        have e6 : wr.heap.size ≠ q := by omega
        clear ho hbx hbel hy hz hyz hu hv hu' hv' hid2 r3 s3 hu0 hrl m1 m2
        go_wp2_with fail
        go_roundg (g - (j + 1))
        case measure => omega
        case rel => exact (STEP.out _ (by rw [HZ.out])).alloc _
end Pr
end Go.Proofs.Ytommffcojbdldaa
