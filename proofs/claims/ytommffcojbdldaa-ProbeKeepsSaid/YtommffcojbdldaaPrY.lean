/- Layer 19: the contract of the document's Delete. -/
import Derived.Test.YtommffcojbdldaaPrX
namespace Go.Proofs.Ytommffcojbdldaa
open Go.RowKit
namespace Pr

/-- What the document's Delete answers. -/
def RdRes (t : Tab) (n id : Nat) (h : Int) (W : World) (e : Ending) (w : World) : Prop :=
  ((∃ a A c, delE t n id h = 0 ∧ fnd t n id h.toNat = some a ∧ e = .returned (.tuple #[.slice A n c, .int .i64 0]) ∧ OwnR w W.heap.size A n c (delT t n a)) ∨ (delE t n id h ≠ 0 ∧ e = .returned (.tuple #[.slice none 0 0, .int .i64 (delE t n id h : Nat)]))) ∧ Below W.heap.size W w
/-- The relation of its loop. -/
def RdI (t : Tab) (n a m B c : Nat) (A : Option Addr) (W : World) (G : Nat) (x i : Value) (w : World) : Prop :=
  ∃ s : Nat, s ≤ m ∧ G = m - s ∧ x = .int .i64 (((a + s) % n : Nat) : Int) ∧ i = .int .i64 ((s + 1 : Nat) : Int) ∧ OwnR w B A n c (delS t n a s) ∧ Below W.heap.size W w
set_option maxRecDepth 100000 in
set_option maxHeartbeats 6400000 in
theorem refdelete_any (t : Tab) (A : Option Addr) (n c id : Nat) (h : Int) (W : World) (hr : RdT W A n t) (hn : n ≤ 100000) :
    Calls Try.prog 15 #[.slice A n c, .int .u32 (id : Int), .int .i64 h] W (RdRes t n id h W) := by
  have bad : ∀ (v : Nat) w, v ≠ 0 → delE t n id h = v → Below W.heap.size W w → RdRes t n id h W (.returned (.tuple #[.slice none 0 0, .int .i64 (v : Int)])) w := fun v w hv he hb => ⟨.inr ⟨by omega, by rw [he]⟩, hb⟩
  have BAD := Lib.hid bad
  clear bad
  by_cases h0 : id = 0
  · have hb := beg_a (t := t) (n := n) (h := h) h0
    have HE := Lib.hid ((delE_a (by omega)).trans hb)
    have x1 : (id : Int) = 0 := by omega
    clear hr h0 hb
    go_enter Try.func15, Try.ntmps15
    go_wp2_with fail
    go_ret2
    exact BAD.out 2 _ (by decide) HE.out (Below.refl _ _)
  have x1 : ¬ (id : Int) = 0 := by omega
  have x2 : ((id : Int) == 0) = false := by simpa using x1
  by_cases hh1 : h < 0
  · have hb := beg_b (t := t) (id := id) (in_neg (n := n) hh1)
    have HE := Lib.hid ((delE_a (by omega)).trans hb)
    clear hr h0 hb
    go_enter Try.func15, Try.ntmps15
    go_wp2_with fail
    go_ret2
    exact BAD.out 2 _ (by decide) HE.out (Below.refl _ _)
  by_cases hh2 : (n : Int) ≤ h
  · have hb := beg_b (t := t) (id := id) (in_big (n := n) hh2)
    have HE := Lib.hid ((delE_a (by omega)).trans hb)
    have hh1' : ¬ h < 0 := hh1
    clear hr h0 hb
    go_enter Try.func15, Try.ntmps15
    go_wp2_with fail
    go_ret2
    exact BAD.out 2 _ (by decide) HE.out (Below.refl _ _)
  have hi := in_ok hh1 hh2
  have RI := Lib.hid (refright_any t A n c W hr hn)
  unfold RrRes at RI
  have hh1' : ¬ h < 0 := hh1
  have hh2' : ¬ (n : Int) ≤ h := hh2
  cases hrt : rightB t with
  | false =>
    have hb := beg_c h0 hi hrt
    have HE := Lib.hid ((delE_a (by omega)).trans hb)
    rw [hrt] at RI
    clear hr h0 hi hrt hb
    go_enter Try.func15, Try.ntmps15
    go_wp2_with fail
    refine RI.out.mono ?_
    rintro e w1 ⟨rfl, q1⟩
    have B1 := Lib.hid (q1.below (B := W.heap.size))
    clear q1
    go_wp2_with fail
    go_ret2
    exact BAD.out 4 _ (by decide) HE.out B1.out
  | true =>
  rw [hrt] at RI
  have hb := beg_d h0 hi hrt
  obtain ⟨H, hH⟩ : ∃ H : Nat, h = (H : Int) := ⟨h.toNat, by omega⟩
  subst hH
  have hth : ((H : Int)).toNat = H := by omega
  have hfin : fin t n id (H : Int) = fnd t n id H := by unfold fin; rw [if_pos hb, hth]
  have FI := Lib.hid (fun w (hq : Mem.QQ W w) => reffind_any t A n c id (H : Int) w (hr.below (hq.below (B := W.heap.size))) hn)
  rw [hfin] at FI
  have hHn : H < n := by omega
  have hn0 : 0 < n := by omega
  cases hf : fnd t n id H with
  | none =>
    have HE := Lib.hid (delE_b hb (by rw [hth]; exact hf))
    rw [hf] at FI
    clear hr h0 hi hrt hb hf hth hfin
    go_enter Try.func15, Try.ntmps15
    go_wp2_with fail
    refine RI.out.mono ?_
    rintro e w1 ⟨rfl, q1⟩
    have Q1 := Lib.hid q1
    clear q1
    go_wp2_with fail
    refine (FI.out _ Q1.out).mono ?_
    rintro e w2 ⟨rfl, q2⟩
    simp only [fndI, Option.isSome_none]
    have B2 := Lib.hid ((Q1.out.trans q2).below (B := W.heap.size))
    clear q2
    go_wp2_with fail
    go_ret2
    exact BAD.out 7 _ (by decide) HE.out B2.out
  | some a =>
    have HE := Lib.hid (delE_c (a := a) hb (by rw [hth]; exact hf))
    have HF := Lib.hid hf
    rw [hf] at FI
    have hkb : knownB t = true := by
      unfold rightB at hrt
      rw [Bool.and_eq_true] at hrt
      exact hrt.1
    have han := fnd_lt hf
    obtain ⟨m, hm⟩ := dp_some (t := t) (a := a) hn0
    obtain ⟨hmn, hm1, hm2⟩ := fst_of hm
    have hT : delT t n a = delS t n a m := by unfold delT delM delS; rw [hm]; rfl
    have HT := Lib.hid hT
    have hdp : ∀ s, s + 1 < n → dp t n a s = (decide ((cl t ((a + (s + 1)) % n)).1 = 0) || decide (D n (cl t ((a + (s + 1)) % n)).2 (((a + (s + 1)) % n : Nat) : Int) = 0)) := fun s hs => by
      unfold dp
      rw [show a + 1 + s = a + (s + 1) by omega, nz_iff hr.len hkb (Nat.mod_lt _ hn0), show decide (s = n - 1) = false by simp; omega, Bool.false_or]
      simp
    have HM := Lib.hid (show ∀ s, s ≤ m → s + 1 < n → (dp t n a s = true ↔ s = m) from fun s hs _ => by
      rcases Nat.lt_or_ge s m with h4 | h4
      · rw [hm2 s h4]
        exact ⟨(fun e => by cases e), fun e => by omega⟩
      · obtain rfl : s = m := by omega
        exact ⟨fun _ => rfl, fun _ => hm1⟩)
    have HDP := Lib.hid hdp
    have HLEN := Lib.hid hr.len
    have HL := Lib.hid (fun w (hb : Below W.heap.size W w) => (hr.below hb).lie)
    have HCN := Lib.hid (show (cels t).length = n * 2 by rw [cels_len, hr.len])
    have HFI := Lib.hid hr.fine
    obtain ⟨i0, hi0, hz0, hz1, hz2⟩ := info_at infoR
    have I0 := Lib.hid hi0
    have I1 := Lib.hid hz0
    have I2 := Lib.hid hz1
    have I3 := Lib.hid hz2
    obtain ⟨Tc, hTc⟩ : ∃ Tc, cels t = Tc := ⟨_, rfl⟩
    have HO1 := Lib.hid (show ∀ u ∈ Tc, u.oneCell' = true by rw [← hTc]; exact one_cels t)
    rw [hTc] at HL HCN
    have HTC := Lib.hid hTc
    have q2 : (0 : Int) ≤ (a : Int) := by omega
    have q3 : (a : Int) < (n : Int) := by omega
    clear hr h0 hi hrt hb hf hth hfin hkb hm hm1 hm2 hT hdp hi0 hz0 hz1 hz2 hTc
    go_enter Try.func15, Try.ntmps15
    go_wp2_with fail
    refine RI.out.mono ?_
    rintro e w0 ⟨rfl, q1⟩
    have Q1 := Lib.hid q1
    clear q1
    go_wp2_with fail
    refine (FI.out _ Q1.out).mono ?_
    rintro e w1 ⟨rfl, q1⟩
    simp only [fndI, Option.isSome_some]
    have BQ := Lib.hid ((Q1.out.trans q1).below (B := W.heap.size))
    have BQA := Lib.hid (BQ.out.alloc BQ.out.size (.cells #[] 51))
    clear q1
    go_wp2_with (at_builtin; refine wpList_append_lie _ rfl (.tmp 37) (.tmp 38) 22 rfl w1.heap.size 51 i0 (.agg #[.int .u32 0, .int .i64 0]) 2 16 Try.underlying22 I0.out I1.out I2.out I3.out rfl (by decide) (.slice (some ⟨w1.heap.size, 0, none⟩) 0 0) 0 [] rfl (own_zero w1 51 2) A n c Tc rfl HCN.out (HL.out _ BQA.out) HO1.out (by simp only [maxLen]; omega) (by omega) (by simp) ?_; intro v3 w3 hown3 hg3 _; simp only [Nat.zero_add, List.nil_append] at hown3; obtain ⟨A3, c3, rfl, _⟩ := Mem.own_shape hown3; have O3 := Lib.hid hown3; have B13 := Lib.hid (((Below.refl w1.heap.size w1).alloc (Nat.le_refl _) _).grown hg3 (by simp) (by simp [Value.ownBlock])); obtain ⟨gb, cc, hA3, hgb, hgl⟩ := O3.out.form hn0; injection hA3 with hA3 _ hcc; obtain rfl : c3 = cc := hcc; subst hA3; have OW := Lib.hid (show OwnR w3 w1.heap.size (some ⟨gb, 0, none⟩) n c3 t from ⟨by rw [HTC.out]; exact O3.out, HLEN.out, HFI.out⟩); obtain ⟨r1, r2, r3, r4⟩ := OW.out.cells han; have f1 := r3 (a * 2); have f2 := r3 (a * 2 + 1); have GB := Lib.hid (Nat.le_trans BQ.out.size hgb); clear hown3 hg3 hgb hgl r3)
    have HP0 := Lib.hid (show OwnR ((w3.setCell ⟨gb, a * 2, none⟩ (.int .u32 0)).setCell ⟨gb, a * 2 + 1, none⟩ (.int .i64 0)) w1.heap.size (some ⟨gb, 0, none⟩) n c3 (delS t n a 0) from by
      have := OW.out.put han (p := (0, 0)) ⟨by decide, by unfold I64; decide⟩
      rw [delS_zero, Nat.mod_eq_of_lt han]
      exact this)
    go_loopg [8, 11] m (fun G x i w => RdI t n a m w1.heap.size c3 (some ⟨gb, 0, none⟩) W G x i w)
    case atStart =>
      refine ⟨0, by omega, by omega, by rw [Nat.add_zero, Nat.mod_eq_of_lt han], rfl, HP0.out, ?_⟩
      exact ((below_next BQ.out B13.out).setCell (by simpa using GB.out) _).setCell (by simpa using GB.out) _
    case round =>
      obtain ⟨s, hs, rfl, rfl, rfl, ho, hbel⟩ := hrel
      obtain ⟨y, hy⟩ : ∃ y, (a + s) % n = y := ⟨_, rfl⟩
      have hyn : y < n := by rw [← hy]; exact Nat.mod_lt _ hn0
      obtain ⟨c1, c2, c3', c4⟩ := ho.cells hyn
      have f1 := c3' (y * 2)
      have f2 := c3' (y * 2 + 1)
      have q2 : (0 : Int) ≤ (y : Int) := by omega
      have q3 : (y : Int) < (n : Int) := by omega
      have HFIN := Lib.hid (show s = m → RdRes t n id H W (.returned (.tuple #[.slice (some ⟨gb, 0, none⟩) n c3, .int .i64 0])) wr from fun e => by
        refine ⟨.inl ⟨a, _, _, HE.out, by rw [show ((H : Int)).toNat = H by omega]; exact HF.out, rfl, ?_⟩, hbel⟩
        rw [HT.out, ← e]
        exact ⟨own_mono ho.1 BQ.out.size, ho.2.1, ho.2.2⟩)
      rw [hy]
      by_cases hsn : s + 1 < n
      · obtain ⟨z, hz⟩ : ∃ z, (a + (s + 1)) % n = z := ⟨_, rfl⟩
        have hzn : z < n := by rw [← hz]; exact Nat.mod_lt _ hn0
        have hyz : (y + 1) % n = z := by rw [← hz, ← hy, Nat.mod_add_mod, Nat.add_assoc]
        obtain ⟨m1, m2, m3, m4, _⟩ := modw hn0 hyz
        have m1' : ((y : Int) + 1).tmod (n : Int) = (z : Int) := by rw [← m1]; norm_cast
        have m2' : ((y : Int) + 1) % (n : Int) = (z : Int) := by rw [← m2]; norm_cast
        have hwy : IntKind.i64.wrap ((y : Int) + 1) = (y : Int) + 1 := IntWalk.i64_in _ (by omega)
        have hrl : cl (delS t n a s) z = cl t z := by
          rw [← hz, delS_at HLEN.out (by omega) hsn, if_neg (by omega), if_neg (by omega)]
        obtain ⟨d1, d2, d3, d4⟩ := ho.cells hzn
        have f3 := d3 (z * 2)
        have f4 := d3 (z * 2 + 1)
        have hf := reffar_any (delS t n a s) (some ⟨gb, 0, none⟩) n c3 z wr ho.rd hn hzn
        rw [hrl] at d1 d2 hf
        have hM := HM.out s hs hsn
        rw [HDP.out s hsn, hz] at hM
        obtain ⟨p, hp⟩ : ∃ p, cl t z = p := ⟨_, rfl⟩
        obtain ⟨u, v⟩ := p
        rw [hp] at d1 d2 hf hM
        obtain ⟨d, hd⟩ : ∃ d, D n v (z : Int) = d := ⟨_, rfl⟩
        simp only [hd] at hf hM
        simp only at d1 d2
        have FAR := Lib.hid hf
        have z2 : (0 : Int) ≤ (z : Int) := by omega
        have z3 : (z : Int) < (n : Int) := by omega
        have hsn' : ((s + 1 : Nat) : Int) < (n : Int) := by omega
        have hne : y ≠ z := fun e0 => by
          have := pos_inj (n := n) (a := a) (i := s) (j := s + 1) (by omega) hsn (by rw [hy, hz, e0])
          omega
        have n1 : z * 2 ≠ y * 2 := by omega
        have n2 : z * 2 ≠ y * 2 + 1 := by omega
        have n3 : z * 2 + 1 ≠ y * 2 := by omega
        have n4 : z * 2 + 1 ≠ y * 2 + 1 := by omega
        have n5 : z * 2 + 1 ≠ z * 2 := by omega
        have STEP := Lib.hid (fun (i : Value) (hi : i = .int .i64 ((s + 1 + 1 : Nat) : Int)) (hlt : s < m) => show RdI t n a m w1.heap.size c3 (some ⟨gb, 0, none⟩) W (m - (s + 1)) (.int .i64 (z : Int)) i ((((wr.setCell ⟨gb, y * 2, none⟩ (.int .u32 (u : Int))).setCell ⟨gb, y * 2 + 1, none⟩ (.int .i64 v)).setCell ⟨gb, z * 2, none⟩ (.int .u32 0)).setCell ⟨gb, z * 2 + 1, none⟩ (.int .i64 0)) from by
          have o1 := ho.put (p := (u, v)) hyn (by rw [← hp]; exact HFI.out.at z)
          have o2 := o1.put (p := (0, 0)) hzn ⟨by decide, by unfold I64; decide⟩
          refine ⟨s + 1, hlt, rfl, by rw [hz], hi, ?_, ?_⟩
          · rw [← delS_step HLEN.out hsn, hz, hy, hrl, hp]
            exact o2
          · exact ((((hbel.setCell (by simpa using GB.out) _).setCell (by simpa using GB.out) _).setCell (by simpa using GB.out) _).setCell (by simpa using GB.out) _))
        by_cases hu0 : u = 0
        · have e := hM.1 (by simp [hu0])
          have x3 : (u : Int) = 0 := by omega
          clear ho hbel hf hM hy hz hyz hp hd c3' d3 m1 m2 hrl STEP
          go_wp2_with fail
          go_ret2
          exact HFIN.out e
        · have x3 : ¬ (u : Int) = 0 := by omega
          have x4 : ((u : Int) == 0) = false := by simpa using x3
          by_cases hd0 : d = 0
          · have e := hM.1 (by simp [hd0])
            clear ho hbel hf hM hy hz hyz hp hd c3' d3 m1 m2 hrl STEP
            go_wp2_with fail
            refine FAR.out.mono ?_
            rintro e0 w1 ⟨rfl, rfl⟩
            go_wp2_with fail
            go_ret2
            exact HFIN.out e
          · have hlt : s < m := by
              rcases Nat.lt_or_ge s m with h4 | h4
              · exact h4
              · have := hM.2 (by omega)
                simp [hu0, hd0] at this
            clear ho hbel hf hM hy hz hyz hp hd c3' d3 m1 m2 hrl
            go_wp2_with fail
            refine FAR.out.mono ?_
            rintro e0 w1 ⟨rfl, rfl⟩
            go_wp2_with fail
            go_roundg (m - (s + 1))
            case measure => omega
            case rel => exact STEP.out _ rfl hlt
      · have e : s = m := by omega
        have hsn' : ¬ ((s + 1 : Nat) : Int) < (n : Int) := by omega
        clear ho hbel hy c3'
        go_wp2_with fail
        go_ret2
        exact HFIN.out e
end Pr
end Go.Proofs.Ytommffcojbdldaa
