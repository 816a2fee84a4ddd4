/- Layers 6 and 7: the contract of records.Pack. -/
import Derived.Test.YtajkcghbdbjmaaaRpE
namespace Go.Proofs.Ytajkcghbdbjmaaa
open Go.RowKit
namespace Rc

/-- What Pack answers. -/
def PkRes (rs : List (List Nat)) (W : World) (e : Ending) (w : World) : Prop :=
  ((packE rs = 0 ∧ ∃ v, e = .returned (.tuple #[v, .int .i64 0]) ∧ w.ownsRow W.heap.size 5 1 v (packLen rs) (octets (packed rs))) ∨ (packE rs ≠ 0 ∧ e = .returned (.tuple #[.slice none 0 0, .int .i64 (packE rs : Nat)]))) ∧ Below W.heap.size W w
/-- The relation of its loop. -/
def PkR (rs : List (List Nat)) (m sb : Nat) (W : World) (t i : Value) (w : World) : Prop :=
  ∃ k : Nat, k ≤ m ∧ t = .int .i64 ((2 + 2 * m + sumTo (fun x => x) rs k : Nat) : Int) ∧ i = .int .i64 (k : Int) ∧ Blk sb (mask (packed rs) (laidB rs k)) w ∧ Below W.heap.size W w
theorem hszB : (Try.prog.info? 5).map (·.size) = some 1 := by kernel_rfl
theorem pk_step {rs : List (List Nat)} {m k sb l t : Nat} {W w2 : World} (hm : rs.length = m) (hk : k < m) (hl : (rc rs k).length = l) (ht : 2 + 2 * m + sumTo (fun x => x) rs k = t) (hsb : W.heap.size ≤ sb)
    (hg : w2.heap[sb]? = some (.cells (splice (octets (mask (packed rs) (laidB rs k))) t (octets (rc rs k))).toArray 5 (0, 0))) (hb : Below W.heap.size W w2) {a b : Nat} (ha : endOf rs k % 256 = a) (hb2 : endOf rs k / 256 = b) :
    (∀ i, w2.frozen? ⟨sb, i, none⟩ = false) ∧ (∀ i, i < packLen rs → ∃ x, w2.cell? ⟨sb, i, none⟩ = some (.int .u8 x)) ∧
    ∀ i, i = .int .i64 ((k + 1 : Nat) : Int) → PkR rs m sb W (.int .i64 ((t + l : Nat) : Int)) i ((w2.setCell ⟨sb, 2 + 2 * k, none⟩ (.int .u8 (a : Int))).setCell ⟨sb, 2 + 2 * k + 1, none⟩ (.int .u8 (b : Int))) := by
  subst hm ht
  rw [splice_octets, laid_rec hk hl] at hg
  have hB : Blk sb _ w2 := hg
  refine ⟨hB.free, fun i hi => ⟨_, hB.cell (by rw [mask_len, packed_len]; exact hi)⟩, fun i hi => ⟨k + 1, hk, by rw [sumTo_succ _ hk, hl]; exact congrArg _ (by omega), hi, ?_, ?_⟩⟩
  · have := (hB.set (2 + 2 * k) a).set (2 + 2 * k + 1) b
    rw [laid_ends hk ha hb2] at this
    exact this
  · exact (hb.setCell (by simpa using hsb) _).setCell (by simpa using hsb) _
set_option maxRecDepth 20000 in
set_option maxHeartbeats 3200000 in
theorem pack_any (rs : List (List Nat)) (A : Option Addr) (n c : Nat) (W : World) (h : RdRecs W A n rs) (hn : n ≤ 9223372036854775807) :
    Calls Try.prog 18 #[.slice A n c] W (PkRes rs W) := by
  have SZ := Lib.hid (size_any rs A n c W h hn)
  by_cases hp : packE rs = 0
  case neg =>
    obtain ⟨v, hv⟩ : ∃ v, packE rs = v := ⟨_, rfl⟩
    have HV := Lib.hid hv
    have HP := Lib.hid hp
    have hvi : ((v : Int) != 0) = true := by simp; omega
    clear h hv hp
    go_enter Try.func18, Try.ntmps18
    go_wp2_with fail
    refine SZ.out.mono ?_
    rintro e w ⟨rfl, rfl⟩
    rw [HV.out]
    go_wp2_with fail
    go_ret2
    exact ⟨.inr ⟨HP.out, by rw [HV.out]; rfl⟩, Below.refl _ _⟩
  have hf := fit_of hp
  have f1 := hf.pos
  have f2 := hf.le
  have f3 := hf.most
  have hsz : sizeN rs = packLen rs := by unfold sizeN; rw [if_pos hp]
  have hpl : packLen rs = 2 + 2 * rs.length + total rs := rfl
  have HL := Lib.hid h.len
  rw [h.len] at f1 f2 f3 hpl
  obtain ⟨N, hN⟩ : ∃ N, packLen rs = N := ⟨_, rfl⟩
  have HN := Lib.hid hN
  rw [hN] at hsz hpl
  have HSZ := Lib.hid hsz
  have HP := Lib.hid hp
  have H := Lib.hid h
  have hmk := run_make_row' (P := Try.prog) 22 5 (.int .u8 0) 1 Try.underlying22 infoB rfl .i64 .i64 N (by omega) (by omega)
  have hwn : IntKind.u8.wrap (n : Int) = (n : Int) := by
    have : n < 256 := by omega
    simp [IntKind.wrap, IntKind.bits, IntKind.signed]
    omega
  have hw2 : IntKind.i64.wrap (2 * (n : Int)) = 2 * (n : Int) := IntWalk.i64_in _ (by omega)
  obtain ⟨fr, hfr⟩ : ∃ fr, 2 + 2 * n = fr := ⟨_, rfl⟩
  have hw3 : IntKind.i64.wrap (2 + 2 * (n : Int)) = (fr : Int) := wrap64 (by omega) (by omega)
  have HFR := Lib.hid hfr
  have n0 : (0 : Int) < (N : Int) := by omega
  have n1 : 0 < N := by omega
  have HB0 := Lib.hid (blk_made W N)
  have hzero := HB0.out.cell (i := 0) (by simpa using n1)
  have hfree := HB0.out.free 0
  have HTOT := Lib.hid (show fr + total rs = N by omega)
  have hfr2 : fr ≤ 34 := by omega
  have hN2 : N ≤ 480 := by omega
  clear h hp hf hN hsz hfr hpl
  go_enter Try.func18, Try.ntmps18
  go_wp2_with fail
  refine SZ.out.mono ?_
  rintro e w ⟨rfl, rfl⟩
  rw [HP.out, HSZ.out]
  go_wp2_with fail
  obtain ⟨sb, hsb⟩ : ∃ sb, W.heap.size = sb := ⟨_, rfl⟩
  have hst : PkR rs n sb W (.int .i64 (fr : Int)) (.int .i64 0) (W.alloc (.cells ((madeCells #[.int .u8 0] N).setIfInBounds 0 (.int .u8 (n : Int))) 5)) := by
    rw [← World.setCell_alloc_at _ _ W.heap.size 0 _ rfl]
    refine ⟨0, by omega, by rw [HFR.out, sumTo_zero]; rfl, rfl, ?_, ?_⟩
    · rw [laid_start, HN.out, H.out.len, ← hsb]
      exact HB0.out.set 0 n
    · exact ((Below.refl _ _).alloc (Nat.le_refl _) _).setCell (by simp) _
  have HST := Lib.hid hst
  have HSB := Lib.hid hsb
  rw [hsb]
  clear hst hsb hzero hfree
  go_loopw [8, 34] (PkR rs n sb W) (fun _ i _ => n - (intOf i).toNat)
  case atStart => exact HST.out
  case round =>
    obtain ⟨k, hk, rfl, rfl, hB, hbel⟩ := hrel
    by_cases hkn : k < n
    · have HK := Lib.hid (show k < rs.length by rw [HL.out]; exact hkn)
      obtain ⟨b, off, A', l, c', rfl, hl, hc, hr, _, hlc, hcm, hnone⟩ := (H.out.below hbel).at hkn
      have hfull := sumTo_full (fun x => x) rs HK.out
      change _ ≤ total rs at hfull
      have htot := HTOT.out
      rw [HFR.out]
      obtain ⟨s, hs⟩ : ∃ s, sumTo (fun x => x) rs k = s := ⟨_, rfl⟩
      have HS := Lib.hid hs
      have hsum : sumTo (fun x => x) rs (k + 1) = s + l := by rw [sumTo_succ _ HK.out, hs, hl]
      rw [hsum] at hfull
      rw [hs]
      obtain ⟨t, ht⟩ : ∃ t, fr + s = t := ⟨_, rfl⟩
      have HT := Lib.hid ht
      rw [ht]
      have hend : endOf rs k = s + l := by unfold endOf; rw [hsum]
      obtain ⟨e, he⟩ : ∃ e, s + l = e := ⟨_, rfl⟩
      rw [he] at hend
      obtain ⟨a, ha⟩ : ∃ a, e % 256 = a := ⟨_, rfl⟩
      obtain ⟨d, hd⟩ : ∃ d, e / 256 = d := ⟨_, rfl⟩
      have hfrn := HFR.out
      have hte : t + l ≤ N := by omega
      obtain ⟨t2, ht2⟩ : ∃ t2, t + l = t2 := ⟨_, rfl⟩
      obtain ⟨k2, hk2⟩ : ∃ k2, 2 * k = k2 := ⟨_, rfl⟩
      obtain ⟨p, hp⟩ : ∃ p, 2 + 2 * k = p := ⟨_, rfl⟩
      obtain ⟨q, hq⟩ : ∃ q, p + 1 = q := ⟨_, rfl⟩
      have hz1 : IntKind.i64.wrap ((t : Int) + (l : Int)) = (t2 : Int) := wrap64 (by omega) (by omega)
      have hz2 : IntKind.i64.wrap ((t2 : Int) - (fr : Int)) = (e : Int) := wrap64 (by omega) (by omega)
      have hz3 : IntKind.i64.wrap (2 * (k : Int)) = (k2 : Int) := wrap64 (by omega) (by omega)
      have hz4 : IntKind.i64.wrap (2 + (k2 : Int)) = (p : Int) := wrap64 (by omega) (by omega)
      have hz5 : IntKind.i64.wrap ((p : Int) + 1) = (q : Int) := wrap64 (by omega) (by omega)
      have y1 : (0 : Int) ≤ (p : Int) := by omega
      have y2 : (p : Int) < (N : Int) := by omega
      have y3 : (0 : Int) ≤ (q : Int) := by omega
      have y4 : (q : Int) < (N : Int) := by omega
      have y5 : p < N := by omega
      have y6 : q < N := by omega
      have y7 : p ≠ q := by omega
      have HT2 := Lib.hid ht2
      have HPP := Lib.hid hp
      have HQQ := Lib.hid hq
      obtain ⟨X, hX⟩ : ∃ X, octets (rc rs k) = X := ⟨_, rfl⟩
      have hXl : X.length = l := by rw [← hX, octets_len, hl]
      have HPOS := Lib.hid (show ∀ dp : Option Addr, (0 < l → dp = some ⟨sb, t, none⟩) → 0 < X.length → dp = some ⟨sb, t, none⟩ ∧ ∃ ad, A' = some ad ∧ ∀ j v, X[j]? = some v → wr.cell? (ad.add j) = some v from fun dp hdp h0 => by
        obtain ⟨b2, o2, e2, _, hc2⟩ := hr (by rw [hX]; exact h0)
        refine ⟨hdp (by omega), _, e2, fun j v hj => ?_⟩
        rw [Mem.add_none, hc2 j (by rw [hX]; exact (List.getElem?_eq_some_iff.1 hj).1), hX]
        exact hj)
      have HONE := Lib.hid (show ∀ v ∈ X, v.oneCell' = true by rw [← hX]; exact one_octets _)
      have HXL := Lib.hid hXl
      have HSTEP := Lib.hid (fun w2 (hg : w2.heap[sb]? = some (.cells (splice (octets (mask (packed rs) (laidB rs k))) t X).toArray 5 (0, 0))) hb => pk_step (rs := rs) (a := a) (b := d) (k := k) (sb := sb) (l := l) (t := t) (W := W) (w2 := w2) HL.out hkn hl (by rw [HFR.out, HS.out, HT.out]) (by rw [HSB.out]; exact Nat.le_refl _) (by rw [hX]; exact hg) hb (by rw [hend]; exact ha) (by rw [hend]; exact hd))
      rw [hp, hq, ht2, HN.out] at HSTEP
      have x1 : (e : Int) % 256 = (a : Int) := by omega
      have x2 : (e : Int) / 256 = (d : Int) := by omega
      have x3 : (d : Int) % 256 = (d : Int) := by omega
      have HBL := Lib.hid (show wr.heap[sb]? = _ from hB)
      have HCL := Lib.hid (show (octets (mask (packed rs) (laidB rs k))).length = N by rw [octets_len, mask_len, packed_len, HN.out])
      obtain ⟨cur, hcur⟩ : ∃ cur, octets (mask (packed rs) (laidB rs k)) = cur := ⟨_, rfl⟩
      rw [hcur] at HSTEP HBL HCL
      have HBEL := Lib.hid hbel
      have hk0 : (0 : Int) ≤ (k : Int) := by omega
      have hk1 : (k : Int) < (n : Int) := by omega
      have g0 : (0 : Int) ≤ (t : Int) := by omega
      have g1 : (t : Int) ≤ (N : Int) := by omega
      have g2 : t ≤ N := by omega
      clear hfrn ht2 hk2 hp hq hX hXl hl hr hnone hB hbel hs ht hend he ha hd hcur hsum hfull htot
      by_cases htn : N = t
      · subst htn
        have hl0 : l ≤ 0 := by omega
        go_wp2_with ((with_reducible refine wpList_copy_splice rfl (.tmp 42) (.tmp 43) 22 22 rfl 5 Try.underlying22 hszB (some ⟨sb, 0, none⟩) A' 0 0 l c' rfl rfl sb N cur 5 HBL.out X (by rw [HXL.out]; exact (Nat.min_eq_left (by omega)).symm) (fun h0 => absurd h0 (by rw [HXL.out]; omega)) (by rw [HXL.out, HCL.out]; omega) HONE.out W.heap.size W HBEL.out (by rw [HSB.out]; exact Nat.le_refl _) ?_); intro w2 HG2 hB2; rw [HXL.out]; obtain ⟨F, C, ST⟩ := HSTEP.out w2 HG2.out hB2; have fp := F p; have fq := F q; obtain ⟨v1, c1⟩ := C p y5; obtain ⟨v2, c2⟩ := C q y6; have c3 : (w2.setCell ⟨sb, p, none⟩ (.int .u8 (a : Int))).cell? ⟨sb, q, none⟩ = some (.int .u8 v2) := (by rw [World.cell?_setCell_other]; exact c2; exact (fun e => y7 (by injection e))); have STEP := Lib.hid ST; clear F C ST HG2 hB2)
        go_roundw
        case rel => exact STEP.out _ (by go_num)
        case measure => simp [intOf]; omega
      · have hgd2 : ¬ (N - t = 0) := by omega
        go_wp2_with ((with_reducible refine wpList_copy_splice rfl (.tmp 42) (.tmp 43) 22 22 rfl 5 Try.underlying22 hszB (some ⟨sb, t, none⟩) A' (N - t) (N - t) l c' rfl rfl sb t cur 5 HBL.out X (by rw [HXL.out]; exact (Nat.min_eq_left (by omega)).symm) (HPOS.out _ (fun _ => rfl)) (by rw [HXL.out, HCL.out]; omega) HONE.out W.heap.size W HBEL.out (by rw [HSB.out]; exact Nat.le_refl _) ?_); intro w2 HG2 hB2; rw [HXL.out]; obtain ⟨F, C, ST⟩ := HSTEP.out w2 HG2.out hB2; have fp := F p; have fq := F q; obtain ⟨v1, c1⟩ := C p y5; obtain ⟨v2, c2⟩ := C q y6; have c3 : (w2.setCell ⟨sb, p, none⟩ (.int .u8 (a : Int))).cell? ⟨sb, q, none⟩ = some (.int .u8 v2) := (by rw [World.cell?_setCell_other]; exact c2; exact (fun e => y7 (by injection e))); have STEP := Lib.hid ST; clear F C ST HG2 hB2)
        go_roundw
        case rel => exact STEP.out _ (by go_num)
        case measure => simp [intOf]; omega
    · obtain rfl : n = k := by omega
      have hown := hB
      rw [← HL.out, laid_end] at hown
      have HOWN := Lib.hid (hown.own (B := W.heap.size) (n := N) (by rw [HSB.out]; exact Nat.le_refl _) (by rw [packed_len, HN.out]) (by simp only [maxLen]; omega))
      have HBEL := Lib.hid hbel
      clear hown hB hbel
      go_wp2_with fail
      go_ret2
      exact ⟨.inl ⟨HP.out, _, rfl, by rw [HN.out]; exact HOWN.out⟩, HBEL.out⟩
end Rc
end Go.Proofs.Ytajkcghbdbjmaaa
