/- Layers 6 and 7: the contract of the document's Pack. -/
import Derived.Test.YtppahidjiiehkaaRpF
namespace Go.Proofs.Ytppahidjiiehkaa
open Go.RowKit
namespace Rc

/-- Two rows of the call's own, in blocks of their own. -/
structure Two (w : World) (B : Nat) (u v : Value) (n m : Nat) (xs ys : List Value) : Prop where
  fst : w.ownsRow B 5 1 u n xs
  snd : w.ownsRow B 5 1 v m ys
  ap : ∀ q, u.ownBlock = some q → v.ownBlock ≠ some q
section
variable {w w1 : World} {B n m k : Nat} {u v x : Value} {xs ys zs : List Value}
theorem Two.swap (h : Two w B u v n m xs ys) : Two w B v u m n ys xs := ⟨h.snd, h.fst, fun q e1 e2 => h.ap q e2 e1⟩
theorem Two.alloc (h : Two w B u v n m xs ys) (o : Obj) : Two (w.alloc o) B u v n m xs ys := ⟨h.fst.alloc o, h.snd.alloc o, h.ap⟩
theorem Two.below (h : Two w B u v n m xs ys) (hb : Below w.heap.size w w1) : Two w1 B u v n m xs ys := ⟨Mem.own_below h.fst hb, Mem.own_below h.snd hb, h.ap⟩
/-- The second one has grown. -/
theorem Two.grow (h : Two w B u v n m xs ys) (ho : w1.ownsRow B 5 1 x k zs) (hg : w.grownBy w1 v.ownBlock) (hx : x.ownBlock = v.ownBlock ∨ x.ownBlock = some w.heap.size) : Two w1 B u x n k xs zs := by
  refine ⟨h.fst.kept hg ?_, ho, fun q hq => ?_⟩
  · cases he : u.ownBlock with
    | none => exact .inl rfl
    | some q => exact .inr fun e => h.ap q he e.symm
  · rcases hx with hx | hx
    · rw [hx]
      exact h.ap q hq
    · rw [hx]
      intro e
      injection e with e
      have := (own_lt h.fst q hq).2
      omega
end
/-- The relation of its loop. -/
def RkR (rs : List (List Nat)) (n : Nat) (W : World) (u v i : Value) (w : World) : Prop :=
  ∃ k : Nat, k ≤ n ∧ i = .int .i64 (k : Int) ∧ Two w W.heap.size u v (2 + 2 * k) (sumTo (fun x => x) rs k) (octets ([n, 0] ++ heads rs k)) (octets (rs.take k).flatten) ∧ Below W.heap.size W w
theorem rd_two (w : World) (a b : Nat) : Mem.Rd (w.alloc (.cells #[.int .u8 (a : Int), .int .u8 (b : Int)] 5)) (some ⟨w.heap.size, 0, none⟩) (octets [a, b]) := fun _ =>
  ⟨w.heap.size, 0, rfl, by simp, fun i hi => by
    match i, hi with
    | 0, _ => simp [World.cell?_alloc_new, octets]
    | 1, _ => simp [World.cell?_alloc_new, octets]⟩
theorem two_start (W : World) (n : Nat) : Two (W.alloc (.cells #[.int .u8 (n : Int), .int .u8 0] 5)) W.heap.size (.slice (some ⟨W.heap.size, 0, none⟩) 2 2) (.slice none 0 0) 2 0 (octets [n, 0]) [] := by
  have hb : Blk W.heap.size [n, 0] (W.alloc (.cells #[.int .u8 (n : Int), .int .u8 0] 5)) := by
    unfold Blk
    rw [heap_alloc_new]
    rfl
  exact ⟨hb.own (Nat.le_refl _) rfl (by decide), World.ownsRow_nil _ _ _ _, fun q _ e => by cases e⟩
theorem rk_step {rs : List (List Nat)} {n k e a d : Nat} {W w w1 w2 : World} {u v v1 u2 : Value} (hn : rs.length = n) (hk : k < n) (he : endOf rs k = e) (ha : e % 256 = a) (hd : e / 256 = d)
    (hT : Two w W.heap.size u v (2 + 2 * k) (sumTo (fun x => x) rs k) (octets ([n, 0] ++ heads rs k)) (octets (rs.take k).flatten)) (hB : Below W.heap.size W w)
    (ho1 : w1.ownsRow W.heap.size 5 1 v1 e (octets (rs.take k).flatten ++ octets (rc rs k))) (hg1 : w.grownBy w1 v.ownBlock) (hx1 : v1.ownBlock = v.ownBlock ∨ v1.ownBlock = some w.heap.size)
    (ho2 : w2.ownsRow W.heap.size 5 1 u2 (2 + 2 * k + 2) (octets ([n, 0] ++ heads rs k) ++ octets [a, d])) (hg2 : (w1.alloc (.cells #[.int .u8 (a : Int), .int .u8 (d : Int)] 5)).grownBy w2 u.ownBlock)
    (hx2 : u2.ownBlock = u.ownBlock ∨ u2.ownBlock = some (w1.alloc (.cells #[.int .u8 (a : Int), .int .u8 (d : Int)] 5)).heap.size) (i : Value) (hi : i = .int .i64 ((k + 1 : Nat) : Int)) : RkR rs n W u2 v1 i w2 := by
  subst hn
  have T1 := (hT.grow ho1 hg1 hx1).alloc (.cells #[.int .u8 (a : Int), .int .u8 (d : Int)] 5)
  have T2 := (T1.swap.grow ho2 hg2 hx2).swap
  refine ⟨k + 1, hk, hi, ?_, ?_⟩
  · rw [← octets_app, ← octets_app] at T2
    rw [take_rc hk, heads_succ, he, ha, hd, List.flatten_append]
    have e1 : sumTo (fun x => x) rs (k + 1) = e := he
    rw [e1, show 2 + 2 * (k + 1) = 2 + 2 * k + 2 by omega, ← List.append_assoc]
    simpa using T2
  · exact ((hB.grown hg1 hB.size (own_ge hT.snd)).alloc (by have := hB.grown hg1 hB.size (own_ge hT.snd); exact this.size) _).grown hg2 (by have := (hB.grown hg1 hB.size (own_ge hT.snd)).size; simp; omega) (own_ge hT.fst)
set_option maxRecDepth 20000 in
set_option maxHeartbeats 3200000 in
theorem refpack_any (rs : List (List Nat)) (A : Option Addr) (n c : Nat) (W : World) (h : RdRecs W A n rs) (hn : n ≤ 9223372036854775807) :
    Calls Try.prog 11 #[.slice A n c] W (PkRes rs W) := by
  have SZ := Lib.hid (refsize_any rs A n c W h hn)
  by_cases hp : packE rs = 0
  case neg =>
    obtain ⟨v, hv⟩ : ∃ v, packE rs = v := ⟨_, rfl⟩
    have HV := Lib.hid hv
    have HP := Lib.hid hp
    have hvi : ((v : Int) != 0) = true := by simp; omega
    clear h hv hp
    go_enter Try.func11, Try.ntmps11
    go_wp2_with fail
    refine SZ.out.mono ?_
    rintro e w ⟨rfl, rfl⟩
    rw [HV.out]
    go_wp2_with fail
    go_ret2
    exact ⟨.inr ⟨HP.out, by rw [HV.out]; rfl⟩, Below.refl _ _⟩
  have hf := fit_of hp
  have f1 := hf.pos
  have f2 := hf.le
  have f3 := hf.most
  have HL := Lib.hid h.len
  rw [h.len] at f1 f2 f3
  have HP := Lib.hid hp
  have H := Lib.hid h
  have hwn : IntKind.u8.wrap (n : Int) = (n : Int) := by
    have : n < 256 := by omega
    simp [IntKind.wrap, IntKind.bits, IntKind.signed]
    omega
  obtain ⟨tot, htot⟩ : ∃ tot, total rs = tot := ⟨_, rfl⟩
  have HTOT := Lib.hid htot
  rw [htot] at f3
  obtain ⟨i0, hi0, hz0, hz1, hz2⟩ := info_at infoB
  have I0 := Lib.hid hi0
  have I1 := Lib.hid hz0
  have I2 := Lib.hid hz1
  have I3 := Lib.hid hz2
  clear h hp hf htot hi0 hz0 hz1 hz2
  go_enter Try.func11, Try.ntmps11
  go_wp2_with fail
  refine SZ.out.mono ?_
  rintro e w ⟨rfl, rfl⟩
  rw [HP.out]
  go_wp2_with fail
  go_loopw [6, 7, 8] (RkR rs n W) (fun _ _ i _ => n - (intOf i).toNat)
  case atStart => exact ⟨0, by omega, rfl, two_start W n, (Below.refl _ _).alloc (Nat.le_refl _) _⟩
  case round =>
    obtain ⟨k, hk, rfl, hT, hbel⟩ := hrel
    obtain ⟨Ad, od, rfl, hdl⟩ := Mem.own_shape hT.snd
    obtain ⟨Ab, ob, rfl, hbl⟩ := Mem.own_shape hT.fst
    by_cases hkn : k < n
    · have HK := Lib.hid (show k < rs.length by rw [HL.out]; exact hkn)
      obtain ⟨b, off, A', l, c', rfl, hl, hc, hr, _, hlc, hcm, hnone⟩ := (H.out.below hbel).at hkn
      have hfull := sumTo_full (fun x => x) rs HK.out
      change _ ≤ total rs at hfull
      obtain ⟨s, hs⟩ : ∃ s, sumTo (fun x => x) rs k = s := ⟨_, rfl⟩
      have HS := Lib.hid hs
      have hsum : sumTo (fun x => x) rs (k + 1) = s + l := by rw [sumTo_succ _ HK.out, hs, hl]
      rw [hsum, HTOT.out] at hfull
      have hend : endOf rs k = s + l := hsum
      obtain ⟨e, he⟩ : ∃ e, s + l = e := ⟨_, rfl⟩
      rw [he] at hend
      obtain ⟨a, ha⟩ : ∃ a, e % 256 = a := ⟨_, rfl⟩
      obtain ⟨d, hd⟩ : ∃ d, e / 256 = d := ⟨_, rfl⟩
      have STEP := Lib.hid (fun w1 w2 v1 u2 h1 h2 h3 h4 h5 h6 i hi => rk_step (w1 := w1) (w2 := w2) (v1 := v1) (u2 := u2) HL.out hkn hend ha hd hT hbel h1 h2 h3 h4 h5 h6 i hi)
      rw [hs] at hT hdl STEP ⊢
      have HT := Lib.hid hT
      have HBEL := Lib.hid hbel
      obtain ⟨X, hX⟩ : ∃ X, octets (rc rs k) = X := ⟨_, rfl⟩
      have HR := Lib.hid (show Mem.Rd wr A' X by rw [← hX]; exact hr)
      have HXL := Lib.hid (show X.length = l by rw [← hX, octets_len, hl])
      have HX1 := Lib.hid (show ∀ u ∈ X, u.oneCell' = true by rw [← hX]; exact one_octets _)
      obtain ⟨D, hD⟩ : ∃ D, octets (rs.take k).flatten = D := ⟨_, rfl⟩
      obtain ⟨E, hE⟩ : ∃ E, octets ([n, 0] ++ heads rs k) = E := ⟨_, rfl⟩
      rw [hX, hD, hE] at STEP
      rw [hD, hE] at HT
      have HE := Lib.hid he
      obtain ⟨p, hp⟩ : ∃ p, 2 + 2 * k = p := ⟨_, rfl⟩
      rw [hp] at hbl HT STEP ⊢
      have hp2 : p ≤ 34 := by omega
      have x1 : (e : Int) % 256 = (a : Int) := by omega
      have x2 : (e : Int) / 256 = (d : Int) := by omega
      have x3 : (d : Int) % 256 = (d : Int) := by omega
      have x4 : (a : Int) % 256 = (a : Int) := by omega
      have hk0 : (0 : Int) ≤ (k : Int) := by omega
      have hk1 : (k : Int) < (n : Int) := by omega
      clear hT hbel hX hD hE hl hr hnone hs hend ha hd hfull hsum hp
      go_wp2_with (first | (at_builtin; refine Mem.wpList_append_rd _ rfl (.tmp 27) (.tmp 31) 25 rfl W.heap.size 5 i0 (.int .u8 0) 1 Try.underlying25 I0.out I1.out I2.out I3.out rfl (.slice Ad s od) s D rfl HT.out.snd A' l c' X rfl HXL.out HR.out HX1.out (by simp only [maxLen]; omega) (by omega) HBEL.out.size ?_; intro v1 w1 hown1 hg1 hv1; rw [HE.out] at hown1; obtain ⟨A1, o1, rfl, _⟩ := Mem.own_shape hown1; have T1 := Lib.hid (HT.out.grow hown1 hg1 hv1); have HO1 := Lib.hid hown1; have HG1 := Lib.hid hg1; have HV1 := Lib.hid hv1; have HB1 := Lib.hid (HBEL.out.grown hg1 HBEL.out.size (own_ge HT.out.snd)); clear hown1 hg1 hv1) | (at_builtin; refine Mem.wpList_append_rd _ rfl (.tmp 33) (.tmp 42) 25 rfl W.heap.size 5 i0 (.int .u8 0) 1 Try.underlying25 I0.out I1.out I2.out I3.out rfl (.slice Ab p ob) p E rfl (T1.out.alloc _).fst (some ⟨w1.heap.size, 0, none⟩) 2 2 (octets [a, d]) rfl rfl (rd_two w1 a d) (one_octets _) (by simp only [maxLen]; omega) (by omega) (by have h1 := HB1.out.size; simp; omega) ?_; intro v2 w2 hown2 hg2 hv2; obtain ⟨A2, o2, rfl, _⟩ := Mem.own_shape hown2; have ST := Lib.hid (STEP.out w1 w2 _ _ HO1.out HG1.out HV1.out hown2 hg2 hv2); clear hown2 hg2 hv2))
      go_roundw
      case rel => exact ST.out _ (by go_num)
      case measure => simp [intOf]; omega
    · obtain rfl : n = k := by omega
      have hsum : sumTo (fun x => x) rs n = tot := by rw [← HTOT.out, ← HL.out]; rfl
      have hfl : rs.take n = rs := by rw [← HL.out]; exact List.take_length
      rw [hsum, hfl] at hT
      rw [hsum]
      have HT := Lib.hid hT
      have HBEL := Lib.hid hbel
      have HLN := Lib.hid (show (octets rs.flatten).length = tot by rw [octets_len, flat_total]; exact HTOT.out)
      have HPK := Lib.hid (show octets ([n, 0] ++ heads rs n) ++ octets rs.flatten = octets (packed rs) by rw [← octets_app, ← HL.out]; rfl)
      have HPL := Lib.hid (show packLen rs = 2 + 2 * n + tot by unfold packLen; rw [HL.out, HTOT.out])
      obtain ⟨D, hD⟩ : ∃ D, octets rs.flatten = D := ⟨_, rfl⟩
      obtain ⟨E, hE⟩ : ∃ E, octets ([n, 0] ++ heads rs n) = E := ⟨_, rfl⟩
      have HD1 := Lib.hid (show ∀ u ∈ D, u.oneCell' = true by rw [← hD]; exact one_octets _)
      rw [hD, hE] at HT HPK
      rw [hD] at HLN
      obtain ⟨p, hp⟩ : ∃ p, 2 + 2 * n = p := ⟨_, rfl⟩
      rw [hp] at hbl HT HPL ⊢
      have hp2 : p ≤ 34 := by omega
      clear hT hbel hsum hfl hD hE hp hdl hbl
      go_wp2_with (at_builtin; refine Mem.wpList_append_rd _ rfl (.tmp 44) (.tmp 45) 25 rfl W.heap.size 5 i0 (.int .u8 0) 1 Try.underlying25 I0.out I1.out I2.out I3.out rfl (.slice Ab p ob) p E rfl HT.out.fst Ad tot od D rfl HLN.out (Mem.Rd.of_own HT.out.snd) HD1.out (by simp only [maxLen]; omega) (by omega) HBEL.out.size ?_; intro v3 w3 hown3 hg3 hv3; rw [HPK.out] at hown3; obtain ⟨A3, o3, rfl, _⟩ := Mem.own_shape hown3; have HO3 := Lib.hid hown3; have HB3 := Lib.hid (HBEL.out.grown hg3 HBEL.out.size (own_ge HT.out.fst)); clear hown3 hg3 hv3)
      go_ret2
      exact ⟨.inl ⟨HP.out, _, rfl, by rw [HPL.out]; exact HO3.out⟩, HB3.out⟩
end Rc
end Go.Proofs.Ytppahidjiiehkaa
