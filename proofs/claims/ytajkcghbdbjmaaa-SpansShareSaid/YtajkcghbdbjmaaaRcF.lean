/- Layers 6 and 7: the contract of records.Unpack. -/
import Derived.Test.YtajkcghbdbjmaaaRcE
namespace Go.Proofs.Ytajkcghbdbjmaaa
open Go.RowKit
namespace Rc

/-- What Unpack answers. -/
def UnRes (bs : List Nat) (W : World) (e : Ending) (w : World) : Prop :=
  ((errE bs = 0 ∧ ∃ B U uc vs, W.heap.size ≤ B ∧ e = .returned (.tuple #[.slice U (num bs) uc, .int .i64 0]) ∧ w.ownsRow B 22 1 (.slice U (num bs) uc) (num bs) vs ∧ OwnRecs w B (Value.slice U (num bs) uc).ownBlock vs (recs bs)) ∨
    (errE bs ≠ 0 ∧ e = .returned (.tuple #[.slice none 0 0, .int .i64 (errE bs : Nat)]))) ∧ Below W.heap.size W w
/-- The relation of its loop; W1 is the world behind ends. -/
def UnR (bs : List Nat) (n : Nat) (W1 : World) (v bg i : Value) (w : World) : Prop :=
  ∃ (k : Nat) (vs : List Value), k ≤ n ∧ i = .int .i64 (k : Int) ∧ bg = .int .i64 ((beg bs k : Nat) : Int) ∧ w.ownsRow W1.heap.size 22 1 v k vs ∧ OwnRecs w W1.heap.size v.ownBlock vs ((recs bs).take k) ∧ Below W1.heap.size W1 w
theorem rd_one (w : World) (v : Value) (t : TypeId) : Mem.Rd (w.alloc (.cells #[v] t)) (some ⟨w.heap.size, 0, none⟩) [v] := fun _ =>
  ⟨w.heap.size, 0, rfl, by simp, fun i hi => by
    match i, hi with
    | 0, _ => simp [World.cell?_alloc_new]⟩
theorem un_step {bs : List Nat} {n k : Nat} {W1 w w1 w2 : World} {v0 v v2 : Value} {vs : List Value} (hn : num bs = n) (hk : k < n) (hown : w.ownsRow W1.heap.size 22 1 v0 k vs) (hrecs : OwnRecs w W1.heap.size v0.ownBlock vs ((recs bs).take k)) (hB : Below W1.heap.size W1 w)
    (hv : w1.ownsRow w.heap.size 5 1 v (rec1 bs k).length (octets (rec1 bs k))) (hb : Below w.heap.size w w1) (hown2 : w2.ownsRow W1.heap.size 22 1 v2 (k + 1) (vs ++ [v])) (hg : (w1.alloc (.cells #[v] 22)).grownBy w2 v0.ownBlock)
    (ho : v2.ownBlock = v0.ownBlock ∨ v2.ownBlock = some (w1.alloc (.cells #[v] 22)).heap.size) (i : Value) (hi : i = .int .i64 ((k + 1 : Nat) : Int)) :
    UnR bs n W1 v2 (.int .i64 ((endAt bs k : Nat) : Int)) i w2 := by
  refine ⟨k + 1, vs ++ [v], hk, hi, by rw [beg_succ], hown2, ?_, ?_⟩
  · have e : (recs bs).take (k + 1) = (recs bs).take k ++ [rec1 bs k] := by
      rw [List.take_add_one, recs_at (by omega)]
      rfl
    rw [e]
    exact hrecs.push hB.size (fun q hq => (own_lt hown q hq).2) hv hb hg ho
  · have b1 : Below W1.heap.size W1 w1 := hB.trans (hb.mono hB.size)
    have b2 : Below W1.heap.size W1 (w1.alloc (.cells #[v] 22)) := b1.alloc b1.size _
    exact b2.grown hg b2.size (own_ge hown)
/-- What the round is told of the record's slice. -/
theorem rec_rd {bs : List Nat} {n k d : Nat} {b : Nat} {w : World} (ok : Ok bs) (hn : num bs = n) (hk : k < n) (hr : Mem.Rd w (some ⟨b, d, none⟩) (octets (bs.drop (2 + 2 * n)))) :
    (beg bs k = endAt bs k → ∀ A', Mem.Rd w A' (octets (rec1 bs k))) ∧ Mem.Rd w (some ⟨b, d + beg bs k, none⟩) (octets (rec1 bs k)) := by
  have hl := ok.rec_len (i := k) (by omega)
  constructor
  · intro e A'
    have : rec1 bs k = [] := List.eq_nil_of_length_eq_zero (by omega)
    rw [this]
    exact Mem.Rd.nil _ _
  · have hlast := ok.last
    have h1 := ok.end_le (i := k) (by omega)
    have h2 := ok.beg_le (i := k) (by omega)
    have := Mem.Rd.cut hr (beg bs k) (endAt bs k - beg bs k) (by rw [octets_len, List.length_drop]; omega) (some ⟨b, d + beg bs k, none⟩) (fun _ => by simp [Mem.add_none])
    rw [octets_drop, octets_take] at this
    unfold rec1
    rw [hn]
    exact this
set_option maxHeartbeats 3200000 in
theorem unpack_any (bs : List Nat) (A : Option Addr) (c : Nat) (W : World) (hr : Mem.Rd W A (octets bs)) (hs : Small bs) (hm : bs.length ≤ 100000) (hc : bs.length ≤ c) (hcm : c ≤ 9223372036854775807) :
    Calls Try.prog 28 #[.slice A bs.length c] W (UnRes bs W) := by
  have HE := Lib.hid (ends_any bs A c W hr hs hm)
  obtain ⟨i0, hi0, hz0, hz1, hz2⟩ := info_at infoR
  have I0 := Lib.hid hi0
  have I1 := Lib.hid hz0
  have I2 := Lib.hid hz1
  have I3 := Lib.hid hz2
  clear hi0 hz0 hz1 hz2
  by_cases he : errE bs = 0
  · have hok := ok_of he
    have HOK := Lib.hid hok
    have ho1 := hok.pos
    have ho2 := hok.le
    have ho3 := hok.last
    have ho4 := hok.most
    obtain ⟨b, off, rfl, _, _⟩ := hr (by rw [octets_len]; omega)
    have HR := Lib.hid hr
    have HERR := Lib.hid he
    have HB := Lib.hid (fun i => (show endAt bs i ≤ 65535 by unfold endAt; have := hs.at (2 + 2 * i); have := hs.at (2 + 2 * i + 1); omega))
    obtain ⟨n, hn⟩ : ∃ n, num bs = n := ⟨_, rfl⟩
    have HN := Lib.hid hn
    obtain ⟨l, hl⟩ : ∃ l, bs.length = l := ⟨_, rfl⟩
    have HL := Lib.hid hl
    rw [hn] at ho1 ho2 ho3
    rw [hl] at ho3 ho4 hm hc HE ⊢
    have hw2 : IntKind.i64.wrap (2 * (n : Int)) = 2 * (n : Int) := IntWalk.i64_in _ (by omega)
    have hw3 : IntKind.i64.wrap (2 + 2 * (n : Int)) = 2 + 2 * (n : Int) := IntWalk.i64_in _ (by omega)
    have ht : (2 + 2 * (n : Int)).toNat = 2 + 2 * n := by omega
    have q1 : (0 : Int) ≤ 2 + 2 * (n : Int) := by omega
    have q2 : 2 + 2 * (n : Int) ≤ (l : Int) := by omega
    have q3 : 2 + 2 * n ≤ l := by omega
    have hmk := run_make_room (P := Try.prog) 38 22 (.slice none 0 0) 24 Try.underlying38 infoR rfl .i64 .i64 n (by omega) (by omega)
    clear hr he hok hs hn hl
    go_enter Try.func28, Try.ntmps28
    go_wp2_with fail
    refine HE.out.mono ?_
    rintro e w1 ⟨⟨_, U, uc, rfl, hrd⟩ | ⟨hne, _⟩, hb⟩
    case inr => exact absurd HERR.out hne
    rw [HN.out]
    have HRD := Lib.hid hrd
    have HB1 := Lib.hid hb
    clear hrd hb
    by_cases hcz : c = 2 + 2 * n
    · subst hcz
      have hl0 : l = 2 + 2 * n := by omega
      have HD : RowKit.Hid (Mem.Rd w1 (some ⟨b, off, none⟩) (octets (bs.drop (2 + 2 * n)))) := Lib.hid (by
        rw [List.drop_of_length_le (by rw [HL.out]; omega)]
        exact Mem.Rd.nil _ _)
      go_wp2_with fail
      go_loopw [7, 8, 30] (UnR bs n w1) (fun _ _ i _ => n - (intOf i).toNat)
      case atStart => exact ⟨0, [], by omega, rfl, rfl, World.ownsRow_made w1 _ n (Nat.le_refl _) (by simp only [maxLen]; omega) (by simp [size_madeCells]), OwnRecs.nil _ _ _, (Below.refl _ _).alloc (Nat.le_refl _) _⟩
      case round =>
        obtain ⟨k, vs, hk, rfl, rfl, hown, hrecs, hB⟩ := hrel
        obtain ⟨A1, o1, rfl, ho1'⟩ := Mem.own_shape hown
        by_cases hkn : k < n
        · have hge := HOK.out.beg_le (i := k) (by rw [HN.out]; exact hkn)
          have hel := HOK.out.end_le (i := k) (by rw [HN.out]; exact hkn)
          rw [HN.out] at hel
          have hrl := HOK.out.rec_len (i := k) (by rw [HN.out]; exact hkn)
          obtain ⟨R1, R2⟩ := rec_rd (k := k) HOK.out HN.out hkn (HD.out.below hB)
          have US := Lib.hid (fun w2 w3 v v2 h1 h2 h3 h4 h5 i hi => un_step (w1 := w2) (w2 := w3) (v := v) (v2 := v2) HN.out hkn hown hrecs hB h1 h2 h3 h4 h5 i hi)
          obtain ⟨ub, uo, hU, hul, huc⟩ := (HRD.out.below hB) (by rw [ints_len, ends_len, HN.out]; omega)
          have c1 := huc k (by rw [ints_len, ends_len, HN.out]; exact hkn)
          rw [ints_at (by rw [ends_len, HN.out]; exact hkn), ends_at (by rw [HN.out]; exact hkn)] at c1
          subst hU
          obtain ⟨x, hx⟩ : ∃ x, endAt bs k = x := ⟨_, rfl⟩
          obtain ⟨g, hg⟩ : ∃ g, beg bs k = g := ⟨_, rfl⟩
          rw [hx] at c1 hge hel hrl R1 US
          rw [hg] at hge hrl R1 R2 ⊢
          have HOWN := Lib.hid hown
          have HBW := Lib.hid hB
          have R1' := Lib.hid R1
          have R2' := Lib.hid R2
          have HRL := Lib.hid hrl
          have hxl : x ≤ 0 := by omega
          have hg0 : (0 : Int) ≤ (g : Int) := by omega
          have hgx : (g : Int) ≤ (x : Int) := by omega
          have hxd : (x : Int) ≤ ((0 : Nat) : Int) := by omega
          have hxc : (x : Int) ≤ ((0 : Nat) : Int) := by omega
          have hxc2 : x ≤ 0 := by omega
          have hk0' : (0 : Int) ≤ (k : Int) := by omega
          have hk1' : (k : Int) < (n : Int) := by omega
          clear hown hrecs hB huc R1 R2 hrl hx hg
          have hg1 : g = 0 := by omega
          have hx1 : x = 0 := by omega
          subst hg1 hx1
          go_wp2_with (first | (go_at_call 32; refine (clone_n HRL.out (some ⟨b, off, none⟩) (0) _ (R1'.out rfl _) (by intro e; cases e) (by omega)).mono ?_; rintro e w2 ⟨⟨v, rfl, hv⟩, hbv⟩; obtain ⟨Av, cv, rfl, _⟩ := Mem.own_shape hv; have HV := Lib.hid hv; have HBV := Lib.hid hbv; rw [HRL.out] at HV ⊢; clear hv hbv) | (at_builtin; refine Mem.wpList_append_rd _ rfl (.tmp 34) (.tmp 40) 38 rfl w1.heap.size 22 i0 (.slice none 0 0) 24 Try.underlying38 I0.out I1.out I2.out I3.out rfl (.slice A1 k o1) k vs rfl (by exact (Mem.own_below HOWN.out HBV.out).alloc _) (some ⟨w2.heap.size, 0, none⟩) 1 1 [.slice Av (0) cv] rfl rfl (by exact rd_one w2 _ _) (by intro u hu; simp at hu; subst hu; rfl) (by simp only [maxLen]; omega) (by omega) (by have h1 := HBW.out.size; have h2 := HBV.out.size; simp; omega) ?_; intro v4 w4 hown4 hg4 hv4; obtain ⟨A4, c4, rfl, _⟩ := Mem.own_shape hown4; have U4 := Lib.hid (US.out w2 w4 _ _ (by rw [HRL.out]; exact HV.out) HBV.out hown4 hg4 hv4); clear hown4 hg4 hv4))
          go_roundw
          case rel => exact U4.out _ (by go_num)
          case measure => simp [intOf]; omega
        · obtain rfl : n = k := by omega
          have hfull : (recs bs).take n = recs bs := List.take_of_length_le (by rw [recs_len, HN.out]; exact Nat.le_refl _)
          rw [hfull] at hrecs
          have fin : UnRes bs W (.returned (.tuple #[.slice A1 n o1, .int .i64 0])) wr := ⟨.inl ⟨HERR.out, w1.heap.size, A1, o1, vs, HB1.out.size, by rw [HN.out], by rw [HN.out]; exact hown, by rw [HN.out]; exact hrecs⟩, HB1.out.trans (hB.mono HB1.out.size)⟩
          have FIN := Lib.hid fin
          clear fin hown hrecs hB hfull
          go_wp2_with fail
          go_ret2
          exact FIN.out
    · have hcut := Mem.Rd.cut HR.out (2 + 2 * n) (l - (2 + 2 * n)) (by rw [octets_len, HL.out]; omega) (some ⟨b, off + (2 + 2 * n), none⟩) (fun _ => by simp [Mem.add_none])
      rw [octets_drop, octets_take, List.take_of_length_le (by rw [List.length_drop, HL.out]; omega)] at hcut
      go_wp2_with fail
      obtain ⟨d, hd⟩ : ∃ d, off + (2 + 2 * n) = d := ⟨_, rfl⟩
      obtain ⟨dl, hdl⟩ : ∃ dl, l - (2 + 2 * n) = dl := ⟨_, rfl⟩
      obtain ⟨dc, hdc⟩ : ∃ dc, c - (2 + 2 * n) = dc := ⟨_, rfl⟩
      rw [hd] at hcut
      rw [hd, hdl, hdc]
      have HD := Lib.hid (hcut.below HB1.out)
      have hdlc : dl ≤ dc := by omega
      have hdl2 : 2 + 2 * n + dl = l := by omega
      clear hcut hd hdl hdc
      go_loopw [7, 8, 30] (UnR bs n w1) (fun _ _ i _ => n - (intOf i).toNat)
      case atStart => exact ⟨0, [], by omega, rfl, rfl, World.ownsRow_made w1 _ n (Nat.le_refl _) (by simp only [maxLen]; omega) (by simp [size_madeCells]), OwnRecs.nil _ _ _, (Below.refl _ _).alloc (Nat.le_refl _) _⟩
      case round =>
        obtain ⟨k, vs, hk, rfl, rfl, hown, hrecs, hB⟩ := hrel
        obtain ⟨A1, o1, rfl, ho1'⟩ := Mem.own_shape hown
        by_cases hkn : k < n
        · have hge := HOK.out.beg_le (i := k) (by rw [HN.out]; exact hkn)
          have hel := HOK.out.end_le (i := k) (by rw [HN.out]; exact hkn)
          rw [HN.out] at hel
          have hrl := HOK.out.rec_len (i := k) (by rw [HN.out]; exact hkn)
          obtain ⟨R1, R2⟩ := rec_rd (k := k) HOK.out HN.out hkn (HD.out.below hB)
          have US := Lib.hid (fun w2 w3 v v2 h1 h2 h3 h4 h5 i hi => un_step (w1 := w2) (w2 := w3) (v := v) (v2 := v2) HN.out hkn hown hrecs hB h1 h2 h3 h4 h5 i hi)
          obtain ⟨ub, uo, hU, hul, huc⟩ := (HRD.out.below hB) (by rw [ints_len, ends_len, HN.out]; omega)
          have c1 := huc k (by rw [ints_len, ends_len, HN.out]; exact hkn)
          rw [ints_at (by rw [ends_len, HN.out]; exact hkn), ends_at (by rw [HN.out]; exact hkn)] at c1
          subst hU
          obtain ⟨x, hx⟩ : ∃ x, endAt bs k = x := ⟨_, rfl⟩
          obtain ⟨g, hg⟩ : ∃ g, beg bs k = g := ⟨_, rfl⟩
          rw [hx] at c1 hge hel hrl R1 US
          rw [hg] at hge hrl R1 R2 ⊢
          have HOWN := Lib.hid hown
          have HBW := Lib.hid hB
          have R1' := Lib.hid R1
          have R2' := Lib.hid R2
          have HRL := Lib.hid hrl
          have hxl : x ≤ dl := by omega
          have hg0 : (0 : Int) ≤ (g : Int) := by omega
          have hgx : (g : Int) ≤ (x : Int) := by omega
          have hxd : (x : Int) ≤ ((dl : Nat) : Int) := by omega
          have hxc : (x : Int) ≤ ((dc : Nat) : Int) := by omega
          have hxc2 : x ≤ dc := by omega
          have hk0' : (0 : Int) ≤ (k : Int) := by omega
          have hk1' : (k : Int) < (n : Int) := by omega
          clear hown hrecs hB huc R1 R2 hrl hx hg
          by_cases hgd : dc = g
          · have hx1 : x = g := by omega
            subst hx1
            subst hgd
            have HRL := Lib.hid (show (rec1 bs k).length = 0 from by rw [HRL.out]; omega)
            go_wp2_with (first | (go_at_call 32; refine (clone_n HRL.out (some ⟨b, d, none⟩) (0) _ (R1'.out rfl _) (by intro e; cases e) (by omega)).mono ?_; rintro e w2 ⟨⟨v, rfl, hv⟩, hbv⟩; obtain ⟨Av, cv, rfl, _⟩ := Mem.own_shape hv; have HV := Lib.hid hv; have HBV := Lib.hid hbv; rw [HRL.out] at HV ⊢; clear hv hbv) | (at_builtin; refine Mem.wpList_append_rd _ rfl (.tmp 34) (.tmp 40) 38 rfl w1.heap.size 22 i0 (.slice none 0 0) 24 Try.underlying38 I0.out I1.out I2.out I3.out rfl (.slice A1 k o1) k vs rfl (by exact (Mem.own_below HOWN.out HBV.out).alloc _) (some ⟨w2.heap.size, 0, none⟩) 1 1 [.slice Av (0) cv] rfl rfl (by exact rd_one w2 _ _) (by intro u hu; simp at hu; subst hu; rfl) (by simp only [maxLen]; omega) (by omega) (by have h1 := HBW.out.size; have h2 := HBV.out.size; simp; omega) ?_; intro v4 w4 hown4 hg4 hv4; obtain ⟨A4, c4, rfl, _⟩ := Mem.own_shape hown4; have U4 := Lib.hid (US.out w2 w4 _ _ (by rw [HRL.out]; exact HV.out) HBV.out hown4 hg4 hv4); clear hown4 hg4 hv4))
            go_roundw
            case rel => exact U4.out _ (by go_num)
            case measure => simp [intOf]; omega
          · have hgd2 : ¬ (dc - g = 0) := by omega
            go_wp2_with (first | (go_at_call 32; refine (clone_n HRL.out (some ⟨b, d + g, none⟩) (dc - g) _ (R2'.out) (by intro e; cases e) (by omega)).mono ?_; rintro e w2 ⟨⟨v, rfl, hv⟩, hbv⟩; obtain ⟨Av, cv, rfl, _⟩ := Mem.own_shape hv; have HV := Lib.hid hv; have HBV := Lib.hid hbv; rw [HRL.out] at HV ⊢; clear hv hbv) | (at_builtin; refine Mem.wpList_append_rd _ rfl (.tmp 34) (.tmp 40) 38 rfl w1.heap.size 22 i0 (.slice none 0 0) 24 Try.underlying38 I0.out I1.out I2.out I3.out rfl (.slice A1 k o1) k vs rfl (by exact (Mem.own_below HOWN.out HBV.out).alloc _) (some ⟨w2.heap.size, 0, none⟩) 1 1 [.slice Av (x - g) cv] rfl rfl (by exact rd_one w2 _ _) (by intro u hu; simp at hu; subst hu; rfl) (by simp only [maxLen]; omega) (by omega) (by have h1 := HBW.out.size; have h2 := HBV.out.size; simp; omega) ?_; intro v4 w4 hown4 hg4 hv4; obtain ⟨A4, c4, rfl, _⟩ := Mem.own_shape hown4; have U4 := Lib.hid (US.out w2 w4 _ _ (by rw [HRL.out]; exact HV.out) HBV.out hown4 hg4 hv4); clear hown4 hg4 hv4))
            go_roundw
            case rel => exact U4.out _ (by go_num)
            case measure => simp [intOf]; omega
        · obtain rfl : n = k := by omega
          have hfull : (recs bs).take n = recs bs := List.take_of_length_le (by rw [recs_len, HN.out]; exact Nat.le_refl _)
          rw [hfull] at hrecs
          have fin : UnRes bs W (.returned (.tuple #[.slice A1 n o1, .int .i64 0])) wr := ⟨.inl ⟨HERR.out, w1.heap.size, A1, o1, vs, HB1.out.size, by rw [HN.out], by rw [HN.out]; exact hown, by rw [HN.out]; exact hrecs⟩, HB1.out.trans (hB.mono HB1.out.size)⟩
          have FIN := Lib.hid fin
          clear fin hown hrecs hB hfull
          go_wp2_with fail
          go_ret2
          exact FIN.out
  · obtain ⟨v, hv⟩ : ∃ v, errE bs = v := ⟨_, rfl⟩
    have HV := Lib.hid hv
    have hvi : ((v : Int) != 0) = true := by simp; omega
    have hvn : ¬ ((v : Int) = 0) := by omega
    obtain ⟨l, hl⟩ : ∃ l, bs.length = l := ⟨_, rfl⟩
    rw [hl] at HE ⊢
    clear hr hs hv hm hc hcm hl
    go_enter Try.func28, Try.ntmps28
    go_wp2_with fail
    refine HE.out.mono ?_
    rintro e w1 ⟨⟨h0, _⟩ | ⟨_, rfl⟩, hb⟩
    case inl => exact absurd h0 he
    rw [HV.out]
    go_wp2_with fail
    go_ret2
    exact ⟨.inr ⟨he, by rw [HV.out]; rfl⟩, hb⟩
end Rc
end Go.Proofs.Ytajkcghbdbjmaaa
