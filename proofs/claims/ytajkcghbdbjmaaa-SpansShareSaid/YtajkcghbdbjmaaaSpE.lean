/- Layer 7 (spans): the contract of the document's Of. -/
import Derived.Test.YtajkcghbdbjmaaaSpD
namespace Go.Proofs.Ytajkcghbdbjmaaa
open Go.RowKit Rc
namespace Sp

/-- The relation of its loop. -/
def RoR (bs : List Nat) (n : Nat) (W1 : World) (v a i : Value) (w : World) : Prop :=
  ∃ k : Nat, k ≤ n ∧ a = .int .i64 ((2 + 2 * n + beg bs k : Nat) : Int) ∧ i = .int .i64 (k : Int) ∧ w.ownsRow W1.heap.size 31 2 v k (scs ((spn bs).take k)) ∧ Below W1.heap.size W1 w
theorem wrap_of {x : Int} {m : Nat} (h : x = (m : Int)) (hm : m ≤ 9223372036854775807) : IntKind.i64.wrap x = (m : Int) := by rw [IntWalk.i64_in _ (by omega), h]
set_option maxHeartbeats 3200000 in
theorem refof_any (bs : List Nat) (A : Option Addr) (c : Nat) (W : World) (hr : Mem.Rd W A (octets bs)) (hs : Small bs) (hm : bs.length ≤ 100000) (hc : bs.length ≤ c) :
    Calls Try.prog 10 #[.slice A bs.length c] W (OfRes bs W) := by
  have HU := Lib.hid (refunpack_any bs A c W hr hs hm hc)
  obtain ⟨i0, hi0, hz0, hz1, hz2⟩ := info_at infoS
  have I0 := Lib.hid hi0
  have I1 := Lib.hid hz0
  have I2 := Lib.hid hz1
  have I3 := Lib.hid hz2
  clear hi0 hz0 hz1 hz2
  by_cases he : errE bs = 0
  · have hok := ok_of he
    have HOK := Lib.hid hok
    have ho1 := hok.pos
    have ho2 := hok.le
    have ho3 := hok.last
    have ho4 := hok.most
    have HERR := Lib.hid he
    obtain ⟨n, hn⟩ : ∃ n, num bs = n := ⟨_, rfl⟩
    have HN := Lib.hid hn
    rw [hn] at ho1 ho2 ho3
    have hw2 : IntKind.i64.wrap (2 * (n : Int)) = 2 * (n : Int) := IntWalk.i64_in _ (by omega)
    obtain ⟨fr, hfr⟩ : ∃ fr, 2 + 2 * n = fr := ⟨_, rfl⟩
    have hw3 : IntKind.i64.wrap (2 + 2 * (n : Int)) = (fr : Int) := wrap_of (by omega) (by omega)
    have HFR := Lib.hid hfr
    obtain ⟨l, hl⟩ : ∃ l, bs.length = l := ⟨_, rfl⟩
    rw [hl] at HU ho3 ho4 ⊢
    clear hr hs he hok hn hm hfr hl hc
    go_enter Try.func10, Try.ntmps10
    go_wp2_with fail
    refine HU.out.mono ?_
    rintro e w1 ⟨⟨_, B0, U, uc, vs, hB0, rfl, hown, hrecs⟩ | ⟨hne, _⟩, hb⟩
    case inr => exact absurd HERR.out hne
    rw [HN.out] at hown ⊢
    have hrecs' : ∀ k, k < n → ∃ Ak ck, vs[k]? = some (.slice Ak (endAt bs k - beg bs k) ck) := fun k hk => by
      have hkl : k < vs.length := by rw [hrecs.len, recs_len, HN.out]; exact hk
      have h1 := hrecs.own k vs[k] (rec1 bs k) (List.getElem?_eq_getElem hkl) (recs_at (by rw [HN.out]; exact hk))
      obtain ⟨Ak, ck, h2, _⟩ := Mem.own_shape h1
      rw [HOK.out.rec_len (by rw [HN.out]; exact hk)] at h2
      exact ⟨Ak, ck, by rw [List.getElem?_eq_getElem hkl, h2]⟩
    have hvl : vs.length = n := by rw [hrecs.len, recs_len, HN.out]
    obtain ⟨ub, uc2, hU, hub, hult⟩ := hown.form (by omega)
    injection hU with hU1 hU2 hU3
    subst hU1
    have hcell : ∀ k, k < n → w1.cell? ⟨ub, k, none⟩ = vs[k]? := fun k hk => by
      obtain ⟨b, o, e1, _, hc⟩ := (Mem.Rd.of_own hown) (by omega)
      injection e1 with e1
      injection e1 with e1 e2 _
      subst e1 e2
      have := hc k (by omega)
      rwa [Nat.zero_add] at this
    have HRE := Lib.hid hrecs'
    have HCE := Lib.hid hcell
    have HBE := Lib.hid hb
    have HUB := Lib.hid hult
    clear hown hrecs hrecs' hcell hvl hub hult hb
    go_wp2_with fail
    go_loopw [6, 7, 8] (RoR bs n w1) (fun _ _ i _ => n - (intOf i).toNat)
    case atStart => exact ⟨0, by omega, by rw [HFR.out]; simp [beg], rfl, by simpa [scs] using World.ownsRow_nil w1 w1.heap.size 31 2, Below.refl _ _⟩
    case round =>
      obtain ⟨k, hk, rfl, rfl, hown, hbel⟩ := hrel
      obtain ⟨A1, o1, rfl, ho1'⟩ := Mem.own_shape hown
      by_cases hkn : k < n
      · obtain ⟨Ak, ck, hvk⟩ := HRE.out k hkn
        have c1 : wr.cell? ⟨ub, k, none⟩ = some (.slice Ak (endAt bs k - beg bs k) ck) := by
          rw [World.cell?_of_block (w := w1) (a := ⟨ub, k, none⟩) (hbel.block ub HUB.out), HCE.out k hkn, hvk]
        have hge := HOK.out.beg_le (i := k) (by rw [HN.out]; exact hkn)
        have hel := HOK.out.end_le (i := k) (by rw [HN.out]; exact hkn)
        rw [HN.out] at hel
        have hbs := beg_succ bs k
        have htk := spn_take (bs := bs) (k := k) (by rw [HN.out]; exact hkn)
        rw [HN.out] at htk
        obtain ⟨x, hx⟩ : ∃ x, endAt bs k = x := ⟨_, rfl⟩
        obtain ⟨g, hg⟩ : ∃ g, beg bs k = g := ⟨_, rfl⟩
        rw [hx] at c1 hge hel hbs htk
        rw [hg] at c1 hge htk ⊢
        obtain ⟨t, ht⟩ : ∃ t, 2 + 2 * n + g = t := ⟨_, rfl⟩
        obtain ⟨q, hq⟩ : ∃ q, x - g = q := ⟨_, rfl⟩
        rw [ht] at htk ⊢
        rw [hq] at c1 htk
        have HTK := Lib.hid htk
        have HBS := Lib.hid hbs
        have HOWN := Lib.hid hown
        have HBW := Lib.hid hbel
        have hwt : IntKind.i64.wrap ((t : Int) + (q : Int)) = ((2 + 2 * n + x : Nat) : Int) := wrap_of (by omega) (by omega)
        have hk0' : (0 : Int) ≤ (k : Int) := by omega
        have hk1' : (k : Int) < (n : Int) := by omega
        clear hown hbel hvk hx hg ht hq hbs hge hel htk
        go_wp2_with (at_builtin; refine wpList_append_own _ rfl (.tmp 27) (.tmp 35) 24 rfl w1.heap.size 31 i0 (.agg #[.int .i64 0, .int .i64 0]) 2 16 Try.underlying24 I0.out I1.out I2.out I3.out rfl (by decide) (.slice A1 k o1) k (scs ((spn bs).take k)) rfl (by exact HOWN.out.alloc _) ⟨wr.heap.size, 0, none⟩ 1 1 (sc (t, q)) (by simp [Act.eval]) rfl (by exact new2 wr (t : Int) (q : Int) 31) (one2 _ _) (by simp only [maxLen]; omega) (by omega) (by have := HBW.out.size; simp; omega) ?_; intro v3 w3 hown3 hg3 _; have hb3 : Below w1.heap.size w1 w3 := Below.grown (HBW.out.alloc HBW.out.size _) hg3 (by have := HBW.out.size; simp; omega) (own_ge HOWN.out); obtain ⟨A4, c4, rfl, _⟩ := Mem.own_shape hown3; have H3 := Lib.hid (show w3.ownsRow w1.heap.size 31 2 (.slice A4 (k + 1) c4) (k + 1) (scs ((spn bs).take (k + 1))) by rw [HTK.out, scs_app]; simpa [scs] using hown3); have HB3 := Lib.hid hb3; have d1 : w3.cell? ⟨ub, k, none⟩ = some (.slice Ak q ck) := (hb3.cell (p := ⟨ub, k, none⟩) HUB.out).trans ((HBW.out.cell (p := ⟨ub, k, none⟩) HUB.out).symm.trans c1); clear hown3 hg3 hb3)
        go_roundw
        case rel => exact ⟨k + 1, by omega, by rw [HBS.out]; first | rfl | (congr 1; omega), by go_num, H3.out, HB3.out⟩
        case measure => simp [intOf]; omega
      · obtain rfl : n = k := by omega
        rw [List.take_of_length_le (by rw [spn_len, HN.out]; exact Nat.le_refl _)] at hown
        have fin : OfRes bs W (.returned (.tuple #[.slice A1 n o1, .int .i64 0])) wr := ⟨.inl ⟨HERR.out, w1.heap.size, _, HBE.out.size, rfl, by rw [HN.out]; exact hown⟩, HBE.out.trans (hbel.mono HBE.out.size)⟩
        have FIN := Lib.hid fin
        clear fin hown hbel
        go_wp2_with fail
        go_ret2
        exact FIN.out
  · have HERR := Lib.hid he
    obtain ⟨v, hv⟩ : ∃ v, errE bs = v := ⟨_, rfl⟩
    have hvi : ((v : Int) != 0) = true := by simp; omega
    have HV := Lib.hid hv
    obtain ⟨l, hl⟩ : ∃ l, bs.length = l := ⟨_, rfl⟩
    rw [hl] at HU ⊢
    clear hr hs he hc hm hl hv
    go_enter Try.func10, Try.ntmps10
    go_wp2_with fail
    refine HU.out.mono ?_
    rintro e w1 ⟨⟨h0, _⟩ | ⟨_, rfl⟩, hb⟩
    case inl => exact absurd h0 HERR.out
    rw [HV.out]
    have fin : OfRes bs W (.returned (.tuple #[.slice none 0 0, .int .i64 (v : Int)])) w1 := ⟨.inr ⟨HERR.out, by rw [HV.out]⟩, hb⟩
    have FIN := Lib.hid fin
    clear fin hb
    go_wp2_with fail
    go_ret2
    exact FIN.out
end Sp
end Go.Proofs.Ytajkcghbdbjmaaa
