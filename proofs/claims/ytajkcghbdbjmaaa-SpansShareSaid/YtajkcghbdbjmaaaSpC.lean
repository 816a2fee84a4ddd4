/- Layer 7 (spans): the contracts of each with Of's literal, and of Of. -/
import Derived.Test.YtajkcghbdbjmaaaSpB
namespace Go.Proofs.Ytajkcghbdbjmaaa
open Go.RowKit Rc
namespace Sp

/-- The relation of each's loop. -/
def EaofR (bs : List Nat) (n B N : Nat) (W1 : World) (a i : Value) (w : World) : Prop :=
  ∃ k : Nat, k ≤ n ∧ a = .int .i64 ((2 + 2 * n + beg bs k : Nat) : Int) ∧ i = .int .i64 (k : Int) ∧ OfInv B N ((spn bs).take k) w ∧ KB B N W1 w
/-- What each leaves. -/
def Eachof (bs : List Nat) (B : Nat) (W : World) (e : Ending) (w : World) : Prop :=
  e = .returned (.int .i64 (errE bs : Nat)) ∧ KB B W.heap.size W w ∧ (errE bs = 0 → ∃ N, W.heap.size ≤ N ∧ OfInv B N (spn bs) w) ∧ (errE bs ≠ 0 → w.heap[B]? = some (.cells #[.slice none 0 0] 24 (0, 0)))
set_option maxHeartbeats 3200000 in
theorem each_of (bs : List Nat) (A : Option Addr) (c B : Nat) (W : World) (hr : Mem.Rd W A (octets bs)) (hs : Small bs) (hm : bs.length ≤ 100000) (hc : bs.length ≤ c) (hcm : c ≤ 9223372036854775807) (hB : W.heap[B]? = some (.cells #[.slice none 0 0] 24 (0, 0))) :
    Calls Try.prog 21 #[.slice A bs.length c, .func (.func 22) #[] #[.pointer (some ⟨B, 0, none⟩)]] W (Eachof bs B W) := by
  have HU := Lib.hid (unpack_any bs A c W hr hs hm hc hcm)
  have hBW : B < W.heap.size := lt_of_block hB
  have HBC := Lib.hid hB
  obtain ⟨l, hl⟩ : ∃ l, bs.length = l := ⟨_, rfl⟩
  rw [hl] at HU ⊢
  by_cases he : errE bs = 0
  · have hok := ok_of he
    have HOK := Lib.hid hok
    have ho1 := hok.pos
    have ho2 := hok.le
    have ho3 := hok.last
    have ho4 := hok.most
    have HERR := Lib.hid he
    obtain ⟨n, hn⟩ : ∃ n, num bs = n := ⟨_, rfl⟩
    have HN := Lib.hid hn
    rw [hn] at ho1 ho2 ho3
    have hw2 : IntKind.i64.wrap (2 * (n : Int)) = 2 * (n : Int) := IntWalk.i64_in _ (by omega)
    have hw3 : IntKind.i64.wrap (2 + 2 * (n : Int)) = ((2 + 2 * n : Nat) : Int) := by rw [IntWalk.i64_in _ (by omega)]; omega
    obtain ⟨fr, hfr⟩ : ∃ fr, 2 + 2 * n = fr := ⟨_, rfl⟩
    rw [hfr] at hw3
    have HFR := Lib.hid hfr
    clear hr hs he hok hn hB hc hcm hm hfr hl
    go_enter Try.func21, Try.ntmps21
    go_wp2_with fail
    refine HU.out.mono ?_
    rintro e w1 ⟨⟨_, B0, U, uc, vs, hB0, rfl, hown, hrecs⟩ | ⟨hne, _⟩, hb⟩
    case inr => exact absurd HERR.out hne
    rw [HN.out] at hown ⊢
    have hN : W.heap.size ≤ w1.heap.size := hb.size
    have hrecs' : ∀ k, k < n → ∃ Ak ck, vs[k]? = some (.slice Ak (endAt bs k - beg bs k) ck) := fun k hk => by
      have hkl : k < vs.length := by rw [hrecs.len, recs_len, HN.out]; exact hk
      have h1 := hrecs.own k vs[k] (rec1 bs k) (List.getElem?_eq_getElem hkl) (recs_at (by rw [HN.out]; exact hk))
      obtain ⟨Ak, ck, h2, _⟩ := Mem.own_shape h1
      rw [HOK.out.rec_len (by rw [HN.out]; exact hk)] at h2
      exact ⟨Ak, ck, by rw [List.getElem?_eq_getElem hkl, h2]⟩
    have hvl : vs.length = n := by rw [hrecs.len, recs_len, HN.out]
    obtain ⟨ub, uc2, hU, hub, hult⟩ := hown.form (by omega)
    injection hU with hU1 hU2 hU3
    subst hU1
    have hcell : ∀ k, k < n → w1.cell? ⟨ub, k, none⟩ = vs[k]? := fun k hk => by
      obtain ⟨b, o, e1, _, hc⟩ := (Mem.Rd.of_own hown) (by omega)
      injection e1 with e1
      injection e1 with e1 e2 _
      subst e1 e2
      have := hc k (by omega)
      rwa [Nat.zero_add] at this
    have HRE := Lib.hid hrecs'
    have HCE := Lib.hid hcell
    have HBE := Lib.hid hb
    have hubB : ub ≠ B := by omega
    have HUB := Lib.hid (show ub < w1.heap.size ∧ ub ≠ B from ⟨hult, hubB⟩)
    have hst : OfInv B w1.heap.size ((spn bs).take 0) w1 := ⟨.slice none 0 0, (hb.block B hBW).trans HBC.out, by simpa [scs] using World.ownsRow_nil w1 w1.heap.size 31 2⟩
    have HST := Lib.hid hst
    clear hown hrecs hrecs' hcell hvl hst hub hult hubB hb
    go_wp2_with fail
    go_loopw [7, 21] (EaofR bs n B w1.heap.size w1) (fun _ i _ => n - (intOf i).toNat)
    case atStart => exact ⟨0, by omega, by rw [HFR.out]; simp [beg], rfl, HST.out, KB.refl _ _ _⟩
    case round =>
      obtain ⟨k, hk, rfl, rfl, hinv, hkb⟩ := hrel
      by_cases hkn : k < n
      · obtain ⟨Ak, ck, hvk⟩ := HRE.out k hkn
        have c1 : wr.cell? ⟨ub, k, none⟩ = some (.slice Ak (endAt bs k - beg bs k) ck) := by
          rw [World.cell?_of_block (w := w1) (a := ⟨ub, k, none⟩) (hkb.block ub HUB.out.1 HUB.out.2), HCE.out k hkn, hvk]
        have hge := HOK.out.beg_le (i := k) (by rw [HN.out]; exact hkn)
        have hel := HOK.out.end_le (i := k) (by rw [HN.out]; exact hkn)
        rw [HN.out] at hel
        have hbs := beg_succ bs k
        obtain ⟨x, hx⟩ : ∃ x, endAt bs k = x := ⟨_, rfl⟩
        obtain ⟨g, hg⟩ : ∃ g, beg bs k = g := ⟨_, rfl⟩
        rw [hx] at c1 hge hel hbs
        rw [hg] at c1 hge ⊢
        obtain ⟨t, ht⟩ : ∃ t, 2 + 2 * n + g = t := ⟨_, rfl⟩
        obtain ⟨q, hq⟩ : ∃ q, x - g = q := ⟨_, rfl⟩
        rw [ht]
        rw [hq] at c1
        have hcall := of1_any B w1.heap.size t q ((spn bs).take k) wr hinv (by omega) hkb.size (by rw [List.length_take, spn_len, HN.out]; omega)
        rw [show (spn bs).take k ++ [(t, q)] = (spn bs).take (k + 1) by rw [spn_take (by rw [HN.out]; exact hkn), HN.out, hg, hx, ht, hq]] at hcall
        have CALL := Lib.hid hcall
        clear hcall
        have HX := Lib.hid hx
        have HG := Lib.hid hg
        have HT := Lib.hid ht
        have HQ := Lib.hid hq
        have HBS := Lib.hid hbs
        have HGE := Lib.hid hge
        have HKB := Lib.hid hkb
        have hwt : IntKind.i64.wrap ((t : Int) + (q : Int)) = ((2 + 2 * n + x : Nat) : Int) := by rw [IntWalk.i64_in _ (by omega)]; omega
        have hk0' : (0 : Int) ≤ (k : Int) := by omega
        have hk1' : (k : Int) < (n : Int) := by omega
        clear hinv hkb hvk hx hg ht hq hbs hge hel
        go_wp2_with (go_at_call 22; refine CALL.out.mono ?_; rintro e w2 ⟨rfl, hi2, hk2⟩; have HI2 := Lib.hid hi2; have HK2 := Lib.hid hk2; clear hi2 hk2)
        go_roundw
        case rel => exact ⟨k + 1, by omega, by rw [HBS.out]; first | rfl | (congr 1; omega), by go_num, HI2.out, HKB.out.trans HK2.out⟩
        case measure => simp [intOf]; omega
      · obtain rfl : n = k := by omega
        have hfin : OfInv B w1.heap.size (spn bs) wr := by
          rw [List.take_of_length_le (by rw [spn_len, HN.out]; exact Nat.le_refl _)] at hinv
          exact hinv
        have fin : Eachof bs B W (.returned (.int .i64 0)) wr := ⟨by rw [HERR.out]; rfl, (KB.of_below HBE.out (Nat.le_refl _)).trans (hkb.mono hN), fun _ => ⟨w1.heap.size, hN, hfin⟩, fun h => absurd HERR.out h⟩
        have FIN := Lib.hid fin
        clear fin hkb hinv hfin
        go_wp2_with fail
        go_ret
        exact FIN.out
  · have HERR := Lib.hid he
    obtain ⟨v, hv⟩ : ∃ v, errE bs = v := ⟨_, rfl⟩
    have HV := Lib.hid hv
    clear hr hs he hB hc hcm hm hl hv
    go_enter Try.func21, Try.ntmps21
    go_wp2_with fail
    refine HU.out.mono ?_
    rintro e w1 ⟨⟨h0, _⟩ | ⟨_, rfl⟩, hb⟩
    case inl => exact absurd h0 HERR.out
    rw [HV.out]
    have fin : Eachof bs B W (.returned (.int .i64 (v : Int))) w1 := ⟨by rw [HV.out], KB.of_below hb (Nat.le_refl _), fun h => absurd h HERR.out, fun _ => (hb.block B hBW).trans HBC.out⟩
    have FIN := Lib.hid fin
    clear fin hb
    go_wp2_with fail
    go_loopw [21] (fun i w => i = .int .i64 0 ∧ w = w1) (fun _ _ => 0)
    case atStart => exact ⟨rfl, rfl⟩
    case round =>
      obtain ⟨rfl, rfl⟩ := hrel
      go_wp2_with fail
      go_ret
      exact FIN.out
/-- What Of answers. -/
def OfRes (bs : List Nat) (W : World) (e : Ending) (w : World) : Prop :=
  ((errE bs = 0 ∧ ∃ N v, W.heap.size ≤ N ∧ e = .returned (.tuple #[v, .int .i64 0]) ∧ w.ownsRow N 31 2 v (num bs) (scs (spn bs))) ∨ (errE bs ≠ 0 ∧ e = .returned (.tuple #[.slice none 0 0, .int .i64 (errE bs : Nat)]))) ∧ Below W.heap.size W w
set_option maxHeartbeats 1600000 in
theorem of_any (bs : List Nat) (A : Option Addr) (c : Nat) (W : World) (hr : Mem.Rd W A (octets bs)) (hs : Small bs) (hm : bs.length ≤ 100000) (hc : bs.length ≤ c) (hcm : c ≤ 9223372036854775807) :
    Calls Try.prog 9 #[.slice A bs.length c] W (OfRes bs W) := by
  have HE := Lib.hid (each_of bs A c W.heap.size (W.alloc (.cells #[.slice none 0 0] 24)) (hr.alloc _) hs hm hc hcm (heap_alloc_new _ _))
  obtain ⟨l, hl⟩ : ∃ l, bs.length = l := ⟨_, rfl⟩
  rw [hl] at HE ⊢
  clear hr hs hm hc hcm hl
  go_enter Try.func9, Try.ntmps9
  go_wp2_with fail
  refine HE.out.mono ?_
  rintro e w1 ⟨rfl, hkb, h1, h2⟩
  have hbel : Below W.heap.size W w1 := ((Below.refl _ _).alloc (Nat.le_refl _) _).trans (hkb.below (Nat.le_refl _) (by simp))
  have HBE := Lib.hid hbel
  by_cases he : errE bs = 0
  · obtain ⟨N, hN, v, hB, hown⟩ := h1 he
    have c1 := cell_of_one hB
    rw [spn_len] at hown
    obtain ⟨A1, o1, rfl, _⟩ := Mem.own_shape hown
    have fin : OfRes bs W (.returned (.tuple #[.slice A1 (num bs) o1, .int .i64 (errE bs : Nat)])) w1 := ⟨.inl ⟨he, N, _, by simp at hN; omega, by rw [he]; rfl, hown⟩, HBE.out⟩
    have FIN := Lib.hid fin
    generalize errE bs = v at *
    generalize num bs = n at *
    clear fin hown hB hkb hbel h1 h2 he
    go_wp2_with fail
    go_ret2
    exact FIN.out
  · have c1 := cell_of_one (h2 he)
    have fin : OfRes bs W (.returned (.tuple #[.slice none 0 0, .int .i64 (errE bs : Nat)])) w1 := ⟨.inr ⟨he, rfl⟩, HBE.out⟩
    have FIN := Lib.hid fin
    generalize errE bs = v at *
    clear fin hkb hbel h1 h2 he
    go_wp2_with fail
    go_ret2
    exact FIN.out
end Sp
end Go.Proofs.Ytajkcghbdbjmaaa
