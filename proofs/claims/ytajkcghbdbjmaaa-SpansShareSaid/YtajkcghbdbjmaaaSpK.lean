/- Layer 7 (spans): the walk of the law SpansRow. -/
import Derived.Test.YtajkcghbdbjmaaaSpJ
import Derived.BigQuiet
import Derived.Lib.QuietBelow
namespace Go.Proofs.Ytajkcghbdbjmaaa
open Go.RowKit Rc
namespace Sp

/-- The relation of the loop. -/
def RwR (bs : List Nat) (m : Nat) (W1 : World) (a i : Value) (w : World) : Prop :=
  ∃ k : Nat, k ≤ m ∧ a = .int .i64 ((2 + 2 * m + beg bs k : Nat) : Int) ∧ i = .int .i64 (k : Int) ∧ Below W1.heap.size W1 w
theorem spn_at {bs : List Nat} {k : Nat} (hk : k < num bs) : (spn bs).getD k (0, 0) = (2 + 2 * num bs + beg bs k, endAt bs k - beg bs k) := by
  unfold spn
  rw [List.getD_eq_getElem?_getD, List.getElem?_map, List.getElem?_range hk]
  rfl
open Go.Sort in
/-- Behind a region walked by 'wp_region_quiet_below'. -/
theorem below_of_regrown {w w' : World} (h : ∃ p : Regrown, w' = grow (redrawn w p.d) p.os) : Below w.heap.size w w' := by
  obtain ⟨⟨d, os⟩, rfl⟩ := h
  exact below_regrown w d os
set_option maxHeartbeats 6400000 in
theorem spansRow_walk (bs : List Nat) (A : Option Addr) (n c : Nat) (W : World) (h : Byts W A n c bs) :
    Calls Try.prog 6 #[.slice A n c] W (Good W) := by
  by_cases h1 : 3000 < n
  · have h1' : (3000 : Int) < (n : Int) := by omega
    clear h
    go_enter Try.func6, Try.ntmps6
    go_wp2_with (go_at_call 8; refine (views_good _).mono ?_; rintro e w1 ⟨rfl, hb⟩)
    go_ret
    exact ⟨rfl, hb⟩
  have h1' : ¬ ((3000 : Int) < (n : Int)) := by omega
  have C1 : Calls Try.prog 9 #[.slice A n c] W (OfRes bs W) := by
    have := of_any bs A c W h.rd h.small (by rw [h.len]; omega) (by rw [h.len]; exact h.cap) h.most
    rw [h.len] at this
    exact this
  have D1 := Lib.hid C1
  have HLEN := Lib.hid h.len
  clear C1 h
  by_cases he : errE bs = 0
  · have hok := ok_of he
    have hp := hok.pos
    have hsl := spn_len bs
    have hn16 := hok.le
    have hlast := hok.last
    obtain ⟨m, hm⟩ : ∃ m, num bs = m := ⟨_, rfl⟩
    have HM := Lib.hid hm
    rw [hm] at hp hsl hn16 hlast
    rw [HLEN.out] at hlast
    have HE := Lib.hid he
    have HOK := Lib.hid hok
    have HSL := Lib.hid hsl
    have hw2 : IntKind.i64.wrap (2 * (m : Int)) = 2 * (m : Int) := IntWalk.i64_in _ (by omega)
    obtain ⟨fr, hfr⟩ : ∃ fr, 2 + 2 * m = fr := ⟨_, rfl⟩
    have hw3 : IntKind.i64.wrap (2 + 2 * (m : Int)) = (fr : Int) := wrap_of (by omega) (by omega)
    have HFR := Lib.hid hfr
    have HLAST := Lib.hid hlast
    clear he hok hm hsl hfr hlast
    go_enter Try.func6, Try.ntmps6
    go_wp2_with fail
    refine D1.out.mono ?_
    rintro e w1 ⟨⟨_, N1, v1, _, rfl, o1⟩ | ⟨hne, _⟩, b1⟩
    case inr => exact absurd HE.out hne
    rw [HM.out] at o1
    obtain ⟨ub, uc, rfl, hub, hcl⟩ := cells_two o1 hp HSL.out
    have H1 := Lib.hid hcl
    have HUB := Lib.hid hub
    have B1 := Lib.hid b1
    clear o1 hcl hub b1
    go_wp2_with fail
    go_loopw [5, 6] (RwR bs m w1) (fun _ i _ => m - (intOf i).toNat)
    case atStart => exact ⟨0, by omega, by rw [HFR.out]; simp [beg], rfl, Below.refl _ _⟩
    case round =>
      obtain ⟨k, hk, rfl, rfl, hbel⟩ := hrel
      by_cases hkm : k < m
      · have hge := HOK.out.beg_le (i := k) (by rw [HM.out]; exact hkm)
        have hel := HOK.out.end_le (i := k) (by rw [HM.out]; exact hkm)
        rw [HM.out] at hel
        have hla := HLAST.out
        have hbs := beg_succ bs k
        have ce : ∀ w, Below w1.heap.size w1 w → ∀ j, j < m → w.cell? ⟨ub, j * 2, none⟩ = some (.int .i64 ((2 + 2 * m + beg bs j : Nat) : Int)) ∧ w.cell? ⟨ub, j * 2 + 1, none⟩ = some (.int .i64 ((endAt bs j - beg bs j : Nat) : Int)) := fun w hb j hj => by
          have h2 := H1.out j hj
          rw [spn_at (by rw [HM.out]; exact hj), HM.out] at h2
          exact ⟨(hb.cell (p := ⟨ub, j * 2, none⟩) HUB.out).trans h2.1, (hb.cell (p := ⟨ub, j * 2 + 1, none⟩) HUB.out).trans h2.2⟩
        have CE := Lib.hid ce
        have hprev : ∀ p, k = p + 1 → endAt bs p = beg bs k ∧ beg bs p ≤ endAt bs p := fun p e => by
          subst e
          exact ⟨(beg_succ bs p).symm, HOK.out.beg_le (by rw [HM.out]; omega)⟩
        obtain ⟨x, hx⟩ : ∃ x, endAt bs k = x := ⟨_, rfl⟩
        obtain ⟨g, hg⟩ : ∃ g, beg bs k = g := ⟨_, rfl⟩
        rw [hx] at hge hel hbs
        rw [hg] at hge ⊢
        obtain ⟨t, ht⟩ : ∃ t, 2 + 2 * m + g = t := ⟨_, rfl⟩
        obtain ⟨q, hq⟩ : ∃ q, x - g = q := ⟨_, rfl⟩
        rw [ht]
        have ck : ∀ w, Below w1.heap.size w1 w → w.cell? ⟨ub, k * 2, none⟩ = some (.int .i64 (t : Int)) ∧ w.cell? ⟨ub, k * 2 + 1, none⟩ = some (.int .i64 (q : Int)) := fun w hb => by
          have := ce w hb k hkm
          rw [hx, hg, ht, hq] at this
          exact this
        have CK := Lib.hid ck
        have hins : insB (t : Int) (q : Int) 0 (n : Int) = true := by simp [insB, mayB]; omega
        have HINS := Lib.hid hins
        obtain ⟨c1, c2⟩ := ck wr hbel
        have HX := Lib.hid hx
        have HG := Lib.hid hg
        have HBS := Lib.hid hbs
        have HBW := Lib.hid hbel
        have hwt : IntKind.i64.wrap ((t : Int) + (q : Int)) = ((2 + 2 * m + x : Nat) : Int) := wrap_of (by omega) (by omega)
        have hk0' : (0 : Int) ≤ (k : Int) := by omega
        have hk1' : (k : Int) < (m : Int) := by omega
        have HB := hbel
        by_cases hk0 : k = 0
        · subst hk0
          clear ce hprev hins hx hg hbs hge hel hla hbel ck
          rw [show (((0 : Nat) : Int)) = 0 from rfl]
          rw [show 0 * 2 = 0 from rfl] at c1
          rw [show 0 * 2 + 1 = 1 from rfl] at c2
          go_wp2_with fail
          have e1 := cell_regrown c1
          have e2 := cell_regrown c2
          refine wp_region_quiet_below (by kernel_rfl) (by kernel_rfl) ?_
          repeat (go_big_quiet_step (first
            | (go_at_call 13; exact Calls.regrown_of (inside_any _ _ _ _ true (by exact HINS.out) _))))
          refine wpQuiet_nil ?_
          intro w2 HB
          replace HB := boxes_trans HBW.out (below_of_regrown HB)
          obtain ⟨c1, c2⟩ := CK.out _ HB
          rw [show 0 * 2 = 0 from rfl] at c1
          rw [show 0 * 2 + 1 = 1 from rfl] at c2
          go_wp2_with fail
          go_roundw
          case rel => exact ⟨1, by omega, by rw [HBS.out]; first | rfl | (congr 1; omega), by go_num, HB⟩
          case measure => simp [intOf]; omega
        · obtain ⟨p, rfl⟩ : ∃ p, k = p + 1 := ⟨k - 1, by omega⟩
          obtain ⟨hp1, hp2⟩ := hprev p rfl
          have cp := fun w hb => ce w hb p (by omega)
          obtain ⟨y, hy⟩ : ∃ y, beg bs p = y := ⟨_, rfl⟩
          rw [hg] at hp1
          rw [hp1, hy] at cp
          rw [hp1, hy] at hp2
          obtain ⟨s, hs⟩ : ∃ s, 2 + 2 * m + y = s := ⟨_, rfl⟩
          obtain ⟨r, hr⟩ : ∃ r, g - y = r := ⟨_, rfl⟩
          rw [hs, hr] at cp
          have CP := Lib.hid cp
          obtain ⟨d1, d2⟩ := cp wr hbel
          have hap : apaB (s : Int) (r : Int) (t : Int) (q : Int) = true := by simp [apaB, mayB]; omega
          have HAP := Lib.hid hap
          have hwp : IntKind.i64.wrap (((p + 1 : Nat) : Int) - 1) = (p : Int) := wrap_of (by omega) (by omega)
          have hwp2 : IntKind.i64.wrap ((p : Int) + 1 - 1) = (p : Int) := wrap_of (by omega) (by omega)
          have v0 : (0 : Int) < (p : Int) + 1 := by omega
          have v1 : (0 : Int) ≤ (p : Int) := by omega
          have v2 : (0 : Int) ≤ (p : Int) + 1 := by omega
          have v3 : (p : Int) < (m : Int) := by omega
          have v4 : (p : Int) + 1 < (m : Int) := by omega
          have v5 : 0 < p + 1 := by omega
          clear ce hprev hins hx hg hbs hge hel hla hbel ck cp hap hp1 hp2 hy hs hr hk0
          go_wp2_with fail
          have e1 := cell_regrown c1
          have e2 := cell_regrown c2
          have e3 := cell_regrown d1
          have e4 := cell_regrown d2
          refine wp_region_quiet_below (by kernel_rfl) (by kernel_rfl) ?_
          repeat (go_big_quiet_step (first
            | (go_at_call 13; exact Calls.regrown_of (inside_any _ _ _ _ true (by exact HINS.out) _))
            | (go_at_call 15; exact Calls.regrown_of (apart_any _ _ _ _ true (by exact HAP.out) _))))
          refine wpQuiet_nil ?_
          intro w2 HB
          replace HB := boxes_trans HBW.out (below_of_regrown HB)
          obtain ⟨c1, c2⟩ := CK.out _ HB
          go_wp2_with fail
          go_roundw
          case rel => exact ⟨p + 1 + 1, by omega, by rw [HBS.out]; first | rfl | (congr 1; omega), by go_num, HB⟩
          case measure => simp [intOf]; omega
      · obtain rfl : m = k := by omega
        have hend : beg bs m = endAt bs (m - 1) := by
          unfold beg
          rw [if_neg (by omega)]
        have hval : 2 + 2 * m + beg bs m = n := by rw [hend]; exact HLAST.out
        rw [hval]
        have HBW := Lib.hid hbel
        clear hend hval hbel
        go_wp2_with fail
        refine (views_good _).mono ?_
        rintro e w6 ⟨rfl, b6⟩
        have B6 := Lib.hid (boxes_trans HBW.out b6)
        clear b6
        go_wp2_with fail
        go_ret
        exact ⟨rfl, B1.out.trans (B6.out.mono B1.out.size)⟩
  · obtain ⟨v, hv⟩ : ∃ v, errE bs = v := ⟨_, rfl⟩
    have HV := Lib.hid hv
    have HE := Lib.hid he
    have hvi : ((v : Int) != 0) = true := by simp; omega
    clear he hv
    go_enter Try.func6, Try.ntmps6
    go_wp2_with fail
    refine D1.out.mono ?_
    rintro e w1 ⟨⟨h0, _⟩ | ⟨_, rfl⟩, b1⟩
    case inl => exact absurd h0 HE.out
    rw [HV.out]
    have B1 := Lib.hid b1
    clear b1
    go_wp2_with fail
    refine (views_good _).mono ?_
    rintro e w6 ⟨rfl, b6⟩
    have B6 := Lib.hid (below_next B1.out b6)
    clear b6
    go_wp2_with fail
    go_ret
    exact ⟨rfl, B6.out⟩
end Sp
end Go.Proofs.Ytajkcghbdbjmaaa
