/- Layer 1 (num): the walk of the law NumBack: it returns true and writes nothing that was there. Conditions: the arguments are of their types. -/
import Derived.Test.YtijfhgbddkcglaaNumJ
import Derived.Deep.RegionHeld3
import Derived.Deep.DeepCutAuto
import Derived.Deep.QuietTactic
import Derived.BigQuiet
namespace Go.Proofs.Ytijfhgbddkcglaa
open Go.RowKit
namespace Num

theorem nat_mod (v p : Int) (hv : 0 ≤ v) (hp : 0 < p) : v % p + v / p % 256 * p = v % (p * 256) := by
  obtain ⟨V, rfl⟩ := Int.eq_ofNat_of_zero_le hv
  obtain ⟨Q, rfl⟩ := Int.eq_ofNat_of_zero_le (Int.le_of_lt hp)
  have := @Nat.mod_mul Q 256 V
  have e : ((V % (Q * 256) : Nat) : Int) = ((V % Q + Q * (V / Q % 256) : Nat) : Int) := by rw [this]
  simp only [Int.natCast_emod, Int.natCast_mul, Int.natCast_add, Int.natCast_ediv] at e
  rw [Int.mul_comm ((V : Int) / Q % 256)]
  exact e.symm
/-- What is stored is loaded. -/
theorem ld_st (l : List Int) (a w : Nat) (v : Int) (hv : 0 ≤ v) (ha : a + w ≤ l.length) (k : Nat) (hk : k ≤ w) : ld (st l a w v) a k = v % 256 ^ k := by
  induction k with
  | zero => simp [ld, Int.emod_one]
  | succ k ih =>
    have e1 : ld (st l a w v) a (k + 1) = ld (st l a w v) a k + (st l a w v).getD (a + k) 0 * 256 ^ k := rfl
    rw [e1, ih (by omega), st_getD _ _ _ _ _ (by omega), if_pos (by omega), show a + k - a = k by omega, pow_succ]
    exact nat_mod v _ hv (pow_pos k)
theorem and32 (v : Int) (h0 : 0 ≤ v) (h1 : v ≤ 18446744073709551615) : 0 ≤ bits .and .u64 v 4294967295 ∧ bits .and .u64 v 4294967295 < 4294967296 := by
  rw [u64_and v 4294967295 h0 (by omega) (by decide) (by decide)]
  have := Nat.and_le_right (n := v.toNat) (m := (4294967295 : Int).toNat)
  have e : (4294967295 : Int).toNat = 4294967295 := rfl
  rw [e] at this ⊢
  omega
theorem store_n (A : Option Addr) (l : List Int) (n cap : Nat) (a w v : Int) (W : World) (hn : l.length = n) (hl : n ≤ 1099511627776) (ha : a ≤ 9223372036854775807) (hv0 : 0 ≤ v) (hv1 : v ≤ 18446744073709551615) (hb : Bytes W A l) :
    Calls Try.prog 11 #[.slice A n cap, .int .i64 a, .int .i64 w, .int .u64 v] W (SB (stE l.length a w v) (stL l a w v) W) := by
  subst hn
  exact store_sb A l cap a w v W hl ha hv0 hv1 hb
theorem load_n (A : Option Addr) (l : List Int) (n cap : Nat) (a w x e : Int) (W : World) (hn : l.length = n) (hl : n ≤ 9223372036854775807) (ha : a ≤ 9223372036854775807) (hb : Bytes W A l) (hx : ldV l a w = x) (he : plE l.length a w = e) :
    Calls Try.prog 9 #[.slice A n cap, .int .i64 a, .int .i64 w] W fun e' W' => e' = .returned (.tuple #[.int .u64 x, .int .i64 e]) ∧ W = W' := by
  subst hn
  exact load_val A l cap a w x e W hl ha hb hx he
theorem ldV_st {m : List Int} {x : Nat} {u : Int} (hp : plE m.length x 4 = 0) (hxy : x + 4 ≤ m.length) (h0 : 0 ≤ u) (h1 : u < 4294967296) : ldV (st m x 4 u) x 4 = u := by
  have e1 : plE (st m x 4 u).length x 4 = 0 := by rw [st_len]; exact hp
  refine (ldV_ok (a := x) (w := 4) e1).trans ?_
  rw [ld_st m x 4 u h0 hxy 4 (Nat.le_refl _)]
  exact Int.emod_eq_of_lt h0 h1
theorem below_of_drew {B : Nat} {w w' : World} (h : Below B w.drew w') : Below B w w' := ⟨h.os, h.tape, h.output, h.size, h.block⟩
/-- The relation of NumBack's loop. -/
def NB (W : World) (n na : Nat) (now i : Value) (wr : World) : Prop :=
  ∃ (k : Nat) (A : Option Addr) (cap : Nat) (m : List Int), k ≤ na ∧ i = .int .i64 k ∧ now = .slice A n cap ∧ m.length = n ∧ Bytes wr A m ∧ Below W.heap.size W wr
/-- The relation of the inner loop: it only reads. -/
def NJ (wc : World) (n : Nat) (j : Value) (w2 : World) : Prop := ∃ j' q : Nat, j' ≤ n ∧ j = .int .i64 j' ∧ w2 = wc.drewN q
theorem bytes_drewN {w : World} {A : Option Addr} {l : List Int} (h : Bytes w A l) (n : Nat) : Bytes (w.drewN n) A l := h
/-- What the statement with Store leaves. -/
def NC (wr : World) (m : List Int) (a v : Int) (s9 s10 : Value) (wx : World) : Prop :=
  ∃ (A : Option Addr) (cap : Nat), s9 = .slice A (stL m a 4 v).length cap ∧ s10 = .int .i64 (stE m.length a 4 v) ∧ Bytes wx A (stL m a 4 v) ∧ Below wr.heap.size wr wx

set_option maxRecDepth 100000 in
set_option maxHeartbeats 3200000 in
theorem numBack_walk (A : Option Addr) (l : List Int) (cap : Nat) (B : Option Addr) (ats : List Int) (cb : Nat) (C : Option Addr) (vs : List Int) (cc : Nat) (W : World) (hl : l.length ≤ 9223372036854775807) (hla : ats.length ≤ 9223372036854775807) (hlv : vs.length ≤ 9223372036854775807)
    (hb : Bytes W A l) (ha : Ints .i64 W B ats) (hv : Ints .u64 W C vs) :
    Calls Try.prog 6 #[.slice A l.length cap, .slice B ats.length cb, .slice C vs.length cc] W fun e W' => e = .returned (.bool true) ∧ Below W.heap.size W W' := by
  have HB := Lib.hid hb
  have HA := Lib.hid ha
  have HV := Lib.hid hv
  clear hb ha hv
  by_cases h1 : 300 < l.length
  · go_enter Try.func6, Try.ntmps6
    go_wp2_with (go_at_call 8; refine (loads_true _).mono ?_; rintro e w1 ⟨rfl, hb1⟩)
    go_ret
    exact ⟨rfl, by assumption⟩
  by_cases h2 : 40 < ats.length
  · go_enter Try.func6, Try.ntmps6
    go_wp2_with (go_at_call 8; refine (loads_true _).mono ?_; rintro e w1 ⟨rfl, hb1⟩)
    go_ret
    exact ⟨rfl, by assumption⟩
  by_cases h3 : vs.length < ats.length
  · go_enter Try.func6, Try.ntmps6
    go_wp2_with (go_at_call 8; refine (loads_true _).mono ?_; rintro e w1 ⟨rfl, hb1⟩)
    go_ret
    exact ⟨rfl, by assumption⟩
  go_enter Try.func6, Try.ntmps6
  go_wp2_with fail
  go_loopw [7, 8] (fun now i wr => NB W l.length ats.length now i wr) (fun _ i _ => ats.length - (intOf i).toNat)
  case atStart => exact ⟨0, A, cap, l, by omega, rfl, rfl, rfl, HB.out, Below.refl _ _⟩
  case round =>
    obtain ⟨k, A1, c1, m, hk, rfl, rfl, hm, hby, hbr⟩ := hrel
    by_cases hlt : k < ats.length
    · obtain ⟨bb, ob, rfl, hbb, hcb⟩ := HA.out.2 (by omega)
      obtain ⟨bc, oc, rfl, hbc, hcc⟩ := HV.out.2 (by omega)
      have hcell1 : wr.cell? ⟨bb, ob + k, none⟩ = some (.int .i64 (ats.getD k 0)) := (hbr.cell (p := ⟨bb, ob + k, none⟩) hbb).trans (hcb k hlt)
      have hcell2 : wr.cell? ⟨bc, oc + k, none⟩ = some (.int .u64 (vs.getD k 0)) := (hbr.cell (p := ⟨bc, oc + k, none⟩) hbc).trans (hcc k (by omega))
      have hw1 := bounds_i64 (HA.out.1 (ats.getD k 0) (by rw [List.getD_eq_getElem?_getD, List.getElem?_eq_getElem hlt]; exact List.getElem_mem hlt))
      have hw2 := bounds_u64 (HV.out.1 (vs.getD k 0) (by rw [List.getD_eq_getElem?_getD, List.getElem?_eq_getElem (by omega)]; exact List.getElem_mem (by omega)))
      obtain ⟨a, hae⟩ : ∃ a, ats.getD k 0 = a := ⟨_, rfl⟩
      obtain ⟨v, hve⟩ : ∃ v, vs.getD k 0 = v := ⟨_, rfl⟩
      rw [hae] at hcell1 hw1
      rw [hve] at hcell2 hw2
      have HCB := Lib.hid hcb
      have HCC := Lib.hid hcc
      have HBY := Lib.hid hby
      have HM := Lib.hid hm
      obtain ⟨a0, a1⟩ := hw1
      obtain ⟨v0, v1⟩ := hw2
      have hi0 : (0 : Int) ≤ (k : Int) := by omega
      have hi1 : (k : Int) < (ats.length : Int) := by omega
      have hi2 : (k : Int) < (vs.length : Int) := by omega
      have hp := and32 v v0 v1
      clear hcb hcc hby hm hae hve
      go_upto_region 7 with (fail)
      go_cut [9, 10] (fun s9 s10 wx => NC wr m a (bits .and .u64 v 4294967295) s9 s10 wx)
      case first =>
        go_region_held3 (fun w' => w'.cell? ⟨bb, ob + k, none⟩ = some (.int .i64 a) ∧ w'.cell? ⟨bc, oc + k, none⟩ = some (.int .u64 v)) (go_keep)
          (first | (go_at_call 11; refine (store_n A1 m _ c1 a 4 _ _ HM.out (by omega) (by omega) hp.1 (by omega) (by exact HBY.out)).mono ?_; rintro e wx ⟨A2, c2, rfl, hy2, hb2⟩; have q1 : wx.cell? ⟨bb, ob + k, none⟩ = some (.int .i64 a) := (hb2.cell (p := ⟨bb, ob + k, none⟩) (Nat.lt_of_lt_of_le hbb hbr.size)).trans hcell1; have q2 : wx.cell? ⟨bc, oc + k, none⟩ = some (.int .u64 v) := (hb2.cell (p := ⟨bc, oc + k, none⟩) (Nat.lt_of_lt_of_le hbc hbr.size)).trans hcell2))
        all_goals (go_wp2_with fail; go_meet; exact ⟨A2, c2, rfl, rfl, hy2, below_of_drew hb2⟩)
      case rest =>
        obtain ⟨A2, c2, rfl, rfl, hy2, hb2⟩ := hcut
        have q1 : wc.cell? ⟨bb, ob + k, none⟩ = some (.int .i64 a) := (hb2.cell (p := ⟨bb, ob + k, none⟩) (Nat.lt_of_lt_of_le hbb hbr.size)).trans hcell1
        have q2 : wc.cell? ⟨bc, oc + k, none⟩ = some (.int .u64 v) := (hb2.cell (p := ⟨bc, oc + k, none⟩) (Nat.lt_of_lt_of_le hbc hbr.size)).trans hcell2
        have hbc2 : Below W.heap.size W wc := hbr.trans (hb2.mono hbr.size)
        have hby1 : Bytes wc A1 m := HBY.out.below hb2
        obtain ⟨u, hu⟩ : ∃ u, bits .and .u64 v 4294967295 = u := ⟨_, rfl⟩
        by_cases he : stE m.length a 4 u = 0
        · obtain ⟨hp0, hw0, _⟩ := stE_zero he
          obtain ⟨x, y, rfl, hy, hxy, _, _⟩ := plE_zero hp0
          obtain rfl : y = 4 := by omega
          clear hy
          have hst : stL m x 4 u = st m x 4 u := if_pos he
          rw [hu] at hp hy2 ⊢
          rw [he]
          rw [hst] at hy2 ⊢
          rw [st_len, HM.out]
          have hu0 := hp.1
          have hu1 := hp.2
          have hld := ldV_st hp0 hxy hu0 hu1
          have hpl : plE (st m x 4 u).length x 4 = 0 := by rw [st_len]; exact hp0
          have hd : (u != bits .and .u64 v 4294967295) = false := by rw [hu]; simp
          have HU := Lib.hid hu
          have HL := Lib.hid hld
          have HP := Lib.hid hpl
          have HY2 := Lib.hid hy2
          have HY1 := Lib.hid hby1
          have HN : Hid ((st m x 4 u).length = l.length) := (st_len m x 4 u).trans HM.out
          clear hu hld hpl hp hp0 hw0 he hst hy2 hby1 hcell1 hcell2
          go_wp2_with fail
          refine (load_n A2 (st m x 4 u) _ c2 x 4 _ _ _ HN.out (by omega) a1 HY2.out HL.out HP.out).mono ?_
          rintro e w' ⟨rfl, rfl⟩
          go_wp2_with fail
          have hnl : x + 4 ≤ l.length := by have := HM.out; omega
          obtain ⟨b2, o2, rfl, hl2, hc2⟩ := HY2.out.2 (by rw [HN.out]; omega)
          obtain ⟨b1, o1, rfl, hl1, hc1⟩ := HY1.out.2 (by rw [HM.out]; omega)
          have HC2 := Lib.hid hc2
          have HC1 := Lib.hid hc1
          clear hc2 hc1
          go_loopw [13] (fun j w2 => NJ wc l.length j w2) (fun j _ => l.length - (intOf j).toNat)
          case atStart => exact ⟨0, 0, by omega, rfl, rfl⟩
          case round =>
            obtain ⟨j, q, hj, rfl, rfl⟩ := hrel
            by_cases hjl : j < l.length
            · have hz1 : wc.cell? ⟨b1, o1 + j, none⟩ = some (.int .u8 (m.getD j 0)) := HC1.out j (by rw [HM.out]; exact hjl)
              have hz2 : wc.cell? ⟨b2, o2 + j, none⟩ = some (.int .u8 ((st m x 4 u).getD j 0)) := HC2.out j (by rw [HN.out]; exact hjl)
              have hge := Lib.hid (st_getD m x 4 u j (by rw [HM.out]; exact hjl))
              obtain ⟨z1, hz⟩ : ∃ z1, m.getD j 0 = z1 := ⟨_, rfl⟩
              obtain ⟨z2, hzz⟩ : ∃ z2, (st m x 4 u).getD j 0 = z2 := ⟨_, rfl⟩
              rw [hz] at hz1
              rw [hzz] at hz2
              have hj0 : (0 : Int) ≤ (j : Int) := by omega
              have hj1 : (j : Int) < (l.length : Int) := by omega
              by_cases g1 : j < x
              · have e : z2 = z1 := by rw [← hzz, hge.out, if_neg (by omega), hz]
                subst e
                have g1' : (j : Int) < (x : Int) := by omega
                clear hz hzz
                go_wp2_with fail
                go_quiet (fail)
                go_wp2
                go_roundw
                case rel => exact ⟨j + 1, _, by omega, by go_num, rfl⟩
                case measure => simp [intOf]; omega
              · have g1' : decide ((j : Int) < (x : Int)) = false := by simp; omega
                by_cases g3 : x + 4 ≤ j
                · have e : z2 = z1 := by rw [← hzz, hge.out, if_neg (by omega), hz]
                  subst e
                  have g3' : (4 : Int) ≤ (j : Int) - (x : Int) := by omega
                  clear hz hzz
                  go_wp2_with fail
                  go_quiet (fail)
                  go_wp2
                  go_roundw
                  case rel => exact ⟨j + 1, _, by omega, by go_num, rfl⟩
                  case measure => simp [intOf]; omega
                · have g3' : decide ((4 : Int) ≤ (j : Int) - (x : Int)) = false := by simp; omega
                  clear hz hzz
                  go_wp2_with fail
                  go_quiet (fail)
                  go_wp2
                  go_roundw
                  case rel => exact ⟨j + 1, _, by omega, by go_num, rfl⟩
                  case measure => simp [intOf]; omega
            · obtain rfl : j = l.length := by omega
              go_wp2
              go_roundw
              case rel => exact ⟨k + 1, some ⟨b2, o2, none⟩, c2, st m x 4 u, by omega, by go_num, rfl, HN.out, bytes_drewN HY2.out q, below_drewN hbc2 q⟩
              case measure => simp [intOf]; omega
        · have hne : (stE m.length a 4 (bits .and .u64 v 4294967295) != 0) = true := by rw [hu]; simpa using he
          obtain ⟨z, hz⟩ : ∃ z, stE m.length a 4 (bits .and .u64 v 4294967295) = z := ⟨_, rfl⟩
          rw [hz] at hne ⊢
          have HY1 := Lib.hid hby1
          clear he hu hy2 hby1 hz
          go_wp2
          go_roundw
          case rel => exact ⟨k + 1, A1, c1, m, by omega, by go_num, rfl, HM.out, HY1.out, hbc2⟩
          case measure => simp [intOf]; omega
    · obtain rfl : k = ats.length := by omega
      go_wp2_with (go_at_call 8; refine (loads_true _).mono ?_; rintro e w1 ⟨rfl, hb1⟩)
      go_ret
      exact ⟨rfl, hbr.trans (Below.mono (by assumption) hbr.size)⟩
end Num
end Go.Proofs.Ytijfhgbddkcglaa
