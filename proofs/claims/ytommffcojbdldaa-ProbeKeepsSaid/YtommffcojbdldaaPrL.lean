/- Layer 19: the contract of Right. -/
import Derived.Test.YtommffcojbdldaaPrK
namespace Go.Proofs.Ytommffcojbdldaa
open Go.RowKit
namespace Pr

theorem D_bd (n : Nat) (h : Int) (a : Nat) : 0 ≤ D n h a ∧ D n h a ≤ (n : Int) := by
  unfold D
  split
  · split <;> omega
  · omega
def prv (n i : Nat) : Nat := (i + n - 1) % n
def farT (t : Tab) (n i : Nat) : Int := D n (cl t i).2 i
/-- Does a cell lie wrong, behind the one ahead of it? -/
def badAt (t : Tab) (n i : Nat) : Bool := nz (cl t i) && (decide (0 < farT t n i) && (!nz (cl t (prv n i)) || decide (farT t n (prv n i) < farT t n i - 1)))
def chainB (t : Tab) : Bool := (List.range t.length).all fun i => !badAt t t.length i
def rightB (t : Tab) : Bool := knownB t && chainB t
theorem chain_bad {t : Tab} {n k : Nat} (hl : t.length = n) (hk : k < n) (h : badAt t n k = true) : chainB t = false := by
  unfold chainB
  rw [List.all_eq_false]
  exact ⟨k, List.mem_range.2 (by omega), by rw [hl, h]; decide⟩
theorem chain_good {t : Tab} {n : Nat} (hl : t.length = n) (h : ∀ j, j < n → badAt t n j = false) : chainB t = true := by
  unfold chainB
  rw [List.all_eq_true]
  intro i hi
  rw [hl, h i (by rw [← hl]; exact List.mem_range.1 hi)]
  rfl
def RiR (t : Tab) (n : Nat) (W : World) (i : Value) (w : World) : Prop := ∃ k : Nat, k ≤ n ∧ i = .int .i64 (k : Int) ∧ Below W.heap.size W w ∧ ∀ j, j < k → badAt t n j = false
set_option maxRecDepth 100000 in
set_option maxHeartbeats 3200000 in
theorem right_any (t : Tab) (A : Option Addr) (n c : Nat) (W : World) (hr : RdT W A n t) (hn : n ≤ 100000) :
    Calls Try.prog 16 #[.slice A n c] W fun e w => e = .returned (.bool (rightB t)) ∧ Below W.heap.size W w := by
  have KN := Lib.hid (known_any t A n c W hr hn)
  have HR := Lib.hid hr
  have HL := Lib.hid hr.len
  have HRB := Lib.hid (show rightB t = (knownB t && chainB t) from rfl)
  clear hr
  cases hkb : knownB t with
  | false =>
    rw [hkb] at KN HRB
    clear hkb
    go_enter Try.func16, Try.ntmps16
    go_wp2_with fail
    refine KN.out.mono ?_
    rintro e w1 ⟨rfl, b1⟩
    have B1 := Lib.hid b1
    clear b1
    go_wp2_with fail
    go_ret
    exact ⟨by rw [HRB.out]; rfl, B1.out⟩
  | true =>
    rw [hkb, Bool.true_and] at HRB
    rw [hkb] at KN
    clear hkb
    go_enter Try.func16, Try.ntmps16
    go_wp2_with fail
    refine KN.out.mono ?_
    rintro e w1 ⟨rfl, b1⟩
    have B1 := Lib.hid b1
    clear b1
    go_wp2_with fail
    obtain ⟨b, hb⟩ : ∃ b, w1.heap.size = b := ⟨_, rfl⟩
    obtain ⟨w2, hw2⟩ : ∃ w2, w1.alloc (.cells #[.slice A n c] 56) = w2 := ⟨_, rfl⟩
    have k2 : w2.cell? ⟨b, 0, none⟩ = some (.slice A n c) := by rw [← hw2, ← hb]; simp [go_sem]
    have hb2 : Below w1.heap.size w1 w2 := by rw [← hw2]; exact (Below.refl _ _).alloc (Nat.le_refl _) _
    have hbl : b < w2.heap.size := by rw [← hw2, ← hb]; simp
    have K2 := Lib.hid k2
    have B2 := Lib.hid (below_next B1.out hb2)
    have HBL := Lib.hid hbl
    rw [hw2, hb]
    clear hw2 hb k2 hb2 hbl
    go_loopw [15] (RiR t n w2) (fun i _ => n - (intOf i).toNat)
    case atStart => exact ⟨0, by omega, rfl, Below.refl _ _, fun j hj => absurd hj (by omega)⟩
    case round =>
      obtain ⟨k, hk, rfl, hbel, hok⟩ := hrel
      have HB := Lib.hid hbel
      have HOK := Lib.hid hok
      by_cases hkn : k < n
      · have hrd := (HR.out.below B2.out).below hbel
        have FA := Lib.hid (fun w (h : Below wr.heap.size wr w) => far_any t A n c k w (hrd.below h) hn hkn)
        have IS := Lib.hid (fun w (h : Below wr.heap.size wr w) => is_any t A n c k w (hrd.below h) (by omega) hn (by omega))
        rw [Nat.mod_eq_of_lt hkn] at IS
        obtain ⟨y, hy⟩ : ∃ y, prv n k = y := ⟨_, rfl⟩
        have hyn : y < n := by rw [← hy]; exact Nat.mod_lt _ (by omega)
        have FAP := Lib.hid (fun w (h : Below wr.heap.size wr w) => far_any t A n c y w (hrd.below h) hn hyn)
        have ISP := Lib.hid (fun w (h : Below wr.heap.size wr w) => is_any t A n c y w (hrd.below h) (by omega) hn (by omega))
        rw [Nat.mod_eq_of_lt hyn] at ISP
        have hbad : badAt t n k = (nz (cl t k) && (decide (0 < farT t n k) && (!nz (cl t y) || decide (farT t n y < farT t n k - 1)))) := by rw [← hy]; rfl
        have db1 := D_bd n (cl t k).2 k
        have db2 := D_bd n (cl t y).2 y
        unfold farT at hbad
        obtain ⟨d, hd⟩ : ∃ d, D n (cl t k).2 k = d := ⟨_, rfl⟩
        obtain ⟨d', hd'⟩ : ∃ d', D n (cl t y).2 y = d' := ⟨_, rfl⟩
        obtain ⟨z, hz⟩ : ∃ z, nz (cl t k) = z := ⟨_, rfl⟩
        obtain ⟨z', hz'⟩ : ∃ z', nz (cl t y) = z' := ⟨_, rfl⟩
        rw [hd, hd', hz, hz'] at hbad
        rw [hd] at FA db1
        rw [hd'] at FAP db2
        rw [hz] at IS
        rw [hz'] at ISP
        have hmod : ((k : Int) + (n : Int) - 1).tmod (n : Int) = (y : Int) := by
          rw [Int.tmod_eq_emod_of_nonneg (by omega), ← hy]
          unfold prv
          have : ((k + n - 1 : Nat) : Int) = (k : Int) + (n : Int) - 1 := by omega
          rw [← this]
          norm_cast
        have hmod2 : ((k : Int) + (n : Int) - 1) % (n : Int) = (y : Int) := by rw [← Int.tmod_eq_emod_of_nonneg (by omega)]; exact hmod
        have hw1 : IntKind.i64.wrap ((k : Int) + (n : Int)) = (k : Int) + (n : Int) := IntWalk.i64_in _ (by omega)
        have hw2 : IntKind.i64.wrap ((k : Int) + (n : Int) - 1) = (k : Int) + (n : Int) - 1 := IntWalk.i64_in _ (by omega)
        have hw3 : IntKind.i64.wrap (d - 1) = d - 1 := IntWalk.i64_in _ (by omega)
        have hnn : ¬ (n = 0) := by omega
        have hnn2 : ¬ ((n : Int) = 0) := by omega
        have q0 : (0 : Int) ≤ (k : Int) := by omega
        have q1 : (k : Int) < (n : Int) := by omega
        have CB := Lib.hid (fun w (h : Below wr.heap.size wr w) => show w.cell? ⟨b, 0, none⟩ = some (.slice A n c) ∧ Below w2.heap.size w2 w from
          ⟨((HB.out.trans (h.mono HB.out.size)).cell (p := ⟨b, 0, none⟩) HBL.out).trans K2.out, HB.out.trans (h.mono HB.out.size)⟩)
        have HBAD := Lib.hid hbad
        have c0 := (CB.out wr (Below.refl _ _)).1
        clear hrd hbel hok hd hd' hz hz' hy hbad db1 db2
        go_wp2_with fail
        refine (FA.out _ (Below.refl _ _)).mono ?_
        rintro e w3 ⟨rfl, b3⟩
        have B3 := Lib.hid b3
        have c3 := (CB.out _ B3.out).1
        clear b3
        go_wp2_with fail
        refine (IS.out _ B3.out).mono ?_
        rintro e w4 ⟨rfl, b4⟩
        have B4 := Lib.hid (below_next B3.out b4)
        have c4 := (CB.out _ B4.out).1
        clear b4 c3
        cases z with
        | false =>
          have BA := Lib.hid (show badAt t n k = false by rw [HBAD.out]; rfl)
          go_wp2_with fail
          go_roundw
          case rel => exact ⟨k + 1, by omega, by go_num, (CB.out _ B4.out).2, fun j hj => by
            rcases Nat.lt_or_ge j k with h | h
            · exact HOK.out j h
            · obtain rfl : j = k := by omega
              exact BA.out⟩
          case measure => simp [intOf]; omega
        | true =>
          by_cases hd0 : 0 < d
          · go_wp2_with fail
            refine (ISP.out _ B4.out).mono ?_
            rintro e w5 ⟨rfl, b5⟩
            have B5 := Lib.hid (below_next B4.out b5)
            have c5 := (CB.out _ B5.out).1
            clear b5 c4
            cases z' with
            | false =>
              have BA := Lib.hid (show badAt t n k = true by rw [HBAD.out]; simp [hd0])
              have CH := Lib.hid (chain_bad HL.out hkn BA.out)
              go_wp2_with fail
              go_ret
              exact ⟨by rw [HRB.out, CH.out]; rfl, B2.out.trans ((CB.out _ B5.out).2.mono B2.out.size)⟩
            | true =>
              go_wp2_with fail
              refine (FAP.out _ B5.out).mono ?_
              rintro e w6 ⟨rfl, b6⟩
              have B6 := Lib.hid (below_next B5.out b6)
              have c6 := (CB.out _ B6.out).1
              clear b6 c5
              by_cases hdd : d' < d - 1
              · have BA := Lib.hid (show badAt t n k = true by rw [HBAD.out]; simp [hd0, hdd])
                have CH := Lib.hid (chain_bad HL.out hkn BA.out)
                go_wp2_with fail
                go_ret
                exact ⟨by rw [HRB.out, CH.out]; rfl, B2.out.trans ((CB.out _ B6.out).2.mono B2.out.size)⟩
              · have BA := Lib.hid (show badAt t n k = false by rw [HBAD.out]; simp; omega)
                go_wp2_with fail
                go_roundw
                case rel => exact ⟨k + 1, by omega, by go_num, (CB.out _ B6.out).2, fun j hj => by
                  rcases Nat.lt_or_ge j k with h | h
                  · exact HOK.out j h
                  · obtain rfl : j = k := by omega
                    exact BA.out⟩
                case measure => simp [intOf]; omega
          · have BA := Lib.hid (show badAt t n k = false by rw [HBAD.out]; simp [hd0])
            go_wp2_with fail
            go_roundw
            case rel => exact ⟨k + 1, by omega, by go_num, (CB.out _ B4.out).2, fun j hj => by
              rcases Nat.lt_or_ge j k with h | h
              · exact HOK.out j h
              · obtain rfl : j = k := by omega
                exact BA.out⟩
            case measure => simp [intOf]; omega
      · obtain rfl : n = k := by omega
        have CH := Lib.hid (chain_good HL.out hok)
        clear hbel hok
        go_wp2_with fail
        go_ret
        exact ⟨by rw [HRB.out, CH.out]; rfl, B2.out.trans (HB.out.mono B2.out.size)⟩
end Pr
end Go.Proofs.Ytommffcojbdldaa
