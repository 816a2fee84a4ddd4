/- Layer 19: the contract of the document's Right. -/
import Derived.Test.YtommffcojbdldaaPrR
import Derived.Deep.LoopGhost
namespace Go.Proofs.Ytommffcojbdldaa
open Go.RowKit
namespace Pr

theorem right_bad {t : Tab} {n k : Nat} (hl : t.length = n) (hk : k < n) (h : okAt t n k = false) : rightB t = false := by
  unfold rightB
  rw [known_bad hl hk h]
  rfl
theorem right_bad2 {t : Tab} {n k : Nat} (hl : t.length = n) (hk : k < n) (h : badAt t n k = true) : rightB t = false := by
  unfold rightB
  rw [chain_bad hl hk h, Bool.and_false]
def R1 (t : Tab) (n : Nat) (W : World) (G : Nat) (i : Value) (w : World) : Prop := ∃ k : Nat, k ≤ n ∧ G = n - k ∧ i = .int .i64 (k : Int) ∧ Mem.QQ W w ∧ ∀ j, j < k → okAt t n j = true
def R2 (t : Tab) (u l : Nat) (W : World) (G : Nat) (i : Value) (w : World) : Prop := ∃ k : Nat, k ≤ l ∧ G = l - k ∧ i = .int .i64 (k : Int) ∧ Mem.QQ W w ∧ ∀ j, j < k → idAt t u j = false
def R3 (t : Tab) (n : Nat) (W : World) (G : Nat) (i : Value) (w : World) : Prop := ∃ k : Nat, k ≤ n ∧ G = n - k ∧ i = .int .i64 (k : Int) ∧ Mem.QQ W w ∧ ∀ j, j < k → badAt t n j = false
def RrRes (t : Tab) (W : World) (e : Ending) (w : World) : Prop := e = .returned (.bool (rightB t)) ∧ Mem.QQ W w
set_option maxRecDepth 100000 in
set_option maxHeartbeats 6400000 in
theorem refright_any (t : Tab) (A : Option Addr) (n c : Nat) (W : World) (hr : RdT W A n t) (hn : n ≤ 100000) :
    Calls Try.prog 17 #[.slice A n c] W (RrRes t W) := by
  have HR := Lib.hid hr
  have HL := Lib.hid hr.len
  clear hr
  go_enter Try.func17, Try.ntmps17
  go_wp2_with fail
  go_loopg [3] n (fun G v w => R1 t n W G v w)
  case atStart => exact ⟨0, by omega, by omega, rfl, Mem.QQ.refl _, fun j hj => absurd hj (by omega)⟩
  case round =>
    obtain ⟨k, hk, rfl, rfl, hq, hok⟩ := hrel
    have HQ := Lib.hid hq
    have HOK := Lib.hid hok
    by_cases hkn : k < n
    · have hrd := HR.out.below (hq.below (B := W.heap.size))
      obtain ⟨tb, off, rfl, _, hc⟩ := hrd.rows (by omega)
      obtain ⟨h1, h2⟩ := hc k hkn
      have hoa : okAt t n k = if (cl t k).1 = 0 then decide ((cl t k).2 = 0) else inB n (cl t k).2 && (List.range k).all fun j => !idAt t (cl t k).1 j := rfl
      obtain ⟨u, hu⟩ : ∃ u, (cl t k).1 = u := ⟨_, rfl⟩
      obtain ⟨v, hv⟩ : ∃ v, (cl t k).2 = v := ⟨_, rfl⟩
      rw [hu] at h1
      rw [hv] at h2
      rw [hu, hv] at hoa
      have HC := Lib.hid hc
      have HU := Lib.hid hu
      have q0 : (0 : Int) ≤ (k : Int) := by omega
      have q1 : (k : Int) < (n : Int) := by omega
      clear hrd hc hu hv hq hok
      by_cases hu0 : u = 0
      · rw [if_pos hu0] at hoa
        have x1 : (u : Int) = 0 := by omega
        clear hu0
        by_cases hv0 : v = 0
        · have OA := Lib.hid (show okAt t n k = true by rw [hoa]; simpa using hv0)
          subst hv0
          clear hoa
          go_wp2_with fail
          go_roundg (n - (k + 1))
          case measure => omega
          case rel => exact ⟨k + 1, by omega, rfl, by go_num, HQ.out, fun j hj => by
            rcases Nat.lt_or_ge j k with h | h
            · exact HOK.out j h
            · obtain rfl : j = k := by omega
              exact OA.out⟩
        · have KB := Lib.hid (right_bad HL.out hkn (show okAt t n k = false by rw [hoa]; simpa using hv0))
          have x3 : (v != 0) = true := by simpa using hv0
          clear hoa
          go_wp2_with fail
          go_ret
          exact ⟨by rw [KB.out]; rfl, HQ.out⟩
      · rw [if_neg hu0] at hoa
        have x1 : ¬ (u : Int) = 0 := by omega
        have x2 : ((u : Int) == 0) = false := by simpa using x1
        clear hu0
        by_cases hv1 : v < 0
        · have KB := Lib.hid (right_bad HL.out hkn (show okAt t n k = false by rw [hoa, show inB n v = false by simp [inB]; omega]; rfl))
          clear hoa
          go_wp2_with fail
          go_ret
          exact ⟨by rw [KB.out]; rfl, HQ.out⟩
        by_cases hv2 : (n : Int) ≤ v
        · have KB := Lib.hid (right_bad HL.out hkn (show okAt t n k = false by rw [hoa, show inB n v = false by simp [inB]; omega]; rfl))
          clear hoa
          go_wp2_with fail
          go_ret
          exact ⟨by rw [KB.out]; rfl, HQ.out⟩
        have hib : inB n v = true := by simp [inB]; omega
        rw [hib, Bool.true_and] at hoa
        have HOA := Lib.hid hoa
        have hv1' : ¬ v < 0 := hv1
        clear hoa hib
        generalize hw0 : wr = wb at *
        clear hw0
        go_wp2_with fail
        go_loopg [4] k (fun G v w => R2 t u k wb G v w)
        case atStart => exact ⟨0, by omega, by omega, rfl, Mem.QQ.refl _, fun j hj => absurd hj (by omega)⟩
        case round =>
          obtain ⟨j, hj, rfl, rfl, hq2, hno⟩ := hrel
          have HQ2 := Lib.hid hq2
          have HNO := Lib.hid hno
          by_cases hjk : j < k
          · obtain ⟨p1, _⟩ := HC.out j (by omega)
            have hid : idAt t u j = decide ((cl t j).1 = u) := rfl
            obtain ⟨x, hx⟩ : ∃ x, (cl t j).1 = x := ⟨_, rfl⟩
            rw [hx] at p1 hid
            have g1 : ∀ a, (wr.drewN a).cell? ⟨tb, off + k * 2, none⟩ = some (.int .u32 (u : Int)) := fun a => by
              obtain ⟨m, rfl⟩ := hq2
              exact h1
            have g2 : ∀ a, (wr.drewN a).cell? ⟨tb, off + j * 2, none⟩ = some (.int .u32 (x : Int)) := fun a => by
              obtain ⟨m, rfl⟩ := hq2
              exact p1
            have q2 : (0 : Int) ≤ (j : Int) := by omega
            have q3 : (j : Int) < (n : Int) := by omega
            have q4 : (j : Int) < (k : Int) := by omega
            clear hq2 hno p1 hx
            by_cases hxu : x = u
            · have KB := Lib.hid (right_bad HL.out hkn (show okAt t n k = false by
                rw [HOA.out, List.all_eq_false]
                exact ⟨j, List.mem_range.2 hjk, by rw [hid]; simp [hxu]⟩))
              have y1 : (x : Int) = (u : Int) := by omega
              clear hid hxu
              go_wp2_with fail
              go_quiet (fail)
              go_wp2_with fail
              go_ret
              exact ⟨by rw [KB.out]; rfl, (HQ.out.trans HQ2.out).trans ⟨nq, rfl⟩⟩
            · have ID := Lib.hid (show idAt t u j = false by rw [hid]; simpa using hxu)
              have y1 : ¬ (x : Int) = (u : Int) := by omega
              have y2 : ((x : Int) == (u : Int)) = false := by simpa using y1
              clear hid hxu
              go_wp2_with fail
              go_quiet (fail)
              go_wp2_with fail
              go_roundg (k - (j + 1))
              case measure => omega
              case rel => exact ⟨j + 1, by omega, rfl, by go_num, HQ2.out.trans ⟨nq, rfl⟩, fun i hi => by
                rcases Nat.lt_or_ge i j with h | h
                · exact HNO.out i h
                · obtain rfl : i = j := by omega
                  exact ID.out⟩
          · obtain rfl : k = j := by omega
            have OA := Lib.hid (show okAt t n k = true by
              rw [HOA.out, List.all_eq_true]
              intro i hi
              rw [HNO.out i (List.mem_range.1 hi)]
              rfl)
            clear hq2 hno
            go_wp2_with fail
            go_roundg (n - (k + 1))
            case measure => omega
            case rel => exact ⟨k + 1, by omega, rfl, by go_num, HQ.out.trans HQ2.out, fun j hj => by
              rcases Nat.lt_or_ge j k with h | h
              · exact HOK.out j h
              · obtain rfl : j = k := by omega
                exact OA.out⟩
    · obtain rfl : n = k := by omega
      have KG := Lib.hid (known_good HL.out hok)
      clear hok hq
      generalize hw0 : wr = wb at *
      clear hw0
      go_wp2_with fail
      go_loopg [5] n (fun G v w => R3 t n wb G v w)
      case atStart => exact ⟨0, by omega, by omega, rfl, Mem.QQ.refl _, fun j hj => absurd hj (by omega)⟩
      case round =>
        obtain ⟨k, hk, rfl, rfl, hq2, hnb⟩ := hrel
        have HQ2 := Lib.hid hq2
        have HNB := Lib.hid hnb
        by_cases hkn : k < n
        · have hkb : knownB t = true := by rw [KG.out]; simpa using (show 0 < n by omega)
          have hrd := (HR.out.below (HQ.out.below (B := W.heap.size))).below (hq2.below (B := wb.heap.size))
          obtain ⟨y, hy⟩ : ∃ y, prv n k = y := ⟨_, rfl⟩
          have hyn : y < n := by rw [← hy]; exact Nat.mod_lt _ (by omega)
          have hbad : badAt t n k = (decide ((cl t k).1 ≠ 0) && (decide (0 < farT t n k) && (!decide ((cl t y).1 ≠ 0) || decide (farT t n y < farT t n k - 1)))) := by
            rw [← nz_iff HL.out hkb hkn, ← nz_iff HL.out hkb hyn, ← hy]
            rfl
          have FA := Lib.hid (reffar_any t A n c k wr hrd hn hkn)
          have FAP := Lib.hid (reffar_any t A n c y wr hrd hn hyn)
          obtain ⟨tb, off, rfl, _, hc⟩ := hrd.rows (by omega)
          have h1 := (hc k hkn).1
          have h2 := (hc y hyn).1
          have db1 := D_bd n (cl t k).2 k
          unfold farT at hbad
          obtain ⟨d, hd⟩ : ∃ d, D n (cl t k).2 k = d := ⟨_, rfl⟩
          obtain ⟨d', hd'⟩ : ∃ d', D n (cl t y).2 y = d' := ⟨_, rfl⟩
          obtain ⟨u, hu⟩ : ∃ u, (cl t k).1 = u := ⟨_, rfl⟩
          obtain ⟨u', hu'⟩ : ∃ u', (cl t y).1 = u' := ⟨_, rfl⟩
          rw [hd, hd', hu, hu'] at hbad
          rw [hd] at FA db1
          rw [hd'] at FAP
          rw [hu] at h1
          rw [hu'] at h2
          have hmod : ((k : Int) + (n : Int) - 1).tmod (n : Int) = (y : Int) := by
            rw [Int.tmod_eq_emod_of_nonneg (by omega), ← hy]
            unfold prv
            have : ((k + n - 1 : Nat) : Int) = (k : Int) + (n : Int) - 1 := by omega
            rw [← this]
            norm_cast
          have hmod2 : ((k : Int) + (n : Int) - 1) % (n : Int) = (y : Int) := by rw [← Int.tmod_eq_emod_of_nonneg (by omega)]; exact hmod
          have hw1 : IntKind.i64.wrap ((k : Int) + (n : Int)) = (k : Int) + (n : Int) := IntWalk.i64_in _ (by omega)
          have hw2 : IntKind.i64.wrap ((k : Int) + (n : Int) - 1) = (k : Int) + (n : Int) - 1 := IntWalk.i64_in _ (by omega)
          have hw3 : IntKind.i64.wrap (d - 1) = d - 1 := IntWalk.i64_in _ (by omega)
          have hnn : ¬ (n = 0) := by omega
          have hnn2 : ¬ ((n : Int) = 0) := by omega
          have q0 : (0 : Int) ≤ (k : Int) := by omega
          have q1 : (k : Int) < (n : Int) := by omega
          have q2 : (0 : Int) ≤ (y : Int) := by omega
          have q3 : (y : Int) < (n : Int) := by omega
          have HBAD := Lib.hid hbad
          clear hkb hrd hq2 hnb hc hd hd' hu hu' hy hbad db1
          by_cases hu0 : u = 0
          · have BA := Lib.hid (show badAt t n k = false by rw [HBAD.out]; simp [hu0])
            have x1 : (u : Int) = 0 := by omega
            clear hu0
            go_wp2_with fail
            go_roundg (n - (k + 1))
            case measure => omega
            case rel => exact ⟨k + 1, by omega, rfl, by go_num, HQ2.out, fun j hj => by
              rcases Nat.lt_or_ge j k with h | h
              · exact HNB.out j h
              · obtain rfl : j = k := by omega
                exact BA.out⟩
          · have x1 : ¬ (u : Int) = 0 := by omega
            have x2 : ((u : Int) != 0) = true := by simpa using x1
            by_cases hd0 : 0 < d
            · by_cases hu1 : u' = 0
              · have BA := Lib.hid (show badAt t n k = true by rw [HBAD.out]; simp [hu0, hd0, hu1])
                have x3 : (u' : Int) = 0 := by omega
                clear hu0 hu1
                go_wp2_with fail
                refine FA.out.mono ?_
                rintro e w ⟨rfl, rfl⟩
                have RB := Lib.hid (right_bad2 HL.out hkn BA.out)
                go_wp2_with fail
                go_ret
                exact ⟨by rw [RB.out]; rfl, HQ.out.trans HQ2.out⟩
              · have x3 : ¬ (u' : Int) = 0 := by omega
                have x4 : ((u' : Int) == 0) = false := by simpa using x3
                by_cases hdd : d' < d - 1
                · have BA := Lib.hid (show badAt t n k = true by rw [HBAD.out]; simp [hu0, hd0, hdd])
                  clear hu0 hu1
                  go_wp2_with fail
                  refine FA.out.mono ?_
                  rintro e w ⟨rfl, rfl⟩
                  go_wp2_with fail
                  refine FAP.out.mono ?_
                  rintro e w ⟨rfl, rfl⟩
                  go_wp2_with fail
                  refine FA.out.mono ?_
                  rintro e w ⟨rfl, rfl⟩
                  have RB := Lib.hid (right_bad2 HL.out hkn BA.out)
                  go_wp2_with fail
                  go_ret
                  exact ⟨by rw [RB.out]; rfl, HQ.out.trans HQ2.out⟩
                · have BA := Lib.hid (show badAt t n k = false by rw [HBAD.out]; simp [hu1]; omega)
                  clear hu0 hu1
                  go_wp2_with fail
                  refine FA.out.mono ?_
                  rintro e w ⟨rfl, rfl⟩
                  go_wp2_with fail
                  refine FAP.out.mono ?_
                  rintro e w ⟨rfl, rfl⟩
                  go_wp2_with fail
                  refine FA.out.mono ?_
                  rintro e w ⟨rfl, rfl⟩
                  go_wp2_with fail
                  go_roundg (n - (k + 1))
                  case measure => omega
                  case rel => exact ⟨k + 1, by omega, rfl, by go_num, HQ2.out, fun j hj => by
                    rcases Nat.lt_or_ge j k with h | h
                    · exact HNB.out j h
                    · obtain rfl : j = k := by omega
                      exact BA.out⟩
            · have BA := Lib.hid (show badAt t n k = false by rw [HBAD.out]; simp [hd0])
              clear hu0
              go_wp2_with fail
              refine FA.out.mono ?_
              rintro e w ⟨rfl, rfl⟩
              go_wp2_with fail
              go_roundg (n - (k + 1))
              case measure => omega
              case rel => exact ⟨k + 1, by omega, rfl, by go_num, HQ2.out, fun j hj => by
                rcases Nat.lt_or_ge j k with h | h
                · exact HNB.out j h
                · obtain rfl : j = k := by omega
                  exact BA.out⟩
        · obtain rfl : n = k := by omega
          have CH := Lib.hid (chain_good HL.out hnb)
          have RB := Lib.hid (show rightB t = decide (0 < n) by unfold rightB; rw [KG.out, CH.out, Bool.and_true])
          clear hq2 hnb
          by_cases h0 : 0 < n
          · have h0' : (0 : Int) < (n : Int) := by omega
            go_wp2_with fail
            go_ret
            exact ⟨by rw [RB.out]; simp [h0], HQ.out.trans HQ2.out⟩
          · have h0' : ¬ (0 : Int) < (n : Int) := by omega
            go_wp2_with fail
            go_ret
            exact ⟨by rw [RB.out]; simp [h0], HQ.out.trans HQ2.out⟩
end Pr
end Go.Proofs.Ytommffcojbdldaa
