/- Layer 19: the contract of same. -/
import Derived.Test.YtommffcojbdldaaPrAA
import Derived.BigQuiet
namespace Go.Proofs.Ytommffcojbdldaa
open Go.RowKit
namespace Pr

def SmR (t s : Tab) (n : Nat) (W : World) (G : Nat) (i : Value) (w : World) : Prop :=
  ∃ k : Nat, k ≤ n ∧ G = n - k ∧ i = .int .i64 (k : Int) ∧ (∀ j, j < k → cl t j = cl s j) ∧ Mem.QQ W w
set_option maxRecDepth 20000 in
set_option maxHeartbeats 1600000 in
theorem same_any (t s : Tab) (A A' : Option Addr) (n m c c' : Nat) (W : World) (hr : RdT W A n t) (hs : RdT W A' m s) (hn : n ≤ 100000) (hm : m ≤ 100000) :
    Calls Try.prog 18 #[.slice A n c, .slice A' m c'] W fun e w => e = .returned (.bool (decide (t = s))) ∧ Mem.QQ W w := by
  by_cases hnm : n = m
  · subst hnm
    have HR := Lib.hid hr
    have HS := Lib.hid hs
    have HL := Lib.hid (And.intro hr.len hs.len)
    clear hr hs
    go_enter Try.func18, Try.ntmps18
    go_wp2_with fail
    go_loopg [5] n (fun G i w => SmR t s n W G i w)
    case atStart => exact ⟨0, by omega, by omega, rfl, fun j hj => by omega, Mem.QQ.refl _⟩
    case round =>
      obtain ⟨k, hk, rfl, rfl, hall, hq⟩ := hrel
      have HQ := Lib.hid hq
      by_cases hkn : k < n
      · obtain ⟨b, off, hA, hlt, hc⟩ := (HR.out.below (hq.below (B := W.heap.size))).rows (by omega)
        obtain ⟨b', off', hA', hlt', hc'⟩ := (HS.out.below (hq.below (B := W.heap.size))).rows (by omega)
        obtain ⟨r1, r2⟩ := hc k hkn
        obtain ⟨r3, r4⟩ := hc' k hkn
        have HALL := Lib.hid hall
        obtain ⟨p, hp⟩ : ∃ p, cl t k = p := ⟨_, rfl⟩
        obtain ⟨p', hp'⟩ : ∃ p, cl s k = p := ⟨_, rfl⟩
        obtain ⟨u, v⟩ := p
        obtain ⟨u', v'⟩ := p'
        rw [hp] at r1 r2
        rw [hp'] at r3 r4
        simp only at r1 r2 r3 r4
        have HP := Lib.hid (And.intro hp hp')
        subst hA hA'
        have q2 : (0 : Int) ≤ (k : Int) := by omega
        have q3 : (k : Int) < (n : Int) := by omega
        clear hq hc hc' hall hp hp'
        have bad : (u, v) ≠ (u', v') → decide (t = s) = false := fun h => by
          simp only [decide_eq_false_iff_not]
          rintro rfl
          exact h (by rw [← HP.out.1, ← HP.out.2])
        have BAD := Lib.hid bad
        clear bad
        by_cases hu : u = u'
        · have x1 : ((u : Int) != (u' : Int)) = false := by simp [hu]
          have x2 : (u : Int) = (u' : Int) := by omega
          by_cases hv : v = v'
          · have x3 : (v != v') = false := by simp [hv]
            have NX := Lib.hid (show ∀ j, j < k + 1 → cl t j = cl s j from fun j hj => by
              rcases Nat.lt_or_ge j k with h4 | h4
              · exact HALL.out j h4
              · obtain rfl : j = k := by omega
                rw [HP.out.1, HP.out.2, hu, hv])
            go_wp2_with fail
            go_quiet (fail)
            go_wp2_with fail
            go_roundg (n - (k + 1))
            case measure => omega
            case rel => exact ⟨k + 1, by omega, rfl, by go_num, NX.out, HQ.out.trans ⟨nq, rfl⟩⟩
          · have x3 : (v != v') = true := by simp [hv]
            have e := BAD.out (by simp [hv])
            go_wp2_with fail
            go_quiet (fail)
            go_wp2_with fail
            go_ret
            exact ⟨by rw [e]; rfl, HQ.out.trans ⟨nq, rfl⟩⟩
        · have x1 : ((u : Int) != (u' : Int)) = true := by simp; omega
          have x2 : ¬ (u : Int) = (u' : Int) := by omega
          have e := BAD.out (by simp [hu])
          go_wp2_with fail
          go_quiet (fail)
          go_wp2_with fail
          go_ret
          exact ⟨by rw [e]; rfl, HQ.out.trans ⟨nq, rfl⟩⟩
      · obtain rfl : n = k := by omega
        have e : decide (t = s) = true := by
          simp only [decide_eq_true_eq]
          refine tab_ext 0 HL.out.1 HL.out.2 fun i hi => ?_
          rw [Nat.zero_add, Nat.mod_eq_of_lt hi]
          exact hall i hi
        clear hq hall
        go_wp2_with fail
        go_ret
        exact ⟨by rw [e]; rfl, HQ.out⟩
  · have e : decide (t = s) = false := by
      simp only [decide_eq_false_iff_not]
      rintro rfl
      exact hnm (hr.len.symm.trans hs.len)
    have x1 : ((n : Int) != (m : Int)) = true := by simp; omega
    have x2 : ¬ (n : Int) = (m : Int) := by omega
    clear hr hs
    go_enter Try.func18, Try.ntmps18
    go_wp2_with fail
    go_ret
    exact ⟨by rw [e]; rfl, Mem.QQ.refl _⟩
end Pr
end Go.Proofs.Ytommffcojbdldaa
