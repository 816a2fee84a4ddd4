/- Layer 19: the contract of the document's Find. -/
import Derived.Test.YtommffcojbdldaaPrT
namespace Go.Proofs.Ytommffcojbdldaa
open Go.RowKit
namespace Pr

def RfRes (r : Option Nat) (W : World) (e : Ending) (w : World) : Prop := e = .returned (.tuple #[.int .i64 (fndI r), .bool r.isSome]) ∧ Mem.QQ W w
def RfR (p : Nat → Bool) (n : Nat) (W : World) (i : Value) (w : World) : Prop := ∃ k : Nat, k ≤ n ∧ i = .int .i64 (k : Int) ∧ w = W ∧ ∀ j, j < k → p j = false
theorem in_neg {n : Nat} {h : Int} (e : h < 0) : inB n h = false := by simp [inB]; omega
theorem in_big {n : Nat} {h : Int} (e : (n : Int) ≤ h) : inB n h = false := by simp [inB]; omega
theorem in_ok {n : Nat} {h : Int} (e1 : ¬ h < 0) (e2 : ¬ (n : Int) ≤ h) : inB n h = true := by simp [inB]; omega
set_option maxRecDepth 20000 in
set_option maxHeartbeats 3200000 in
theorem reffind_any (t : Tab) (A : Option Addr) (n c id : Nat) (h : Int) (W : World) (hr : RdT W A n t) (hn : n ≤ 100000) :
    Calls Try.prog 11 #[.slice A n c, .int .u32 (id : Int), .int .i64 h] W (RfRes (fin t n id h) W) := by
  by_cases h0 : id = 0
  · have HF := Lib.hid (fin_none (beg_a (t := t) (n := n) (h := h) h0) (by decide))
    have x1 : (id : Int) = 0 := by omega
    clear hr h0
    go_enter Try.func11, Try.ntmps11
    go_wp2_with fail
    go_ret2
    exact ⟨by rw [HF.out]; rfl, Mem.QQ.refl _⟩
  have x1 : ¬ (id : Int) = 0 := by omega
  have x2 : ((id : Int) == 0) = false := by simpa using x1
  by_cases hh1 : h < 0
  · have HF := Lib.hid (fin_none (beg_b (t := t) (id := id) (in_neg (n := n) hh1)) (by decide))
    clear hr h0
    go_enter Try.func11, Try.ntmps11
    go_wp2_with fail
    go_ret2
    exact ⟨by rw [HF.out]; rfl, Mem.QQ.refl _⟩
  by_cases hh2 : (n : Int) ≤ h
  · have HF := Lib.hid (fin_none (beg_b (t := t) (id := id) (in_big (n := n) hh2)) (by decide))
    have hh1' : ¬ h < 0 := hh1
    clear hr h0
    go_enter Try.func11, Try.ntmps11
    go_wp2_with fail
    go_ret2
    exact ⟨by rw [HF.out]; rfl, Mem.QQ.refl _⟩
  have hi := in_ok hh1 hh2
  have RI := Lib.hid (refright_any t A n c W hr hn)
  unfold RrRes at RI
  have hh1' : ¬ h < 0 := hh1
  have hh2' : ¬ (n : Int) ≤ h := hh2
  cases hrt : rightB t with
  | false =>
    have HF := Lib.hid (fin_none (beg_c h0 hi hrt) (by decide))
    rw [hrt] at RI
    clear hr h0 hi hrt
    go_enter Try.func11, Try.ntmps11
    go_wp2_with fail
    refine RI.out.mono ?_
    rintro e w1 ⟨rfl, q1⟩
    have Q1 := Lib.hid q1
    clear q1
    go_wp2_with fail
    go_ret2
    exact ⟨by rw [HF.out]; rfl, Q1.out⟩
  | true =>
    have hb0 : begE t n id h = 0 := beg_d h0 hi hrt
    have hkb : knownB t = true := by
      unfold rightB at hrt
      rw [Bool.and_eq_true] at hrt
      exact hrt.1
    obtain ⟨H, hH⟩ : ∃ H : Nat, h = (H : Int) := ⟨h.toNat, by omega⟩
    subst hH
    have hf0 : fin t n id (H : Int) = fnd t n id H := by unfold fin; rw [if_pos hb0, show ((H : Int)).toNat = H by omega]
    have HF := Lib.hid hf0
    have HR := Lib.hid hr
    have HKB := Lib.hid hkb
    have hHn : H < n := by omega
    rw [hrt] at RI
    clear hr h0 hi hrt hb0 hf0 hkb
    go_enter Try.func11, Try.ntmps11
    go_wp2_with fail
    refine RI.out.mono ?_
    rintro e w1 ⟨rfl, q1⟩
    have Q1 := Lib.hid q1
    have HR1 := Lib.hid (HR.out.below (q1.below (B := W.heap.size)))
    clear q1
    go_wp2_with fail
    go_loopw [8] (RfR (fp t n id H) n w1) (fun i _ => n - (intOf i).toNat)
    case atStart => exact ⟨0, by omega, rfl, rfl, fun j hj => absurd hj (by omega)⟩
    case round =>
      obtain ⟨k, hk, rfl, rfl, hp⟩ := hrel
      have HP := Lib.hid hp
      by_cases hkn : k < n
      · obtain ⟨z, hz⟩ : ∃ z, H + k = z := ⟨_, rfl⟩
        obtain ⟨y, hy⟩ : ∃ y, z % n = y := ⟨_, rfl⟩
        obtain ⟨m1, m2, m3, m4, hyn⟩ := modw (by omega) hy
        have hop := opn_id HR1.out.len HKB.out hyn k
        have hfm : fm t n id H y k = (!opn t n y k && (decide ((cl t y).1 = id) && decide ((cl t y).2 = (H : Int)))) := by unfold fm; rw [eq_or]
        have hfp : fp t n id H k = (fm t n id H y k || opn t n y k) := by unfold fp; rw [hz, hy]
        have hfn : fp t n id H k = true → fnd t n id H = if fm t n id H y k then some y else none := fun e => by
          unfold fnd
          rw [fst_some hkn e HP.out]
          simp only [hz, hy]
        have FA := Lib.hid (reffar_any t A n c y wr HR1.out hn hyn)
        obtain ⟨tb, off, rfl, _, hc⟩ := HR1.out.rows (by omega)
        obtain ⟨h1, h2⟩ := hc y hyn
        obtain ⟨u, hu⟩ : ∃ u, (cl t y).1 = u := ⟨_, rfl⟩
        obtain ⟨v, hv⟩ : ∃ v, (cl t y).2 = v := ⟨_, rfl⟩
        rw [hv] at FA h2 hop hfm
        rw [hu] at h1 hop hfm
        obtain ⟨d, hd⟩ : ∃ d, D n v y = d := ⟨_, rfl⟩
        rw [hd] at FA hop
        have hwz : IntKind.i64.wrap ((H : Int) + (k : Int)) = (z : Int) := by rw [IntWalk.i64_in _ (by omega)]; omega
        have q0 : (0 : Int) ≤ (k : Int) := by omega
        have q1 : (k : Int) < (n : Int) := by omega
        have q2 : (0 : Int) ≤ (y : Int) := by omega
        have q3 : (y : Int) < (n : Int) := by omega
        have q4 : (0 : Int) ≤ (z : Int) := by omega
        have HOP := Lib.hid hop
        have HFM := Lib.hid hfm
        have HFP := Lib.hid hfp
        have HFN := Lib.hid hfn
        clear hp hc hu hv hd hz hy hop hfm hfp hfn
        by_cases hu0 : u = 0
        · have OP := Lib.hid (show opn t n y k = true by rw [HOP.out]; simp [hu0])
          have FM := Lib.hid (show fm t n id H y k = false by rw [HFM.out, OP.out]; rfl)
          have FN := Lib.hid (show fnd t n id H = none by rw [HFN.out (by rw [HFP.out, OP.out, Bool.or_true]), FM.out]; rfl)
          have y1 : (u : Int) = 0 := by omega
          clear hu0
          go_wp2_with fail
          go_ret2
          exact ⟨by rw [HF.out, FN.out]; rfl, Q1.out⟩
        · have y1 : ¬ (u : Int) = 0 := by omega
          have y2 : ((u : Int) == 0) = false := by simpa using y1
          by_cases hdk : d < (k : Int)
          · have OP := Lib.hid (show opn t n y k = true by rw [HOP.out]; simp [hdk])
            have FM := Lib.hid (show fm t n id H y k = false by rw [HFM.out, OP.out]; rfl)
            have FN := Lib.hid (show fnd t n id H = none by rw [HFN.out (by rw [HFP.out, OP.out, Bool.or_true]), FM.out]; rfl)
            clear hu0
            go_wp2_with fail
            refine FA.out.mono ?_
            rintro e w ⟨rfl, rfl⟩
            go_wp2_with fail
            go_ret2
            exact ⟨by rw [HF.out, FN.out]; rfl, Q1.out⟩
          · have OP := Lib.hid (show opn t n y k = false by rw [HOP.out]; simp [hu0]; omega)
            by_cases hui : u = id
            · have y3 : (u : Int) = (id : Int) := by omega
              by_cases hvh : v = (H : Int)
              · have FM := Lib.hid (show fm t n id H y k = true by rw [HFM.out, OP.out]; simp [hui, hvh])
                have FN := Lib.hid (show fnd t n id H = some y by rw [HFN.out (by rw [HFP.out, FM.out, Bool.true_or]), FM.out]; rfl)
                clear hu0 hui
                go_wp2_with fail
                refine FA.out.mono ?_
                rintro e w ⟨rfl, rfl⟩
                go_wp2_with fail
                go_ret2
                exact ⟨by rw [HF.out, FN.out]; rfl, Q1.out⟩
              · have FM := Lib.hid (show fm t n id H y k = false by rw [HFM.out]; simp [hvh])
                have NO := Lib.hid (show fp t n id H k = false by rw [HFP.out, FM.out, OP.out]; rfl)
                have y4 : (v == (H : Int)) = false := by simpa using hvh
                clear hu0 hui
                go_wp2_with fail
                refine FA.out.mono ?_
                rintro e w ⟨rfl, rfl⟩
                go_wp2_with fail
                go_roundw
                case rel => exact ⟨k + 1, by omega, by go_num, rfl, fun j hj => by
                  rcases Nat.lt_or_ge j k with h | h
                  · exact HP.out j h
                  · obtain rfl : j = k := by omega
                    exact NO.out⟩
                case measure => simp [intOf]; omega
            · have FM := Lib.hid (show fm t n id H y k = false by rw [HFM.out]; simp [hui])
              have NO := Lib.hid (show fp t n id H k = false by rw [HFP.out, FM.out, OP.out]; rfl)
              have y3 : ¬ (u : Int) = (id : Int) := by omega
              have y4 : ((u : Int) == (id : Int)) = false := by simpa using y3
              clear hu0 hui
              go_wp2_with fail
              refine FA.out.mono ?_
              rintro e w ⟨rfl, rfl⟩
              go_wp2_with fail
              go_roundw
              case rel => exact ⟨k + 1, by omega, by go_num, rfl, fun j hj => by
                rcases Nat.lt_or_ge j k with h | h
                · exact HP.out j h
                · obtain rfl : j = k := by omega
                  exact NO.out⟩
              case measure => simp [intOf]; omega
      · obtain rfl : n = k := by omega
        have FN := Lib.hid (show fnd t n id H = none by unfold fnd; rw [fst_none hp])
        clear hp
        go_wp2_with fail
        go_ret2
        exact ⟨by rw [HF.out, FN.out]; rfl, Q1.out⟩
end Pr
end Go.Proofs.Ytommffcojbdldaa
