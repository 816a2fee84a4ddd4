/- Layer 19: the contracts of the document's has, place, Find and Longest. -/
import Derived.Test.YtommffcojbdldaaPrS
namespace Go.Proofs.Ytommffcojbdldaa
open Go.RowKit
namespace Pr

def HaR (p : Nat → Bool) (n : Nat) (W : World) (i : Value) (w : World) : Prop := ∃ k : Nat, k ≤ n ∧ i = .int .i64 (k : Int) ∧ w = W ∧ ∀ j, j < k → p j = false
set_option maxHeartbeats 1600000 in
theorem refhas_any (t : Tab) (A : Option Addr) (n c id : Nat) (W : World) (hr : RdT W A n t) (hn : n ≤ 100000) :
    Calls Try.prog 36 #[.slice A n c, .int .u32 (id : Int)] W fun e w => e = .returned (.bool (hasB t id)) ∧ W = w := by
  have HR := Lib.hid hr
  have HH := Lib.hid (show hasB t id = (fst (idAt t id) n).isSome by unfold hasB; rw [hr.len])
  clear hr
  go_enter Try.func36, Try.ntmps36
  go_wp2_with fail
  go_loopw [5] (HaR (idAt t id) n W) (fun i _ => n - (intOf i).toNat)
  case atStart => exact ⟨0, by omega, rfl, rfl, fun j hj => absurd hj (by omega)⟩
  case round =>
    obtain ⟨k, hk, rfl, rfl, hp⟩ := hrel
    have HP := Lib.hid hp
    by_cases hkn : k < n
    · obtain ⟨tb, off, rfl, _, hc⟩ := HR.out.rows (by omega)
      obtain ⟨h1, _⟩ := hc k hkn
      have hid : idAt t id k = decide ((cl t k).1 = id) := rfl
      obtain ⟨u, hu⟩ : ∃ u, (cl t k).1 = u := ⟨_, rfl⟩
      rw [hu] at h1 hid
      have q0 : (0 : Int) ≤ (k : Int) := by omega
      have q1 : (k : Int) < (n : Int) := by omega
      clear hp hc hu
      by_cases hui : u = id
      · have FI := Lib.hid (fst_some hkn (show idAt t id k = true by rw [hid]; simpa using hui) HP.out)
        have x1 : (u : Int) = (id : Int) := by omega
        clear hid hui
        go_wp2_with fail
        go_ret
        exact ⟨by rw [HH.out, FI.out]; rfl, rfl⟩
      · have ID := Lib.hid (show idAt t id k = false by rw [hid]; simpa using hui)
        have x1 : ¬ (u : Int) = (id : Int) := by omega
        have x2 : ((u : Int) == (id : Int)) = false := by simpa using x1
        clear hid hui
        go_wp2_with fail
        go_roundw
        case rel => exact ⟨k + 1, by omega, by go_num, rfl, fun j hj => by
          rcases Nat.lt_or_ge j k with h | h
          · exact HP.out j h
          · obtain rfl : j = k := by omega
            exact ID.out⟩
        case measure => simp [intOf]; omega
    · obtain rfl : n = k := by omega
      have FI := Lib.hid (fst_none hp)
      clear hp
      go_wp2_with fail
      go_ret
      exact ⟨by rw [HH.out, FI.out]; rfl, rfl⟩
theorem opn_id {t : Tab} {n : Nat} (hl : t.length = n) (hk : knownB t = true) {j : Nat} (hj : j < n) (s : Nat) : opn t n j s = (decide ((cl t j).1 = 0) || decide (D n (cl t j).2 j < (s : Int))) := by
  unfold opn
  rw [nz_iff hl hk hj]
  by_cases h : (cl t j).1 = 0 <;> simp [h]
theorem modw {x n y : Nat} (hn : 0 < n) (hy : x % n = y) : (x : Int).tmod (n : Int) = (y : Int) ∧ (x : Int) % (n : Int) = (y : Int) ∧ ¬ (n = 0) ∧ ¬ ((n : Int) = 0) ∧ y < n := by
  refine ⟨?_, ?_, by omega, by omega, by rw [← hy]; exact Nat.mod_lt _ hn⟩
  · rw [Int.tmod_eq_emod_of_nonneg (by omega), ← hy]
    norm_cast
  · rw [← hy]
    norm_cast
set_option maxHeartbeats 1600000 in
theorem place_any (t : Tab) (A : Option Addr) (n c h k0 : Nat) (W : World) (hr : RdT W A n t) (hn : n ≤ 100000) (hh : h < n) (hkn : knownB t = true) (hk0 : fst (opF t n h) n = some k0) :
    Calls Try.prog 37 #[.slice A n c, .int .i64 (h : Int)] W fun e w => e = .returned (.int .i64 (((h + k0) % n : Nat) : Int)) ∧ W = w := by
  have HR := Lib.hid hr
  have HK := Lib.hid hkn
  have HF := Lib.hid hk0
  clear hr hkn hk0
  go_enter Try.func37, Try.ntmps37
  go_wp2_with fail
  go_loopw [5] (HaR (opF t n h) n W) (fun i _ => n - (intOf i).toNat)
  case atStart => exact ⟨0, by omega, rfl, rfl, fun j hj => absurd hj (by omega)⟩
  case round =>
    obtain ⟨k, hk, rfl, rfl, hp⟩ := hrel
    have HP := Lib.hid hp
    by_cases hkn : k < n
    · obtain ⟨z, hz⟩ : ∃ z, h + k = z := ⟨_, rfl⟩
      obtain ⟨y, hy⟩ : ∃ y, z % n = y := ⟨_, rfl⟩
      obtain ⟨m1, m2, m3, m4, hyn⟩ := modw (by omega) hy
      have hop : opF t n h k = (decide ((cl t y).1 = 0) || decide (D n (cl t y).2 y < (k : Int))) := by
        unfold opF
        rw [hz, hy]
        exact opn_id HR.out.len HK.out hyn k
      have FA := Lib.hid (reffar_any t A n c y wr HR.out hn hyn)
      obtain ⟨tb, off, rfl, _, hc⟩ := HR.out.rows (by omega)
      obtain ⟨h1, _⟩ := hc y hyn
      obtain ⟨u, hu⟩ : ∃ u, (cl t y).1 = u := ⟨_, rfl⟩
      obtain ⟨d, hd⟩ : ∃ d, D n (cl t y).2 y = d := ⟨_, rfl⟩
      rw [hu] at h1
      rw [hd] at FA
      rw [hu, hd] at hop
      have hwz : IntKind.i64.wrap ((h : Int) + (k : Int)) = (z : Int) := by rw [IntWalk.i64_in _ (by omega)]; omega
      have q0 : (0 : Int) ≤ (k : Int) := by omega
      have q1 : (k : Int) < (n : Int) := by omega
      have q2 : (0 : Int) ≤ (y : Int) := by omega
      have q3 : (y : Int) < (n : Int) := by omega
      have q4 : (0 : Int) ≤ (z : Int) := by omega
      have HZ := Lib.hid (And.intro hz hy)
      have fin : opF t n h k = true → (h + k0) % n = y := fun e => by
        have := fst_some hkn e HP.out
        rw [HF.out] at this
        injection this with this
        rw [this, hz, hy]
      have FIN := Lib.hid fin
      have HOP := Lib.hid hop
      clear hp hc hu hd hz hy fin hop
      by_cases hu0 : u = 0
      · have EY := Lib.hid (FIN.out (by rw [HOP.out]; simp [hu0]))
        have x1 : (u : Int) = 0 := by omega
        clear hu0
        go_wp2_with fail
        go_ret
        exact ⟨by rw [EY.out]; rfl, rfl⟩
      · have x1 : ¬ (u : Int) = 0 := by omega
        have x2 : ((u : Int) == 0) = false := by simpa using x1
        by_cases hdk : d < (k : Int)
        · have EY := Lib.hid (FIN.out (by rw [HOP.out]; simp [hdk]))
          clear hu0
          go_wp2_with fail
          refine FA.out.mono ?_
          rintro e w ⟨rfl, rfl⟩
          go_wp2_with fail
          go_ret
          exact ⟨by rw [EY.out]; rfl, rfl⟩
        · have NO := Lib.hid (show opF t n h k = false by rw [HOP.out]; simp [hu0]; omega)
          clear hu0
          go_wp2_with fail
          refine FA.out.mono ?_
          rintro e w ⟨rfl, rfl⟩
          go_wp2_with fail
          go_roundw
          case rel => exact ⟨k + 1, by omega, by go_num, rfl, fun j hj => by
            rcases Nat.lt_or_ge j k with h | h
            · exact HP.out j h
            · obtain rfl : j = k := by omega
              exact NO.out⟩
          case measure => simp [intOf]; omega
    · obtain rfl : n = k := by omega
      exfalso
      have := fst_none hp
      rw [HF.out] at this
      cases this
def RlR (t : Tab) (n : Nat) (W : World) (m i : Value) (w : World) : Prop := ∃ k : Nat, k ≤ n ∧ m = .int .i64 (if rightB t then lg t n k else 0) ∧ i = .int .i64 (k : Int) ∧ Mem.QQ W w ∧ (rightB t = false → k = 0)
def RlRes (t : Tab) (W : World) (e : Ending) (w : World) : Prop := e = .returned (.int .i64 (longest t)) ∧ Mem.QQ W w
set_option maxRecDepth 20000 in
set_option maxHeartbeats 1600000 in
theorem reflongest_any (t : Tab) (A : Option Addr) (n c : Nat) (W : World) (hr : RdT W A n t) (hn : n ≤ 100000) :
    Calls Try.prog 20 #[.slice A n c] W (RlRes t W) := by
  have HR := Lib.hid hr
  have HLG := Lib.hid (show longest t = if rightB t then lg t n n else 0 by unfold longest; rw [hr.len])
  have HRT : RowKit.Hid (rightB t = true → knownB t = true ∧ t.length = n) := Lib.hid (fun h => by
    unfold rightB at h
    rw [Bool.and_eq_true] at h
    exact ⟨h.1, hr.len⟩)
  have HL := Lib.hid hr.len
  clear hr
  go_enter Try.func20, Try.ntmps20
  go_wp2_with fail
  go_loopw [3, 4] (RlR t n W) (fun _ i _ => n - (intOf i).toNat)
  case atStart => exact ⟨0, by omega, by simp [lg], rfl, Mem.QQ.refl _, fun _ => rfl⟩
  case round =>
    obtain ⟨k, hk, rfl, rfl, hq, hzero⟩ := hrel
    have HQ := Lib.hid hq
    have hrd := HR.out.below (hq.below (B := W.heap.size))
    have RI := Lib.hid (refright_any t A n c wr hrd hn)
    have HRD := Lib.hid hrd
    clear hq hrd
    by_cases hkn : k < n
    · have q0 : (0 : Int) ≤ (k : Int) := by omega
      have q1 : (k : Int) < (n : Int) := by omega
      cases hrt : rightB t with
      | false =>
        obtain rfl := hzero hrt
        have HL0 := Lib.hid (show longest t = 0 by rw [HLG.out, hrt]; rfl)
        have hri := RI.out
        unfold RrRes at hri
        rw [hrt] at hri
        have RI2 := Lib.hid hri
        simp only [Bool.false_eq_true, if_false]
        rw [show ((0 : Nat) : Int) = 0 from rfl] at q1 ⊢
        clear hzero hrt hri q0
        go_wp2_with fail
        refine RI2.out.mono ?_
        rintro e w2 ⟨rfl, q2⟩
        have Q2 := Lib.hid (HQ.out.trans q2)
        clear q2
        go_wp2_with fail
        go_ret
        exact ⟨by rw [HL0.out]; rfl, Q2.out⟩
      | true =>
        obtain ⟨hkb, hlen⟩ := HRT.out hrt
        have hri := RI.out
        unfold RrRes at hri
        rw [hrt] at hri
        have RI2 := Lib.hid hri
        have hls : lg t n (k + 1) = if decide ((cl t k).1 ≠ 0) then max (lg t n k) (D n (cl t k).2 k) else lg t n k := by rw [← nz_iff hlen hkb hkn]; rfl
        have hlb := lg_bd t n k
        have db1 := D_bd n (cl t k).2 k
        have HRT2 := Lib.hid hrt
        have FA := Lib.hid (fun w (hb : Mem.QQ wr w) => reffar_any t A n c k w (HRD.out.below (hb.below (B := wr.heap.size))) hn hkn)
        simp only [if_true]
        obtain ⟨m, hm⟩ : ∃ m, lg t n k = m := ⟨_, rfl⟩
        obtain ⟨tb, off, rfl, _, hc⟩ := HRD.out.rows (by omega)
        obtain ⟨h1, _⟩ := hc k hkn
        obtain ⟨u, hu⟩ : ∃ u, (cl t k).1 = u := ⟨_, rfl⟩
        obtain ⟨d, hd⟩ : ∃ d, D n (cl t k).2 k = d := ⟨_, rfl⟩
        rw [hm] at hls hlb ⊢
        rw [hu] at h1
        rw [hd] at FA db1
        rw [hu, hd] at hls
        have H1 := Lib.hid h1
        have HLS := Lib.hid hls
        clear hzero hrt hri hm hc hu hd hls hkb hlen
        go_wp2_with fail
        refine RI2.out.mono ?_
        rintro e w2 ⟨rfl, q2⟩
        have Q2 := Lib.hid q2
        have h1' : w2.cell? ⟨tb, off + k * 2, none⟩ = some (.int .u32 (u : Int)) := by
          obtain ⟨a, rfl⟩ := q2
          exact H1.out
        clear q2 h1
        by_cases hu0 : u = 0
        · have x1 : (u : Int) = 0 := by omega
          have LS := Lib.hid (show lg t n (k + 1) = m by rw [HLS.out]; simp [hu0])
          clear hu0
          go_wp2_with fail
          go_roundw
          case rel => exact ⟨k + 1, by omega, by rw [HRT2.out, if_pos rfl, LS.out], by go_num, HQ.out.trans Q2.out, fun e => by rw [HRT2.out] at e; cases e⟩
          case measure => simp [intOf]; omega
        · have x1 : ¬ (u : Int) = 0 := by omega
          have x2 : ((u : Int) != 0) = true := by simpa using x1
          obtain ⟨r, hr⟩ : ∃ r, max m d = r := ⟨_, rfl⟩
          have LS := Lib.hid (show lg t n (k + 1) = r by rw [HLS.out, ← hr]; simp [hu0])
          clear hu0
          go_wp2_with fail
          refine (FA.out _ Q2.out).mono ?_
          rintro e w ⟨rfl, rfl⟩
          go_wp2_with fail
          go_roundw
          case rel => exact ⟨k + 1, by omega, by rw [HRT2.out, if_pos rfl, LS.out], by go_num, HQ.out.trans Q2.out, fun e => by rw [HRT2.out] at e; cases e⟩
          case measure => simp [intOf]; omega
    · obtain rfl : n = k := by omega
      obtain ⟨m, hm⟩ : ∃ m, (if rightB t then lg t n n else 0) = m := ⟨_, rfl⟩
      have HM := Lib.hid (show longest t = m by rw [HLG.out, hm])
      rw [hm]
      clear hzero hm
      go_wp2_with fail
      go_ret
      exact ⟨by rw [HM.out]; rfl, HQ.out⟩
end Pr
end Go.Proofs.Ytommffcojbdldaa
