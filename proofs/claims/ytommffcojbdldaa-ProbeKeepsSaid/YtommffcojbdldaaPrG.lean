/- Layer 19: the contracts of find and its closure. -/
import Derived.Test.YtommffcojbdldaaPrF
import Derived.OneCell
namespace Go.Proofs.Ytommffcojbdldaa
open Go.RowKit
namespace Pr

/-- Is this the cell that is looked for? -/
def fm (t : Tab) (n id h j s : Nat) : Bool := !opn t n j s && decide (cl t j = (id, (h : Int)))
def fp (t : Tab) (n id h s : Nat) : Bool := fm t n id h ((h + s) % n) s || opn t n ((h + s) % n) s
theorem RdT.grown {w w' : World} {A : Option Addr} {n : Nat} {t : Tab} {row : Option Nat} (h : RdT w A n t) (hg : w.grownBy w' row) (hA : ∀ b o, A = some ⟨b, o, none⟩ → some b ≠ row) : RdT w' A n t := by
  refine ⟨h.len, h.fine, fun h0 => ?_⟩
  obtain ⟨b, off, ha, hlt, hc⟩ := h.rows h0
  have hne := hA b off ha
  exact ⟨b, off, ha, Nat.lt_of_lt_of_le hlt hg.size, fun k hk => ⟨(hg.cell_far ⟨b, off + k * 2, none⟩ hlt hne).trans (hc k hk).1, (hg.cell_far ⟨b, off + k * 2 + 1, none⟩ hlt hne).trans (hc k hk).2⟩⟩
theorem eq_or (p : Nat × Int) (id : Nat) (h : Int) : decide (p = (id, h)) = (decide (p.1 = id) && decide (p.2 = h)) := by
  obtain ⟨a, b⟩ := p
  rw [Bool.eq_iff_iff]
  simp
set_option maxRecDepth 20000 in
set_option maxHeartbeats 3200000 in
theorem find1_any (t : Tab) (A : Option Addr) (n c id h s j b q : Nat) (fv : Bool) (W : World) (hr : RdT W A n t) (hn : n ≤ 100000) (hj : j < n) (hq : b + 3 = q) (hA : ∀ tb o, A = some ⟨tb, o, none⟩ → tb ≠ q)
    (k1 : W.cell? ⟨b, 0, none⟩ = some (.slice A n c)) (k2 : W.cell? ⟨b + 1, 0, none⟩ = some (.int .u32 (id : Int))) (k3 : W.cell? ⟨b + 2, 0, none⟩ = some (.int .i64 (h : Int))) (k4 : W.heap[q]? = some (.cells #[.bool fv] 4 (0, 0))) :
    Calls Try.prog 41 #[.int .i64 (s : Int), .int .i64 (j : Int), .pointer (some ⟨b, 0, none⟩), .pointer (some ⟨b + 1, 0, none⟩), .pointer (some ⟨b + 2, 0, none⟩), .pointer (some ⟨q, 0, none⟩)] W
      fun e w => e = .returned (.bool (fm t n id h j s || opn t n j s)) ∧ W.grownBy w (some q) ∧ w.heap[q]? = some (.cells #[.bool (fm t n id h j s)] 4 (0, 0)) := by
  have HEN := Lib.hid (fun w (hb : W.grownBy w (some q)) => ends_any t A n c s j w (hr.grown hb (fun tb o e h => hA tb o e (by injection h))) hn hj)
  obtain ⟨tb, off, rfl, hlt, hc⟩ := hr.rows (by omega)
  obtain ⟨h1, h2⟩ := hc j hj
  have hql : q < W.heap.size := lt_of_block k4
  have f1 : W.cell? ⟨q, 0, none⟩ = some (.bool fv) := cell_of_one k4
  have f2 : W.frozen? ⟨q, 0, none⟩ = false := free_of_one k4
  have hfm : fm t n id h j s = (!opn t n j s && (decide ((cl t j).1 = id) && decide ((cl t j).2 = (h : Int)))) := by unfold fm; rw [eq_or]
  obtain ⟨z, hz⟩ : ∃ z, opn t n j s = z := ⟨_, rfl⟩
  obtain ⟨u, hu⟩ : ∃ u, (cl t j).1 = u := ⟨_, rfl⟩
  obtain ⟨v, hv⟩ : ∃ v, (cl t j).2 = v := ⟨_, rfl⟩
  rw [hz, hu, hv] at hfm
  rw [hz] at HEN ⊢
  rw [hu] at h1
  rw [hv] at h2
  have FIN := Lib.hid (fun w2 (hb : Below W.heap.size W w2) (m : Bool) => show (w2.cell? ⟨q, 0, none⟩ = some (.bool fv) ∧ w2.frozen? ⟨q, 0, none⟩ = false) ∧ W.grownBy (w2.setCell ⟨q, 0, none⟩ (.bool m)) (some q) ∧ (w2.setCell ⟨q, 0, none⟩ (.bool m)).heap[q]? = some (.cells #[.bool m] 4 (0, 0)) ∧ (w2.setCell ⟨q, 0, none⟩ (.bool m)).cell? ⟨b, 0, none⟩ = some (.slice (some ⟨tb, off, none⟩) n c) from by
    have h4 : w2.heap[q]? = some (.cells #[.bool fv] 4 (0, 0)) := (hb.block q hql).trans k4
    exact ⟨⟨cell_of_one h4, free_of_one h4⟩, (grown_of_below hb (some q)).trans (Lib.grownBy_setCell w2 q 0 _), one_setCell h4, ((((grown_of_below hb (some q)).trans (Lib.grownBy_setCell w2 q 0 _)).cell_far ⟨b, 0, none⟩ (by show b < W.heap.size; omega) (by simp; omega)).trans k1)⟩)
  have HQ := Lib.hid hql
  obtain ⟨m, hm⟩ : ∃ m, fm t n id h j s = m := ⟨_, rfl⟩
  rw [hm] at hfm ⊢
  have HFM := Lib.hid hfm
  have q0 : (0 : Int) ≤ (j : Int) := by omega
  have q1 : (j : Int) < (n : Int) := by omega
  have e1 := cell_regrown k1
  have e2 := cell_regrown k2
  have e3 := cell_regrown k3
  have e4 := cell_regrown h1
  have e5 := cell_regrown h2
  clear hr hc hz hu hv hm hfm k4 hql
  cases z with
  | true =>
    obtain rfl : m = false := by rw [HFM.out]; rfl
    go_enter Try.func41, Try.ntmps41
    go_wp2_with fail
    refine Mem.wp_region_quiet_tail 17 (by kernel_rfl) (by kernel_rfl) ?_
    simp only [List.take_succ_cons, List.take_zero, List.drop_succ_cons, List.drop_zero]
    repeat (go_big_quiet_step ((go_at_call 31; exact Calls.regrown_of (HEN.out _ (grown_of_below (below_regrown _ _ _) _)))))
    refine wpQuiet_nil ?_
    intro w2 hb2
    replace hb2 := below_of_regrown hb2
    obtain ⟨⟨p1, p2⟩, p3, p4, p5⟩ := FIN.out w2 hb2 false
    have P3 := Lib.hid p3
    have P4 := Lib.hid p4
    clear hb2 p3 p4
    go_wp2_with fail
    generalize hw3 : w2.setCell ⟨q, 0, none⟩ (.bool false) = w3 at *
    have p6 := cell_of_one P4.out
    clear hw3 p1 p2
    go_wp2_with fail
    refine (HEN.out _ P3.out).mono ?_
    rintro e w4 ⟨rfl, b4⟩
    have B4 := Lib.hid (And.intro (P3.out.trans (grown_of_below b4 _)) ((b4.block q (lt_of_block P4.out)).trans P4.out))
    clear b4
    go_wp2_with fail
    go_ret
    exact ⟨rfl, B4.out.1, B4.out.2⟩
  | false =>
    by_cases hu : u = id
    · have x1 : (u : Int) = (id : Int) := by omega
      by_cases hv : v = (h : Int)
      · obtain rfl : m = true := by rw [HFM.out]; simp [hu, hv]
        go_enter Try.func41, Try.ntmps41
        go_wp2_with fail
        refine Mem.wp_region_quiet_tail 17 (by kernel_rfl) (by kernel_rfl) ?_
        simp only [List.take_succ_cons, List.take_zero, List.drop_succ_cons, List.drop_zero]
        repeat (go_big_quiet_step ((go_at_call 31; exact Calls.regrown_of (HEN.out _ (grown_of_below (below_regrown _ _ _) _)))))
        refine wpQuiet_nil ?_
        intro w2 hb2
        replace hb2 := below_of_regrown hb2
        obtain ⟨⟨p1, p2⟩, p3, p4, p5⟩ := FIN.out w2 hb2 true
        have P3 := Lib.hid p3
        have P4 := Lib.hid p4
        clear hb2 p3 p4
        go_wp2_with fail
        generalize hw3 : w2.setCell ⟨q, 0, none⟩ (.bool true) = w3 at *
        have p6 := cell_of_one P4.out
        clear hw3 p1 p2
        go_wp2_with fail
        go_ret
        exact ⟨rfl, P3.out, P4.out⟩
      · obtain rfl : m = false := by rw [HFM.out]; simp [hv]
        go_enter Try.func41, Try.ntmps41
        go_wp2_with fail
        refine Mem.wp_region_quiet_tail 17 (by kernel_rfl) (by kernel_rfl) ?_
        simp only [List.take_succ_cons, List.take_zero, List.drop_succ_cons, List.drop_zero]
        repeat (go_big_quiet_step ((go_at_call 31; exact Calls.regrown_of (HEN.out _ (grown_of_below (below_regrown _ _ _) _)))))
        refine wpQuiet_nil ?_
        intro w2 hb2
        replace hb2 := below_of_regrown hb2
        obtain ⟨⟨p1, p2⟩, p3, p4, p5⟩ := FIN.out w2 hb2 false
        have P3 := Lib.hid p3
        have P4 := Lib.hid p4
        clear hb2 p3 p4
        go_wp2_with fail
        generalize hw3 : w2.setCell ⟨q, 0, none⟩ (.bool false) = w3 at *
        have p6 := cell_of_one P4.out
        clear hw3 p1 p2
        go_wp2_with fail
        refine (HEN.out _ P3.out).mono ?_
        rintro e w4 ⟨rfl, b4⟩
        have B4 := Lib.hid (And.intro (P3.out.trans (grown_of_below b4 _)) ((b4.block q (lt_of_block P4.out)).trans P4.out))
        clear b4
        go_wp2_with fail
        go_ret
        exact ⟨rfl, B4.out.1, B4.out.2⟩
    · obtain rfl : m = false := by rw [HFM.out]; simp [hu]
      have x1 : ¬ ((u : Int) = (id : Int)) := by omega
      go_enter Try.func41, Try.ntmps41
      go_wp2_with fail
      refine Mem.wp_region_quiet_tail 17 (by kernel_rfl) (by kernel_rfl) ?_
      simp only [List.take_succ_cons, List.take_zero, List.drop_succ_cons, List.drop_zero]
      repeat (go_big_quiet_step ((go_at_call 31; exact Calls.regrown_of (HEN.out _ (grown_of_below (below_regrown _ _ _) _)))))
      refine wpQuiet_nil ?_
      intro w2 hb2
      replace hb2 := below_of_regrown hb2
      obtain ⟨⟨p1, p2⟩, p3, p4, p5⟩ := FIN.out w2 hb2 false
      have P3 := Lib.hid p3
      have P4 := Lib.hid p4
      clear hb2 p3 p4
      go_wp2_with fail
      generalize hw3 : w2.setCell ⟨q, 0, none⟩ (.bool false) = w3 at *
      have p6 := cell_of_one P4.out
      clear hw3 p1 p2
      go_wp2_with fail
      refine (HEN.out _ P3.out).mono ?_
      rintro e w4 ⟨rfl, b4⟩
      have B4 := Lib.hid (And.intro (P3.out.trans (grown_of_below b4 _)) ((b4.block q (lt_of_block P4.out)).trans P4.out))
      clear b4
      go_wp2_with fail
      go_ret
      exact ⟨rfl, B4.out.1, B4.out.2⟩
end Pr
end Go.Proofs.Ytommffcojbdldaa
