/- Layer 19: the walk of ProbeTables. -/
import Derived.Test.YtommffcojbdldaaPrAB
namespace Go.Proofs.Ytommffcojbdldaa
open Go.RowKit
namespace Pr

theorem RdT.nil (w : World) : RdT w none 0 [] := ⟨rfl, (fun p hp => by cases hp), fun h => absurd h (by omega)⟩
/-- What comes back of an insertion, of a deletion. -/
def inTab (t : Tab) (n id : Nat) (h : Int) : Tab := if insE t n id h = 0 then insT t n id h.toNat else []
def deTab (t : Tab) (n id : Nat) (h : Int) : Tab := if delE t n id h = 0 then delT t n ((fnd t n id h.toNat).getD 0) else []
def TRes (s : Tab) (E n : Nat) (W : World) (e : Ending) (w : World) : Prop := ∃ A m c, e = .returned (.tuple #[.slice A m c, .int .i64 (E : Int)]) ∧ RdT w A m s ∧ m ≤ n ∧ Below W.heap.size W w
theorem in_res {t : Tab} {n id : Nat} {h : Int} {W w : World} {e : Ending} (r : InRes t n id h W e w) : TRes (inTab t n id h) (insE t n id h) n W e w := by
  obtain ⟨⟨h1, A, c, rfl, h2⟩ | ⟨h1, rfl⟩, hb⟩ := r
  · exact ⟨A, n, c, by rw [h1]; rfl, by unfold inTab; rw [if_pos h1]; exact h2.rd, Nat.le_refl _, hb⟩
  · exact ⟨none, 0, 0, rfl, by unfold inTab; rw [if_neg h1]; exact RdT.nil _, Nat.zero_le _, hb⟩
theorem ri_res {t : Tab} {n id : Nat} {h : Int} {W w : World} {e : Ending} (r : RiRes t n id h W e w) : TRes (inTab t n id h) (insE t n id h) n W e w := by
  obtain ⟨⟨h1, A, c, rfl, h2⟩ | ⟨h1, rfl⟩, hb⟩ := r
  · exact ⟨A, n, c, by rw [h1]; rfl, by unfold inTab; rw [if_pos h1]; exact h2.rd, Nat.le_refl _, hb⟩
  · exact ⟨none, 0, 0, rfl, by unfold inTab; rw [if_neg h1]; exact RdT.nil _, Nat.zero_le _, hb⟩
theorem de_res {t : Tab} {n id : Nat} {h : Int} {W w : World} {e : Ending} (r : DeRes t n id h W e w) : TRes (deTab t n id h) (delE t n id h) n W e w := by
  obtain ⟨⟨a, A, c, h1, h3, rfl, h2⟩ | ⟨h1, rfl⟩, hb⟩ := r
  · exact ⟨A, n, c, by rw [h1]; rfl, by unfold deTab; rw [if_pos h1, h3]; exact h2.rd, Nat.le_refl _, hb⟩
  · exact ⟨none, 0, 0, rfl, by unfold deTab; rw [if_neg h1]; exact RdT.nil _, Nat.zero_le _, hb⟩
theorem rd_res {t : Tab} {n id : Nat} {h : Int} {W w : World} {e : Ending} (r : RdRes t n id h W e w) : TRes (deTab t n id h) (delE t n id h) n W e w := by
  obtain ⟨⟨a, A, c, h1, h3, rfl, h2⟩ | ⟨h1, rfl⟩, hb⟩ := r
  · exact ⟨A, n, c, by rw [h1]; rfl, by unfold deTab; rw [if_pos h1, h3]; exact h2.rd, Nat.le_refl _, hb⟩
  · exact ⟨none, 0, 0, rfl, by unfold deTab; rw [if_neg h1]; exact RdT.nil _, Nat.zero_le _, hb⟩
set_option maxRecDepth 100000 in
set_option maxHeartbeats 6400000 in
theorem probeTables_walk (t : Tab) (A : Option Addr) (n c id : Nat) (h : Int) (W : World) (hr : RdT W A n t) (hid : id < 4294967296) :
    Calls Try.prog 3 #[.slice A n c, .int .u32 (id : Int), .int .i64 h] W fun e w => e = .returned (.bool true) ∧ Below W.heap.size W w := by
  have PG := Lib.hid (fun w => probes_good w)
  by_cases hn : 80 < n
  · clear hr
    go_enter Try.func3, Try.ntmps3
    go_wp2_with fail
    refine (PG.out _).mono ?_
    rintro e w1 ⟨rfl, hB⟩
    have B := Lib.hid hB
    clear hB
    go_wp2_with fail
    go_ret
    exact ⟨rfl, B.out⟩
  have hn1 : n ≤ 100000 := by omega
  have R := Lib.hid hr
  clear hr
  go_enter Try.func3, Try.ntmps3
  go_wp2_with fail
  refine (own_any t A n c _ R.out hn1).mono ?_
  rintro e w1 ⟨⟨A1, c1, rfl, hO⟩, hB⟩
  have P1 := Lib.hid hO.rd
  have R1 := Lib.hid (R.out.below hB)
  have B1 := Lib.hid hB
  clear hO hB
  go_wp2_with fail
  refine (find_any t A1 n c1 id h _ P1.out hn1).mono ?_
  rintro e w2 ⟨rfl, hB⟩
  have P2 := Lib.hid (P1.out.below hB)
  have R2 := Lib.hid (R1.out.below hB)
  have B2 := Lib.hid (below_next B1.out hB)
  clear hB
  go_wp2_with fail
  refine (reffind_any t A n c id h _ R2.out hn1).mono ?_
  rintro e w3 ⟨rfl, hB⟩
  have P3 := Lib.hid (P2.out.below (hB.below (B := w2.heap.size)))
  have R3 := Lib.hid (R2.out.below (hB.below (B := w2.heap.size)))
  have B3 := Lib.hid (below_next B2.out (hB.below (B := w2.heap.size)))
  clear hB
  go_wp2_with fail
  refine (insert_any t A1 n c1 id h _ P3.out hn1 hid).mono ?_
  intro e w4 hres
  obtain ⟨Ax, mx, cx, rfl, hO, hmx, hB⟩ := in_res hres
  have X4 := Lib.hid hO
  have P4 := Lib.hid (P3.out.below hB)
  have R4 := Lib.hid (R3.out.below hB)
  have B4 := Lib.hid (below_next B3.out hB)
  clear hO hB hres
  go_wp2_with fail
  refine (refinsert_any t A n c id h _ R4.out hn1 hid).mono ?_
  intro e w5 hres
  obtain ⟨Ay, my, cy, rfl, hO, hmy, hB⟩ := ri_res hres
  have Y5 := Lib.hid hO
  have X5 := Lib.hid (X4.out.below hB)
  have P5 := Lib.hid (P4.out.below hB)
  have R5 := Lib.hid (R4.out.below hB)
  have B5 := Lib.hid (below_next B4.out hB)
  clear hO hB hres
  go_wp2_with fail
  refine (delete_any t A1 n c1 id h _ P5.out hn1).mono ?_
  intro e w6 hres
  obtain ⟨Ap, mp, cp, rfl, hO, hmp, hB⟩ := de_res hres
  have Z6 := Lib.hid hO
  have Y6 := Lib.hid (Y5.out.below hB)
  have X6 := Lib.hid (X5.out.below hB)
  have P6 := Lib.hid (P5.out.below hB)
  have R6 := Lib.hid (R5.out.below hB)
  have B6 := Lib.hid (below_next B5.out hB)
  clear hO hB hres
  go_wp2_with fail
  refine (refdelete_any t A n c id h _ R6.out hn1).mono ?_
  intro e w7 hres
  obtain ⟨Aq, mq, cq, rfl, hO, hmq, hB⟩ := rd_res hres
  have V7 := Lib.hid hO
  have Z7 := Lib.hid (Z6.out.below hB)
  have Y7 := Lib.hid (Y6.out.below hB)
  have X7 := Lib.hid (X6.out.below hB)
  have P7 := Lib.hid (P6.out.below hB)
  have R7 := Lib.hid (R6.out.below hB)
  have B7 := Lib.hid (below_next B6.out hB)
  clear hO hB hres
  go_wp2_with fail
  refine (right_any t A1 n c1 _ P7.out hn1).mono ?_
  rintro e w8 ⟨rfl, hB⟩
  have B78 := Lib.hid hB
  clear hB
  go_wp2_with fail
  refine (refright_any t A n c _ (R7.out.below B78.out) hn1).mono ?_
  rintro e w9 ⟨rfl, hB⟩
  have B79 := Lib.hid (below_next B78.out (hB.below (B := w8.heap.size)))
  clear hB
  go_wp2_with fail
  refine (same_any _ _ _ _ _ _ _ _ _ (X7.out.below B79.out) (Y7.out.below B79.out) (by omega) (by omega)).mono ?_
  rintro e w10 ⟨rfl, hB⟩
  have B7a := Lib.hid (below_next B79.out (hB.below (B := w9.heap.size)))
  rw [decide_eq_true rfl]
  clear hB
  go_wp2_with fail
  refine (same_any _ _ _ _ _ _ _ _ _ (Z7.out.below B7a.out) (V7.out.below B7a.out) (by omega) (by omega)).mono ?_
  rintro e w11 ⟨rfl, hB⟩
  have B7b := Lib.hid (below_next B7a.out (hB.below (B := w10.heap.size)))
  rw [decide_eq_true rfl]
  clear hB
  go_wp2_with fail
  refine (longest_any t A1 n c1 _ (P7.out.below B7b.out) hn1).mono ?_
  rintro e w12 ⟨rfl, hB⟩
  have B7c := Lib.hid (below_next B7b.out hB)
  clear hB
  go_wp2_with fail
  refine (reflongest_any t A n c _ (R7.out.below B7c.out) hn1).mono ?_
  rintro e w13 ⟨rfl, hB⟩
  have B7d := Lib.hid (below_next B7c.out (hB.below (B := w12.heap.size)))
  clear hB
  go_wp2_with fail
  refine (same_any _ _ _ _ _ _ _ _ _ (P7.out.below B7d.out) (R7.out.below B7d.out) (by omega) (by omega)).mono ?_
  rintro e w14 ⟨rfl, hB⟩
  have B7e := Lib.hid (below_next B7d.out (hB.below (B := w13.heap.size)))
  rw [decide_eq_true rfl]
  clear hB
  go_wp2_with fail
  refine (PG.out _).mono ?_
  rintro e w15 ⟨rfl, hB⟩
  have BF := Lib.hid (below_next (below_next B7.out B7e.out) hB)
  clear hB
  go_wp2_with fail
  go_ret
  exact ⟨rfl, BF.out⟩
end Pr
end Go.Proofs.Ytommffcojbdldaa
