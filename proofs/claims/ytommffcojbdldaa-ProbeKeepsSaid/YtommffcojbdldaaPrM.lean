/- Layer 19: the contracts of Find, begin and Longest. -/
import Derived.Test.YtommffcojbdldaaPrL
namespace Go.Proofs.Ytommffcojbdldaa
open Go.RowKit
namespace Pr

/-- Why nothing may be done; 0: it may. -/
def begE (t : Tab) (n id : Nat) (h : Int) : Nat := if id = 0 ∨ inB n h = false then 2 else if rightB t = false then 4 else 0
def fin (t : Tab) (n id : Nat) (h : Int) : Option Nat := if begE t n id h = 0 then fnd t n id h.toNat else none
theorem beg_a {t : Tab} {n id : Nat} {h : Int} (h0 : id = 0) : begE t n id h = 2 := by unfold begE; rw [if_pos (.inl h0)]
theorem beg_b {t : Tab} {n id : Nat} {h : Int} (h1 : inB n h = false) : begE t n id h = 2 := by unfold begE; rw [if_pos (.inr h1)]
theorem beg_c {t : Tab} {n id : Nat} {h : Int} (h0 : ¬ id = 0) (h1 : inB n h = true) (h2 : rightB t = false) : begE t n id h = 4 := by unfold begE; rw [if_neg (by rw [h1]; simp [h0]), if_pos h2]
theorem beg_d {t : Tab} {n id : Nat} {h : Int} (h0 : ¬ id = 0) (h1 : inB n h = true) (h2 : rightB t = true) : begE t n id h = 0 := by unfold begE; rw [if_neg (by rw [h1]; simp [h0]), if_neg (by rw [h2]; simp)]
theorem fin_none {t : Tab} {n id : Nat} {h : Int} {v : Nat} (h0 : begE t n id h = v) (hv : v ≠ 0) : fin t n id h = none := by unfold fin; rw [if_neg (by omega)]
def FdRes (r : Option Nat) (W : World) (e : Ending) (w : World) : Prop := e = .returned (.tuple #[.int .i64 (fndI r), .bool r.isSome]) ∧ Below W.heap.size W w
theorem beg_ok {t : Tab} {n id : Nat} {h : Int} (e : begE t n id h = 0) : id ≠ 0 ∧ 0 ≤ h ∧ h < (n : Int) ∧ rightB t = true ∧ inB n h = true := by
  unfold begE at e
  split at e
  · cases e
  · rename_i h1
    split at e
    · cases e
    · rename_i h2
      have h3 : inB n h = true := by
        cases hi : inB n h with
        | false => exact absurd (.inr hi) h1
        | true => rfl
      have h4 : 0 ≤ h ∧ h < (n : Int) := by simpa [inB] using h3
      exact ⟨fun h5 => h1 (.inl h5), h4.1, h4.2, by simpa using h2, h3⟩
set_option maxRecDepth 20000 in
set_option maxHeartbeats 1600000 in
theorem find_any (t : Tab) (A : Option Addr) (n c id : Nat) (h : Int) (W : World) (hr : RdT W A n t) (hn : n ≤ 100000) :
    Calls Try.prog 10 #[.slice A n c, .int .u32 (id : Int), .int .i64 h] W (FdRes (fin t n id h) W) := by
  by_cases h0 : id = 0
  · have HF := Lib.hid (show fin t n id h = none from fin_none (beg_a h0) (by decide))
    have x1 : (id : Int) = 0 := by omega
    clear hr h0
    go_enter Try.func10, Try.ntmps10
    go_wp2_with fail
    go_ret2
    exact ⟨by rw [HF.out]; rfl, Below.refl _ _⟩
  have x1 : ¬ (id : Int) = 0 := by omega
  have x2 : ((id : Int) == 0) = false := by simpa using x1
  have WI := Lib.hid (fun w => within_any n h w)
  cases hi : inB n h with
  | false =>
    have HF := Lib.hid (show fin t n id h = none from fin_none (beg_b hi) (by decide))
    rw [hi] at WI
    clear hr h0 hi
    go_enter Try.func10, Try.ntmps10
    go_wp2_with fail
    refine (WI.out _).mono ?_
    rintro e w ⟨rfl, rfl⟩
    go_wp2_with fail
    go_ret2
    exact ⟨by rw [HF.out]; rfl, Below.refl _ _⟩
  | true =>
    have RI := Lib.hid (right_any t A n c W hr hn)
    rw [hi] at WI
    cases hrt : rightB t with
    | false =>
      have HF := Lib.hid (show fin t n id h = none from fin_none (beg_c h0 hi hrt) (by decide))
      rw [hrt] at RI
      clear hr h0 hi hrt
      go_enter Try.func10, Try.ntmps10
      go_wp2_with fail
      refine (WI.out _).mono ?_
      rintro e w ⟨rfl, rfl⟩
      go_wp2_with fail
      refine RI.out.mono ?_
      rintro e w1 ⟨rfl, b1⟩
      have B1 := Lib.hid b1
      clear b1
      go_wp2_with fail
      go_ret2
      exact ⟨by rw [HF.out]; rfl, B1.out⟩
    | true =>
      have hb0 : begE t n id h = 0 := beg_d h0 hi hrt
      have HF := Lib.hid (show fin t n id h = fnd t n id h.toNat by unfold fin; rw [if_pos hb0])
      obtain ⟨_, p1, p2, _, _⟩ := beg_ok hb0
      have FI := Lib.hid (fun w (hb : Below W.heap.size W w) => tfind_any t A n c id h.toNat w (hr.below hb) hn (by omega))
      rw [hrt] at RI
      have hcast : ((h.toNat : Nat) : Int) = h := by omega
      rw [hcast] at FI
      clear hr h0 hi hrt hb0 p1 p2 hcast
      go_enter Try.func10, Try.ntmps10
      go_wp2_with fail
      refine (WI.out _).mono ?_
      rintro e w ⟨rfl, rfl⟩
      go_wp2_with fail
      refine RI.out.mono ?_
      rintro e w1 ⟨rfl, b1⟩
      have B1 := Lib.hid b1
      clear b1
      go_wp2_with fail
      refine (FI.out _ B1.out).mono ?_
      rintro e w2 ⟨rfl, b2⟩
      have B2 := Lib.hid (below_next B1.out b2)
      clear b2
      go_wp2_with fail
      go_ret2
      exact ⟨by rw [HF.out]; rfl, B2.out⟩
theorem own_mono {w : World} {base base' : Nat} {e : TypeId} {size : Nat} {v : Value} {n : Nat} {xs : List Value} (h : w.ownsRow base e size v n xs) (hb : base' ≤ base) : w.ownsRow base' e size v n xs := by
  refine ⟨h.1, ?_⟩
  rcases h.2 with h2 | ⟨g, cap, cur, h3, h4, h5⟩
  · exact .inl h2
  · exact .inr ⟨g, cap, cur, h3, Nat.le_trans hb h4, h5⟩
/-- What begin answers. -/
def BgRes (t : Tab) (n id : Nat) (h : Int) (W : World) (e : Ending) (w : World) : Prop :=
  ((begE t n id h = 0 ∧ ∃ A c, e = .returned (.tuple #[.agg #[.slice A n c], .int .i64 0]) ∧ OwnT w W.heap.size A n c t) ∨ (begE t n id h ≠ 0 ∧ e = .returned (.tuple #[.agg #[.slice none 0 0], .int .i64 (begE t n id h : Nat)]))) ∧ Below W.heap.size W w
set_option maxRecDepth 20000 in
set_option maxHeartbeats 1600000 in
theorem begin_any (t : Tab) (A : Option Addr) (n c id : Nat) (h : Int) (W : World) (hr : RdT W A n t) (hn : n ≤ 100000) :
    Calls Try.prog 28 #[.slice A n c, .int .u32 (id : Int), .int .i64 h] W (BgRes t n id h W) := by
  have HA := Lib.hid ((Below.refl W.heap.size W).alloc (Nat.le_refl _) (.cells #[.slice none 0 0] 56))
  by_cases h0 : id = 0
  · have HF := Lib.hid (beg_a (t := t) (n := n) (h := h) h0)
    have x1 : (id : Int) = 0 := by omega
    clear hr h0
    go_enter Try.func28, Try.ntmps28
    go_wp2_with fail
    exact bodyPost_ret (v := .tuple #[.agg #[.slice none 0 0], .int .i64 2]) (by simp [results, Try.results28, go_sem]) rfl ⟨.inr ⟨by rw [HF.out]; decide, by rw [HF.out]; rfl⟩, HA.out⟩
  have x1 : ¬ (id : Int) = 0 := by omega
  have x2 : ((id : Int) == 0) = false := by simpa using x1
  have WI := Lib.hid (fun w => within_any n h w)
  cases hi : inB n h with
  | false =>
    have HF := Lib.hid (beg_b (t := t) (id := id) hi)
    rw [hi] at WI
    clear hr h0 hi
    go_enter Try.func28, Try.ntmps28
    go_wp2_with fail
    refine (WI.out _).mono ?_
    rintro e w ⟨rfl, rfl⟩
    go_wp2_with fail
    exact bodyPost_ret (v := .tuple #[.agg #[.slice none 0 0], .int .i64 2]) (by simp [results, Try.results28, go_sem]) rfl ⟨.inr ⟨by rw [HF.out]; decide, by rw [HF.out]; rfl⟩, HA.out⟩
  | true =>
    rw [hi] at WI
    obtain ⟨b, hb⟩ : ∃ b, W.heap.size = b := ⟨_, rfl⟩
    obtain ⟨w0, hw0⟩ : ∃ w0, W.alloc (.cells #[.slice none 0 0] 56) = w0 := ⟨_, rfl⟩
    have B0 : Below W.heap.size W w0 := by rw [← hw0]; exact HA.out
    have RI := Lib.hid (right_any t A n c w0 (hr.below B0) hn)
    have k0 : w0.heap[b]? = some (.cells #[.slice none 0 0] 56 (0, 0)) := by rw [← hw0, ← hb]; exact heap_alloc_new W _
    have KB := Lib.hid (fun w (h : Below w0.heap.size w0 w) => show w.heap[b]? = some (.cells #[.slice none 0 0] 56 (0, 0)) from (h.block b (lt_of_block k0)).trans k0)
    have HB0 := Lib.hid B0
    have HW0 := Lib.hid hw0
    have HB := Lib.hid hb
    cases hrt : rightB t with
    | false =>
      have HF := Lib.hid (beg_c h0 hi hrt)
      rw [hrt] at RI
      clear hr h0 hi hrt k0 B0 hw0
      go_enter Try.func28, Try.ntmps28
      go_wp2_with fail
      refine (WI.out _).mono ?_
      rintro e w ⟨rfl, rfl⟩
      go_wp2_with fail
      rw [HW0.out]
      refine RI.out.mono ?_
      rintro e w1 ⟨rfl, b1⟩
      have k1 := KB.out w1 b1
      have c1 := cell_of_one k1
      have f1 := free_of_one k1
      have k2 := one_setCell (u := .slice none 0 0) k1
      have c2 := cell_of_one k2
      have B1 := Lib.hid (below_next HB0.out b1)
      clear b1 k1 k2
      go_wp2_with fail
      exact bodyPost_ret (v := .tuple #[.agg #[.slice none 0 0], .int .i64 4]) (by simp [results, Try.results28, go_sem, c2]) rfl ⟨.inr ⟨by rw [HF.out]; decide, by rw [HF.out]; rfl⟩, B1.out.setCell (by simp [HB.out]) _⟩
    | true =>
      have hb0 : begE t n id h = 0 := beg_d h0 hi hrt
      have HF := Lib.hid hb0
      obtain ⟨_, p1, p2, _, _⟩ := beg_ok hb0
      have CL := Lib.hid (fun w (hb : Below W.heap.size W w) => clone_any t A n c w (hr.below hb) (by omega) hn)
      rw [hrt] at RI
      clear hr h0 hi hrt k0 B0 hw0 hb0 p1 p2
      go_enter Try.func28, Try.ntmps28
      go_wp2_with fail
      refine (WI.out _).mono ?_
      rintro e w ⟨rfl, rfl⟩
      go_wp2_with fail
      rw [HW0.out]
      refine RI.out.mono ?_
      rintro e w1 ⟨rfl, b1⟩
      have K1 := Lib.hid (KB.out w1 b1)
      have B1 := Lib.hid (below_next HB0.out b1)
      clear b1
      go_wp2_with fail
      refine (CL.out _ B1.out).mono ?_
      rintro e w2 ⟨⟨A2, c2', rfl, ho⟩, b2⟩
      have k1 := (b2.block b (lt_of_block K1.out)).trans K1.out
      have c1 := cell_of_one k1
      have f1 := free_of_one k1
      have k2 := one_setCell (u := .slice A2 n c2') k1
      have c2 := cell_of_one k2
      have hne : ∀ q, (Value.slice A2 n c2').ownBlock = some q → q ≠ b := fun q hq => by
        have := lt_of_block K1.out
        rcases ho.1.2 with ⟨h3, _⟩ | ⟨g, _, _, h3, h4, _⟩
        · rw [h3] at hq
          cases hq
        · rw [h3] at hq
          simp only [Value.ownBlock, Option.some.injEq] at hq
          omega
      have HO := Lib.hid (show OwnT (w2.setCell ⟨b, 0, none⟩ (.slice A2 n c2')) W.heap.size A2 n c2' t from ⟨ownsRow_setCell_other (own_mono ho.1 B1.out.size) (fun e => hne b e rfl) _, ho.2.1, ho.2.2⟩)
      have B2 := Lib.hid (below_next B1.out b2)
      clear b2 k1 k2 ho hne
      go_wp2_with fail
      exact bodyPost_ret (v := .tuple #[.agg #[.slice A2 n c2'], .int .i64 0]) (by simp [results, Try.results28, go_sem, c2]) rfl ⟨.inl ⟨HF.out, A2, c2', rfl, HO.out⟩, B2.out.setCell (by simp [HB.out]) _⟩
end Pr
end Go.Proofs.Ytommffcojbdldaa
