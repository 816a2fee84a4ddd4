/- Layer 19: the contract of Delete. -/
import Derived.Test.YtommffcojbdldaaPrP
namespace Go.Proofs.Ytommffcojbdldaa
open Go.RowKit
namespace Pr

/-- Does moving back end there? -/
def dp (t : Tab) (n a s : Nat) : Bool := (decide (s = n - 1) || !nz (cl t ((a + 1 + s) % n))) || decide (D n (cl t ((a + 1 + s) % n)).2 (((a + 1 + s) % n : Nat) : Int) = 0)
/-- Each one moves a place back, the first one first. -/
def delL (n a : Nat) : Nat → Nat → Tab → Tab
  | 0, _, t => t
  | r + 1, i, t => delL n a r (i + 1) (t.set ((a + i) % n) (cl t ((a + i + 1) % n)))
def delM (t : Tab) (n a : Nat) : Nat := (fst (dp t n a) n).getD 0
def delT (t : Tab) (n a : Nat) : Tab := (delL n a (delM t n a) 0 t).set ((a + delM t n a) % n) (0, 0)
def delE (t : Tab) (n id : Nat) (h : Int) : Nat := if begE t n id h ≠ 0 then begE t n id h else if (fnd t n id h.toNat).isSome then 0 else 7
theorem dp_some {t : Tab} {n a : Nat} (hn : 0 < n) : ∃ m, fst (dp t n a) n = some m := by
  cases hf : fst (dp t n a) n with
  | some m => exact ⟨m, rfl⟩
  | none =>
    have := none_of hf (n - 1) (by omega)
    unfold dp at this
    simp at this
theorem fnd_lt {t : Tab} {n id h a : Nat} (hf : fnd t n id h = some a) : a < n := by
  unfold fnd at hf
  split at hf
  · rename_i k hk
    obtain ⟨hkn, _, _⟩ := fst_of hk
    split at hf
    · injection hf with hf
      rw [← hf]
      exact Nat.mod_lt _ (by omega)
    · cases hf
  · cases hf
set_option maxHeartbeats 1600000 in
theorem del1_any (t : Tab) (A A0 : Option Addr) (n c c0 s j q p : Nat) (W : World) (hr : RdT W A n t) (hn : n ≤ 100000) (hs : s < n) (hj : j < n) (hq : W.cell? ⟨q, 0, none⟩ = some (.slice A n c)) (hp : W.cell? ⟨p, 0, none⟩ = some (.slice A0 n c0)) :
    Calls Try.prog 38 #[.int .i64 (s : Int), .int .i64 (j : Int), .pointer (some ⟨p, 0, none⟩), .pointer (some ⟨q, 0, none⟩)] W fun e w => e = .returned (.bool ((decide (s = n - 1) || !nz (cl t j)) || decide (D n (cl t j).2 (j : Int) = 0))) ∧ Below W.heap.size W w := by
  have IS := Lib.hid (is_any t A n c j W hr (by omega) hn (by omega))
  have FA := Lib.hid (fun w (hb : Below W.heap.size W w) => far_any t A n c j w (hr.below hb) hn hj)
  rw [Nat.mod_eq_of_lt hj] at IS
  obtain ⟨z, hz⟩ : ∃ z, nz (cl t j) = z := ⟨_, rfl⟩
  obtain ⟨d, hd⟩ : ∃ d, D n (cl t j).2 (j : Int) = d := ⟨_, rfl⟩
  rw [hz] at IS ⊢
  rw [hd] at FA ⊢
  have hw : IntKind.i64.wrap ((n : Int) - 1) = (n : Int) - 1 := IntWalk.i64_in _ (by omega)
  have CQ := Lib.hid (fun w (hb : Below W.heap.size W w) => (hb.cell (p := ⟨q, 0, none⟩) (World.block_lt_of_cell? W _ hq)).trans hq)
  clear hr hz hd
  by_cases h1 : s = n - 1
  · have x1 : (s : Int) = (n : Int) - 1 := by omega
    have HD := Lib.hid (show decide (s = n - 1) = true by simpa using h1)
    clear h1
    go_enter Try.func38, Try.ntmps38
    go_wp2_with fail
    go_ret
    exact ⟨by rw [HD.out]; rfl, Below.refl _ _⟩
  · have x1 : ¬ (s : Int) = (n : Int) - 1 := by omega
    have x2 : ((s : Int) == (n : Int) - 1) = false := by simpa using x1
    have HD := Lib.hid (show decide (s = n - 1) = false by simpa using h1)
    clear h1
    cases z with
    | false =>
      go_enter Try.func38, Try.ntmps38
      go_wp2_with fail
      refine IS.out.mono ?_
      rintro e w2 ⟨rfl, b2⟩
      have B2 := Lib.hid b2
      clear b2
      go_wp2_with fail
      go_ret
      exact ⟨by rw [HD.out]; rfl, B2.out⟩
    | true =>
      by_cases hd0 : d = 0
      · go_enter Try.func38, Try.ntmps38
        go_wp2_with fail
        refine IS.out.mono ?_
        rintro e w2 ⟨rfl, b2⟩
        have c2 := CQ.out _ b2
        have B2 := Lib.hid b2
        clear b2
        go_wp2_with fail
        refine (FA.out _ B2.out).mono ?_
        rintro e w3 ⟨rfl, b3⟩
        have B3 := Lib.hid (below_next B2.out b3)
        clear b3
        go_wp2_with fail
        go_ret
        exact ⟨by rw [HD.out]; simp [hd0], B3.out⟩
      · have x3 : (d == 0) = false := by simpa using hd0
        go_enter Try.func38, Try.ntmps38
        go_wp2_with fail
        refine IS.out.mono ?_
        rintro e w2 ⟨rfl, b2⟩
        have c2 := CQ.out _ b2
        have B2 := Lib.hid b2
        clear b2
        go_wp2_with fail
        refine (FA.out _ B2.out).mono ?_
        rintro e w3 ⟨rfl, b3⟩
        have B3 := Lib.hid (below_next B2.out b3)
        clear b3
        go_wp2_with fail
        go_ret
        exact ⟨by rw [HD.out]; simp [hd0], B3.out⟩
end Pr
end Go.Proofs.Ytommffcojbdldaa
