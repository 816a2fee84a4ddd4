/- Layer 19: what Insert makes of a table; the contract of its closure. -/
import Derived.Test.YtommffcojbdldaaPrN
namespace Go.Proofs.Ytommffcojbdldaa
open Go.RowKit
namespace Pr

/-- Each one moves a place further, the last one first. -/
def insL (n a : Nat) : Nat → Tab → Tab
  | 0, t => t
  | i + 1, t => insL n a i (t.set ((a + i + 1) % n) (cl t ((a + i) % n)))
def emp (t : Tab) (n a s : Nat) : Bool := !nz (cl t ((a + s) % n))
def opF (t : Tab) (n h s : Nat) : Bool := opn t n ((h + s) % n) s
/-- The first place that is open, and how far it is from there to the first empty one. -/
def insA (t : Tab) (n h : Nat) : Nat := h + (fst (opF t n h) n).getD 0
def insG (t : Tab) (n h : Nat) : Nat := (fst (emp t n (insA t n h)) n).getD 0
def insT (t : Tab) (n id h : Nat) : Tab := (insL n (insA t n h) (insG t n h) t).set (insA t n h % n) (id, (h : Int))
/-- Why nothing is put in; 0: it is. -/
def insE (t : Tab) (n id : Nat) (h : Int) : Nat := if begE t n id h ≠ 0 then begE t n id h else if hasB t id = true then 8 else if hasB t 0 = false then 5 else 0
theorem insE_a {t : Tab} {n id : Nat} {h : Int} (e : begE t n id h ≠ 0) : insE t n id h = begE t n id h := by unfold insE; rw [if_pos e]
theorem insE_b {t : Tab} {n id : Nat} {h : Int} (e : begE t n id h = 0) (e2 : hasB t id = true) : insE t n id h = 8 := by unfold insE; rw [if_neg (by omega), if_pos e2]
theorem insE_c {t : Tab} {n id : Nat} {h : Int} (e : begE t n id h = 0) (e2 : hasB t id = false) (e3 : hasB t 0 = false) : insE t n id h = 5 := by unfold insE; rw [if_neg (by omega), if_neg (by rw [e2]; decide), if_pos e3]
theorem insE_d {t : Tab} {n id : Nat} {h : Int} (e : begE t n id h = 0) (e2 : hasB t id = false) (e3 : hasB t 0 = true) : insE t n id h = 0 := by unfold insE; rw [if_neg (by omega), if_neg (by rw [e2]; decide), if_neg (by rw [e3]; decide)]
/-- Any place is reached from any other one. -/
theorem reach {n x i : Nat} (hi : i < n) : ∃ s, s < n ∧ (x + s) % n = i := by
  refine ⟨(i + n - x % n) % n, Nat.mod_lt _ (by omega), ?_⟩
  have h1 := Nat.mod_lt x (show 0 < n by omega)
  rw [Nat.add_mod, Nat.mod_mod]
  rcases Nat.lt_or_ge i (x % n) with h | h
  · rw [Nat.mod_eq_of_lt (show i + n - x % n < n by omega), show x % n + (i + n - x % n) = i + n by omega, Nat.add_mod_right, Nat.mod_eq_of_lt hi]
  · rw [show i + n - x % n = (i - x % n) + n by omega, Nat.add_mod_right, Nat.mod_eq_of_lt (show i - x % n < n by omega), show x % n + (i - x % n) = i by omega, Nat.mod_eq_of_lt hi]
theorem known_cell {t : Tab} {n : Nat} (hl : t.length = n) (h : knownB t = true) {i : Nat} (hi : i < n) : okAt t n i = true := by
  unfold knownB at h
  rw [Bool.and_eq_true, List.all_eq_true] at h
  have := h.2 i (List.mem_range.2 (by omega))
  rwa [hl] at this
theorem nz_iff {t : Tab} {n : Nat} (hl : t.length = n) (h : knownB t = true) {i : Nat} (hi : i < n) : nz (cl t i) = decide ((cl t i).1 ≠ 0) := by
  have h1 := known_cell hl h hi
  unfold okAt at h1
  rw [nz_or]
  split at h1
  · rename_i h0
    have : (cl t i).2 = 0 := by simpa using h1
    simp [h0, this]
  · rename_i h0
    simp [h0]
theorem empty_of {t : Tab} {n : Nat} (hl : t.length = n) (h : knownB t = true) (h0 : hasB t 0 = true) : ∃ i, i < n ∧ nz (cl t i) = false := by
  unfold hasB at h0
  rw [hl] at h0
  cases hf : fst (idAt t 0) n with
  | none => rw [hf] at h0; cases h0
  | some k =>
    obtain ⟨h1, h2, _⟩ := fst_of hf
    refine ⟨k, h1, ?_⟩
    rw [nz_iff hl h h1]
    have : (cl t k).1 = 0 := by simpa [idAt] using h2
    simp [this]
theorem open_of {t : Tab} {n h i : Nat} (hi : i < n) (he : nz (cl t i) = false) : ∃ k, fst (opF t n h) n = some k := by
  cases hf : fst (opF t n h) n with
  | some k => exact ⟨k, rfl⟩
  | none =>
    obtain ⟨s, hs, hsi⟩ := reach (x := h) hi
    have := none_of hf s hs
    unfold opF opn at this
    rw [hsi, he] at this
    cases this
theorem emp_of {t : Tab} {n a i : Nat} (hi : i < n) (he : nz (cl t i) = false) : ∃ k, fst (emp t n a) n = some k := by
  cases hf : fst (emp t n a) n with
  | some k => exact ⟨k, rfl⟩
  | none =>
    obtain ⟨s, hs, hsi⟩ := reach (x := a) hi
    have := none_of hf s hs
    unfold emp at this
    rw [hsi, he] at this
    cases this
theorem ins1_any (t : Tab) (A : Option Addr) (n c s j q : Nat) (W : World) (hr : RdT W A n t) (hn : n ≤ 100000) (hj : j < n) (hq : W.cell? ⟨q, 0, none⟩ = some (.slice A n c)) :
    Calls Try.prog 32 #[.int .i64 (s : Int), .int .i64 (j : Int), .pointer (some ⟨q, 0, none⟩)] W fun e w => e = .returned (.bool (!nz (cl t j))) ∧ Below W.heap.size W w := by
  have IS := Lib.hid (is_any t A n c j W hr (by omega) hn (by omega))
  rw [Nat.mod_eq_of_lt hj] at IS
  obtain ⟨z, hz⟩ : ∃ z, nz (cl t j) = z := ⟨_, rfl⟩
  rw [hz] at IS ⊢
  clear hr hz
  go_enter Try.func32, Try.ntmps32
  go_wp2_with fail
  refine IS.out.mono ?_
  rintro e w2 ⟨rfl, b2⟩
  have B2 := Lib.hid b2
  clear b2
  go_wp2_with fail
  go_ret
  exact ⟨by simp, B2.out⟩
end Pr
end Go.Proofs.Ytommffcojbdldaa
