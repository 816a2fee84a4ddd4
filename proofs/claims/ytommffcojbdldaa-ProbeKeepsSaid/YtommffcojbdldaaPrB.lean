/- Layer 19: tables: how they read; the contracts of the small methods. -/
import Derived.Test.YtommffcojbdldaaPrA
import Derived.BigQuiet
import Derived.Deep.QuietTactic
import Derived.StillTailTactics
import Derived.Lib.QuietBelow
namespace Go.Proofs.Ytommffcojbdldaa
open Go.RowKit
namespace Pr

abbrev Tab := List (Nat × Int)
def cel (p : Nat × Int) : List Value := [.int .u32 (p.1 : Int), .int .i64 p.2]
def cels (t : Tab) : List Value := t.flatMap cel
def cl (t : Tab) (i : Nat) : Nat × Int := t.getD i (0, 0)
theorem cels_len (t : Tab) : (cels t).length = t.length * 2 := by
  induction t with
  | nil => rfl
  | cons r rs ih =>
    have e : cels (r :: rs) = cel r ++ cels rs := by simp [cels]
    rw [e, List.length_append, ih, List.length_cons]
    show 2 + _ = _
    omega
theorem cl_at {t : Tab} {k : Nat} (h : k < t.length) : t[k]? = some (cl t k) := by
  unfold cl
  rw [List.getD_eq_getElem?_getD, List.getElem?_eq_getElem h]
  rfl
theorem cels_at : ∀ (t : Tab) (k : Nat), k < t.length → (cels t)[k * 2]? = some (.int .u32 ((cl t k).1 : Int)) ∧ (cels t)[k * 2 + 1]? = some (.int .i64 (cl t k).2)
  | [], k, h => absurd h (by simp)
  | r :: rs, 0, _ => ⟨rfl, rfl⟩
  | r :: rs, k + 1, h => by
    have ih := cels_at rs k (by simpa using h)
    have e : cels (r :: rs) = cel r ++ cels rs := by simp [cels]
    have e1 : (k + 1) * 2 = k * 2 + 2 := by omega
    have e2 : k * 2 + 2 + 1 = (k * 2 + 1) + 2 := by omega
    rw [e, e1, e2, List.getElem?_append_right (by simp [cel]), List.getElem?_append_right (by simp [cel])]
    simpa [cel, cl] using ih
theorem cels_app (a b : Tab) : cels (a ++ b) = cels a ++ cels b := by simp [cels]
theorem one_cels (t : Tab) : ∀ u ∈ cels t, u.oneCell' = true := by
  intro u hu
  obtain ⟨p, _, hp⟩ := List.mem_flatMap.1 hu
  simp [cel] at hp
  rcases hp with rfl | rfl <;> rfl
/-- The numbers are ones of their kinds. -/
def Fine (t : Tab) : Prop := ∀ p ∈ t, p.1 < 4294967296 ∧ I64 p.2
theorem Fine.at {t : Tab} (h : Fine t) (k : Nat) : (cl t k).1 < 4294967296 ∧ I64 (cl t k).2 := by
  unfold cl
  rw [List.getD_eq_getElem?_getD]
  rcases Nat.lt_or_ge k t.length with hk | hk
  · rw [List.getElem?_eq_getElem hk]
    exact h _ (List.getElem_mem _)
  · rw [List.getElem?_eq_none hk]
    exact ⟨by decide, by unfold I64; decide⟩
/-- A slice that reads as a table. -/
structure RdT (w : World) (A : Option Addr) (n : Nat) (t : Tab) : Prop where
  len : t.length = n
  fine : Fine t
  rows : 0 < n → ∃ b off, A = some ⟨b, off, none⟩ ∧ b < w.heap.size ∧ ∀ k, k < n → w.cell? ⟨b, off + k * 2, none⟩ = some (.int .u32 ((cl t k).1 : Int)) ∧ w.cell? ⟨b, off + k * 2 + 1, none⟩ = some (.int .i64 (cl t k).2)
section
variable {w w' : World} {A : Option Addr} {n : Nat} {t : Tab}
theorem RdT.below (h : RdT w A n t) (hb : Below w.heap.size w w') : RdT w' A n t := by
  refine ⟨h.len, h.fine, fun h0 => ?_⟩
  obtain ⟨b, off, ha, hlt, hc⟩ := h.rows h0
  exact ⟨b, off, ha, Nat.lt_of_lt_of_le hlt hb.size, fun k hk => ⟨(hb.cell (p := ⟨b, off + k * 2, none⟩) hlt).trans (hc k hk).1, (hb.cell (p := ⟨b, off + k * 2 + 1, none⟩) hlt).trans (hc k hk).2⟩⟩
theorem RdT.drewN (h : RdT w A n t) (m : Nat) : RdT (w.drewN m) A n t := ⟨h.len, h.fine, h.rows⟩
end
theorem far_any (t : Tab) (A : Option Addr) (n c i : Nat) (W : World) (h : RdT W A n t) (hn : n ≤ 100000) (hi : i < n) :
    Calls Try.prog 39 #[.agg #[.slice A n c], .int .i64 (i : Int)] W fun e w => e = .returned (.int .i64 (D n (cl t i).2 i)) ∧ Below W.heap.size W w := by
  obtain ⟨b, off, rfl, hlt, hc⟩ := h.rows (by omega)
  obtain ⟨h1, h2⟩ := hc i hi
  obtain ⟨x, hx⟩ : ∃ x, (cl t i).2 = x := ⟨_, rfl⟩
  rw [hx] at h2 ⊢
  have HD := Lib.hid (fun w => distance_any (n : Int) x (i : Int) (by unfold I64; omega) w)
  have q0 : (0 : Int) ≤ (i : Int) := by omega
  have q1 : (i : Int) < (n : Int) := by omega
  clear h hc hx h1
  go_enter Try.func39, Try.ntmps39
  go_wp2_with fail
  go_quiet ((go_at_call 21; exact Mem.quiet_of_eq (HD.out _)))
  go_wp2_with fail
  go_ret
  exact ⟨rfl, below_drewN ((Below.refl _ _).alloc (Nat.le_refl _) _) _⟩
theorem reffar_any (t : Tab) (A : Option Addr) (n c i : Nat) (W : World) (h : RdT W A n t) (hn : n ≤ 100000) (hi : i < n) :
    Calls Try.prog 27 #[.slice A n c, .int .i64 (i : Int)] W fun e w => e = .returned (.int .i64 (D n (cl t i).2 i)) ∧ W = w := by
  obtain ⟨b, off, rfl, hlt, hc⟩ := h.rows (by omega)
  obtain ⟨h1, h2⟩ := hc i hi
  obtain ⟨x, hx⟩ : ∃ x, (cl t i).2 = x := ⟨_, rfl⟩
  rw [hx] at h2 ⊢
  have HD := Lib.hid (fun w => refdist_any (n : Int) x (i : Int) (by unfold I64; omega) w)
  have q0 : (0 : Int) ≤ (i : Int) := by omega
  have q1 : (i : Int) < (n : Int) := by omega
  clear h hc hx h1
  go_enter Try.func27, Try.ntmps27
  go_wp2_with (go_at_call 22; refine (HD.out _).mono ?_; rintro e w ⟨rfl, rfl⟩)
  go_ret
  exact ⟨rfl, rfl⟩
end Pr
end Go.Proofs.Ytommffcojbdldaa
