/- Layer 19: a table of the document's as it is handed in. -/
import Derived.Test.YtommffcojbdldaaPtA
import Derived.Deep.SlicePairs
namespace Go.Proofs.Ytommffcojbdldaa
open Go.RowKit Go.ChangeShapes Go.WideShapes Go.Deep
namespace Pr

theorem cell_in {H : Type} {enc : TypeId × Value → H} {W : World} {fuel n c : Nat} {A : Option Addr} {x : DataW H × List MemPlace}
    (hf : DataW.trod enc Try.prog W 0 (fun _ => true) true fuel 22 (Value.slice A n c).cells.toList = some x) : ∃ t, RdT W A n t := by
  rcases open_slice_pairs Try.underlying22 Try.underlying51 (by kernel_rfl) rfl rfl (by kernel_rfl) (by kernel_rfl) hf with ⟨hcs, _⟩ | ⟨a, len, cap, m, k, V0, V1, D0, D1, P0, P1, hcs, _, hl, hm, hmm, _, hc⟩
  · simp [Value.cells] at hcs
    obtain ⟨rfl, rfl, rfl⟩ := hcs
    exact ⟨[], RdT.nil _⟩
  · simp [Value.cells] at hcs
    obtain ⟨rfl, rfl, rfl⟩ := hcs
    have hm2 : n ≤ m := by rw [hmm]; split <;> omega
    have val : ∀ i, i < n → ∃ (u : Nat) (v : Int), V0 i = .int .u32 (u : Int) ∧ V1 i = .int .i64 v ∧ u < 4294967296 ∧ I64 v := fun i hi => by
      obtain ⟨_, _, t0, t1⟩ := hc i (by omega)
      obtain ⟨u, e0, _, w0⟩ := DataW.trod_int Try.underlying23 t0
      obtain ⟨v, e1, _, w1⟩ := DataW.trod_int Try.underlying3 t1
      simp only [List.cons.injEq, and_true] at e0 e1
      simp [Lit.wf, IntKind.min, IntKind.max, IntKind.signed, IntKind.bits] at w0
      refine ⟨u.toNat, v, ?_, e1, by omega, bounds_i64 w1⟩
      rw [e0, show ((u.toNat : Nat) : Int) = u by omega]
    obtain ⟨t, ht⟩ : ∃ t : Tab, t = (List.range n).map fun i => ((intOf (V0 i)).toNat, intOf (V1 i)) := ⟨_, rfl⟩
    have hcl : ∀ i, i < n → cl t i = ((intOf (V0 i)).toNat, intOf (V1 i)) := fun i hi => by
      rw [ht]
      unfold cl
      rw [List.getD_eq_getElem?_getD, List.getElem?_map, List.getElem?_range hi]
      rfl
    refine ⟨t, by rw [ht]; simp, fun p hp => ?_, fun h0 => ?_⟩
    · rw [ht] at hp
      obtain ⟨i, hi, rfl⟩ := List.mem_map.1 hp
      obtain ⟨u, v, e0, e1, h1, h2⟩ := val i (List.mem_range.1 hi)
      rw [e0, e1]
      exact ⟨by simpa [intOf] using h1, by simpa [intOf] using h2⟩
    · obtain ⟨b, off, spot⟩ := a
      have h1 := (hc 0 (by omega)).1
      have hspot : spot = none := by simpa [Addr.add] using World.cell?_spot h1
      subst hspot
      have hlt := World.block_lt_of_cell? W _ h1
      refine ⟨b, off, rfl, by simpa [Addr.add] using hlt, fun i hi => ?_⟩
      obtain ⟨g1, g2, _, _⟩ := hc i (by omega)
      obtain ⟨u, v, e0, e1, _, _⟩ := val i hi
      rw [hcl i hi]
      rw [e0] at g1 ⊢
      rw [e1] at g2 ⊢
      rw [Mem.add_none] at g1 g2
      exact ⟨by simpa [intOf] using g1, by simpa [intOf, Nat.add_assoc] using g2⟩
end Pr
end Go.Proofs.Ytommffcojbdldaa
