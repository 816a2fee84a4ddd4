/- Layers 6 and 7: how records that came in are read; what Pack answers, in one. -/
import Derived.Test.YtajkcghbdbjmaaaRpF
import Derived.Deep.Matrix
namespace Go.Proofs.Ytajkcghbdbjmaaa
open Go.RowKit Go.ChangeShapes Go.Deep
namespace Rc

theorem recs_in {H : Type} {enc : TypeId × Value → H} {W : World} {fuel n c : Nat} {A : Option Addr} {x : DataW H × List MemPlace}
    (hf : DataW.trod enc Try.prog W 0 (fun _ => true) true fuel 38 (Value.slice A n c).cells.toList = some x) : ∃ rs, RdRecs W A n rs ∧ n ≤ c ∧ n ≤ 9223372036854775807 := by
  rcases open_int_rows Try.underlying38 Try.underlying22 Try.underlying5 (by kernel_rfl) (by kernel_rfl) hf with ⟨hcs, _⟩ | ⟨a, len, cap, AA, L, C, Z, hcs, _, hl, hm, _, hc⟩
  · simp [Value.cells] at hcs
    obtain ⟨rfl, rfl, rfl⟩ := hcs
    exact ⟨[], RdRecs.nil _ _, by decide, by decide⟩
  · simp [Value.cells] at hcs
    obtain ⟨rfl, rfl, rfl⟩ := hcs
    have hcap : c ≤ 9223372036854775807 := by unfold maxLen at hm; omega
    have hrec : ∀ k, k < n → rc ((List.range n).map fun r => ((Z r).take (L r)).map Int.toNat) k = ((Z k).take (L k)).map Int.toNat := fun k hk => by
      unfold rc
      rw [List.getD_eq_getElem?_getD, List.getElem?_map, List.getElem?_range hk]
      rfl
    have wf : ∀ k, k < n → ∀ z ∈ Z k, 0 ≤ z ∧ z < 256 := fun k hk z hz => by
      have h := (hc k (by omega)).2.2.2.2.1 z hz
      simp [Lit.wf, IntKind.min, IntKind.max, IntKind.signed, IntKind.bits] at h
      omega
    refine ⟨(List.range n).map fun r => ((Z r).take (L r)).map Int.toNat, ⟨by simp, ?_, (fun e => by cases e), fun h0 => ?_⟩, hl, by omega⟩
    · intro r hr b hb
      obtain ⟨k, hk, rfl⟩ := List.mem_map.1 hr
      obtain ⟨z, hz, rfl⟩ := List.mem_map.1 hb
      have := wf k (List.mem_range.1 hk) z (List.mem_of_mem_take hz)
      omega
    · obtain ⟨b, off, spot⟩ := a
      have h1 := (hc 0 (by omega)).1
      have hspot : spot = none := by simpa [Addr.add] using World.cell?_spot h1
      subst hspot
      have hlt := World.block_lt_of_cell? W _ h1
      refine ⟨b, off, rfl, by simpa [Addr.add] using hlt, fun k hk => ?_⟩
      obtain ⟨g1, g2, g3, g4, _, g6, g7⟩ := hc k (by omega)
      rw [Mem.add_none] at g1
      have hlen : (((Z k).take (L k)).map Int.toNat).length = L k := by rw [List.length_map, List.length_take]; omega
      rw [hrec k hk, hlen]
      refine ⟨AA k, C k, g1, fun h2 => ?_, g2, by unfold maxLen at g3; omega, fun e => by have := g6 e; omega⟩
      rw [octets_len, hlen] at h2
      cases hA : AA k with
      | none => have := g6 hA; omega
      | some a' =>
        obtain ⟨b2, off2, spot2⟩ := a'
        obtain ⟨_, g8⟩ := g7 _ hA
        have h3 := g8 0 (by omega)
        have hspot : spot2 = none := by simpa [Addr.add] using World.cell?_spot h3
        subst hspot
        have hlt2 := World.block_lt_of_cell? W _ h3
        refine ⟨b2, off2, rfl, by simpa [Addr.add] using hlt2, fun i hi => ?_⟩
        rw [octets_len, hlen] at hi
        have h4 := g8 i (by omega)
        rw [Mem.add_none] at h4
        rw [h4, octets_at (by rw [hlen]; exact hi)]
        have h5 := wf k hk ((Z k).getD i 0) (by rw [List.getD_eq_getElem?_getD, List.getElem?_eq_getElem (by omega)]; exact List.getElem_mem _)
        have h6 : ((byt (((Z k).take (L k)).map Int.toNat) i : Nat) : Int) = (Z k).getD i 0 := by
          unfold byt
          rw [List.getD_eq_getElem?_getD, List.getElem?_map, List.getElem?_take, if_pos hi, List.getElem?_eq_getElem (by omega)]
          rw [List.getD_eq_getElem?_getD, List.getElem?_eq_getElem (by omega)] at h5 ⊢
          simp only [Option.getD_some, Option.map_some] at h5 ⊢
          omega
        rw [h6]
/-- The bytes that Pack answers. -/
def pkB (rs : List (List Nat)) : List Nat := if packE rs = 0 then packed rs else []
theorem pkB_len (rs : List (List Nat)) : (pkB rs).length = sizeN rs := by
  unfold pkB sizeN
  split
  · exact packed_len rs
  · rfl
theorem pkB_small {rs : List (List Nat)} (hs : ∀ r ∈ rs, Small r) : Small (pkB rs) := by
  unfold pkB
  split
  · rename_i h
    exact small_packed (fit_of h) hs
  · intro b hb
    cases hb
theorem sizeN_le (rs : List (List Nat)) : sizeN rs ≤ 480 := by
  unfold sizeN
  split
  · rename_i h
    have := (fit_of h).most
    exact this
  · omega
/-- All that is known of a row of the call's own. -/
theorem own_full {w : World} {B : Nat} {e : TypeId} {v : Value} {n : Nat} {xs : List Value} (h : w.ownsRow B e 1 v n xs) :
    ∃ A c, v = .slice A n c ∧ n ≤ c ∧ c ≤ 9223372036854775807 ∧ Mem.Rd w A xs ∧ (A = none → n = 0 ∧ c = 0) := by
  obtain ⟨A, c, rfl, hc⟩ := Mem.own_shape h
  refine ⟨A, c, rfl, hc, ?_, Mem.Rd.of_own h, fun hA => ?_⟩
  · rcases h.2 with ⟨h2, _⟩ | ⟨g, cap, cur, h3, _, _, _, h5, _⟩
    · injection h2 with _ _ h2
      omega
    · injection h3 with _ _ h3
      subst h3
      have : maxLen = 9223372036854775807 := rfl
      omega
  · rcases h.2 with ⟨h2, h3⟩ | ⟨g, cap, cur, h3, _⟩
    · injection h2 with _ _ h2
      exact ⟨h3, h2⟩
    · injection h3 with h3
      rw [hA] at h3
      cases h3
theorem pk_full {rs : List (List Nat)} {W w : World} {e : Ending} (h : PkRes rs W e w) : ∃ A c, e = .returned (.tuple #[.slice A (sizeN rs) c, .int .i64 (packE rs : Nat)]) ∧ w.ownsRow W.heap.size 5 1 (.slice A (sizeN rs) c) (sizeN rs) (octets (pkB rs)) ∧ Below W.heap.size W w := by
  obtain ⟨⟨h0, v, rfl, ho⟩ | ⟨h0, rfl⟩, hb⟩ := h
  · have e1 : sizeN rs = packLen rs := by unfold sizeN; rw [if_pos h0]
    have e2 : pkB rs = packed rs := by unfold pkB; rw [if_pos h0]
    obtain ⟨A, c, rfl, _⟩ := Mem.own_shape ho
    rw [e1, e2, h0]
    exact ⟨A, c, rfl, ho, hb⟩
  · have e1 : sizeN rs = 0 := by unfold sizeN; rw [if_neg h0]
    have e2 : pkB rs = [] := by unfold pkB; rw [if_neg h0]
    rw [e1, e2]
    exact ⟨none, 0, rfl, World.ownsRow_nil _ _ _ _, hb⟩
end Rc
end Go.Proofs.Ytajkcghbdbjmaaa
