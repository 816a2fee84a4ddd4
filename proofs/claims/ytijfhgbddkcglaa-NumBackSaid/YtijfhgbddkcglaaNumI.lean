/- Layer 1 (num): the walks of the laws NumLoads, NumStores, NumRounds: each returns true and writes nothing that was there. Conditions: the arguments are of their types. -/
import Derived.Test.YtijfhgbddkcglaaNumH
import Derived.OpenShut
namespace Go.Proofs.Ytijfhgbddkcglaa
open Go.RowKit
namespace Num

/-- What the walk is told of a slice of integers that came in. -/
def IsRow (k : IntKind) (w : World) (a : Option Addr) (len cap : Nat) (zs : List Int) : Prop :=
  (a = none ∧ len = 0 ∧ cap = 0 ∧ zs = []) ∨
  ∃ x, a = some x ∧ len ≤ cap ∧ cap ≤ maxLen ∧ zs.length = cap ∧ (∀ i, i < zs.length → w.cell? (x.add i) = some (.int k (zs.getD i 0))) ∧ ∀ n ∈ zs, (Lit.int k n).wf = true
/-- A slice's cells are these integers of kind k. -/
def Ints (k : IntKind) (w : World) (A : Option Addr) (l : List Int) : Prop :=
  (∀ x ∈ l, (Lit.int k x).wf = true) ∧ (0 < l.length → ∃ b off, A = some ⟨b, off, none⟩ ∧ b < w.heap.size ∧ ∀ i, i < l.length → w.cell? ⟨b, off + i, none⟩ = some (.int k (l.getD i 0)))
theorem IsRow.ints {k : IntKind} {w : World} {a : Option Addr} {len cap : Nat} {zs : List Int} (h : IsRow k w a len cap zs) : Ints k w a (zs.take len) ∧ (zs.take len).length = len ∧ len ≤ 9223372036854775807 := by
  rcases h with ⟨rfl, rfl, rfl, rfl⟩ | ⟨x, rfl, hl, hm, hz, hc, hw⟩
  · exact ⟨⟨by simp, by simp⟩, rfl, by decide⟩
  · have hlen : (zs.take len).length = len := by rw [List.length_take]; omega
    refine ⟨⟨fun y hy => hw y (List.mem_of_mem_take hy), fun h0 => ?_⟩, hlen, by unfold maxLen at hm; omega⟩
    obtain ⟨b, off, spot⟩ := x
    have h1 := hc 0 (by omega)
    have hspot : spot = none := by simpa [Addr.add] using World.cell?_spot h1
    subst hspot
    have hlt := World.block_lt_of_cell? w _ h1
    refine ⟨b, off, rfl, by simpa [Addr.add] using hlt, fun i hi => ?_⟩
    have h2 := hc i (by omega)
    have e : (⟨b, off, none⟩ : Addr).add i = ⟨b, off + i, none⟩ := by unfold Addr.add; by_cases h0 : i = 0 <;> simp [h0]
    rw [e] at h2
    rw [h2, List.getD_eq_getElem?_getD, List.getD_eq_getElem?_getD, List.getElem?_take, if_pos (by omega)]
theorem Ints.bytes {w : World} {a : Option Addr} {l : List Int} (h : Ints .u8 w a l) : Bytes w a l := by
  refine ⟨fun x hx => ?_, h.2⟩
  exact bounds_u8 (h.1 x hx)
theorem IsRow.bytes {w : World} {a : Option Addr} {len cap : Nat} {zs : List Int} (h : IsRow .u8 w a len cap zs) : Bytes w a (zs.take len) := h.ints.1.bytes

set_option maxHeartbeats 800000 in
theorem numLoads_walk (A : Option Addr) (l : List Int) (cap : Nat) (a w : Int) (W : World) (hl : l.length ≤ 9223372036854775807) (ha : a ≤ 9223372036854775807) (hb : Bytes W A l) :
    Calls Try.prog 3 #[.slice A l.length cap, .int .i64 a, .int .i64 w] W fun e W' => e = .returned (.bool true) ∧ Below W.heap.size W W' := by
  have HB := Lib.hid hb
  clear hb
  by_cases h : 2000 < l.length
  · go_enter Try.func3, Try.ntmps3
    go_wp2_with (go_at_call 8; refine (loads_true _).mono ?_; rintro e w1 ⟨rfl, hb1⟩)
    go_ret
    exact ⟨rfl, by assumption⟩
  · go_enter Try.func3, Try.ntmps3
    go_wp2_with (first
      | (go_at_call 9; refine (load_any _ _ _ _ _ _ hl ha HB.out).mono ?_; rintro e w' ⟨rfl, rfl⟩)
      | (go_at_call 10; refine (rload_any _ _ _ _ _ _ hl ha HB.out).mono ?_; rintro e w' ⟨rfl, rfl⟩)
      | (go_at_call 8; refine (loads_true _).mono ?_; rintro e w1 ⟨rfl, hb1⟩))
    go_ret
    exact ⟨rfl, by assumption⟩
theorem numRounds_walk (n t : Int) (hn : n ≤ 9223372036854775807) (ht : t ≤ 9223372036854775807) (W : World) :
    Calls Try.prog 5 #[.int .i64 n, .int .i64 t] W fun e W' => e = .returned (.bool true) ∧ Below W.heap.size W W' := by
  go_enter Try.func5, Try.ntmps5
  go_wp2_with (first
    | (go_at_call 16; refine (round_any _ _ _).mono ?_; rintro e w' ⟨rfl, rfl⟩)
    | (go_at_call 17; refine (rround_any _ _ _).mono ?_; rintro e w' ⟨rfl, rfl⟩)
    | (go_at_call 18; refine (halves_any _ (by assumption) _).mono ?_; rintro e w' ⟨rfl, rfl⟩)
    | (go_at_call 19; refine (rhalves_any _ (by assumption) _).mono ?_; rintro e w' ⟨rfl, rfl⟩)
    | (go_at_call 8; refine (loads_true _).mono ?_; rintro e w1 ⟨rfl, hb1⟩))
  go_ret
  exact ⟨rfl, by assumption⟩
set_option maxHeartbeats 800000 in
theorem numStores_walk (A : Option Addr) (l : List Int) (cap : Nat) (a w v : Int) (W : World) (hl : l.length ≤ 9223372036854775807) (ha : a ≤ 9223372036854775807) (hv0 : 0 ≤ v) (hv1 : v ≤ 18446744073709551615) (hb : Bytes W A l) :
    Calls Try.prog 4 #[.slice A l.length cap, .int .i64 a, .int .i64 w, .int .u64 v] W fun e W' => e = .returned (.bool true) ∧ Below W.heap.size W W' := by
  by_cases h : 2000 < l.length
  · clear hb
    go_enter Try.func4, Try.ntmps4
    go_wp2_with (go_at_call 8; refine (loads_true _).mono ?_; rintro e w1 ⟨rfl, hb1⟩)
    go_ret
    exact ⟨rfl, by assumption⟩
  · have hcv := conv_run cap hb
    have HB := Lib.hid hb
    clear hb
    go_enter Try.func4, Try.ntmps4
    go_wp2_with fail
    refine (store_sb A l cap a w v W (by omega) ha hv0 hv1 HB.out).mono ?_
    rintro e w1 ⟨A1, c1, rfl, hy1, hb1⟩
    have HY1 := Lib.hid hy1
    clear hy1
    go_wp2_with fail
    refine (rstore_sb A l cap a w v w1 (by omega) ha hv0 hv1 (HB.out.below hb1)).mono ?_
    rintro e w2 ⟨A2, c2, rfl, hy2, hb2⟩
    have hbw : Below W.heap.size W w2 := hb1.trans (hb2.mono hb1.size)
    have HY2 := Lib.hid hy2
    clear hy2
    have hcv2 := conv_run cap (HB.out.below hbw)
    go_wp2_with (first
      | (go_at_call 13; refine (same_eq _ _ _ _ _ _ (HY1.out.below hb2) HY2.out).mono ?_; rintro e w' ⟨rfl, rfl⟩)
      | (go_at_call 14; refine (fits_any _ _ hv0 hv1 _).mono ?_; rintro e w' ⟨rfl, rfl⟩)
      | (go_at_call 15; refine (rfits_any _ _ hv0 hv1 _).mono ?_; rintro e w' ⟨rfl, rfl⟩)
      | (go_at_call 8; refine (loads_true _).mono ?_; rintro e w3 ⟨rfl, hb3⟩))
    go_ret
    exact ⟨rfl, hbw.trans (Below.mono (by assumption) hbw.size)⟩
end Num
end Go.Proofs.Ytijfhgbddkcglaa
