/- Layer 1 (num): the contract of num.Store. Conditions: the slice's cells are these bytes, at most 2^40; the number is a uint64's, the offset an int's. -/
import Derived.Test.YtijfhgbddkcglaaNumE
import Derived.Laws.CopyOwn
namespace Go.Proofs.Ytijfhgbddkcglaa
open Go.RowKit
namespace Num

/-- The relation of Store's loop: k bytes are written. -/
def StR (W : World) (l : List Int) (a w : Nat) (v : Int) (g cap box : Nat) (i : Value) (wr : World) : Prop :=
  ∃ k : Nat, k ≤ w ∧ i = .int .i64 k ∧ wr.ownsRow W.heap.size 5 1 (.slice (some ⟨g, 0, none⟩) l.length cap) l.length ((st l a k v).map (Value.int .u8)) ∧
    wr.heap[box]? = some (.cells (eight v) 49 (0, 0)) ∧ Below W.heap.size W wr
/-- What a round of Store asks, and what it leaves. -/
theorem str_next {W wr : World} {l : List Int} {a w : Nat} {v : Int} {g cap box k : Nat}
    (hown : wr.ownsRow W.heap.size 5 1 (.slice (some ⟨g, 0, none⟩) l.length cap) l.length ((st l a k v).map (Value.int .u8)))
    (hbox : wr.heap[box]? = some (.cells (eight v) 49 (0, 0))) (hb : Below W.heap.size W wr) (hlt : k < w) (ha : a + w ≤ l.length) (hw : w ≤ 8) (h0 : 0 ≤ v) (h1 : v ≤ 18446744073709551615)
    (hg : W.heap.size ≤ g) (hne : g < box) :
    wr.cell? ⟨box, k, none⟩ = some (.int .u8 (sh v k % 256)) ∧ (∃ x, wr.cell? ⟨g, a + k, none⟩ = some x) ∧ wr.frozen? ⟨g, a + k, none⟩ = false ∧
    StR W l a w v g cap box (.int .i64 (k + 1)) (wr.setCell ⟨g, a + k, none⟩ (.int .u8 (sh v k % 256))) := by
  refine ⟨?_, ?_, hown.frozenAt _, k + 1, by omega, rfl, ?_, ?_, hb.setCell hg _⟩
  · rw [cell_of_row wr box k _ _ _ hbox]
    exact eight_at v h0 h1 k (by omega)
  · rw [hown.cellAt (a + k) (by omega)]
    exact ⟨_, List.getElem?_eq_getElem (by rw [List.length_map, st_len]; omega)⟩
  · have := (hown.stored (a + k) (.int .u8 (sh v k % 256))).1
    rw [← List.map_set, ← st_succ] at this
    exact this
  · rw [heap_setCell_other wr ⟨g, a + k, none⟩ box _ (by show box ≠ g; omega)]
    exact hbox
set_option maxHeartbeats 1600000 in
theorem store_ok (A : Option Addr) (l : List Int) (cap : Nat) (a w : Nat) (v : Int) (W : World) (hl : l.length ≤ 1099511627776) (hb : Bytes W A l) (ha : a + w ≤ l.length) (hp : plE l.length a w = 0) (hf : fitB (isW w) v w = true) (hw : isW w = true)
    (hw1 : 1 ≤ w) (hw8 : w ≤ 8) (hv0 : 0 ≤ v) (hv1 : v ≤ 18446744073709551615) :
    Calls Try.prog 11 #[.slice A l.length cap, .int .i64 a, .int .i64 w, .int .u64 v] W (SRes 0 (st l a w v) W) := by
  obtain ⟨b, off, rfl, hlt, hc⟩ := hb.2 (by omega)
  obtain ⟨i0, hi0, hz0, hz1, hz2⟩ := info_parts info8
  have hnews : ∀ j u, (l.map (Value.int .u8))[j]? = some u → W.cell? ((⟨b, off, none⟩ : Addr).add j) = some u := by
    intro j u hu
    rw [List.getElem?_map] at hu
    obtain ⟨x, hx, rfl⟩ := Option.map_eq_some_iff.1 hu
    have hj : j < l.length := (List.getElem?_eq_some_iff.1 hx).1
    have := hc j hj
    rw [List.getD_eq_getElem?_getD, hx] at this
    have e : (⟨b, off, none⟩ : Addr).add j = ⟨b, off + j, none⟩ := by unfold Addr.add; by_cases h0 : j = 0 <;> simp [h0]
    rw [e]
    exact this
  have hone : ∀ u ∈ l.map (Value.int .u8), u.oneCell' = true := by
    intro u hu
    obtain ⟨x, _, rfl⟩ := List.mem_map.1 hu
    rfl
  have HN := Lib.hid hnews
  have HO := Lib.hid hone
  have HP := Lib.hid hp
  have HF := Lib.hid hf
  have HW := Lib.hid hw
  have HB := Lib.hid hb
  have HC := Lib.hid hc
  have I0 := Lib.hid hi0
  have I1 := Lib.hid hz0
  have I2 := Lib.hid hz1
  have I3 := Lib.hid hz2
  clear hnews hone hp hf hw hb hc hi0 hz0 hz1 hz2
  go_enter Try.func11, Try.ntmps11
  go_wp2_with (first
    | (go_at_call 22; refine (width_val _ true HW.out _).mono ?_; rintro e w' ⟨rfl, rfl⟩)
    | (go_at_call 14; refine ((fits_any _ _ hv0 hv1 _).mono ?_); rw [HF.out]; rintro e w' ⟨rfl, rfl⟩)
    | (go_at_call 20; refine (place_val _ _ _ 0 HP.out (by omega) (by omega) (by omega) _).mono ?_; rintro e w' ⟨rfl, rfl⟩)
    | (at_builtin; refine wpList_append_own _ rfl _ _ 22 rfl W.heap.size 5 i0 (.int .u8 0) 1 1 Try.underlying22 I0.out I1.out I2.out I3.out rfl (by decide) (.slice none 0 0) 0 [] rfl (World.ownsRow_nil _ _ _ _) ⟨b, off, none⟩ l.length cap (l.map (.int .u8)) rfl (by simp) HN.out HO.out (by simp only [maxLen]; omega) (by omega) (Nat.le_refl _) ?_; intro v1 w1 hown1 hg1 _))
  simp only [Nat.zero_add, List.nil_append] at hown1
  obtain ⟨g1, cap1, rfl, hg0, hlt1⟩ := hown1.form (by omega)
  have hbw1 : Below W.heap.size W w1 := (Below.refl _ _).grown hg1 (Nat.le_refl _) (by simp [Value.ownBlock])
  refine (parted_any v hv0 hv1 _).mono ?_
  rintro e w2 ⟨rfl, hb2⟩
  have hown2 := own_below hown1 hb2
  have hbw2 : Below W.heap.size W w2 := hbw1.trans (hb2.mono hbw1.size)
  have hall : (eight v).all (·.oneCell') = true := by simp [eight, Value.oneCell']
  have hsz : (Try.prog.info? 49).map (·.size) = some (eight v).size := by kernel_rfl
  go_wp2_with (refine wpList_store_row rfl 49 _ _ rfl w2.heap.size (eight v) rfl rfl 49 _ (heap_alloc_new w2 _) hsz rfl hall ?_)
  have hbox : ((w2.alloc (.cells #[.int .u8 0, .int .u8 0, .int .u8 0, .int .u8 0, .int .u8 0, .int .u8 0, .int .u8 0, .int .u8 0] 49)).setRow w2.heap.size (eight v)).heap[w2.heap.size]? = some (.cells (eight v) 49 (0, 0)) := setRow_heap _ _ _ _ _ _ (heap_alloc_new w2 _)
  have hb23 : Below w2.heap.size w2 ((w2.alloc (.cells #[.int .u8 0, .int .u8 0, .int .u8 0, .int .u8 0, .int .u8 0, .int .u8 0, .int .u8 0, .int .u8 0] 49)).setRow w2.heap.size (eight v)) := below_setRow ((Below.refl _ _).alloc (Nat.le_refl _) _) (Nat.le_refl _) _
  have hown3 := own_below hown2 hb23
  have hbw3 : Below W.heap.size W ((w2.alloc (.cells #[.int .u8 0, .int .u8 0, .int .u8 0, .int .u8 0, .int .u8 0, .int .u8 0, .int .u8 0, .int .u8 0] 49)).setRow w2.heap.size (eight v)) := hbw2.trans (hb23.mono hbw2.size)
  have hne : g1 < w2.heap.size := Nat.lt_of_lt_of_le hlt1 hb2.size
  go_loopw [35] (fun i wr => StR W l a w v g1 cap1 w2.heap.size i wr) (fun i _ => w - (intOf i).toNat)
  case atStart => exact ⟨0, by omega, rfl, by rw [st_zero]; exact hown3, hbox, hbw3⟩
  case round =>
    obtain ⟨k, hk, rfl, hownr, hboxr, hbr⟩ := hrel
    by_cases hlt2 : k < w
    · have hnext := str_next hownr hboxr hbr hlt2 ha hw8 hv0 hv1 hg0 hne
      obtain ⟨c1, ⟨x, c2⟩, c3, hn⟩ := hnext
      have HN2 := Lib.hid hn
      clear hn hownr hboxr hbr hown3 hown2 hown1 hbox hb23 hbw3 hbw2 hbw1
      go_wp2
      go_roundw
      case rel => exact HN2.out
      case measure => simp [intOf]; omega
    · obtain rfl : k = w := by omega
      go_wp2
      refine bodyPost_ret (results_tmp2 rfl _ _ _) rfl ?_
      exact ⟨_, rfl, by rw [st_len]; exact hownr, hbr⟩
/-- Why Store fails. -/
def stE (n a w v : Int) : Int := if isW w = true ∧ fitB (isW w) v w = false then 2 else plE n a w
def stL (l : List Int) (a w v : Int) : List Int := if stE l.length a w v = 0 then st l a.toNat w.toNat v else []
theorem stE_cases (n a w v : Int) : (isW w = true ∧ fitB (isW w) v w = false ∧ stE n a w v = 2) ∨ (isW w = false ∧ plE n a w = 2 ∧ stE n a w v = 2) ∨ (isW w = true ∧ fitB (isW w) v w = true ∧ stE n a w v = plE n a w) := by
  unfold stE
  cases h1 : isW w with
  | false => exact .inr (.inl ⟨rfl, by unfold plE; rw [if_pos h1], by rw [if_neg (by simp)]; unfold plE; rw [if_pos h1]⟩)
  | true =>
    cases h2 : fitB true v w with
    | false => exact .inl ⟨rfl, rfl, if_pos ⟨rfl, rfl⟩⟩
    | true => exact .inr (.inr ⟨rfl, rfl, if_neg (by simp)⟩)
set_option maxHeartbeats 800000 in
theorem store_err (A : Option Addr) (n cap : Nat) (a w v x : Int) (W : World) (hl : n ≤ 9223372036854775807) (ha : a ≤ 9223372036854775807) (hv0 : 0 ≤ v) (hv1 : v ≤ 18446744073709551615) (hx : stE n a w v = x) (hne : (x != 0) = true) :
    Calls Try.prog 11 #[.slice A n cap, .int .i64 a, .int .i64 w, .int .u64 v] W fun e W' => e = .returned (.tuple #[.slice none 0 0, .int .i64 x]) ∧ W = W' := by
  rcases stE_cases n a w v with ⟨hw, hf, hs⟩ | ⟨hw, hp, hs⟩ | ⟨hw, hf, hs⟩
  · obtain rfl : x = 2 := hx.symm.trans hs
    have HW := Lib.hid hw
    have HF := Lib.hid hf
    clear hw hf hs hx
    go_enter Try.func11, Try.ntmps11
    go_wp2_with (first
      | (go_at_call 22; refine (width_val _ true HW.out _).mono ?_; rintro e w' ⟨rfl, rfl⟩)
      | (go_at_call 14; refine ((fits_any _ _ hv0 hv1 _).mono ?_); rw [HF.out]; rintro e w' ⟨rfl, rfl⟩))
    go_ret2
    exact ⟨rfl, rfl⟩
  · obtain rfl : x = 2 := hx.symm.trans hs
    have HW := Lib.hid hw
    have HP := Lib.hid hp
    clear hw hp hs hx
    go_enter Try.func11, Try.ntmps11
    go_wp2_with (first
      | (go_at_call 22; refine (width_val _ false HW.out _).mono ?_; rintro e w' ⟨rfl, rfl⟩)
      | (go_at_call 20; refine (place_val _ _ _ 2 HP.out (by omega) (by omega) (by omega) _).mono ?_; rintro e w' ⟨rfl, rfl⟩))
    go_ret2
    exact ⟨rfl, rfl⟩
  · have HW := Lib.hid hw
    have HF := Lib.hid hf
    have HP := Lib.hid (hs.symm.trans hx)
    clear hw hf hs hx
    go_enter Try.func11, Try.ntmps11
    go_wp2_with (first
      | (go_at_call 22; refine (width_val _ true HW.out _).mono ?_; rintro e w' ⟨rfl, rfl⟩)
      | (go_at_call 14; refine ((fits_any _ _ hv0 hv1 _).mono ?_); rw [HF.out]; rintro e w' ⟨rfl, rfl⟩)
      | (go_at_call 20; refine (place_val _ _ _ x HP.out (by omega) (by omega) (by omega) _).mono ?_; rintro e w' ⟨rfl, rfl⟩))
    go_ret2
    exact ⟨rfl, rfl⟩
theorem stE_zero {n : Nat} {a w v : Int} (h : stE n a w v = 0) : plE n a w = 0 ∧ isW w = true ∧ fitB (isW w) v w = true := by
  rcases stE_cases n a w v with ⟨_, _, hs⟩ | ⟨_, _, hs⟩ | ⟨hw, hf, hs⟩
  · rw [hs] at h; cases h
  · rw [hs] at h; cases h
  · exact ⟨hs.symm.trans h, hw, hf⟩
theorem store_any (A : Option Addr) (l : List Int) (cap : Nat) (a w v : Int) (W : World) (hl : l.length ≤ 1099511627776) (ha : a ≤ 9223372036854775807) (hv0 : 0 ≤ v) (hv1 : v ≤ 18446744073709551615) (hb : Bytes W A l) :
    Calls Try.prog 11 #[.slice A l.length cap, .int .i64 a, .int .i64 w, .int .u64 v] W (SRes (stE l.length a w v) (stL l a w v) W) := by
  by_cases h : stE l.length a w v = 0
  · obtain ⟨hp, hw, hf⟩ := stE_zero h
    obtain ⟨x, y, rfl, rfl, h1, h2, h3⟩ := plE_zero hp
    have hv : stL l x y v = st l x y v := if_pos h
    rw [hv, h]
    exact store_ok A l cap x y v W hl hb h1 hp hf hw h2 h3 hv0 hv1
  · have hv : stL l a w v = [] := if_neg h
    rw [hv]
    refine (store_err A l.length cap a w v _ W (by omega) ha hv0 hv1 rfl (by simpa using h)).mono ?_
    rintro e W' ⟨rfl, rfl⟩
    exact SRes.none_ _ _
end Num
end Go.Proofs.Ytijfhgbddkcglaa
