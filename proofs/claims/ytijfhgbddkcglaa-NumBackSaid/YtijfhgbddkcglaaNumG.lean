/- Layer 1 (num): the contract of the reference's Store. Conditions: the slice's cells are these bytes, at most 2^40; the number is a uint64's, the offset an int's. -/
import Derived.Test.YtijfhgbddkcglaaNumF
namespace Go.Proofs.Ytijfhgbddkcglaa
open Go.RowKit
namespace Num

/-- How many bytes of the number are written when i bytes are. -/
def upd (a w i : Nat) : Nat := if i < a then 0 else if i < a + w then i - a else w
/-- The relation of the reference's loop: i bytes are written. -/
def RsR (W : World) (l : List Int) (a w : Nat) (v : Int) (vv out i : Value) (wr : World) : Prop :=
  ∃ k : Nat, k ≤ l.length ∧ i = .int .i64 k ∧ vv = .int .u64 (sh v (upd a w k)) ∧ wr.ownsRow W.heap.size 5 1 out k (((st l a w v).take k).map (Value.int .u8)) ∧ Below W.heap.size W wr
theorem rsr_next {W wr w1 : World} {l : List Int} {a w : Nat} {v : Int} {out out1 : Value} {k : Nat} {x : Int} (o : Obj)
    (hown : wr.ownsRow W.heap.size 5 1 out k (((st l a w v).take k).map (Value.int .u8))) (hb : Below W.heap.size W wr) (hk : k < l.length) (hx : (st l a w v).getD k 0 = x)
    (hown1 : w1.ownsRow W.heap.size 5 1 out1 (k + 1) (((st l a w v).take k).map (Value.int .u8) ++ [.int .u8 x])) (hg : (wr.alloc o).grownBy w1 out.ownBlock) :
    RsR W l a w v (.int .u64 (sh v (upd a w (k + 1)))) out1 (.int .i64 (k + 1)) w1 := by
  refine ⟨k + 1, by omega, rfl, rfl, ?_, ?_⟩
  · have e : (st l a w v).take (k + 1) = (st l a w v).take k ++ [x] := by
      rw [List.take_succ_eq_append_getElem (by rw [st_len]; exact hk)]
      rw [List.getD_eq_getElem?_getD, List.getElem?_eq_getElem (by rw [st_len]; exact hk)] at hx
      rw [← hx]
      rfl
    rw [e, List.map_append]
    exact hown1
  · refine (hb.alloc hb.size o).grown hg (by have := hb.size; simp; omega) (fun g hgg => (hown.lt g hgg).1)
set_option maxHeartbeats 1600000 in
theorem rstore_ok (A : Option Addr) (l : List Int) (cap : Nat) (a w : Nat) (v : Int) (W : World) (hl : l.length ≤ 1099511627776) (hb : Bytes W A l) (ha : a + w ≤ l.length) (hp : plE l.length a w = 0) (hf : fitB (isW w) v w = true) (hw : isW w = true)
    (hw1 : 1 ≤ w) (hw8 : w ≤ 8) (hv0 : 0 ≤ v) (hv1 : v ≤ 18446744073709551615) :
    Calls Try.prog 12 #[.slice A l.length cap, .int .i64 a, .int .i64 w, .int .u64 v] W (SRes 0 (st l a w v) W) := by
  obtain ⟨b, off, rfl, hlt, hc⟩ := hb.2 (by omega)
  obtain ⟨i0, hi0, hz0, hz1, hz2⟩ := info_parts info8
  have hz := Lib.hid (sh_zero v)
  have HP := Lib.hid hp
  have HF := Lib.hid hf
  have HW := Lib.hid hw
  have HB := Lib.hid hb
  have HC := Lib.hid hc
  have I0 := Lib.hid hi0
  have I1 := Lib.hid hz0
  have I2 := Lib.hid hz1
  have I3 := Lib.hid hz2
  clear hp hf hw hb hc hi0 hz0 hz1 hz2
  go_enter Try.func12, Try.ntmps12
  go_wp2_with (first
    | (go_at_call 24; refine (rwidth_val _ true HW.out _).mono ?_; rintro e w' ⟨rfl, rfl⟩)
    | (go_at_call 15; refine ((rfits_any _ _ hv0 hv1 _).mono ?_); rw [HF.out]; rintro e w' ⟨rfl, rfl⟩)
    | (go_at_call 21; refine (may_val _ _ _ 0 HP.out (by omega) (by omega) (by omega) _).mono ?_; rintro e w' ⟨rfl, rfl⟩))
  go_loopw [3, 11, 12] (fun vv out i wr => RsR W l a w v vv out i wr) (fun _ _ i _ => l.length - (intOf i).toNat)
  case atStart => exact ⟨0, by omega, rfl, by rw [show upd a w 0 = 0 by unfold upd; split; rfl; split; omega; omega, hz.out], World.ownsRow_nil _ _ _ _, Below.refl _ _⟩
  case round =>
    obtain ⟨k, hk, rfl, rfl, hown, hbr⟩ := hrel
    have hbd := sh_bd v hv0 (upd a w k)
    by_cases hlt2 : k < l.length
    · have hcell : wr.cell? ⟨b, off + k, none⟩ = some (.int .u8 (l.getD k 0)) := (hbr.cell (p := ⟨b, off + k, none⟩) hlt).trans (HC.out k hlt2)
      have hone : ∀ x : Int, ∀ u ∈ [Value.int .u8 x], u.oneCell' = true := by intro x u hu; rw [List.mem_singleton.1 hu]; rfl
      have HO := Lib.hid hone
      clear hone
      obtain ⟨x, hx⟩ : ∃ x, l.getD k 0 = x := ⟨_, rfl⟩
      rw [hx] at hcell
      have HXX := Lib.hid hx
      clear hx
      by_cases h1 : k < a
      · have H := Lib.hid (show upd a w (k + 1) = upd a w k by unfold upd; rw [if_pos h1]; split; rfl; rw [if_pos (by omega)]; omega)
        have HX := Lib.hid (show (st l a w v).getD k 0 = x by rw [st_getD _ _ _ _ _ hlt2, if_neg (by omega), HXX.out])
        go_wp2_with (at_builtin; refine wpList_append_own _ rfl _ _ 22 rfl W.heap.size 5 i0 (.int .u8 0) 1 1 Try.underlying22 I0.out I1.out I2.out I3.out rfl (by decide) _ k _ rfl (hown.alloc _) ⟨wr.heap.size, 0, none⟩ 1 1 [.int .u8 x] rfl rfl (cell_one_new _ _ _) (HO.out _) (by simp only [maxLen]; omega) (by omega) (by have := hbr.size; simp; omega) ?_; intro v1 w1 hown1 hg1 _)
        have hfin := rsr_next _ hown hbr hlt2 HX.out hown1 hg1
        rw [H.out] at hfin
        have HFI := Lib.hid hfin
        clear hfin hown1 hown
        go_wp2
        go_roundw
        case rel => exact HFI.out
        case measure => simp [intOf]; omega
      by_cases h2 : k < a + w
      · have H := Lib.hid (show upd a w (k + 1) = upd a w k + 1 by unfold upd; rw [if_neg h1, if_pos h2, if_neg (by omega)]; split; omega; omega)
        have HX := Lib.hid (show (st l a w v).getD k 0 = sh v (upd a w k) % 256 by rw [st_getD _ _ _ _ _ hlt2, if_pos (by omega)]; unfold upd; rw [if_neg h1, if_pos h2])
        have HS := Lib.hid (sh_succ v (upd a w k))
        have hd : decide (k < a) = false := by simp; omega
        have hge : a ≤ k := by omega
        go_wp2_with (at_builtin; refine wpList_append_own _ rfl _ _ 22 rfl W.heap.size 5 i0 (.int .u8 0) 1 1 Try.underlying22 I0.out I1.out I2.out I3.out rfl (by decide) _ k _ rfl (hown.alloc _) ⟨wr.heap.size, 0, none⟩ 1 1 [.int .u8 (sh v (upd a w k) % 256)] rfl rfl (cell_one_new _ _ _) (HO.out _) (by simp only [maxLen]; omega) (by omega) (by have := hbr.size; simp; omega) ?_; intro v1 w1 hown1 hg1 _)
        have hfin := rsr_next _ hown hbr hlt2 HX.out hown1 hg1
        rw [H.out] at hfin
        have HFI := Lib.hid hfin
        clear hfin hown1 hown
        go_wp2
        go_roundw
        case rel => exact (by rw [HS.out]; exact HFI.out)
        case measure => simp [intOf]; omega
      · have H := Lib.hid (show upd a w (k + 1) = upd a w k by unfold upd; rw [if_neg h1, if_neg h2, if_neg (by omega), if_neg (by omega)])
        have HX := Lib.hid (show (st l a w v).getD k 0 = x by rw [st_getD _ _ _ _ _ hlt2, if_neg (by omega), HXX.out])
        have hge : a + w ≤ k := by omega
        go_wp2_with (at_builtin; refine wpList_append_own _ rfl _ _ 22 rfl W.heap.size 5 i0 (.int .u8 0) 1 1 Try.underlying22 I0.out I1.out I2.out I3.out rfl (by decide) _ k _ rfl (hown.alloc _) ⟨wr.heap.size, 0, none⟩ 1 1 [.int .u8 x] rfl rfl (cell_one_new _ _ _) (HO.out _) (by simp only [maxLen]; omega) (by omega) (by have := hbr.size; simp; omega) ?_; intro v1 w1 hown1 hg1 _)
        have hfin := rsr_next _ hown hbr hlt2 HX.out hown1 hg1
        rw [H.out] at hfin
        have HFI := Lib.hid hfin
        clear hfin hown1 hown
        go_wp2
        go_roundw
        case rel => exact HFI.out
        case measure => simp [intOf]; omega
    · obtain rfl : k = l.length := by omega
      rw [List.take_of_length_le (by rw [st_len]; omega)] at hown
      go_wp2
      refine bodyPost_ret (results_tmp2 rfl _ _ _) rfl ?_
      exact ⟨_, rfl, by rw [st_len]; exact hown, hbr⟩
set_option maxHeartbeats 800000 in
theorem rstore_err (A : Option Addr) (n cap : Nat) (a w v x : Int) (W : World) (hl : n ≤ 9223372036854775807) (ha : a ≤ 9223372036854775807) (hv0 : 0 ≤ v) (hv1 : v ≤ 18446744073709551615) (hx : stE n a w v = x) (hne : (x != 0) = true) :
    Calls Try.prog 12 #[.slice A n cap, .int .i64 a, .int .i64 w, .int .u64 v] W fun e W' => e = .returned (.tuple #[.slice none 0 0, .int .i64 x]) ∧ W = W' := by
  rcases stE_cases n a w v with ⟨hw, hf, hs⟩ | ⟨hw, hp, hs⟩ | ⟨hw, hf, hs⟩
  · obtain rfl : x = 2 := hx.symm.trans hs
    have HW := Lib.hid hw
    have HF := Lib.hid hf
    clear hw hf hs hx
    go_enter Try.func12, Try.ntmps12
    go_wp2_with (first
      | (go_at_call 24; refine (rwidth_val _ true HW.out _).mono ?_; rintro e w' ⟨rfl, rfl⟩)
      | (go_at_call 15; refine ((rfits_any _ _ hv0 hv1 _).mono ?_); rw [HF.out]; rintro e w' ⟨rfl, rfl⟩))
    go_ret2
    exact ⟨rfl, rfl⟩
  · obtain rfl : x = 2 := hx.symm.trans hs
    have HW := Lib.hid hw
    have HP := Lib.hid hp
    clear hw hp hs hx
    go_enter Try.func12, Try.ntmps12
    go_wp2_with (first
      | (go_at_call 24; refine (rwidth_val _ false HW.out _).mono ?_; rintro e w' ⟨rfl, rfl⟩)
      | (go_at_call 21; refine (may_val _ _ _ 2 HP.out (by omega) (by omega) (by omega) _).mono ?_; rintro e w' ⟨rfl, rfl⟩))
    go_ret2
    exact ⟨rfl, rfl⟩
  · have HW := Lib.hid hw
    have HF := Lib.hid hf
    have HP := Lib.hid (hs.symm.trans hx)
    clear hw hf hs hx
    go_enter Try.func12, Try.ntmps12
    go_wp2_with (first
      | (go_at_call 24; refine (rwidth_val _ true HW.out _).mono ?_; rintro e w' ⟨rfl, rfl⟩)
      | (go_at_call 15; refine ((rfits_any _ _ hv0 hv1 _).mono ?_); rw [HF.out]; rintro e w' ⟨rfl, rfl⟩)
      | (go_at_call 21; refine (may_val _ _ _ x HP.out (by omega) (by omega) (by omega) _).mono ?_; rintro e w' ⟨rfl, rfl⟩))
    go_ret2
    exact ⟨rfl, rfl⟩
theorem rstore_any (A : Option Addr) (l : List Int) (cap : Nat) (a w v : Int) (W : World) (hl : l.length ≤ 1099511627776) (ha : a ≤ 9223372036854775807) (hv0 : 0 ≤ v) (hv1 : v ≤ 18446744073709551615) (hb : Bytes W A l) :
    Calls Try.prog 12 #[.slice A l.length cap, .int .i64 a, .int .i64 w, .int .u64 v] W (SRes (stE l.length a w v) (stL l a w v) W) := by
  by_cases h : stE l.length a w v = 0
  · obtain ⟨hp, hw, hf⟩ := stE_zero h
    obtain ⟨x, y, rfl, rfl, h1, h2, h3⟩ := plE_zero hp
    have hv : stL l x y v = st l x y v := if_pos h
    rw [hv, h]
    exact rstore_ok A l cap x y v W hl hb h1 hp hf hw h2 h3 hv0 hv1
  · have hv : stL l a w v = [] := if_neg h
    rw [hv]
    refine (rstore_err A l.length cap a w v _ W (by omega) ha hv0 hv1 rfl (by simpa using h)).mono ?_
    rintro e W' ⟨rfl, rfl⟩
    exact SRes.none_ _ _
end Num
end Go.Proofs.Ytijfhgbddkcglaa
