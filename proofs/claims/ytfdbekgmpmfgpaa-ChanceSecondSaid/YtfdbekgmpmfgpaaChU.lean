/- Layer 18 (chance): the walk of the law ChanceSecond. -/
import Derived.Test.YtfdbekgmpmfgpaaChT
namespace Go.Proofs.Ytfdbekgmpmfgpaa
open Go.RowKit
namespace Ch

/-- The relation of the loop. -/
def LatR (n : Nat) (us : List Bool) (l : List Nat) (W : World) (b i : Value) (w : World) : Prop := ∃ k : Nat, k ≤ n ∧ b = .bool (later us l k) ∧ i = .int .i64 (k : Int) ∧ W = w
theorem off_all (n i : Nat) : (List.replicate n false).getD i false = false := by
  rw [List.getD_eq_getElem?_getD, List.getElem?_replicate]
  split <;> rfl
set_option maxHeartbeats 3200000 in
theorem chanceSecond_walk (us : List Bool) (A : Option Addr) (c : Nat) (h : Int) (W : World) (ha : Mem.Rd W A (bools us)) :
    Calls Try.prog 6 #[.slice A us.length c, .int .i64 h] W (Good W) := by
  by_cases h1 : 300 < us.length
  · have h1' : (300 : Int) < (us.length : Int) := by omega
    generalize us.length = n at *
    go_enter Try.func6, Try.ntmps6
    go_wp2_with (go_at_call 8; refine (goes_any _).mono ?_; rintro e w1 ⟨rfl, hb⟩)
    go_ret
    exact ⟨rfl, hb⟩
  have h1' : ¬ ((300 : Int) < (us.length : Int)) := by omega
  have hmk := run_make_row' (P := Try.prog) 22 4 (.bool false) 1 Try.underlying22 infoB rfl .i64 .i64 us.length (by omega) (by omega)
  by_cases hr : rightv us.length us.length h = 0
  · obtain ⟨hn0, _, k0, rfl, hk⟩ := rightv_ok hr
    have HLT := Lib.hid (fun j hj => total_at_lt (us := us) (ov := List.replicate us.length false) (h := k0) (k := j) hj)
    have HLA := Lib.hid (fun k (hk : k < us.length) hl => later_all (us := us) (ov := List.replicate us.length false) (h := k0) (k := k) (off_all _) hk hl)
    have C1 := order_any us (List.replicate us.length false) A c (some ⟨W.heap.size, 0, none⟩) us.length k0 (W.alloc (.cells (madeCells #[.bool false] us.length) 4)) (ha.alloc _) (rd_made W us.length _) (by simp) (by omega) hk
    rw [List.length_replicate] at C1
    have HTL := Lib.hid (total_len us (List.replicate us.length false) k0)
    have HA := Lib.hid ha
    generalize hl : total us (List.replicate us.length false) k0 = l at *
    have HL := Lib.hid hl
    obtain ⟨n, hn⟩ : ∃ n, us.length = n := ⟨_, rfl⟩
    have HN := Lib.hid hn
    rw [hn] at h1 h1' hk hn0 HLT HLA C1 hmk HTL ⊢
    have hn300 : n ≤ 300 := by omega
    have D1 := Lib.hid C1
    clear C1 ha hn hr hk hl
    go_enter Try.func6, Try.ntmps6
    go_wp2_with fail
    refine D1.out.mono ?_
    rintro e w1 ⟨U1, c1, rfl, r1, _, b1⟩
    have B1 := Lib.hid (below_one (Below.refl _ _) b1).1
    have b1' := (below_one (Below.refl _ W) b1).2
    have R0 := HA.out.below b1'
    rw [HN.out]
    rw [show total us (List.replicate n false) k0 = l by rw [← HL.out, HN.out]] at r1
    obtain ⟨b, off, rfl, _, hc⟩ := r1 (by rw [ints_len, HTL.out]; omega)
    obtain ⟨b2, off2, rfl, _, hc2⟩ := R0 (by rw [bools_len, HN.out]; omega)
    have hcells : ∀ j, j < n → w1.cell? ⟨b, off + j, none⟩ = some (.int .i64 ((l.getD j 0 : Nat) : Int)) := fun j hj => by
      rw [hc j (by rw [ints_len, HTL.out]; exact hj), ints_at (by rw [HTL.out]; exact hj)]
    have hcells2 : ∀ j, j < n → w1.cell? ⟨b2, off2 + j, none⟩ = some (.bool (us.getD j false)) := fun j hj => by
      rw [hc2 j (by rw [bools_len, HN.out]; exact hj), bools_at (by rw [HN.out]; exact hj)]
    have HC1 := Lib.hid hcells
    have HC2 := Lib.hid hcells2
    clear b1 b1' r1 R0 hc hc2 hcells hcells2
    go_wp2_with fail
    go_loopw [7, 8] (LatR n us l w1) (fun _ i _ => n - (intOf i).toNat)
    case atStart => exact ⟨0, by omega, by simp [later], rfl, rfl⟩
    case round =>
      obtain ⟨k, hk, rfl, rfl, rfl⟩ := hrel
      obtain ⟨lt, hlt⟩ : ∃ lt, later us l k = lt := ⟨_, rfl⟩
      rw [hlt]
      by_cases hkn : k < n
      · have d1 := HC1.out k hkn
        have hxn := HLT.out k hkn
        obtain ⟨x, hx⟩ : ∃ x, l.getD k 0 = x := ⟨_, rfl⟩
        rw [hx] at d1 hxn
        have d2 := HC2.out x hxn
        have hmore := later_more (us := us) (l := l) (k := k) (by rw [HTL.out]; exact hkn)
        rw [hlt, hx] at hmore
        have hall := fun e => HLA.out k hkn e
        rw [hlt, hx] at hall
        obtain ⟨y, hy⟩ : ∃ y, us.getD x false = y := ⟨_, rfl⟩
        rw [hy] at d2 hmore hall
        have hq0 : (0 : Int) ≤ (x : Int) := by omega
        have hq1 : (x : Int) < (n : Int) := by omega
        have hq2 : ¬ ((x : Int) < 0) := by omega
        have hq3 : ¬ ((n : Int) ≤ (x : Int)) := by omega
        have hk0' : (0 : Int) ≤ (k : Int) := by omega
        have hk1' : (k : Int) < (n : Int) := by omega
        have HM := Lib.hid hmore
        have HAL := Lib.hid hall
        clear hmore hall hx hy hlt
        cases lt with
        | true =>
          obtain rfl : y = true := HAL.out rfl
          go_wp2_with fail
          go_roundw
          case rel => exact ⟨k + 1, by omega, by rw [HM.out]; rfl, by go_num, rfl⟩
          case measure => simp [intOf]; omega
        | false =>
          cases y
          all_goals
            go_wp2_with fail
            go_roundw
            case rel => exact ⟨k + 1, by omega, by rw [HM.out]; rfl, by go_num, rfl⟩
            case measure => simp [intOf]; omega
      · obtain rfl : n = k := by omega
        clear hlt
        go_wp2_with fail
        refine (goes_any _).mono ?_
        rintro e w6 ⟨rfl, b6⟩
        have B6 := Lib.hid (below_next B1.out b6)
        clear b6
        go_wp2_with fail
        go_ret
        exact ⟨rfl, B6.out⟩
  · have C1 := fun w => order_bad us.length us.length A c (some ⟨W.heap.size, 0, none⟩) us.length h w hr
    generalize rightv us.length us.length h = r at *
    generalize us.length = n at *
    have D1 := Lib.hid C1
    have hrb : (r != 0) = true := by simp [hr]
    clear C1 ha
    go_enter Try.func6, Try.ntmps6
    go_wp2_with fail
    refine (D1.out _).mono ?_
    rintro e w1 ⟨rfl, rfl⟩
    go_wp2_with fail
    refine (goes_any _).mono ?_
    rintro e w6 ⟨rfl, b6⟩
    have B6 := Lib.hid (below_one (Below.refl _ _) b6).1
    clear b6
    go_wp2_with fail
    go_ret
    exact ⟨by first | rfl | exact Mem.ret_bool hrb.symm, B6.out⟩
end Ch
end Go.Proofs.Ytfdbekgmpmfgpaa
