/- Layer 18 (chance): the walk of the law ChanceAll. -/
import Derived.Test.YtfdbekgmpmfgpaaChS
namespace Go.Proofs.Ytfdbekgmpmfgpaa
open Go.RowKit
namespace Ch

/-- The relation of the loop that counts. -/
def AllR (b off sb n : Nat) (l : List Nat) (W : World) (i : Value) (w : World) : Prop :=
  ∃ k : Nat, k ≤ n ∧ i = .int .i64 (k : Int) ∧ Cnts sb n (fun j => (l.take k).count j) w ∧ (∀ j, j < n → w.cell? ⟨b, off + j, none⟩ = some (.int .i64 ((l.getD j 0 : Nat) : Int))) ∧ Below W.heap.size W w
/-- The relation of the loop that looks. -/
def OneR (n : Nat) (W : World) (i : Value) (w : World) : Prop := ∃ k : Nat, k ≤ n ∧ i = .int .i64 (k : Int) ∧ W = w
theorem all_step {b off sb n k x : Nat} {l : List Nat} {W w : World} (hb : b ≠ sb) (hW : W.heap.size ≤ sb) (hl : l.length = n) (hk : k < n) (hx : l.getD k 0 = x) (hxn : x < n) (hC : Cnts sb n (fun j => (l.take k).count j) w)
    (hR : ∀ j, j < n → w.cell? ⟨b, off + j, none⟩ = some (.int .i64 ((l.getD j 0 : Nat) : Int))) (hB : Below W.heap.size W w) (i : Value) (hi : i = .int .i64 ((k + 1 : Nat) : Int)) (c : Nat) (hc : (l.take k).count x = c) :
    AllR b off sb n l W i (w.setCell ⟨sb, x, none⟩ (.int .i64 ((c : Int) + 1))) := by
  refine ⟨k + 1, hk, hi, ?_, fun j hj => ?_, hB.setCell (by simpa using hW) _⟩
  · have := hC.set hxn (c + 1)
    rw [show (((c + 1 : Nat) : Int)) = (c : Int) + 1 by norm_cast] at this
    have e : (fun j => (l.take (k + 1)).count j) = fun j => if x = j then c + 1 else (l.take k).count j := by
      funext j
      rw [take_more (by omega), List.count_append, hx, List.count_singleton]
      by_cases e : x = j
      · subst e
        simp [hc]
      · simp [e]
    rw [e]
    exact this
  · rw [World.cell?_setCell_other]
    · exact hR j hj
    · intro e
      injection e with e _
      exact hb e.symm
theorem AllR.drew {b off sb n : Nat} {l : List Nat} {W w : World} {i : Value} (h : AllR b off sb n l W i w) : AllR b off sb n l W i w.drew := by
  obtain ⟨k, h1, h2, h3, h4, h5⟩ := h
  exact ⟨k, h1, h2, h3, h4, h5.drew⟩
set_option maxHeartbeats 3200000 in
theorem chanceAll_walk (us ov : List Bool) (A : Option Addr) (c : Nat) (Ao : Option Addr) (co : Nat) (h : Int) (W : World) (ha : Mem.Rd W A (bools us)) (ho : Mem.Rd W Ao (bools ov)) :
    Calls Try.prog 5 #[.slice A us.length c, .slice Ao ov.length co, .int .i64 h] W (Good W) := by
  by_cases h1 : 300 < us.length
  · have h1' : (300 : Int) < (us.length : Int) := by omega
    generalize us.length = n at *
    go_enter Try.func5, Try.ntmps5
    go_wp2_with (go_at_call 8; refine (goes_any _).mono ?_; rintro e w1 ⟨rfl, hb⟩)
    go_ret
    exact ⟨rfl, hb⟩
  by_cases h2 : 300 < ov.length
  · have h1' : ¬ ((300 : Int) < (us.length : Int)) := by omega
    have h2' : (300 : Int) < (ov.length : Int) := by omega
    generalize us.length = n at *
    generalize ov.length = m at *
    go_enter Try.func5, Try.ntmps5
    go_wp2_with (go_at_call 8; refine (goes_any _).mono ?_; rintro e w1 ⟨rfl, hb⟩)
    go_ret
    exact ⟨rfl, hb⟩
  have h1' : ¬ ((300 : Int) < (us.length : Int)) := by omega
  have h2' : ¬ ((300 : Int) < (ov.length : Int)) := by omega
  by_cases hr : rightv us.length ov.length h = 0
  · obtain ⟨hn0, hnm, k0, rfl, hk⟩ := rightv_ok hr
    have HA := Lib.hid ha
    have HO := Lib.hid ho
    have HF := Lib.hid (total_first (us := us) (ov := ov) hk)
    have HCO := Lib.hid (fun j hj => total_count (us := us) (ov := ov) (j := j) hk hj)
    have HLT := Lib.hid (fun j hj => total_at_lt (us := us) (ov := ov) (h := k0) (k := j) hj)
    obtain ⟨n, hn⟩ : ∃ n, us.length = n := ⟨_, rfl⟩
    have HN := Lib.hid hn
    have HNM := Lib.hid hnm
    rw [← hnm, hn] at h2' ⊢
    rw [hn] at h1' h1 hk hn0 HCO HLT
    have hn300 : n ≤ 300 := by omega
    have C1 : ∀ w, Below W.heap.size W w → Calls Try.prog 9 #[.slice A n c, .slice Ao n co, .int .i64 (k0 : Int)] w (OrderRes us ov k0 w) := by
      intro w hb
      have := order_any us ov A c Ao co k0 w (HA.out.below hb) (HO.out.below hb) HNM.out (by rw [HN.out]; omega) (by rw [HN.out]; exact hk)
      rw [← HNM.out, HN.out] at this
      exact this
    have C2 : ∀ w, Below W.heap.size W w → Calls Try.prog 14 #[.slice A n c, .slice Ao n co, .int .i64 (k0 : Int)] w (NextRes us ov k0 w) := by
      intro w hb
      have := next_any us ov A c Ao co k0 w (HA.out.below hb) (HO.out.below hb) HNM.out (by rw [HN.out]; omega) (by rw [HN.out]; exact hk)
      rw [← HNM.out, HN.out] at this
      exact this
    have D1 := Lib.hid C1
    have D2 := Lib.hid C2
    have hmk := run_make_row' (P := Try.prog) 24 3 (.int .i64 0) 8 Try.underlying24 infoI rfl .i64 .i64 n (by omega) (by omega)
    have HTL := Lib.hid (show (total us ov k0).length = n by rw [total_len]; exact HN.out)
    clear C1 C2 ha ho hn hnm hr hk
    go_enter Try.func5, Try.ntmps5
    go_wp2_with fail
    refine (D1.out _ (Below.refl _ _)).mono ?_
    rintro e w1 ⟨U1, c1, rfl, r1, _, b1⟩
    have B1 := Lib.hid b1
    have R1 := Lib.hid r1
    rw [HN.out]
    clear b1 r1
    go_wp2_with fail
    refine (D2.out _ B1.out).mono ?_
    rintro e w2 ⟨U2, c2, rfl, _, _, b2⟩
    have B2 := Lib.hid (below_next B1.out b2)
    have R1' := R1.out.below b2
    rw [HN.out]
    obtain ⟨b, off, rfl, hbl, hc⟩ := R1' (by rw [ints_len, HTL.out]; omega)
    have hcells : ∀ j, j < n → w2.cell? ⟨b, off + j, none⟩ = some (.int .i64 (((total us ov k0).getD j 0 : Nat) : Int)) := fun j hj => by
      rw [hc j (by rw [ints_len, HTL.out]; exact hj), ints_at (by rw [HTL.out]; exact hj)]
    have hc0 := hcells 0 hn0
    rw [HF.out, Nat.add_zero] at hc0
    obtain ⟨x0, hx0⟩ : ∃ x0, (nextOrder us ov k0).getD 0 0 = x0 := ⟨_, rfl⟩
    rw [hx0] at hc0 ⊢
    have HCELL := Lib.hid hcells
    have HBL := Lib.hid hbl
    have hn0' : (0 : Int) < (n : Int) := by omega
    clear b2 R1' hc hcells hx0 hbl
    go_wp2_with fail
    obtain ⟨sb, hsb⟩ : ∃ sb, w2.heap.size = sb := ⟨_, rfl⟩
    have HSB := Lib.hid hsb
    have ST : AllR b off sb n (total us ov k0) W (.int .i64 0) (w2.alloc (.cells (madeCells #[.int .i64 0] n) 3)) :=
      ⟨0, by omega, rfl, by rw [← hsb]; exact cnts_made w2 n _, fun j hj => by rw [World.cell?_alloc_lt _ _ _ HBL.out]; exact HCELL.out j hj, B2.out.alloc B2.out.size _⟩
    have HST := Lib.hid ST
    rw [hsb]
    clear hsb ST
    go_loopw [13] (AllR b off sb n (total us ov k0) W) (fun i _ => n - (intOf i).toNat)
    case atStart => exact HST.out
    case round =>
      obtain ⟨k, hk, rfl, hC, hR, hB⟩ := hrel
      by_cases hlt : k < n
      · have d1 := hR k hlt
        have hxn := HLT.out k hlt
        obtain ⟨x, hx⟩ : ∃ x, (total us ov k0).getD k 0 = x := ⟨_, rfl⟩
        rw [hx] at d1 hxn
        have d2 : wr.cell? ⟨sb, x, none⟩ = some (.int .i64 ((((total us ov k0).take k).count x : Nat) : Int)) := hC.2.1 x hxn
        have f2 := hC.2.2 x
        obtain ⟨cn, hcn⟩ : ∃ cn, ((total us ov k0).take k).count x = cn := ⟨_, rfl⟩
        rw [hcn] at d2
        have hcl : cn ≤ 300 := by
          have := List.count_le_length (a := x) (l := (total us ov k0).take k)
          rw [List.length_take, hcn] at this
          omega
        have hne : b ≠ sb := by have := HBL.out; have := HSB.out; omega
        have hWs : W.heap.size ≤ sb := by rw [← HSB.out]; exact B2.out.size
        have AS := Lib.hid (all_step (W := W) hne hWs HTL.out hlt hx hxn hC hR hB)
        have hq0 : (0 : Int) ≤ (x : Int) := by omega
        have hq1 : (x : Int) < (n : Int) := by omega
        have hq2 : ¬ ((x : Int) < 0) := by omega
        have hq3 : ¬ ((n : Int) ≤ (x : Int)) := by omega
        have hk0' : (0 : Int) ≤ (k : Int) := by omega
        have hk1' : (k : Int) < (n : Int) := by omega
        have HCN := Lib.hid hcn
        have hw : IntKind.i64.wrap ((cn : Int) + 1) = (cn : Int) + 1 := IntWalk.i64_in _ (by omega)
        clear hC hR hB hcn hx hne hWs
        go_wp2_with fail
        go_region
        all_goals
          go_wp2_with fail
          go_roundw
          case rel => exact (AS.out (.int .i64 ((k : Int) + 1)) (by go_num) cn HCN.out).drew
          case measure => simp [intOf]; omega
      · obtain rfl : n = k := by omega
        have hone : ∀ j, j < n → wr.cell? ⟨sb, j, none⟩ = some (.int .i64 1) := fun j hj => by
          have : wr.cell? ⟨sb, j, none⟩ = some (.int .i64 ((((total us ov k0).take n).count j : Nat) : Int)) := hC.2.1 j hj
          rw [List.take_of_length_le (by rw [HTL.out]; omega), HCO.out j hj] at this
          exact this
        have HONE := Lib.hid hone
        have HB := Lib.hid hB
        clear hC hR hB hone
        generalize hw0 : wr = w0 at *
        clear hw0
        go_wp2_with fail
        go_loopw [14] (OneR n w0) (fun i _ => n - (intOf i).toNat)
        case atStart => exact ⟨0, by omega, rfl, rfl⟩
        case round =>
          obtain ⟨k, hk, rfl, rfl⟩ := hrel
          by_cases hlt : k < n
          · have d1 := HONE.out k hlt
            have hk0' : (0 : Int) ≤ (k : Int) := by omega
            have hk1' : (k : Int) < (n : Int) := by omega
            go_wp2_with fail
            go_roundw
            case rel => exact ⟨k + 1, by omega, by go_num, rfl⟩
            case measure => simp [intOf]; omega
          · obtain rfl : n = k := by omega
            go_wp2_with fail
            refine (goes_any _).mono ?_
            rintro e w6 ⟨rfl, b6⟩
            have B6 := Lib.hid (below_next HB.out b6)
            clear b6
            go_wp2_with fail
            go_ret
            exact ⟨rfl, B6.out⟩
  · have C1 := order_bad us.length ov.length A c Ao co h W hr
    have C2 := next_bad us.length ov.length A c Ao co h W hr
    generalize rightv us.length ov.length h = r at *
    generalize us.length = n at *
    generalize ov.length = m at *
    have D1 := Lib.hid C1
    have D2 := Lib.hid C2
    clear C1 C2 ha ho
    go_enter Try.func5, Try.ntmps5
    go_wp2_with fail
    refine D1.out.mono ?_
    rintro e w1 ⟨rfl, rfl⟩
    go_wp2_with fail
    refine D2.out.mono ?_
    rintro e w2 ⟨rfl, rfl⟩
    go_wp2_with fail
    refine (goes_any _).mono ?_
    rintro e w6 ⟨rfl, b6⟩
    have B6 := Lib.hid b6
    clear b6
    go_wp2_with fail
    go_ret
    exact ⟨rfl, B6.out⟩
end Ch
end Go.Proofs.Ytfdbekgmpmfgpaa
