/- Layer 18 (chance): the walks of the laws ChanceNext and ChanceBroom; what the frame is told of a slice of Booleans. -/
import Derived.Test.YtfdbekgmpmfgpaaChN
import Derived.Deep.Grids
namespace Go.Proofs.Ytfdbekgmpmfgpaa
open Go.RowKit
namespace Ch

/-- What the walk is told of a slice of Booleans that came in. -/
def IsBools (w : World) (a : Option Addr) (len : Nat) (zs : List Bool) : Prop := Mem.Rd w a (bools zs) ∧ zs.length = len
theorem isBools_nil (w : World) : ∃ zs, IsBools w none 0 zs := ⟨[], Mem.Rd.nil _ _, rfl⟩
theorem isBools_of {w : World} {x : Addr} {l c : Nat} {B : Nat → Bool} (hl : l ≤ c) (h : ∀ i, i < c → w.cell? (x.add i) = some (.bool (B i))) : ∃ zs, IsBools w (some x) l zs := by
  refine ⟨(List.range l).map B, fun h0 => ?_, by simp⟩
  have h0 : 0 < l := by simpa [bools] using h0
  obtain ⟨b, off, spot⟩ := x
  have h1 := h 0 (by omega)
  have hspot : spot = none := by simpa [Addr.add] using World.cell?_spot h1
  subst hspot
  have hlt := World.block_lt_of_cell? w _ h1
  refine ⟨b, off, rfl, by simpa [Addr.add] using hlt, fun i hi => ?_⟩
  have hi : i < l := by simpa [bools] using hi
  have h2 := h i (by omega)
  rw [Mem.add_none] at h2
  rw [h2, bools_at (by simpa using hi)]
  simp [List.getD_eq_getElem?_getD, hi]
theorem same_bools_n {xs : List Bool} {n : Nat} (hn : xs.length = n) (A B : Option Addr) (c d : Nat) (W : World) (ha : Mem.Rd W A (bools xs)) (hb : Mem.Rd W B (bools xs)) (hm : n ≤ 1000) :
    Calls Try.prog 16 #[.slice A n c, .slice B n d] W fun e w' => e = .returned (.bool true) ∧ Mem.QQ W w' := by
  subst hn
  exact same_bools xs A B c d W ha hb hm
theorem same_ints_n {xs : List Nat} {n : Nat} (hn : xs.length = n) (A B : Option Addr) (c d : Nat) (W : World) (ha : Mem.Rd W A (ints xs)) (hb : Mem.Rd W B (ints xs)) (hm : n ≤ 1000) :
    Calls Try.prog 11 #[.slice A n c, .slice B n d] W fun e w' => e = .returned (.bool true) ∧ Mem.QQ W w' := by
  subst hn
  exact same_ints xs A B c d W ha hb hm
theorem refturns_bad (n m : Nat) (A : Option Addr) (c : Nat) (Ao : Option Addr) (co : Nat) (h : Int) (w : World) (hb : rightv n m h ≠ 0) :
    Calls Try.prog 18 #[.slice A n c, .slice Ao m co, .int .i64 h] w fun e w' => e = .returned (.int .i64 0) ∧ w = w' := by
  have HR := refnext_bad n m A c Ao co h w hb
  obtain ⟨r, hr⟩ : ∃ r, rightv n m h = r := ⟨_, rfl⟩
  rw [hr] at hb HR
  clear hr
  go_enter Try.func18, Try.ntmps18
  go_wp2_with (go_at_call 15; refine HR.mono ?_; rintro e w1 ⟨rfl, rfl⟩)
  go_ret
  exact ⟨rfl, rfl⟩
theorem nextUsed_len (us ov : List Bool) (h : Nat) : (nextUsed us ov h).length = us.length := by unfold nextUsed; exact clear_length _ _
abbrev Good (W : World) (e : Ending) (w : World) : Prop := e = .returned (.bool true) ∧ Below W.heap.size W w
theorem below_next {W w w' : World} (h : Below W.heap.size W w) (h2 : Below w.heap.size w w') : Below W.heap.size W w' := h.trans (h2.mono h.size)
set_option maxHeartbeats 1600000 in
theorem chanceNext_walk (us ov : List Bool) (A : Option Addr) (c : Nat) (Ao : Option Addr) (co : Nat) (h : Int) (W : World) (ha : Mem.Rd W A (bools us)) (ho : Mem.Rd W Ao (bools ov)) :
    Calls Try.prog 7 #[.slice A us.length c, .slice Ao ov.length co, .int .i64 h] W (Good W) := by
  by_cases h1 : 300 < us.length
  · have h1' : (300 : Int) < (us.length : Int) := by omega
    generalize us.length = n at *
    go_enter Try.func7, Try.ntmps7
    go_wp2_with (go_at_call 8; refine (goes_any _).mono ?_; rintro e w1 ⟨rfl, hb⟩)
    go_ret
    exact ⟨rfl, hb⟩
  by_cases h2 : 300 < ov.length
  · have h1' : ¬ ((300 : Int) < (us.length : Int)) := by omega
    have h2' : (300 : Int) < (ov.length : Int) := by omega
    generalize us.length = n at *
    generalize ov.length = m at *
    go_enter Try.func7, Try.ntmps7
    go_wp2_with (go_at_call 8; refine (goes_any _).mono ?_; rintro e w1 ⟨rfl, hb⟩)
    go_ret
    exact ⟨rfl, hb⟩
  have h1' : ¬ ((300 : Int) < (us.length : Int)) := by omega
  have h2' : ¬ ((300 : Int) < (ov.length : Int)) := by omega
  by_cases hr : rightv us.length ov.length h = 0
  · obtain ⟨hn0, hnm, k, rfl, hk⟩ := rightv_ok hr
    have HA := Lib.hid ha
    have HO := Lib.hid ho
    obtain ⟨n, hn⟩ : ∃ n, us.length = n := ⟨_, rfl⟩
    have HN := Lib.hid hn
    have HNM := Lib.hid hnm
    rw [← hnm, hn] at h2' ⊢
    rw [hn] at h1' h1 hk
    have hn300 : n ≤ 300 := by omega
    have C1 : ∀ w, Below W.heap.size W w → Calls Try.prog 14 #[.slice A n c, .slice Ao n co, .int .i64 (k : Int)] w (NextRes us ov k w) := by
      intro w hb
      have := next_any us ov A c Ao co k w (HA.out.below hb) (HO.out.below hb) HNM.out (by rw [HN.out]; omega) (by rw [HN.out]; exact hk)
      rw [← HNM.out, HN.out] at this
      exact this
    have C2 : ∀ w, Below W.heap.size W w → Calls Try.prog 15 #[.slice A n c, .slice Ao n co, .int .i64 (k : Int)] w (NextRes us ov k w) := by
      intro w hb
      have := refnext_any us ov A c Ao co k w (HA.out.below hb) (HO.out.below hb) HNM.out (by rw [HN.out]; omega) (by rw [HN.out]; exact hk)
      rw [← HNM.out, HN.out] at this
      exact this
    have C3 : ∀ w, Below W.heap.size W w → Calls Try.prog 17 #[.slice A n c, .slice Ao n co, .int .i64 (k : Int)] w fun e w' => e = .returned (.int .i64 (turns us ov k : Nat)) ∧ Below w.heap.size w w' := by
      intro w hb
      have := turns_any us ov A c Ao co k w (HA.out.below hb) (HO.out.below hb) HNM.out (by rw [HN.out]; omega) (by rw [HN.out]; exact hk)
      rw [← HNM.out, HN.out] at this
      exact this
    have C4 : ∀ w, Below W.heap.size W w → Calls Try.prog 18 #[.slice A n c, .slice Ao n co, .int .i64 (k : Int)] w fun e w' => e = .returned (.int .i64 (turns us ov k : Nat)) ∧ Below w.heap.size w w' := by
      intro w hb
      have := refturns_any us ov A c Ao co k w (HA.out.below hb) (HO.out.below hb) HNM.out (by rw [HN.out]; omega) (by rw [HN.out]; exact hk)
      rw [← HNM.out, HN.out] at this
      exact this
    have D1 := Lib.hid C1
    have D2 := Lib.hid C2
    have D3 := Lib.hid C3
    have D4 := Lib.hid C4
    clear C1 C2 C3 C4 ha ho hn hnm hr hn0 hk
    go_enter Try.func7, Try.ntmps7
    go_wp2_with fail
    refine (D1.out _ (Below.refl _ _)).mono ?_
    rintro e w1 ⟨U1, c1, rfl, r1, _, b1⟩
    have B1 := Lib.hid b1
    have R1 := Lib.hid r1
    rw [HN.out]
    clear b1 r1
    go_wp2_with fail
    refine (D2.out _ B1.out).mono ?_
    rintro e w2 ⟨U2, c2, rfl, r2, _, b2⟩
    have B2 := Lib.hid (below_next B1.out b2)
    have R2 := Lib.hid r2
    have R1' := Lib.hid (R1.out.below b2)
    rw [HN.out]
    clear b2 r2
    go_wp2_with fail
    refine (same_bools_n (xs := nextUsed us ov k) (by rw [nextUsed_len]; exact HN.out) U1 U2 c1 c2 _ R1'.out R2.out (by omega)).mono ?_
    rintro e w3 ⟨rfl, q3⟩
    have B3 := Lib.hid (below_next B2.out q3.below)
    clear q3
    go_wp2_with fail
    refine (D3.out _ B3.out).mono ?_
    rintro e w4 ⟨rfl, b4⟩
    have B4 := Lib.hid (below_next B3.out b4)
    clear b4
    go_wp2_with fail
    refine (D4.out _ B4.out).mono ?_
    rintro e w5 ⟨rfl, b5⟩
    have B5 := Lib.hid (below_next B4.out b5)
    clear b5
    go_wp2_with fail
    refine (goes_any _).mono ?_
    rintro e w6 ⟨rfl, b6⟩
    have B6 := Lib.hid (below_next B5.out b6)
    clear b6
    go_wp2_with fail
    go_ret
    exact ⟨rfl, B6.out⟩
  · have C1 := next_bad us.length ov.length A c Ao co h W hr
    have C2 := refnext_bad us.length ov.length A c Ao co h W hr
    have C3 := fun w => turns_bad us.length ov.length A c Ao co h w hr
    have C4 := fun w => refturns_bad us.length ov.length A c Ao co h w hr
    generalize rightv us.length ov.length h = r at *
    generalize us.length = n at *
    generalize ov.length = m at *
    have D1 := Lib.hid C1
    have D2 := Lib.hid C2
    have D3 := Lib.hid C3
    have D4 := Lib.hid C4
    clear C1 C2 C3 C4 ha ho
    go_enter Try.func7, Try.ntmps7
    go_wp2_with fail
    refine D1.out.mono ?_
    rintro e w1 ⟨rfl, rfl⟩
    go_wp2_with fail
    refine D2.out.mono ?_
    rintro e w2 ⟨rfl, rfl⟩
    go_wp2_with fail
    refine (same_bools_n (xs := []) (n := 0) rfl none none 0 0 _ (Mem.Rd.nil _ _) (Mem.Rd.nil _ _) (by omega)).mono ?_
    rintro e w3 ⟨rfl, q3⟩
    have B3 : RowKit.Hid (Below W.heap.size W w3) := Lib.hid q3.below
    clear q3
    go_wp2_with fail
    refine (D3.out _).mono ?_
    rintro e w4 ⟨rfl, rfl⟩
    go_wp2_with fail
    refine (D4.out _).mono ?_
    rintro e w5 ⟨rfl, rfl⟩
    go_wp2_with fail
    refine (goes_any _).mono ?_
    rintro e w6 ⟨rfl, b6⟩
    have B6 := Lib.hid (below_next B3.out b6)
    clear b6
    go_wp2_with fail
    go_ret
    exact ⟨rfl, B6.out⟩
set_option maxHeartbeats 1600000 in
theorem chanceBroom_walk (ov : List Bool) (A : Option Addr) (c : Nat) (h most : Int) (hmost : most ≤ 9223372036854775807) (W : World) (ha : Mem.Rd W A (bools ov)) :
    Calls Try.prog 4 #[.slice A ov.length c, .int .i64 h, .int .i64 most] W (Good W) := by
  by_cases h1 : 300 < ov.length
  · have h1' : (300 : Int) < (ov.length : Int) := by omega
    generalize ov.length = n at *
    go_enter Try.func4, Try.ntmps4
    go_wp2_with (go_at_call 8; refine (goes_any _).mono ?_; rintro e w1 ⟨rfl, hb⟩)
    go_ret
    exact ⟨rfl, hb⟩
  have h1' : ¬ ((300 : Int) < (ov.length : Int)) := by omega
  have bad : ∀ r, (∀ w, Calls Try.prog 12 #[.slice A ov.length c, .int .i64 h, .int .i64 most] w fun e w' => e = .returned (.tuple #[.slice none 0 0, .int .i64 0, .int .i64 r]) ∧ w = w') →
      (∀ w, Calls Try.prog 13 #[.slice A ov.length c, .int .i64 h, .int .i64 most] w fun e w' => e = .returned (.tuple #[.slice none 0 0, .int .i64 0, .int .i64 r]) ∧ w = w') →
      Calls Try.prog 4 #[.slice A ov.length c, .int .i64 h, .int .i64 most] W (Good W) := by
    intro r C1 C2
    generalize ov.length = n at *
    have D1 := Lib.hid C1
    have D2 := Lib.hid C2
    clear C1 C2 ha hmost
    go_enter Try.func4, Try.ntmps4
    go_wp2_with fail
    refine (D1.out _).mono ?_
    rintro e w1 ⟨rfl, rfl⟩
    go_wp2_with fail
    refine (D2.out _).mono ?_
    rintro e w2 ⟨rfl, rfl⟩
    go_wp2_with fail
    refine (same_ints_n (xs := []) (n := 0) rfl none none 0 0 _ (Mem.Rd.nil _ _) (Mem.Rd.nil _ _) (by omega)).mono ?_
    rintro e w3 ⟨rfl, q3⟩
    have B3 : RowKit.Hid (Below W.heap.size W w3) := Lib.hid q3.below
    clear q3
    go_wp2_with fail
    refine (goes_any _).mono ?_
    rintro e w6 ⟨rfl, b6⟩
    have B6 := Lib.hid (below_next B3.out b6)
    clear b6
    go_wp2_with fail
    go_ret
    exact ⟨rfl, B6.out⟩
  by_cases hr : rightv ov.length ov.length h = 0
  · by_cases hm0 : most < 0
    · exact bad 2 (fun w => broom_neg _ A c h most w hr hm0) (fun w => refbroom_neg _ A c h most w hr hm0)
    obtain ⟨hn0, _, k, rfl, hk⟩ := rightv_ok hr
    obtain ⟨t, rfl⟩ : ∃ t : Nat, most = t := ⟨most.toNat, by omega⟩
    have HA := Lib.hid ha
    have hbl := bro_le ov k (min t ov.length)
    have C1 : ∀ w, Below W.heap.size W w → Calls Try.prog 12 #[.slice A ov.length c, .int .i64 (k : Int), .int .i64 (t : Int)] w (BroomRes ov k (min t ov.length) w) := by
      intro w hb
      rcases Nat.lt_or_ge ov.length t with hlt | hge
      · have := broom_lt ov A c k t w (HA.out.below hb) (by omega) hk hlt
        rw [Nat.min_eq_right (by omega)]
        exact this
      · have := broom_ge ov A c k t w (HA.out.below hb) (by omega) hk hge
        rw [Nat.min_eq_left hge]
        exact this
    have C2 : ∀ w, Below W.heap.size W w → Calls Try.prog 13 #[.slice A ov.length c, .int .i64 (k : Int), .int .i64 (t : Int)] w (BroomRes ov k (min t ov.length) w) :=
      fun w hb => refbroom_any ov A c k t w (HA.out.below hb) (by omega) hk hmost
    have hq : min t ov.length ≤ 300 := by omega
    generalize min t ov.length = q at *
    have hb300 : (bro ov k q).length ≤ 1000 := by omega
    obtain ⟨n, hn⟩ : ∃ n, ov.length = n := ⟨_, rfl⟩
    have HN := Lib.hid hn
    obtain ⟨l, hl⟩ : ∃ l, (bro ov k q).length = l := ⟨_, rfl⟩
    have HL := Lib.hid hl
    rw [hn] at C1 C2 h1' ⊢
    rw [hl] at hb300
    have D1 := Lib.hid C1
    have D2 := Lib.hid C2
    clear C1 C2 ha bad hn hbl hl hr hn0 hk hm0
    go_enter Try.func4, Try.ntmps4
    go_wp2_with fail
    refine (D1.out _ (Below.refl _ _)).mono ?_
    rintro e w1 ⟨U1, c1, rfl, r1, _, b1⟩
    have B1 := Lib.hid b1
    have R1 := Lib.hid r1
    rw [HL.out]
    clear b1 r1
    go_wp2_with fail
    refine (D2.out _ B1.out).mono ?_
    rintro e w2 ⟨U2, c2, rfl, r2, _, b2⟩
    have B2 := Lib.hid (below_next B1.out b2)
    have R2 := Lib.hid r2
    have R1' := Lib.hid (R1.out.below b2)
    rw [HL.out]
    clear b2 r2
    go_wp2_with fail
    refine (same_ints_n (xs := bro ov k q) HL.out U1 U2 c1 c2 _ R1'.out R2.out hb300).mono ?_
    rintro e w3 ⟨rfl, q3⟩
    have B3 := Lib.hid (below_next B2.out q3.below)
    clear q3
    go_wp2_with fail
    refine (goes_any _).mono ?_
    rintro e w6 ⟨rfl, b6⟩
    have B6 := Lib.hid (below_next B3.out b6)
    clear b6
    go_wp2_with fail
    go_ret
    exact ⟨rfl, B6.out⟩
  · exact bad (rightv ov.length ov.length h) (fun w => broom_bad _ A c h most w hr) (fun w => refbroom_bad _ A c h most w hr)
end Ch
end Go.Proofs.Ytfdbekgmpmfgpaa
