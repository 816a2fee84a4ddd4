/- Layer 18 (chance): the contracts of right, Next, Turns. -/
import Derived.Test.YtfdbekgmpmfgpaaChF
namespace Go.Proofs.Ytfdbekgmpmfgpaa
open Go.RowKit
namespace Ch

def rightv (n m : Nat) (a : Int) : Int := if n = 0 ∨ n ≠ m then 2 else if a < 0 ∨ (n : Int) ≤ a then 6 else 0
theorem right_any (n m : Nat) (a : Int) (w : World) : Calls Try.prog 19 #[.int .i64 (n : Int), .int .i64 (m : Int), .int .i64 a] w fun e w' => e = .returned (.int .i64 (rightv n m a)) ∧ w = w' := by
  by_cases h0 : n = 0
  · subst h0
    go_enter Try.func19, Try.ntmps19
    go_wp2
    go_ret
    exact ⟨by first | rfl | exact Mem.ret_int hv, rfl⟩
  by_cases h1 : n = m
  · subst h1
    by_cases h2 : a < 0
    · have hv : rightv n n a = 6 := by simp [rightv, h0, h2]
      have h0' : ¬ ((n : Int) = 0) := by omega
      go_enter Try.func19, Try.ntmps19
      go_wp2
      go_ret
      exact ⟨by first | rfl | exact Mem.ret_int hv, rfl⟩
    by_cases h3 : (n : Int) ≤ a
    · have hv : rightv n n a = 6 := by simp [rightv, h0, h3]
      have h0' : ¬ ((n : Int) = 0) := by omega
      go_enter Try.func19, Try.ntmps19
      go_wp2
      go_ret
      exact ⟨by first | rfl | exact Mem.ret_int hv, rfl⟩
    · have hv : rightv n n a = 0 := by simp [rightv, h0, h2, h3]
      have h0' : ¬ ((n : Int) = 0) := by omega
      go_enter Try.func19, Try.ntmps19
      go_wp2
      go_ret
      exact ⟨by first | rfl | exact Mem.ret_int hv, rfl⟩
  · have hv : rightv n m a = 2 := by simp [rightv, h1]
    have h0' : ¬ ((n : Int) = 0) := by omega
    have h1' : ¬ ((n : Int) = (m : Int)) := by omega
    have b0 : ((n : Int) == 0) = false := by simp [h0]
    have b1 : ((n : Int) != (m : Int)) = true := by simp; omega
    go_enter Try.func19, Try.ntmps19
    go_wp2
    go_ret
    exact ⟨by first | rfl | exact Mem.ret_int hv, rfl⟩
theorem rightv_ok {n m : Nat} {a : Int} (h : rightv n m a = 0) : 0 < n ∧ n = m ∧ ∃ h : Nat, a = h ∧ h < n := by
  unfold rightv at h
  split at h
  · cases h
  · split at h
    · cases h
    · exact ⟨by omega, by omega, a.toNat, by omega, by omega⟩
theorem rightv_of {n : Nat} {h : Nat} (hh : h < n) : rightv n n (h : Int) = 0 := by
  unfold rightv
  rw [if_neg (by omega), if_neg (by omega)]

def nextOrder (us ov : List Bool) (h : Nat) : List Nat := (ring us.length h).drop (turns us ov h) ++ (ring us.length h).take (turns us ov h)
def nextUsed (us ov : List Bool) (h : Nat) : List Bool := clear us ((ring us.length h).take (turns us ov h))
theorem turns_le (us ov : List Bool) (h : Nat) : turns us ov h ≤ us.length := by
  have := List.IsPrefix.length_le (List.takeWhile_prefix (l := ring us.length h) (stay us ov))
  rw [ring_len] at this
  exact this
theorem bools_at {l : List Bool} {k : Nat} (h : k < l.length) : (bools l)[k]? = some (.bool (l.getD k false)) := by
  unfold bools
  rw [List.getElem?_map, List.getElem?_eq_getElem h, List.getD_eq_getElem?_getD, List.getElem?_eq_getElem h]
  rfl
theorem Wheel.used {p ub : Nat} {who : List Nat} {us : List Bool} {vo : Value} {w : World} (h : Wheel p ub who us vo w) : Mem.Rd w (some ⟨ub, 0, none⟩) (bools us) := fun _ => by
  obtain ⟨A, c, uc, h1, h2, h3, h4, h5, h6, h7, h8⟩ := h
  refine ⟨ub, 0, rfl, h3, fun i hi => ?_⟩
  rw [bools_len] at hi
  rw [Nat.zero_add, h7 i hi, bools_at hi]
/-- What Next answers where all is right. -/
def NextRes (us ov : List Bool) (h : Nat) (W : World) (e : Ending) (w : World) : Prop :=
  ∃ U uc, e = .returned (.tuple #[.int .i64 ((nextOrder us ov h).getD 0 0 : Nat), .slice U us.length uc, .int .i64 0]) ∧ Mem.Rd w U (bools (nextUsed us ov h)) ∧ us.length ≤ uc ∧ Below W.heap.size W w
set_option maxHeartbeats 1600000 in
theorem next_any (us ov : List Bool) (A : Option Addr) (c : Nat) (Ao : Option Addr) (co : Nat) (h : Nat) (w : World) (hr : Mem.Rd w A (bools us)) (ho : Mem.Rd w Ao (bools ov)) (hl : us.length = ov.length) (hm : us.length ≤ 1000) (hh : h < us.length) :
    Calls Try.prog 14 #[.slice A us.length c, .slice Ao ov.length co, .int .i64 (h : Int)] w (NextRes us ov h w) := by
  have HR := right_any us.length ov.length (h : Int) w
  rw [← hl, rightv_of hh] at HR
  have HS := Lib.hid (set_any us h A c Ao ov.length co w hr (by omega) hm hh)
  have HO := Lib.hid ho
  have HL := Lib.hid hl
  have HM := Lib.hid hm
  have HT := Lib.hid (turns_le us ov h)
  obtain ⟨n, hn⟩ : ∃ n, us.length = n := ⟨_, rfl⟩
  have HN := Lib.hid hn
  rw [← hl] at HS ⊢
  rw [hn] at hh hm HR
  rw [hn] at HS ⊢
  clear hr ho hl hn
  go_enter Try.func14, Try.ntmps14
  go_wp2_with (go_at_call 19; refine HR.mono ?_; rintro e w1 ⟨rfl, rfl⟩)
  refine HS.out.mono ?_
  rintro e w1 ⟨p, ub, rfl, hw, hp, hu, hb⟩
  go_wp2_with fail
  have hw' : Wheel p ub (ring us.length h) us (.slice Ao ov.length co) w1 := by
    rw [HN.out] at hw
    rw [← HL.out, HN.out]
    exact hw
  refine (passed_any p ub (ring us.length h) us ov Ao co w1 hw' (HO.out.below hb) HL.out HM.out ring_lt (by rw [ring_len]; exact HM.out)).mono ?_
  rintro e w2 ⟨rfl, hb2⟩
  obtain ⟨k, hk⟩ : ∃ k, turns us ov h = k := ⟨_, rfl⟩
  have HK := Lib.hid hk
  have hk' : ((ring us.length h).takeWhile (stay us ov)).length = k := hk
  rw [hk']
  go_wp2_with fail
  obtain ⟨blk, _, hwb⟩ := (hw'.below hb2).at (by rw [ring_len, HN.out]; omega)
  refine (pass_any p ub blk (ring us.length h) us (.slice Ao ov.length co) k w2 hwb (by rw [ring_len, ← hk]; exact HT.out) ring_lt (by rw [ring_len]; exact HM.out) (by rw [ring_len, HN.out]; omega)).mono ?_
  rintro e w3 ⟨rfl, blk2, hw3, _, hk3⟩
  have hw4 : Wheel p ub (nextOrder us ov h) (nextUsed us ov h) (.slice Ao ov.length co) w3 := by
    unfold nextOrder nextUsed
    rw [HK.out]
    exact hw3.wheel
  have hlo : (nextOrder us ov h).length = n := by
    unfold nextOrder
    rw [List.length_append, List.length_drop, List.length_take, ring_len]
    have := HT.out
    rw [← HN.out]
    omega
  have hlu : (nextUsed us ov h).length = n := by unfold nextUsed; rw [clear_length]; exact HN.out
  have hRU := hw4.used
  obtain ⟨A3, c3, u3, hw5⟩ := hw4
  change WheelA p ub A3 c3 u3 (nextOrder us ov h) (nextUsed us ov h) _ w3 at hw5
  have g0 := hw5.field0
  have g1 := hw5.field1
  have hu3 := hw5.2.2.2.2.1
  obtain ⟨b, off, rfl, _, hc⟩ := hw5.2.2.2.2.2.1 (by rw [ints_len, hlo]; omega)
  have g2 := hc 0 (by rw [ints_len, hlo]; omega)
  rw [ints_at (by rw [hlo]; omega), Nat.add_zero] at g2
  rw [hlo] at g0
  rw [hlu] at g1 hu3
  have hBB : Below w.heap.size w w3 := (hb.trans (hb2.mono hb.size)).trans (hk3.below hp hu (Nat.le_trans hb.size hb2.size))
  obtain ⟨x, hx⟩ : ∃ x, (nextOrder us ov h).getD 0 0 = x := ⟨_, rfl⟩
  rw [hx] at g2
  have HX := Lib.hid hx
  have HRU := Lib.hid hRU
  have HBB := Lib.hid hBB
  have hn0 : (0 : Int) < (n : Int) := by omega
  have hn1 : 0 < n := by omega
  clear hw hw' hwb hw3 hw5 hc hx hRU hBB hk hk' HS HR hlo hlu hb hb2 hk3 hh hm
  go_wp2_with fail
  go_quiet (fail)
  go_wp2_with fail
  go_ret3
  exact ⟨_, u3, by rw [HX.out, HN.out]; rfl, HRU.out, by rw [HN.out]; exact hu3, below_drewN HBB.out _⟩
theorem next_bad (n m : Nat) (A : Option Addr) (c : Nat) (Ao : Option Addr) (co : Nat) (h : Int) (w : World) (hb : rightv n m h ≠ 0) :
    Calls Try.prog 14 #[.slice A n c, .slice Ao m co, .int .i64 h] w fun e w' => e = .returned (.tuple #[.int .i64 0, .slice none 0 0, .int .i64 (rightv n m h)]) ∧ w = w' := by
  have HR := right_any n m h w
  obtain ⟨r, hr⟩ : ∃ r, rightv n m h = r := ⟨_, rfl⟩
  rw [hr] at hb HR ⊢
  clear hr
  go_enter Try.func14, Try.ntmps14
  go_wp2_with (go_at_call 19; refine HR.mono ?_; rintro e w1 ⟨rfl, rfl⟩)
  go_ret3
  exact ⟨rfl, rfl⟩
theorem turns_bad (n m : Nat) (A : Option Addr) (c : Nat) (Ao : Option Addr) (co : Nat) (h : Int) (w : World) (hb : rightv n m h ≠ 0) :
    Calls Try.prog 17 #[.slice A n c, .slice Ao m co, .int .i64 h] w fun e w' => e = .returned (.int .i64 0) ∧ w = w' := by
  have HR := right_any n m h w
  obtain ⟨r, hr⟩ : ∃ r, rightv n m h = r := ⟨_, rfl⟩
  rw [hr] at hb HR
  clear hr
  go_enter Try.func17, Try.ntmps17
  go_wp2_with (go_at_call 19; refine HR.mono ?_; rintro e w1 ⟨rfl, rfl⟩)
  go_ret
  exact ⟨rfl, rfl⟩
set_option maxHeartbeats 1600000 in
theorem turns_any (us ov : List Bool) (A : Option Addr) (c : Nat) (Ao : Option Addr) (co : Nat) (h : Nat) (w : World) (hr : Mem.Rd w A (bools us)) (ho : Mem.Rd w Ao (bools ov)) (hl : us.length = ov.length) (hm : us.length ≤ 1000) (hh : h < us.length) :
    Calls Try.prog 17 #[.slice A us.length c, .slice Ao ov.length co, .int .i64 (h : Int)] w fun e w' => e = .returned (.int .i64 (turns us ov h : Nat)) ∧ Below w.heap.size w w' := by
  have HR := right_any us.length ov.length (h : Int) w
  rw [← hl, rightv_of hh] at HR
  have HS := Lib.hid (set_any us h A c Ao ov.length co w hr (by omega) hm hh)
  have HO := Lib.hid ho
  have HL := Lib.hid hl
  have HM := Lib.hid hm
  obtain ⟨n, hn⟩ : ∃ n, us.length = n := ⟨_, rfl⟩
  have HN := Lib.hid hn
  rw [← hl] at HS ⊢
  rw [hn] at hh hm HR
  rw [hn] at HS ⊢
  clear hr ho hl hn
  go_enter Try.func17, Try.ntmps17
  go_wp2_with (go_at_call 19; refine HR.mono ?_; rintro e w1 ⟨rfl, rfl⟩)
  refine HS.out.mono ?_
  rintro e w1 ⟨p, ub, rfl, hw, hp, hu, hb⟩
  go_wp2_with fail
  have hw' : Wheel p ub (ring us.length h) us (.slice Ao ov.length co) w1 := by
    rw [HN.out] at hw
    rw [← HL.out, HN.out]
    exact hw
  refine (passed_any p ub (ring us.length h) us ov Ao co w1 hw' (HO.out.below hb) HL.out HM.out ring_lt (by rw [ring_len]; exact HM.out)).mono ?_
  rintro e w2 ⟨rfl, hb2⟩
  go_wp2_with fail
  go_ret
  exact ⟨rfl, hb.trans (hb2.mono hb.size)⟩
end Ch
end Go.Proofs.Ytfdbekgmpmfgpaa
