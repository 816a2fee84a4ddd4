/- Layer 18 (chance): the contract of the document's Next. -/
import Derived.Test.YtfdbekgmpmfgpaaChJ
namespace Go.Proofs.Ytfdbekgmpmfgpaa
open Go.RowKit
namespace Ch

theorem getD_some {l : List Bool} {i : Nat} (h : i < l.length) : l[i]? = some (l.getD i false) := by
  rw [List.getD_eq_getElem?_getD, List.getElem?_eq_getElem h]
  rfl
theorem own_cap {w : World} {base : Nat} {e : TypeId} {size n uc : Nat} {A : Option Addr} {xs : List Value} (h : w.ownsRow base e size (.slice A n uc) n xs) : n ≤ uc := by
  obtain ⟨_, _, e1, hc⟩ := Mem.own_shape h
  injection e1 with _ _ e1
  omega
set_option maxHeartbeats 3200000 in
theorem refnext_any (us ov : List Bool) (A : Option Addr) (c : Nat) (Ao : Option Addr) (co : Nat) (h : Nat) (W : World) (hr : Mem.Rd W A (bools us)) (ho : Mem.Rd W Ao (bools ov)) (hl : us.length = ov.length) (hm : us.length ≤ 1000) (hh : h < us.length) :
    Calls Try.prog 15 #[.slice A us.length c, .slice Ao ov.length co, .int .i64 (h : Int)] W (NextRes us ov h W) := by
  have HR := may_any us.length ov.length A c Ao co (h : Int) W
  rw [← hl, rightv_of hh] at HR
  obtain ⟨i0, hi0, hz0, hz1, hz2⟩ := info_at infoB
  have I0 := Lib.hid hi0
  have I1 := Lib.hid hz0
  have I2 := Lib.hid hz1
  have I3 := Lib.hid hz2
  obtain ⟨b0, o0, rfl, hb0, _⟩ := ho (by rw [bools_len]; omega)
  have HO := Lib.hid ho
  have HL := Lib.hid hl
  have HA := Lib.hid (hr.alloc (.cells #[] 4))
  obtain ⟨n, hn⟩ : ∃ n, us.length = n := ⟨_, rfl⟩
  have HN := Lib.hid hn
  rw [← hl] at ⊢
  rw [hn] at hh hm HR ⊢
  clear hr ho hl hn hi0 hz0 hz1 hz2
  go_enter Try.func15, Try.ntmps15
  go_wp2_with (first | (go_at_call 24; refine HR.mono ?_; rintro e w1 ⟨rfl, rfl⟩) | (at_builtin; refine Mem.wpList_append_rd _ rfl (.tmp 18) (.tmp 19) 22 rfl W.heap.size 4 i0 (.bool false) 1 Try.underlying22 I0.out I1.out I2.out I3.out rfl (.slice (some ⟨W.heap.size, 0, none⟩) 0 0) 0 [] rfl (own_zero W 4 1) A n c (bools us) rfl (by rw [bools_len]; exact HN.out) HA.out (one_bools us) (by simp only [maxLen]; omega) (by omega) (by simp) ?_; intro v1 w1 hown1 hg1 _; obtain ⟨ub, uc, rfl, hub, hlt⟩ := hown1.form (by omega); have hB1 : Below W.heap.size W w1 := ((Below.refl _ _).alloc (Nat.le_refl _) _).grown hg1 (by simp) (by simp [Value.ownBlock]); simp only [Nat.zero_add, List.nil_append] at hown1; have HUC := Lib.hid (own_cap hown1); have HF := Lib.hid (Flags.of_own HN.out hown1 hlt); have HB1 := Lib.hid hB1; have HUB := Lib.hid hub; clear hown1 hg1 hB1 hub hlt))
  go_loopg [2] n (fun g v w => NxR ub us ov h W g v w)
  case atStart => exact ⟨0, by omega, by rw [HN.out]; omega, by rw [HN.out, Nat.add_zero, Nat.mod_eq_of_lt hh], HF.out, fun j hj => absurd hj (by omega), HB1.out⟩
  case round =>
    obtain ⟨k, hk, rfl, rfl, hF, hall, hB⟩ := hrel
    rw [HN.out] at hk hall
    obtain ⟨x, hx⟩ : ∃ x, (h + k) % us.length = x := ⟨_, rfl⟩
    have hxn : x < n := by rw [← hx, HN.out]; exact Nat.mod_lt _ (by omega)
    rw [hx]
    obtain ⟨fs, hfs⟩ : ∃ fs, clear us (pre us.length h k) = fs := ⟨_, rfl⟩
    have hfl : fs.length = n := by rw [← hfs, clear_length]; exact HN.out
    rw [hfs] at hF
    have c1 := hF.2.1 x (by rw [hfl]; exact hxn)
    have f1 := hF.2.2 x
    obtain ⟨b, off, e1, hbl, hc⟩ := (HO.out.below hB) (by rw [bools_len, ← HL.out, HN.out]; omega)
    injection e1 with e1
    injection e1 with e1 e2 _
    subst e1 e2
    have c2 := hc x (by rw [bools_len, ← HL.out, HN.out]; omega)
    rw [bools_at (by rw [← HL.out, HN.out]; omega)] at c2
    have hst : stay fs ov x = (fs.getD x false && !ov.getD x false) := rfl
    have hx0 : (0 : Int) ≤ (x : Int) := by omega
    have hx1 : (x : Int) < (n : Int) := by omega
    have HF := Lib.hid hF
    have HALL := Lib.hid hall
    have HBB := Lib.hid hB
    have HX := Lib.hid hx
    have HFS := Lib.hid hfs
    have HFL := Lib.hid hfl
    have STOP : stay fs ov x = false → NextRes us ov h W (.returned (.tuple #[.int .i64 (x : Nat), .slice (some ⟨ub, 0, none⟩) n uc, .int .i64 0])) wr := by
      intro hs
      obtain ⟨q1, q2, q3⟩ := stop_at (us := us) (ov := ov) (h := h) (k := k) (by rw [HN.out]; omega) (by rw [HN.out]; exact hk) (by rw [HN.out]; exact HALL.out) (by rw [HFS.out, HX.out]; exact hs)
      refine ⟨some ⟨ub, 0, none⟩, uc, ?_, ?_, by rw [HN.out]; exact HUC.out, HBB.out⟩
      · rw [q2, HX.out, HN.out]
      · rw [q3, HFS.out]
        exact HF.out.rd
    have HSTOP := Lib.hid STOP
    clear STOP hF hall hB hc hx hfs hfl
    cases h1 : fs.getD x false with
    | false =>
      rw [h1] at c1 hst
      have HS := Lib.hid hst
      clear hst h1
      go_wp2_with fail
      go_ret3
      exact HSTOP.out (by rw [HS.out]; rfl)
    | true =>
      cases h2 : ov.getD x false with
      | true =>
        rw [h1] at c1 hst
        rw [h2] at c2 hst
        have HS := Lib.hid hst
        clear hst h1 h2
        go_wp2_with fail
        go_ret3
        exact HSTOP.out (by rw [HS.out]; rfl)
      | false =>
        rw [h1] at c1 hst
        rw [h2] at c2 hst
        have hkn : k < us.length := by
          rcases Nat.lt_or_ge k us.length with hlt | hge
          · exact hlt
          · have hke : k = us.length := by rw [HN.out] at hge ⊢; omega
            have q := stay_end (us := us) (ov := ov) (h := h) (by rw [HN.out]; omega)
            have q2 := HX.out
            have q3 := HFS.out
            rw [hke] at q2 q3
            rw [q2, q3, hst] at q
            cases q
        have hold : stay us ov x = true := by
          rw [← HX.out, ← stay_pre hkn, HX.out, HFS.out, hst]
          rfl
        have hsucc : ((x : Int) + 1).tmod (n : Int) = (((h + (k + 1)) % n : Nat) : Int) := by
          rw [Int.tmod_eq_emod_of_nonneg (by omega), ← HX.out, HN.out]
          have : (h + (k + 1)) % n = ((h + k) % n + 1) % n := by rw [Nat.mod_add_mod]; rfl
          rw [this]
          norm_cast
        obtain ⟨y, hy⟩ : ∃ y, (h + (k + 1)) % n = y := ⟨_, rfl⟩
        rw [hy] at hsucc
        have hsucc2 : ((x : Int) + 1) % (n : Int) = (y : Int) := by rw [← Int.tmod_eq_emod_of_nonneg (by omega)]; exact hsucc
        have hw : IntKind.i64.wrap ((x : Int) + 1) = (x : Int) + 1 := IntWalk.i64_in _ (by omega)
        have hnn : ¬ (n = 0) := by omega
        have hnn2 : ¬ ((n : Int) = 0) := by omega
        have HS := Lib.hid (HF.out.set (x := x) (by rw [HFL.out]; exact hxn) false)
        have HOLD := Lib.hid hold
        have HY := Lib.hid hy
        have HKN := Lib.hid hkn
        clear hst h1 h2 hold hy hkn
        go_wp2_with fail
        go_roundg (us.length - (k + 1))
        case measure => have := HKN.out; omega
        case rel =>
          refine ⟨k + 1, HKN.out, rfl, by rw [HN.out, HY.out], ?_, fun j hj => ?_, HBB.out.setCell (by simpa using HUB.out) _⟩
          · rw [pre_succ, clear_snoc, HX.out, HFS.out]
            exact HS.out
          · by_cases e : j = k
            · rw [e, HX.out]; exact HOLD.out
            · rw [HN.out]; exact HALL.out j (by omega)
end Ch
end Go.Proofs.Ytfdbekgmpmfgpaa
