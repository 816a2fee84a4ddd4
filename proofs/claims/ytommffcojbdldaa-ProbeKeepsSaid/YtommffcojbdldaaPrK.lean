/- Layer 19: the walk of known. -/
import Derived.Test.YtommffcojbdldaaPrJ
namespace Go.Proofs.Ytommffcojbdldaa
open Go.RowKit Go.Maps
namespace Pr

theorem wf32 {x : Nat} (h : x < 4294967296) : (Lit.int .u32 (x : Int)).wf = true := by
  simp [Lit.wf, IntKind.min, IntKind.max, IntKind.signed, IntKind.bits]
  omega
theorem known_bad {t : Tab} {n k : Nat} (hl : t.length = n) (hk : k < n) (h : okAt t n k = false) : knownB t = false := by
  unfold knownB
  rw [Bool.and_eq_false_iff]
  right
  rw [List.all_eq_false]
  exact ⟨k, List.mem_range.2 (by omega), by rw [hl, h]; decide⟩
theorem known_good {t : Tab} {n : Nat} (hl : t.length = n) (h : ∀ j, j < n → okAt t n j = true) : knownB t = decide (0 < n) := by
  unfold knownB
  have : ((List.range t.length).all fun i => okAt t t.length i) = true := by
    rw [List.all_eq_true]
    intro i hi
    rw [hl]
    exact h i (by rw [← hl]; exact List.mem_range.1 hi)
  rw [this, Bool.and_true, hl]
set_option maxRecDepth 100000 in
set_option maxHeartbeats 3200000 in
theorem known_any (t : Tab) (A : Option Addr) (n c : Nat) (W : World) (hr : RdT W A n t) (hn : n ≤ 100000) :
    Calls Try.prog 40 #[.slice A n c] W fun e w => e = .returned (.bool (knownB t)) ∧ Below W.heap.size W w := by
  have hmm := @run_makeMap Try.prog
  have HR := Lib.hid hr
  have HL := Lib.hid hr.len
  clear hr
  go_enter Try.func40, Try.ntmps40
  go_wp2_with fail
  have HST : RowKit.Hid (KnR t n W.heap.size W (.int .i64 0) (W.alloc (.map #[] 0))) := Lib.hid ⟨0, 0, .map [], by omega, by omega, rfl, World.ownsMap_made _ _ _ _, ⟨isMap_empty, fun x => rfl⟩, (Below.refl _ _).alloc (Nat.le_refl _) _, fun j hj => absurd hj (by omega)⟩
  go_loopw [11] (KnR t n W.heap.size W) (fun i _ => n - (intOf i).toNat)
  case atStart => exact HST.out
  case round =>
    obtain ⟨k, m, D, hk, hmk, rfl, hown, hD, hb, hok⟩ := hrel
    have HB := Lib.hid hb
    have HD := Lib.hid hD
    have HOWN := Lib.hid hown
    have HOK := Lib.hid hok
    by_cases hkn : k < n
    · obtain ⟨tb, off, rfl, htb, hc⟩ := (HR.out.below hb).rows (by omega)
      obtain ⟨h1, h2⟩ := hc k hkn
      have hfi := HR.out.fine.at k
      have hz0 := hD.2 (cl t k).1
      have hall := fun hx => inK_all (t := t) (k := k) (x := (cl t k).1) hx
      have hoa : okAt t n k = if (cl t k).1 = 0 then decide ((cl t k).2 = 0) else inB n (cl t k).2 && (List.range k).all fun j => !idAt t (cl t k).1 j := rfl
      have SKIP := Lib.hid (fun h0 => hasK_skip hD h0)
      have PUT := Lib.hid (fun h0 => hasK_put hD h0 (.lit (.int .i64 (k : Int))))
      obtain ⟨u, hu⟩ : ∃ u, (cl t k).1 = u := ⟨_, rfl⟩
      obtain ⟨v, hv⟩ : ∃ v, (cl t k).2 = v := ⟨_, rfl⟩
      rw [hu] at h1 hfi hz0 hall hoa SKIP PUT
      rw [hv] at h2 hfi hoa
      have hkey : keyOf Try.prog 23 (.int .u32 (u : Int)) = some (.int .u32 (u : Int)) := keyOf_int_mk Try.underlying23 (wf32 hfi.1)
      have HKEY := Lib.hid hkey
      have hwk : (Lit.int .i64 (k : Int)).wf = true := by
        simp [Lit.wf, IntKind.min, IntKind.max, IntKind.signed, IntKind.bits]
        omega
      have HWK := Lib.hid hwk
      have q0 : (0 : Int) ≤ (k : Int) := by omega
      have q1 : (k : Int) < (n : Int) := by omega
      have HBA := Lib.hid (fun (o : Obj) => hb.alloc hb.size o)
      obtain ⟨z, hz⟩ : ∃ z, inK t k u = z := ⟨_, rfl⟩
      rw [hz] at hz0 hall
      have HWI := Lib.hid (fun w => within_any n v w)
      obtain ⟨y, hy⟩ : ∃ y, inB n v = y := ⟨_, rfl⟩
      rw [hy] at hoa HWI
      have HZ := Lib.hid hz0
      clear hc hz hu hv hy hkey hwk hown hD hok hfi hb
      by_cases hu0 : u = 0
      · rw [if_pos hu0] at hoa
        have U0 := Lib.hid hu0
        have x1 : (u : Int) = 0 := by omega
        by_cases hv0 : v = 0
        · have OA := Lib.hid (show okAt t n k = true by rw [hoa]; simpa using hv0)
          subst hv0
          clear hoa hall hz0 hu0
          go_wp2_with fail
          go_roundw
          case rel => exact ⟨k + 1, m, D, by omega, by omega, by go_num, HOWN.out.alloc _, SKIP.out U0.out, HBA.out _, fun j hj => by
            rcases Nat.lt_or_ge j k with h | h
            · exact HOK.out j h
            · obtain rfl : j = k := by omega
              exact OA.out⟩
          case measure => simp [intOf]; omega
        · have KB := Lib.hid (known_bad HL.out hkn (show okAt t n k = false by rw [hoa]; simpa using hv0))
          clear hoa hall hz0 hu0
          go_wp2_with fail
          go_ret
          exact ⟨by rw [KB.out]; rfl, HBA.out _⟩
      · rw [if_neg hu0, hall hu0] at hoa
        have U0 := Lib.hid hu0
        have x1 : ¬ (u : Int) = 0 := by omega
        have x2 : ((u : Int) == 0) = false := by simpa using x1
        clear hall hu0
        cases z with
        | true =>
          have KB := Lib.hid (known_bad HL.out hkn (show okAt t n k = false by rw [hoa]; simp))
          clear hoa
          go_wp2_with (at_lookup; refine wpList_lookup_own_ok_int _ rfl _ _ 71 rfl 23 3 .i64 law Try.underlying71 Try.underlying3 (zeroI _) W.heap.size m D rfl (HOWN.out.alloc _) _ _ rfl HKEY.out ?_; intro c2 _ _)
          go_ret
          exact ⟨by rw [KB.out]; rfl, HBA.out _⟩
        | false =>
          cases y with
          | false =>
            have KB := Lib.hid (known_bad HL.out hkn (show okAt t n k = false by rw [hoa]; rfl))
            clear hoa
            go_wp2_with (first | (at_lookup; refine wpList_lookup_own_ok_int _ rfl _ _ 71 rfl 23 3 .i64 law Try.underlying71 Try.underlying3 (zeroI _) W.heap.size m D rfl (HOWN.out.alloc _) _ _ rfl HKEY.out ?_; intro c2 _ _) | (go_at_call 25; refine (HWI.out _).mono ?_; rintro e w ⟨rfl, rfl⟩))
            go_ret
            exact ⟨by rw [KB.out]; rfl, HBA.out _⟩
          | true =>
            have OA := Lib.hid (show okAt t n k = true by rw [hoa]; rfl)
            clear hoa
            go_wp2_with (first | (at_lookup; refine wpList_lookup_own_ok_int _ rfl _ _ 71 rfl 23 3 .i64 law Try.underlying71 Try.underlying3 (zeroI _) W.heap.size m D rfl (HOWN.out.alloc _) _ _ rfl HKEY.out ?_; intro c2 _ _) | (go_at_call 25; refine (HWI.out _).mono ?_; rintro e w ⟨rfl, rfl⟩) | (at_mapUpdate; refine wpList_mapUpdate_own _ rfl _ _ _ 71 rfl 23 3 law Try.underlying71 _ W.heap.size m _ rfl (HOWN.out.alloc _) (by unfold maxLen; omega) _ _ _ rfl rfl HKEY.out _ [] (plainElem_int Try.underlying3 HWK.out) ?_; intro w1 hown1 hgrow1; have O1 := Lib.hid hown1; have B1 := Lib.hid ((HBA.out _).grown hgrow1 (HBA.out _).size (fun j hj => by cases hj; exact Nat.le_refl _)); clear hown1 hgrow1))
            go_roundw
            case rel => exact ⟨k + 1, m + 1, _, by omega, by omega, by go_num, O1.out, PUT.out U0.out, B1.out, fun j hj => by
              rcases Nat.lt_or_ge j k with h | h
              · exact HOK.out j h
              · obtain rfl : j = k := by omega
                exact OA.out⟩
            case measure => simp [intOf]; omega
    · obtain rfl : n = k := by omega
      have KG := Lib.hid (known_good HL.out hok)
      clear hown hD hb hok
      by_cases h0 : 0 < n
      · have h0' : (0 : Int) < (n : Int) := by omega
        go_wp2_with fail
        go_ret
        exact ⟨by rw [KG.out]; simp [h0], HB.out⟩
      · have h0' : ¬ (0 : Int) < (n : Int) := by omega
        go_wp2_with fail
        go_ret
        exact ⟨by rw [KG.out]; simp [h0], HB.out⟩
end Pr
end Go.Proofs.Ytommffcojbdldaa
