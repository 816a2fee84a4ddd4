/- Layer 19: the walk of ProbeKeeps. -/
import Derived.Test.YtommffcojbdldaaPkE
namespace Go.Proofs.Ytommffcojbdldaa
open Go.RowKit
namespace Pr

set_option maxRecDepth 100000 in
set_option maxHeartbeats 6400000 in
theorem probeKeeps_walk (n : Int) (z : List (Bool × Nat × Int)) (A : Option Addr) (m c : Nat) (W : World) (hr : RdA W A m z) :
    Calls Try.prog 5 #[.int .i64 n, .slice A m c] W fun e w => e = .returned (.bool true) ∧ Below W.heap.size W w := by
  have PG := Lib.hid (fun w => probes_good w)
  by_cases h1 : n < 1
  · clear hr
    go_enter Try.func5, Try.ntmps5
    go_wp2_with fail
    refine (PG.out _).mono ?_
    rintro e w1 ⟨rfl, hB⟩
    have B := Lib.hid hB
    clear hB
    go_wp2_with fail
    go_ret
    exact ⟨rfl, B.out⟩
  by_cases h2 : 60 < n
  · clear hr
    go_enter Try.func5, Try.ntmps5
    go_wp2_with fail
    refine (PG.out _).mono ?_
    rintro e w1 ⟨rfl, hB⟩
    have B := Lib.hid hB
    clear hB
    go_wp2_with fail
    go_ret
    exact ⟨rfl, B.out⟩
  by_cases h3 : 120 < m
  · clear hr
    go_enter Try.func5, Try.ntmps5
    go_wp2_with fail
    refine (PG.out _).mono ?_
    rintro e w1 ⟨rfl, hB⟩
    have B := Lib.hid hB
    clear hB
    go_wp2_with fail
    go_ret
    exact ⟨rfl, B.out⟩
  obtain ⟨N, rfl⟩ : ∃ N : Nat, n = (N : Int) := ⟨n.toNat, by omega⟩
  have hN0 : 0 < N := by omega
  have hN1 : N ≤ 60 := by omega
  obtain ⟨i0, hi0, hz0, hz1, hz2⟩ := info_at infoC
  have hmk : ∀ w, (Instr.makeSlice 25 (.int .i64 (N : Int)) (.int .i64 (N : Int))).run Try.prog w = .ok (.slice (some ⟨w.heap.size, 0, none⟩) N N) (w.alloc (.cells (madeCells #[.int .u32 0, .int .i64 0] (N * 2)) 48)) := fun w => by
    have := run_make w 25 48 i0 _ Try.underlying25 hi0 hz0 .i64 .i64 (N : Int) (N : Int) (by omega) (by omega) (by rw [hz2]; omega) (by omega)
    rw [hz1] at this
    simp only [Int.toNat_natCast] at this
    exact this
  obtain ⟨W0, hW0⟩ : ∃ W0, W.alloc (.cells (madeCells #[.int .u32 0, .int .i64 0] (N * 2)) 48) = W0 := ⟨_, rfl⟩
  have HW0 := Lib.hid hW0
  have K0 := Lib.hid (show KpS W0 W (some ⟨W.heap.size, 0, none⟩) none N 0 [] (List.replicate N (0, 0)) from by
    rw [← hW0]
    exact ⟨OwnL.nil _ _, made_table W N, (fun b o _ h => by cases h), (Below.refl _ _).alloc (Nat.le_refl _) _, keep_zero hN0⟩)
  have RA := Lib.hid hr
  obtain ⟨j0, hj0, hk0, hk1, hk2⟩ := info_at infoA
  have J0 := Lib.hid hj0
  have J1 := Lib.hid hk0
  have J2 := Lib.hid hk1
  have J3 := Lib.hid hk2
  clear hj0 hk0 hk1 hk2
  clear hr hW0 hi0 hz0 hz1 hz2
  go_enter Try.func5, Try.ntmps5
  go_wp2_with fail
  rw [HW0.out]
  go_loopg [5, 6, 7, 8, 9, 10, 11, 12, 13] m (fun G v5 v6 v7 _ _ _ _ _ _ w => KpR m N W G v5 v6 v7 w)
  case atStart => exact ⟨0, [], _, _, _, _, _, by omega, by omega, rfl, rfl, rfl, K0.out⟩
  case round =>
    obtain ⟨k, l, t, tA, iA, tc, ic, hk, rfl, rfl, rfl, rfl, hs⟩ := hrel
    have HS := Lib.hid hs
    by_cases hkm : k < m
    · obtain ⟨b, off, hA, hlt, hc⟩ := (RA.out.below hs.below).rows (by omega)
      obtain ⟨r0, r1, r2⟩ := hc k hkm
      obtain ⟨o, ho⟩ : ∃ o, (al z k).1 = o := ⟨_, rfl⟩
      obtain ⟨u, hu⟩ : ∃ u, (al z k).2.1 = u := ⟨_, rfl⟩
      obtain ⟨v, hv⟩ : ∃ v, (al z k).2.2 = v := ⟨_, rfl⟩
      rw [ho] at r0
      rw [hu] at r1
      rw [hv] at r2
      have hu32 : u < 4294967296 := by rw [← hu]; exact (RA.out.fine k).1
      subst hA
      have q2 : (0 : Int) ≤ (k : Int) := by omega
      have q3 : (k : Int) < (m : Int) := by omega
      obtain ⟨g, hg⟩ : ∃ g, wr.heap.size = g := ⟨_, rfl⟩
      obtain ⟨Wy, hWy⟩ : ∃ Wy, wr.alloc (.cells #[.bool o, .int .u32 (u : Int), .int .i64 v] 45) = Wy := ⟨_, rfl⟩
      have y0 : Wy.cell? ⟨g, 0, none⟩ = some (.bool o) := by rw [← hWy, ← hg]; simp [go_sem]
      have y1 : Wy.cell? ⟨g, 1, none⟩ = some (.int .u32 (u : Int)) := by rw [← hWy, ← hg]; simp [go_sem]
      have y2 : Wy.cell? ⟨g, 2, none⟩ = some (.int .i64 v) := by rw [← hWy, ← hg]; simp [go_sem]
      have hgs : g < Wy.heap.size := by rw [← hWy, ← hg]; simp
      have YC := Lib.hid (show ∀ w, Below Wy.heap.size Wy w → w.cell? ⟨g, 0, none⟩ = some (.bool o) ∧ w.cell? ⟨g, 1, none⟩ = some (.int .u32 (u : Int)) ∧ w.cell? ⟨g, 2, none⟩ = some (.int .i64 v) from fun w hb =>
        ⟨(hb.cell (p := ⟨g, 0, none⟩) hgs).trans y0, (hb.cell (p := ⟨g, 1, none⟩) hgs).trans y1, (hb.cell (p := ⟨g, 2, none⟩) hgs).trans y2⟩)
      have KY := Lib.hid (HS.out.next (w' := Wy) (by rw [← hWy]; exact (Below.refl _ _).alloc (Nat.le_refl _) _))
      have HWY := Lib.hid hWy
      have hl1 : l.length ≤ 100000 := by have := KY.out.keep.few; omega
      clear hs hc ho hu hv hgs hWy
      go_wp2_with fail
      rw [HWY.out]
      refine (findact_any l iA _ ic u _ KY.out.own.rd hl1).mono ?_
      rintro e w1 ⟨rfl, rfl⟩
      cases o with
      | true =>
        cases hf : fst (idAt l u) l.length with
        | none =>
          have HF := Lib.hid hf
          have HD := Lib.hid (fun h => KY.out.keep.del_no (h := h) hf)
          clear hf
          go_wp2_with fail
          refine (delete_any t tA N tc u v _ KY.out.tab (by omega)).mono ?_
          rintro e w2 ⟨⟨_, _, _, he, _⟩ | ⟨hne, rfl⟩, hB⟩
          case inl => exact absurd he (HD.out v)
          obtain ⟨d, hd⟩ : ∃ d, delE t N u v = d := ⟨_, rfl⟩
          rw [hd] at hne ⊢
          have d1 : ¬ (d : Int) = 0 := by omega
          have d2 : ((d : Int) == 0) = false := by simpa using d1
          have K2 := Lib.hid (KY.out.next hB)
          obtain ⟨z0, z1, z2⟩ := YC.out _ hB
          clear hB hd hne
          simp only [fstI]
          have RT := Lib.hid (fun w (hb : Below w2.heap.size w2 w) => K2.out.keep.right ▸ right_any t tA N tc w (K2.out.tab.below hb) (by omega))
          go_wp2_with fail
          go_quiet (fail)
          go_wp2_with fail
          refine (RT.out _ (below_drewN (Below.refl _ _) _)).mono ?_
          rintro e w3 ⟨rfl, hB⟩
          have K3 := Lib.hid (K2.out.next (below_next (below_drewN (Below.refl _ _) _) hB))
          clear hB
          go_wp2_with fail
          go_roundg (m - (k + 1))
          case measure => omega
          case rel => exact ⟨k + 1, l, t, tA, iA, tc, ic, by omega, rfl, rfl, rfl, by go_num, K3.out⟩
        | some q =>
          obtain ⟨q1, q4, _⟩ := fst_of hf
          have DE := Lib.hid (fun h => KY.out.keep.del (h := h) hf)
          obtain ⟨x, hx⟩ : ∃ x, (cl l q).2 = x := ⟨_, rfl⟩
          rw [hx] at DE
          have HX := Lib.hid hx
          have HF := Lib.hid hf
          have HQ := Lib.hid q1
          have q5 : (0 : Int) ≤ (q : Int) := by omega
          have q6 : (q : Int) < ((l.length : Nat) : Int) := by omega
          have mx : max (q : Int) 0 = (q : Int) := by omega
          by_cases hxv : x = v
          · have HD := Lib.hid ((DE.out v).2 hxv)
            clear hf hx q4
            subst hxv
            go_wp2_with fail
            refine (delete_any t tA N tc u x _ KY.out.tab (by omega)).mono ?_
            rintro e w2 ⟨⟨a, A2, c2, _, hfn, rfl, hO⟩ | ⟨hne, _⟩, hB⟩
            case inr => exact absurd HD.out hne
            have TB := Lib.hid (KY.out.table hB (Nat.le_refl _) hO)
            have KN := Lib.hid (KY.out.keep.del_keep HF.out HD.out hfn)
            obtain ⟨z0, z1, z2⟩ := YC.out _ hB
            obtain ⟨ib, io, hiA, _, hic⟩ := TB.out.1.rd.rows (by omega)
            obtain ⟨_, _, i2⟩ := hic q q1
            rw [HX.out] at i2
            subst hiA
            obtain ⟨tn, htn⟩ : ∃ tn, delT t N a = tn := ⟨_, rfl⟩
            rw [htn] at TB KN
            clear hB hic hO hfn htn
            simp only [fstI]
            go_wp2_with fail
            go_quiet (fail)
            go_wp2_with fail
            have hLic : l.length ≤ ic := by
              obtain ⟨_, _, e1, e2⟩ := Mem.own_shape TB.out.1.1
              injection e1 with _ _ e3
              omega
            obtain ⟨q', hq'⟩ : ∃ q', q + 1 = q' := ⟨_, rfl⟩
            have HQ' := Lib.hid hq'
            have f1 : (q : Int) ≤ (ic : Int) := by omega
            have f2 : IntKind.i64.wrap ((q : Int) + 1) = (q' : Int) := by rw [IntWalk.i64_in _ (by omega)]; omega
            have f4 : (q' : Int) ≤ ((l.length : Nat) : Int) := by omega
            have f6 : ic ≠ 0 := by omega
            have fq : q' ≤ l.length := by omega
            have LNA := Lib.hid (show (acs (l.take q)).length = q * 3 by rw [acs_len, List.length_take]; omega)
            have LNB := Lib.hid (show (acs (l.drop q')).length = (l.length - q') * 3 by rw [acs_len, List.length_drop])
            have LA := Lib.hid (show ∀ w, Below w2.heap.size w2 w → Lie w (some ⟨ib, io, none⟩) (acs (l.take q)) from fun w hb => by
              have := (TB.out.1.rd.lie 0 q (by omega) (some ⟨ib, io, none⟩) (fun _ => by rw [Nat.zero_mul, Nat.add_zero])).below hb
              rwa [List.drop_zero] at this)
            clear hq'
            by_cases f7 : ic = q'
            · subst f7
              have LB := Lib.hid (show ∀ w, Below w2.heap.size w2 w → Lie w (some ⟨ib, io, none⟩) (acs (l.drop ic)) from fun w hb h0 => by
                rw [LNB.out] at h0
                omega)
              go_region_held3 (fun w' => w'.cell? ⟨g, 0, none⟩ = some (.bool true)) (first | go_keep | exact (B3.out.cell (p := ⟨g, 0, none⟩) (World.block_lt_of_cell? _ _ z0)).trans z0 | exact (B4.out.cell (p := ⟨g, 0, none⟩) (World.block_lt_of_cell? _ _ z0)).trans z0) (first | (have X1 := ((below_drewN (Below.refl _ _) (nq + 1)).alloc (Nat.le_refl _) (.cells #[] 45) : Below w2.heap.size w2 _); have X2 : 0 + q ≤ maxLen := (by simp only [maxLen]; omega); have X3 : (0 + q) * 16 ≤ 140737488355328 := (by omega); refine step_append_lie _ ?_ (.tmp 77) (.tmp 80) 43 ?_ w2.heap.size 45 j0 (.agg #[.bool false, .int .u32 0, .int .i64 0]) 3 16 Try.underlying43 J0.out J1.out J2.out J3.out rfl (by decide) (.slice (some ⟨w2.heap.size, 0, none⟩) 0 0) 0 [] ?_ ?_ (some ⟨ib, io, none⟩) q ic (acs (l.take q)) ?_ LNA.out ?_ (one_acs _) X2 X3 ?_ ?_; (· rfl); (· rfl); (· simp [Act.eval]); (· exact own_zero (w2.drewN (nq + 1)) 45 3); (· simp [Act.eval]); (· exact LA.out _ X1); (· simp); intro v3 w3 hown3 hg3 hv3; have B3 := Lib.hid (show Below w2.heap.size w2 w3 from X1.grown hg3 (by simp) (by simp [Value.ownBlock])); clear hg3 hv3 X1 X2 X3) | (have X2 : 0 + q + (l.length - ic) ≤ maxLen := (by simp only [maxLen]; omega); have X3 : (0 + q + (l.length - ic)) * 16 ≤ 140737488355328 := (by omega); refine step_append_lie _ ?_ (.tmp 81) (.tmp 85) 43 ?_ w2.heap.size 45 j0 (.agg #[.bool false, .int .u32 0, .int .i64 0]) 3 16 Try.underlying43 J0.out J1.out J2.out J3.out rfl (by decide) v3 (0 + q) ([] ++ acs (l.take q)) ?_ ?_ (some ⟨ib, io, none⟩) (l.length - ic) 0 (acs (l.drop ic)) ?_ LNB.out ?_ (one_acs _) X2 X3 ?_ ?_; (· rfl); (· rfl); (· simp [Act.eval]); (· exact hown3); (· simp [Act.eval]; omega); (· exact LB.out _ B3.out); (· exact B3.out.size); intro v4 w4 hown4 hg4 hv4; have B4 := Lib.hid (B3.out.grown hg4 B3.out.size fun j hj => (own_block hown3 j hj).1); have S4 := Lib.hid (kps_out HQ'.out TB.out.2.1 TB.out.2.2.2 KN.out HQ.out rfl hown4 (B3.out.grown hg4 B3.out.size fun j hj => (own_block hown3 j hj).1)); clear hown3 hown4 hg4 hv4 B3 X2 X3))
              obtain ⟨A4, c4, rfl, hK4⟩ := S4.out
              have K4 := Lib.hid hK4
              have RT := Lib.hid (fun w (hb : Below w4.heap.size w4 w) => K4.out.keep.right ▸ right_any tn A2 N c2 w (K4.out.tab.below hb) (by omega))
              clear hK4
              go_wp2_with fail
              refine (RT.out _ (Below.refl _ _)).mono ?_
              rintro e w5 ⟨rfl, hB⟩
              have K5 := Lib.hid (K4.out.next hB)
              clear hB
              go_wp2_with fail
              go_roundg (m - (k + 1))
              case measure => omega
              case rel => exact ⟨k + 1, l.eraseIdx q, tn, A2, A4, c2, c4, by omega, rfl, rfl, rfl, by go_num, K5.out⟩
            · have LB := Lib.hid (show ∀ w, Below w2.heap.size w2 w → Lie w (some ⟨ib, io + q' * 3, none⟩) (acs (l.drop q')) from fun w hb => by
                have := (TB.out.1.rd.lie q' (l.length - q') (by omega) (some ⟨ib, io + q' * 3, none⟩) (fun _ => rfl)).below hb
                rwa [List.take_of_length_le (by rw [List.length_drop]; exact Nat.le_refl _)] at this)
              go_region_held3 (fun w' => w'.cell? ⟨g, 0, none⟩ = some (.bool true)) (first | go_keep | exact (B3.out.cell (p := ⟨g, 0, none⟩) (World.block_lt_of_cell? _ _ z0)).trans z0 | exact (B4.out.cell (p := ⟨g, 0, none⟩) (World.block_lt_of_cell? _ _ z0)).trans z0) (first | (have X1 := ((below_drewN (Below.refl _ _) (nq + 1)).alloc (Nat.le_refl _) (.cells #[] 45) : Below w2.heap.size w2 _); have X2 : 0 + q ≤ maxLen := (by simp only [maxLen]; omega); have X3 : (0 + q) * 16 ≤ 140737488355328 := (by omega); refine step_append_lie _ ?_ (.tmp 77) (.tmp 80) 43 ?_ w2.heap.size 45 j0 (.agg #[.bool false, .int .u32 0, .int .i64 0]) 3 16 Try.underlying43 J0.out J1.out J2.out J3.out rfl (by decide) (.slice (some ⟨w2.heap.size, 0, none⟩) 0 0) 0 [] ?_ ?_ (some ⟨ib, io, none⟩) q ic (acs (l.take q)) ?_ LNA.out ?_ (one_acs _) X2 X3 ?_ ?_; (· rfl); (· rfl); (· simp [Act.eval]); (· exact own_zero (w2.drewN (nq + 1)) 45 3); (· simp [Act.eval]); (· exact LA.out _ X1); (· simp); intro v3 w3 hown3 hg3 hv3; have B3 := Lib.hid (show Below w2.heap.size w2 w3 from X1.grown hg3 (by simp) (by simp [Value.ownBlock])); clear hg3 hv3 X1 X2 X3) | (have X2 : 0 + q + (l.length - q') ≤ maxLen := (by simp only [maxLen]; omega); have X3 : (0 + q + (l.length - q')) * 16 ≤ 140737488355328 := (by omega); refine step_append_lie _ ?_ (.tmp 81) (.tmp 85) 43 ?_ w2.heap.size 45 j0 (.agg #[.bool false, .int .u32 0, .int .i64 0]) 3 16 Try.underlying43 J0.out J1.out J2.out J3.out rfl (by decide) v3 (0 + q) ([] ++ acs (l.take q)) ?_ ?_ (some ⟨ib, io + q' * 3, none⟩) (l.length - q') (ic - q') (acs (l.drop q')) ?_ LNB.out ?_ (one_acs _) X2 X3 ?_ ?_; (· rfl); (· rfl); (· simp [Act.eval]); (· exact hown3); (· simp [Act.eval]); (· exact LB.out _ B3.out); (· exact B3.out.size); intro v4 w4 hown4 hg4 hv4; have B4 := Lib.hid (B3.out.grown hg4 B3.out.size fun j hj => (own_block hown3 j hj).1); have S4 := Lib.hid (kps_out HQ'.out TB.out.2.1 TB.out.2.2.2 KN.out HQ.out rfl hown4 (B3.out.grown hg4 B3.out.size fun j hj => (own_block hown3 j hj).1)); clear hown3 hown4 hg4 hv4 B3 X2 X3))
              obtain ⟨A4, c4, rfl, hK4⟩ := S4.out
              have K4 := Lib.hid hK4
              have RT := Lib.hid (fun w (hb : Below w4.heap.size w4 w) => K4.out.keep.right ▸ right_any tn A2 N c2 w (K4.out.tab.below hb) (by omega))
              clear hK4
              go_wp2_with fail
              refine (RT.out _ (Below.refl _ _)).mono ?_
              rintro e w5 ⟨rfl, hB⟩
              have K5 := Lib.hid (K4.out.next hB)
              clear hB
              go_wp2_with fail
              go_roundg (m - (k + 1))
              case measure => omega
              case rel => exact ⟨k + 1, l.eraseIdx q, tn, A2, A4, c2, c4, by omega, rfl, rfl, rfl, by go_num, K5.out⟩
          · have xv : (x == v) = false := by simpa using hxv
            have HD := Lib.hid (fun h => hxv ((DE.out v).1 h))
            clear hf hx q4
            go_wp2_with fail
            refine (delete_any t tA N tc u v _ KY.out.tab (by omega)).mono ?_
            rintro e w2 ⟨⟨_, _, _, he, _⟩ | ⟨hne, rfl⟩, hB⟩
            case inl => exact absurd he HD.out
            obtain ⟨d, hd⟩ : ∃ d, delE t N u v = d := ⟨_, rfl⟩
            rw [hd] at hne ⊢
            have d1 : ¬ (d : Int) = 0 := by omega
            have d2 : ((d : Int) == 0) = false := by simpa using d1
            have K2 := Lib.hid (KY.out.next hB)
            obtain ⟨z0, z1, z2⟩ := YC.out _ hB
            obtain ⟨ib, io, hiA, _, hic⟩ := K2.out.own.rd.rows (by omega)
            obtain ⟨_, _, i2⟩ := hic q q1
            rw [HX.out] at i2
            subst hiA
            clear hB hd hne hic
            simp only [fstI]
            have RT := Lib.hid (fun w (hb : Below w2.heap.size w2 w) => K2.out.keep.right ▸ right_any t tA N tc w (K2.out.tab.below hb) (by omega))
            go_wp2_with fail
            go_quiet (fail)
            go_wp2_with fail
            refine (RT.out _ (below_drewN (Below.refl _ _) _)).mono ?_
            rintro e w3 ⟨rfl, hB⟩
            have K3 := Lib.hid (K2.out.next (below_next (below_drewN (Below.refl _ _) _) hB))
            clear hB
            go_wp2_with fail
            go_roundg (m - (k + 1))
            case measure => omega
            case rel => exact ⟨k + 1, l, t, tA, _, tc, ic, by omega, rfl, rfl, rfl, by go_num, K3.out⟩
      | false =>
        by_cases he : insE t N u v = 0
        · obtain ⟨a1, a2, a3, a4, a5⟩ := KY.out.keep.put.1 he
          have KN := Lib.hid (KY.out.keep.put_keep he)
          have x1 : ¬ (u : Int) = 0 := by omega
          have x2 : ((u : Int) != 0) = true := by simpa using x1
          have x3 : ((l.length : Nat) : Int) < (N : Int) := by omega
          have HE := Lib.hid he
          rw [a1]
          clear a1 he
          simp only [fstI]
          go_wp2_with fail
          refine (insert_any t tA N tc u v _ KY.out.tab (by omega) hu32).mono ?_
          rintro e w2 ⟨⟨_, A2, c2, rfl, hO⟩ | ⟨hne, _⟩, hB⟩
          case inr => exact absurd HE.out hne
          have TB := Lib.hid (KY.out.table hB (Nat.le_refl _) hO)
          obtain ⟨z0, z1, z2⟩ := YC.out _ hB
          obtain ⟨tn, htn⟩ : ∃ tn, insT t N u v.toNat = tn := ⟨_, rfl⟩
          rw [htn] at TB KN
          have BZ := Lib.hid (show Below w2.heap.size w2 (w2.alloc (.cells #[.bool false, .int .u32 (u : Int), .int .i64 v] 45)) from (Below.refl _ _).alloc (Nat.le_refl _) _)
          have OZ := Lib.hid (TB.out.1.below BZ.out)
          have LZ := Lib.hid (lie_new w2 #[.bool false, .int .u32 (u : Int), .int .i64 v] 45)
          clear hB hO htn
          go_wp2_with (at_builtin; refine wpList_append_lie _ rfl (.tmp 126) (.tmp 128) 43 rfl W.heap.size 45 j0 (.agg #[.bool false, .int .u32 0, .int .i64 0]) 3 16 Try.underlying43 J0.out J1.out J2.out J3.out rfl (by decide) (.slice iA l.length ic) l.length (acs l) rfl OZ.out.1 (some ⟨w2.heap.size, 0, none⟩) 1 1 [.bool false, .int .u32 (u : Int), .int .i64 v] rfl rfl LZ.out (by intro x hx; simp at hx; rcases hx with rfl | rfl | rfl <;> rfl) (by simp only [maxLen]; omega) (by omega) (below_next TB.out.2.2.2 BZ.out).size ?_; intro v3 w3 hown3 hg3 hv3; have S4 := Lib.hid (kps_put OZ.out (TB.out.2.1.below BZ.out) TB.out.2.2.1 (below_next TB.out.2.2.2 BZ.out) KN.out hown3 hg3 hv3); clear hown3 hg3 hv3)
          obtain ⟨A4, c4, rfl, hK4⟩ := S4.out
          have K4 := Lib.hid hK4
          have RT := Lib.hid (fun w (hb : Below w3.heap.size w3 w) => K4.out.keep.right ▸ right_any tn A2 N c2 w (K4.out.tab.below hb) (by omega))
          clear hK4
          go_wp2_with fail
          refine (RT.out _ (Below.refl _ _)).mono ?_
          rintro e w5 ⟨rfl, hB⟩
          have K5 := Lib.hid (K4.out.next hB)
          clear hB
          go_wp2_with fail
          go_roundg (m - (k + 1))
          case measure => omega
          case rel => exact ⟨k + 1, l ++ [(u, v)], tn, A2, A4, c2, c4, by omega, rfl, rfl, by simp, by go_num, K5.out⟩
        · have HE := Lib.hid he
          cases hf : fst (idAt l u) l.length with
          | some q =>
            have q5 : (0 : Int) ≤ (q : Int) := by omega
            have q7 : ¬ (q : Int) < 0 := by omega
            clear hf he
            simp only [fstI]
            go_wp2_with fail
            refine (insert_any t tA N tc u v _ KY.out.tab (by omega) hu32).mono ?_
            rintro e w2 ⟨⟨hy, _⟩ | ⟨hne, rfl⟩, hB⟩
            case inl => exact absurd hy HE.out
            obtain ⟨d, hd⟩ : ∃ d, insE t N u v = d := ⟨_, rfl⟩
            rw [hd] at hne ⊢
            have d1 : ¬ (d : Int) = 0 := by omega
            have d2 : ((d : Int) == 0) = false := by simpa using d1
            have K2 := Lib.hid (KY.out.next hB)
            obtain ⟨z0, z1, z2⟩ := YC.out _ hB
            have RT := Lib.hid (fun w (hb : Below w2.heap.size w2 w) => K2.out.keep.right ▸ right_any t tA N tc w (K2.out.tab.below hb) (by omega))
            clear hB hd hne
            go_wp2_with fail
            refine (RT.out _ (Below.refl _ _)).mono ?_
            rintro e w3 ⟨rfl, hB⟩
            have K3 := Lib.hid (K2.out.next hB)
            clear hB
            go_wp2_with fail
            go_roundg (m - (k + 1))
            case measure => omega
            case rel => exact ⟨k + 1, l, t, tA, iA, tc, ic, by omega, rfl, rfl, rfl, by go_num, K3.out⟩
          | none =>
            by_cases b1 : l.length < N
            · have x3 : ((l.length : Nat) : Int) < (N : Int) := by omega
              by_cases b2 : u = 0
              · have BB := Lib.hid b2
                clear hf he b2
                simp only [fstI]
                go_wp2_with fail
                refine (insert_any t tA N tc u v _ KY.out.tab (by omega) hu32).mono ?_
                rintro e w2 ⟨⟨hy, _⟩ | ⟨hne, rfl⟩, hB⟩
                case inl => exact absurd hy HE.out
                obtain ⟨d, hd⟩ : ∃ d, insE t N u v = d := ⟨_, rfl⟩
                rw [hd] at hne ⊢
                have d1 : ¬ (d : Int) = 0 := by omega
                have d2 : ((d : Int) == 0) = false := by simpa using d1
                have K2 := Lib.hid (KY.out.next hB)
                obtain ⟨z0, z1, z2⟩ := YC.out _ hB
                have RT := Lib.hid (fun w (hb : Below w2.heap.size w2 w) => K2.out.keep.right ▸ right_any t tA N tc w (K2.out.tab.below hb) (by omega))
                clear hB hd hne
                have x1 : (u : Int) = 0 := by rw [BB.out]; rfl
                have x2 : ((u : Int) != 0) = false := by simpa using x1
                go_wp2_with fail
                refine (RT.out _ (Below.refl _ _)).mono ?_
                rintro e w3 ⟨rfl, hB⟩
                have K3 := Lib.hid (K2.out.next hB)
                clear hB
                go_wp2_with fail
                go_roundg (m - (k + 1))
                case measure => omega
                case rel => exact ⟨k + 1, l, t, tA, iA, tc, ic, by omega, rfl, rfl, rfl, by go_num, K3.out⟩
              · have x1 : ¬ (u : Int) = 0 := by omega
                have x2 : ((u : Int) != 0) = true := by simpa using x1
                by_cases b3 : 0 ≤ v
                · by_cases b4 : v < (N : Int)
                  · exact absurd (KY.out.keep.put.2 ⟨hf, b1, b2, b3, b4⟩) he
                  · clear hf he b2
                    simp only [fstI]
                    go_wp2_with fail
                    refine (insert_any t tA N tc u v _ KY.out.tab (by omega) hu32).mono ?_
                    rintro e w2 ⟨⟨hy, _⟩ | ⟨hne, rfl⟩, hB⟩
                    case inl => exact absurd hy HE.out
                    obtain ⟨d, hd⟩ : ∃ d, insE t N u v = d := ⟨_, rfl⟩
                    rw [hd] at hne ⊢
                    have d1 : ¬ (d : Int) = 0 := by omega
                    have d2 : ((d : Int) == 0) = false := by simpa using d1
                    have K2 := Lib.hid (KY.out.next hB)
                    obtain ⟨z0, z1, z2⟩ := YC.out _ hB
                    have RT := Lib.hid (fun w (hb : Below w2.heap.size w2 w) => K2.out.keep.right ▸ right_any t tA N tc w (K2.out.tab.below hb) (by omega))
                    clear hB hd hne
                    go_wp2_with fail
                    refine (RT.out _ (Below.refl _ _)).mono ?_
                    rintro e w3 ⟨rfl, hB⟩
                    have K3 := Lib.hid (K2.out.next hB)
                    clear hB
                    go_wp2_with fail
                    go_roundg (m - (k + 1))
                    case measure => omega
                    case rel => exact ⟨k + 1, l, t, tA, iA, tc, ic, by omega, rfl, rfl, rfl, by go_num, K3.out⟩
                · clear hf he b2
                  simp only [fstI]
                  go_wp2_with fail
                  refine (insert_any t tA N tc u v _ KY.out.tab (by omega) hu32).mono ?_
                  rintro e w2 ⟨⟨hy, _⟩ | ⟨hne, rfl⟩, hB⟩
                  case inl => exact absurd hy HE.out
                  obtain ⟨d, hd⟩ : ∃ d, insE t N u v = d := ⟨_, rfl⟩
                  rw [hd] at hne ⊢
                  have d1 : ¬ (d : Int) = 0 := by omega
                  have d2 : ((d : Int) == 0) = false := by simpa using d1
                  have K2 := Lib.hid (KY.out.next hB)
                  obtain ⟨z0, z1, z2⟩ := YC.out _ hB
                  have RT := Lib.hid (fun w (hb : Below w2.heap.size w2 w) => K2.out.keep.right ▸ right_any t tA N tc w (K2.out.tab.below hb) (by omega))
                  clear hB hd hne
                  go_wp2_with fail
                  refine (RT.out _ (Below.refl _ _)).mono ?_
                  rintro e w3 ⟨rfl, hB⟩
                  have K3 := Lib.hid (K2.out.next hB)
                  clear hB
                  go_wp2_with fail
                  go_roundg (m - (k + 1))
                  case measure => omega
                  case rel => exact ⟨k + 1, l, t, tA, iA, tc, ic, by omega, rfl, rfl, rfl, by go_num, K3.out⟩
            · have x3 : ¬ ((l.length : Nat) : Int) < (N : Int) := by omega
              clear hf he
              simp only [fstI]
              go_wp2_with fail
              refine (insert_any t tA N tc u v _ KY.out.tab (by omega) hu32).mono ?_
              rintro e w2 ⟨⟨hy, _⟩ | ⟨hne, rfl⟩, hB⟩
              case inl => exact absurd hy HE.out
              obtain ⟨d, hd⟩ : ∃ d, insE t N u v = d := ⟨_, rfl⟩
              rw [hd] at hne ⊢
              have d1 : ¬ (d : Int) = 0 := by omega
              have d2 : ((d : Int) == 0) = false := by simpa using d1
              have K2 := Lib.hid (KY.out.next hB)
              obtain ⟨z0, z1, z2⟩ := YC.out _ hB
              have RT := Lib.hid (fun w (hb : Below w2.heap.size w2 w) => K2.out.keep.right ▸ right_any t tA N tc w (K2.out.tab.below hb) (by omega))
              clear hB hd hne
              go_wp2_with fail
              refine (RT.out _ (Below.refl _ _)).mono ?_
              rintro e w3 ⟨rfl, hB⟩
              have K3 := Lib.hid (K2.out.next hB)
              clear hB
              go_wp2_with fail
              go_roundg (m - (k + 1))
              case measure => omega
              case rel => exact ⟨k + 1, l, t, tA, iA, tc, ic, by omega, rfl, rfl, rfl, by go_num, K3.out⟩
    · obtain rfl : m = k := by omega
      obtain ⟨w0, hw0⟩ : ∃ w0, w0 = wr := ⟨_, rfl⟩
      subst hw0
      have KW := Lib.hid hs
      have hl1 : l.length ≤ 100000 := by have := hs.keep.few; omega
      clear hs HS
      go_wp2_with fail
      go_loopg [14, 15] N (fun G v14 v15 w => CnR t N w0 G v14 v15 w)
      case atStart => exact ⟨0, by omega, by omega, rfl, rfl, rfl⟩
      case round =>
        obtain ⟨i, hi, rfl, rfl, rfl, rfl⟩ := hrel
        by_cases hiN : i < N
        · obtain ⟨tb, tf, htA, _, htc⟩ := KW.out.tab.rows (by omega)
          obtain ⟨t1, _⟩ := htc i hiN
          have CS := Lib.hid (cnt_succ (t := t) (k := i) (by rw [KW.out.keep.len]; exact hiN))
          have CL := Lib.hid (show cnt t i ≤ i from by
            unfold cnt
            exact Nat.le_trans (List.length_filter_le _ _) (by rw [List.length_take]; omega))
          obtain ⟨u, hu⟩ : ∃ u, (cl t i).1 = u := ⟨_, rfl⟩
          rw [hu] at t1 CS
          subst htA
          obtain ⟨r, hr⟩ : ∃ r, cnt t i = r := ⟨_, rfl⟩
          rw [hr] at CS CL ⊢
          have q2 : (0 : Int) ≤ (i : Int) := by omega
          have q3 : (i : Int) < (N : Int) := by omega
          have q4 : r ≤ i := CL.out
          by_cases hu0 : u = 0
          · have x1 : (u : Int) = 0 := by omega
            have x2 : ((u : Int) != 0) = false := by simpa using x1
            rw [if_pos hu0] at CS
            clear htc hu hr hu0
            go_wp2_with fail
            go_roundg (N - (i + 1))
            case measure => omega
            case rel => exact ⟨i + 1, by omega, rfl, by rw [CS.out]; rfl, by go_num, rfl⟩
          · have x1 : ¬ (u : Int) = 0 := by omega
            have x2 : ((u : Int) != 0) = true := by simpa using x1
            rw [if_neg hu0] at CS
            clear htc hu hr hu0
            go_wp2_with fail
            go_roundg (N - (i + 1))
            case measure => omega
            case rel => exact ⟨i + 1, by omega, rfl, by rw [CS.out]; go_num, by go_num, rfl⟩
        · obtain rfl : N = i := by omega
          obtain ⟨w1, hw1⟩ : ∃ w1, w1 = wr := ⟨_, rfl⟩
          subst hw1
          rw [KW.out.keep.count]
          go_wp2_with fail
          go_loopg [16, 17, 18] l.length (fun G v16 _ _ w => FoR l.length w1 G v16 w)
          case atStart => exact ⟨0, by omega, by omega, rfl, Below.refl _ _⟩
          case round =>
            obtain ⟨i, hi, rfl, rfl, hb⟩ := hrel
            have HB := Lib.hid hb
            have K3 := Lib.hid (KW.out.next hb)
            by_cases hil : i < l.length
            · obtain ⟨a, ha, hfin, hid⟩ := K3.out.keep.found hil
              obtain ⟨ib, io, hiA, _, hic⟩ := K3.out.own.rd.rows (by omega)
              obtain ⟨_, i1, i2⟩ := hic i hil
              have LF := Lib.hid (fun w (hb : Below wr.heap.size wr w) => (K3.out.own.rd.below hb).rows (by omega))
              have TF := Lib.hid (fun w (hb : Below wr.heap.size wr w) => (K3.out.tab.below hb).rows (by omega))
              obtain ⟨u, hu⟩ : ∃ u, (cl l i).1 = u := ⟨_, rfl⟩
              obtain ⟨v, hv⟩ : ∃ v, (cl l i).2 = v := ⟨_, rfl⟩
              have FA := Lib.hid (fun w (hb : Below wr.heap.size wr w) => find_any t tA N tc (cl l i).1 (cl l i).2 w (K3.out.tab.below hb) (by omega))
              unfold FdRes at FA
              rw [hfin, hu, hv] at FA
              have HU := Lib.hid hu
              have HID := Lib.hid hid
              rw [hu] at i1
              rw [hv] at i2
              subst hiA
              have q2 : (0 : Int) ≤ (i : Int) := by omega
              have q3 : (i : Int) < ((l.length : Nat) : Int) := by omega
              clear hb hic hu hv hid hfin
              go_wp2_with fail
              go_region_held3 (fun w' => w'.cell? ⟨ib, io + i * 3 + 1, none⟩ = some (.int .u32 (u : Int)) ∧ w'.cell? ⟨ib, io + i * 3 + 2, none⟩ = some (.int .i64 v)) (first | go_keep | exact ⟨(B2.out.cell (p := ⟨ib, io + i * 3 + 1, none⟩) (World.block_lt_of_cell? _ _ i1)).trans i1, (B2.out.cell (p := ⟨ib, io + i * 3 + 2, none⟩) (World.block_lt_of_cell? _ _ i2)).trans i2⟩)
                ((go_at_call 10; refine (FA.out _ (below_drewN (Below.refl _ _) 1)).mono ?_; rintro e w2 ⟨rfl, hB⟩; have B2 := Lib.hid (show Below wr.heap.size wr w2 from (below_drewN (Below.refl _ _) 1).trans hB); clear hB; simp only [fndI, Option.isSome_some]))
              go_wp2_with fail
              obtain ⟨tb, tf, htA, _, htc⟩ := TF.out _ B2.out
              obtain ⟨t1, _⟩ := htc a ha
              rw [HID.out, HU.out] at t1
              subst htA
              have j1 : w2.cell? ⟨ib, io + i * 3 + 1, none⟩ = some (.int .u32 (u : Int)) := (B2.out.cell (p := ⟨ib, io + i * 3 + 1, none⟩) (World.block_lt_of_cell? _ _ i1)).trans i1
              have q4 : (0 : Int) ≤ (a : Int) := by omega
              have q5 : (a : Int) < (N : Int) := by omega
              have q6 : ¬ (a : Int) < 0 := by omega
              have q7 : ¬ (N : Int) ≤ (a : Int) := by omega
              clear htc i1 i2
              go_wp2_with fail
              go_quiet (fail)
              go_wp2_with fail
              go_roundg (l.length - (i + 1))
              case measure => omega
              case rel => exact ⟨i + 1, by omega, rfl, by go_num, below_drewN (below_next HB.out B2.out) _⟩
            · obtain rfl : l.length = i := by omega
              clear hb
              go_wp2_with fail
              refine (PG.out _).mono ?_
              rintro e w3 ⟨rfl, hB⟩
              have B := Lib.hid (below_next K3.out.below hB)
              clear hB
              go_wp2_with fail
              go_ret
              exact ⟨rfl, B.out⟩
end Pr
end Go.Proofs.Ytommffcojbdldaa
