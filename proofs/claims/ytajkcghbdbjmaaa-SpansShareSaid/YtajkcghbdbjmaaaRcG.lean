/- Layers 6 and 7: the contract of the document's Unpack. -/
import Derived.Test.YtajkcghbdbjmaaaRcF
import Derived.Test.YtajkcghbdbjmaaaTail
namespace Go.Proofs.Ytajkcghbdbjmaaa
open Go.RowKit
namespace Rc

/-- The relation of its first loop. -/
def E2R (bs : List Nat) (n : Nat) (W : World) (v i : Value) (w : World) : Prop :=
  ∃ k : Nat, k ≤ n ∧ i = .int .i64 (k : Int) ∧ w.ownsRow W.heap.size 3 1 v k (ints ((ends bs).take k)) ∧ (∀ j, j + 1 < k → endAt bs j ≤ endAt bs (j + 1)) ∧ Below W.heap.size W w
theorem ints_app (a b : List Nat) : ints (a ++ b) = ints a ++ ints b := by simp [ints]
theorem one_ints (is : List Nat) : ∀ u ∈ ints is, u.oneCell' = true := by
  intro u hu
  obtain ⟨b, _, rfl⟩ := List.mem_map.1 hu
  rfl
theorem ends_take {bs : List Nat} {k : Nat} (hk : k < num bs) : (ends bs).take (k + 1) = (ends bs).take k ++ [endAt bs k] := by
  rw [List.take_add_one, List.getElem?_eq_getElem (by rw [ends_len]; exact hk)]
  congr 1
  have := ends_at hk
  rw [List.getD_eq_getElem?_getD, List.getElem?_eq_getElem (by rw [ends_len]; exact hk)] at this
  simpa using this
theorem ends_take_at {bs : List Nat} {k j : Nat} (hk : k ≤ num bs) (hj : j < k) : ((ends bs).take k).getD j 0 = endAt bs j := by
  rw [List.getD_eq_getElem?_getD, List.getElem?_take, if_pos hj, ← List.getD_eq_getElem?_getD, ends_at (by omega)]
theorem own_cell {w : World} {B : Nat} {A : Option Addr} {k c : Nat} {is : List Nat} (h : w.ownsRow B 3 1 (.slice A k c) k (ints is)) {j : Nat} (hj : j < k) : ∃ b off, A = some ⟨b, off, none⟩ ∧ ∀ j, j < k → w.cell? ⟨b, off + j, none⟩ = some (.int .i64 ((is.getD j 0 : Nat) : Int)) := by
  have hl : is.length = k := by have := h.1; rw [ints_len] at this; omega
  obtain ⟨b, off, rfl, _, hc⟩ := (Mem.Rd.of_own h) (by rw [ints_len]; omega)
  exact ⟨b, off, rfl, fun j hj => by rw [hc j (by rw [ints_len]; omega), ints_at (by omega)]⟩
theorem UnR.below {bs : List Nat} {n : Nat} {W1 w : World} {v bg i : Value} (h : UnR bs n W1 v bg i w) : Below W1.heap.size W1 w := by
  obtain ⟨_, _, _, _, _, _, _, hB⟩ := h
  exact hB
set_option maxRecDepth 20000 in
set_option maxHeartbeats 6400000 in
theorem refunpack_any (bs : List Nat) (A : Option Addr) (c : Nat) (W : World) (hr : Mem.Rd W A (octets bs)) (hs : Small bs) (hm : bs.length ≤ 100000) (hcc : bs.length ≤ c) :
    Calls Try.prog 23 #[.slice A bs.length c] W (UnRes bs W) := by
  have bad : ∀ (v : Nat) w, v ≠ 0 → errE bs = v → Below W.heap.size W w → UnRes bs W (.returned (.tuple #[.slice none 0 0, .int .i64 (v : Int)])) w := fun v w hv he hb => ⟨.inr ⟨by omega, by rw [he]⟩, hb⟩
  have BAD := Lib.hid bad
  clear bad
  by_cases h1 : bs.length < 2
  · have he : errE bs = 3 := by unfold errE; rw [if_pos h1]
    have HE := Lib.hid he
    generalize bs.length = l at *
    have h1' : (l : Int) < 2 := by omega
    clear hr hs he
    go_enter Try.func23, Try.ntmps23
    go_wp2
    go_ret2
    exact BAD.out 3 _ (by decide) HE.out (Below.refl _ _)
  obtain ⟨b, off, rfl, hlt, hc⟩ := hr (by rw [octets_len]; omega)
  have c0 := hc 0 (by rw [octets_len]; omega)
  have c1 := hc 1 (by rw [octets_len]; omega)
  rw [octets_at (by omega)] at c0 c1
  rw [Nat.add_zero] at c0
  have s0 := hs.at 0
  have s1 := hs.at 1
  obtain ⟨n, hn⟩ : ∃ n, num bs = n := ⟨_, rfl⟩
  obtain ⟨o, ho⟩ : ∃ o, byt bs 1 = o := ⟨_, rfl⟩
  have hn' : byt bs 0 = n := hn
  rw [hn'] at c0 s0
  rw [ho] at c1 s1
  have hl1 : ¬ ((bs.length : Int) < 2) := by omega
  have hl2 : (0 : Int) < (bs.length : Int) := by omega
  have hl3 : (1 : Int) < (bs.length : Int) := by omega
  have hwn : IntKind.i64.wrap (n : Int) = (n : Int) := IntWalk.i64_in _ (by omega)
  by_cases h2 : n = 0 ∨ 16 < n ∨ o ≠ 0
  · have he : errE bs = 4 := by unfold errE; rw [if_neg h1, hn, ho, if_pos h2]
    have HE := Lib.hid he
    generalize bs.length = l at *
    clear hr hs he hc hn hn' ho
    by_cases q0 : n = 0
    · subst q0
      go_enter Try.func23, Try.ntmps23
      go_wp2
      go_ret2
      exact BAD.out 4 _ (by decide) HE.out (Below.refl _ _)
    have q0' : ¬ ((n : Int) = 0) := by omega
    have b0 : ((n : Int) == 0) = false := by simp; omega
    by_cases q1 : 16 < n
    · have q1' : (16 : Int) < (n : Int) := by omega
      clear h2
      go_enter Try.func23, Try.ntmps23
      go_wp2
      go_ret2
      exact BAD.out 4 _ (by decide) HE.out (Below.refl _ _)
    · have q1' : ¬ ((16 : Int) < (n : Int)) := by omega
      have q2 : ((o : Int) != 0) = true := by simp; omega
      clear h2
      go_enter Try.func23, Try.ntmps23
      go_wp2
      go_ret2
      exact BAD.out 4 _ (by decide) HE.out (Below.refl _ _)
  have hn0 : 0 < n := by omega
  have hn16 : n ≤ 16 := by omega
  obtain rfl : o = 0 := by omega
  have hw2 : IntKind.i64.wrap (2 * (n : Int)) = 2 * (n : Int) := IntWalk.i64_in _ (by omega)
  have hw3 : IntKind.i64.wrap (2 + 2 * (n : Int)) = 2 + 2 * (n : Int) := IntWalk.i64_in _ (by omega)
  have b0 : ((n : Int) == 0) = false := by simp; omega
  have q1' : ¬ ((16 : Int) < (n : Int)) := by omega
  by_cases h3 : bs.length < 2 + 2 * n
  · have he : errE bs = 3 := by unfold errE; rw [if_neg h1, hn, ho, if_neg (by omega), if_pos h3]
    have HE := Lib.hid he
    generalize bs.length = l at *
    have q3 : (l : Int) < 2 + 2 * (n : Int) := by omega
    clear hr hs he hc hn hn' ho h2
    go_enter Try.func23, Try.ntmps23
    go_wp2
    go_ret2
    exact BAD.out 3 _ (by decide) HE.out (Below.refl _ _)
  have hb : ∀ i, endAt bs i ≤ 65535 := fun i => by
    unfold endAt
    have := hs.at (2 + 2 * i)
    have := hs.at (2 + 2 * i + 1)
    omega
  have HB := Lib.hid hb
  have HR := Lib.hid hr
  have HS := Lib.hid hs
  have hsplit : errE bs = if rise (ends bs) = false then 4 else if bs.length - (2 + 2 * n) < endAt bs (n - 1) then 3 else if endAt bs (n - 1) < bs.length - (2 + 2 * n) ∨ 480 < bs.length then 4 else 0 := by
    unfold errE
    rw [if_neg h1, hn, ho, if_neg (by omega), if_neg h3]
  have hrise : rise (ends bs) = true ↔ ∀ i, i + 1 < n → endAt bs i ≤ endAt bs (i + 1) := by
    rw [rise_iff, ends_len, hn]
    constructor
    · intro h i hi
      have := h i (by omega)
      rw [ends_at (by omega), ends_at (by omega)] at this
      exact this
    · intro h i hi
      rw [ends_at (by omega), ends_at (by omega)]
      exact h i (by omega)
  have HSP := Lib.hid hsplit
  have HRI := Lib.hid hrise
  have HN := Lib.hid hn
  obtain ⟨l, hl⟩ : ∃ l, bs.length = l := ⟨_, rfl⟩
  have HL := Lib.hid hl
  obtain ⟨i0, hi0, hz0, hz1, hz2⟩ := info_at infoI
  have I0 := Lib.hid hi0
  have I1 := Lib.hid hz0
  have I2 := Lib.hid hz1
  have I3 := Lib.hid hz2
  obtain ⟨j0, hj0, hy0, hy1, hy2⟩ := info_at infoB
  have J0 := Lib.hid hj0
  have J1 := Lib.hid hy0
  have J2 := Lib.hid hy1
  have J3 := Lib.hid hy2
  obtain ⟨r0, hr0, hx0, hx1, hx2⟩ := info_at infoR
  have R0 := Lib.hid hr0
  have R1 := Lib.hid hx0
  have R2 := Lib.hid hx1
  have R3 := Lib.hid hx2
  rw [hl] at h1 h3 hm hl1 hl2 hl3 HSP hcc ⊢
  have q3 : ¬ ((l : Int) < 2 + 2 * (n : Int)) := by omega
  clear hr hs hc hn hn' ho h2 hb hsplit hl hlt hrise hi0 hz0 hz1 hz2 hj0 hy0 hy1 hy2 hr0 hx0 hx1 hx2
  go_enter Try.func23, Try.ntmps23
  go_wp2
  go_loopw [6, 7] (E2R bs n W) (fun _ i _ => n - (intOf i).toNat)
  case atStart => exact ⟨0, by omega, rfl, World.ownsRow_nil _ _ _ _, fun j hj => by omega, Below.refl _ _⟩
  case round =>
    obtain ⟨k, hk, rfl, hown, hup, hbel⟩ := hrel
    obtain ⟨A1, o1, rfl, ho1⟩ := Mem.own_shape hown
    by_cases hkn : k < n
    · obtain ⟨b2, o2, e2, _, hc2⟩ := (HR.out.below hbel) (by rw [octets_len, HL.out]; omega)
      injection e2 with e2
      injection e2 with e2 e3 _
      subst e2 e3
      have d1 := hc2 (2 + 2 * k) (by rw [octets_len, HL.out]; omega)
      have d2 := hc2 (3 + 2 * k) (by rw [octets_len, HL.out]; omega)
      rw [octets_at (by rw [HL.out]; omega)] at d1 d2
      have s2 := HS.out.at (2 + 2 * k)
      have s3 := HS.out.at (3 + 2 * k)
      have hend : endAt bs k = byt bs (2 + 2 * k) + 256 * byt bs (3 + 2 * k) := by unfold endAt; rw [show 2 + 2 * k + 1 = 3 + 2 * k by omega]
      obtain ⟨x, hx⟩ : ∃ x, byt bs (2 + 2 * k) = x := ⟨_, rfl⟩
      obtain ⟨y, hy⟩ : ∃ y, byt bs (3 + 2 * k) = y := ⟨_, rfl⟩
      rw [hx] at d1 s2 hend
      rw [hy] at d2 s3 hend
      obtain ⟨z, hz⟩ : ∃ z, x + 256 * y = z := ⟨_, rfl⟩
      have HEND := Lib.hid (hend.trans hz)
      have HTK := Lib.hid (ends_take (bs := bs) (k := k) (by rw [HN.out]; exact hkn))
      have hwk : IntKind.i64.wrap (2 * (k : Int)) = 2 * (k : Int) := IntWalk.i64_in _ (by omega)
      have hwk2 : IntKind.i64.wrap (2 + 2 * (k : Int)) = 2 + 2 * (k : Int) := IntWalk.i64_in _ (by omega)
      have hwk3 : IntKind.i64.wrap (3 + 2 * (k : Int)) = 3 + 2 * (k : Int) := IntWalk.i64_in _ (by omega)
      have hwx : IntKind.i64.wrap (x : Int) = (x : Int) := IntWalk.i64_in _ (by omega)
      have hwy : IntKind.i64.wrap (y : Int) = (y : Int) := IntWalk.i64_in _ (by omega)
      have hwy2 : IntKind.i64.wrap (256 * (y : Int)) = 256 * (y : Int) := IntWalk.i64_in _ (by omega)
      have hwz : IntKind.i64.wrap ((x : Int) + 256 * (y : Int)) = (z : Int) := by rw [IntWalk.i64_in _ (by omega)]; omega
      have ht1 : (2 + 2 * (k : Int)).toNat = 2 + 2 * k := by omega
      have ht2 : (3 + 2 * (k : Int)).toNat = 3 + 2 * k := by omega
      have p0 : (0 : Int) ≤ 2 + 2 * (k : Int) := by omega
      have p1 : 2 + 2 * (k : Int) < (l : Int) := by omega
      have p2 : (0 : Int) ≤ 3 + 2 * (k : Int) := by omega
      have p3 : 3 + 2 * (k : Int) < (l : Int) := by omega
      have p4 : (0 : Int) ≤ (k : Int) := by omega
      have p5 : (k : Int) < (n : Int) := by omega
      have HOWN := Lib.hid hown
      have HBW := Lib.hid hbel
      have HUP := Lib.hid hup
      clear hown hbel hup hc2 hx hy hz hend
      go_wp2_with fail
      refine Mem.wp_region_one_tail 17 (by kernel_rfl) rfl rfl (by kernel_rfl) (by kernel_rfl) (fun _ _ _ h => h) (Or.inl ⟨by rfl, fun w => by rfl⟩) ?_
      simp only [Mem.late, List.set_cons_succ, List.set_cons_zero, List.take_succ_cons, List.take_zero, List.drop_succ_cons, List.drop_zero, Act.put, List.setIfInBounds_toArray]
      repeat still_step
      refine wpStill_nil ?_
      refine wpList_step (fun K hK => ?_)
      go_simp
      refine hK _ _ ?_
      clear hK K
      refine Mem.wpList_append_rd _ rfl (.tmp 42) (.tmp 59) 53 rfl W.heap.size 3 i0 (.int .i64 0) 8 Try.underlying53 I0.out I1.out I2.out I3.out rfl (.slice A1 k o1) k (ints ((ends bs).take k)) (by simp [Act.eval]) (by exact Mem.own_drewN (HOWN.out.alloc (.cells #[.int .i64 (z : Int)] 3)) 1) (some ⟨wr.heap.size, 0, none⟩) 1 1 [.int .i64 (z : Int)] (by simp [Act.eval]) rfl (by exact rd_one wr _ _) (by intro u hu; simp at hu; subst hu; rfl) (by simp only [maxLen]; omega) (by omega) (by have := HBW.out.size; simp; omega) ?_
      intro v4 w4 hown4 hg4 _
      obtain ⟨A4, c4, rfl, _⟩ := Mem.own_shape hown4
      have hb4 : Below W.heap.size W w4 := Below.grown (Below.alloc (w := wr.drew) (Below.drew HBW.out) HBW.out.size _) hg4 (by have := HBW.out.size; simp; omega) (own_ge HOWN.out)
      have HB4 := Lib.hid hb4
      have HO4 := Lib.hid (show w4.ownsRow W.heap.size 3 1 (.slice A4 (k + 1) c4) (k + 1) (ints ((ends bs).take (k + 1))) by rw [HTK.out, ints_app, HEND.out]; exact hown4)
      clear hb4 hown4 hg4
      obtain ⟨b4, o4, rfl, hcell⟩ := own_cell HO4.out (j := 0) (by omega)
      have g1 := hcell k (by omega)
      rw [ends_take_at (by rw [HN.out]; omega) (by omega), HEND.out] at g1
      have UPD : RowKit.Hid ((∀ j, j + 1 = k → endAt bs j ≤ z) → ∀ j, j + 1 < k + 1 → endAt bs j ≤ endAt bs (j + 1)) := Lib.hid (fun h j hj => by
        by_cases e : j + 1 = k
        · rw [e, HEND.out]; exact h j e
        · exact HUP.out j (by omega))
      by_cases hk0 : k = 0
      · subst hk0
        clear hcell
        go_wp2_with fail
        go_quiet (fail)
        go_wp2_with fail
        go_roundw
        case rel => exact ⟨1, by omega, by go_num, HO4.out, UPD.out (fun j hj => by omega), below_drewN HB4.out _⟩
        case measure => simp [intOf]; omega
      · obtain ⟨p, rfl⟩ : ∃ p, k = p + 1 := ⟨k - 1, by omega⟩
        have g2 := hcell p (by omega)
        rw [ends_take_at (by rw [HN.out]; omega) (by omega)] at g2
        obtain ⟨u, hu⟩ : ∃ u, endAt bs p = u := ⟨_, rfl⟩
        rw [hu] at g2
        have HU := Lib.hid hu
        have hwp : IntKind.i64.wrap (((p + 1 : Nat) : Int) - 1) = (p : Int) := by rw [IntWalk.i64_in _ (by omega)]; omega
        have hwp2 : IntKind.i64.wrap ((p : Int) + 1 - 1) = (p : Int) := by rw [IntWalk.i64_in _ (by omega)]; omega
        have v0 : (0 : Int) < (p : Int) + 1 := by omega
        have v1 : (0 : Int) ≤ (p : Int) := by omega
        have v2 : (0 : Int) ≤ (p : Int) + 1 := by omega
        have v3 : (p : Int) < (p : Int) + 1 + 1 := by omega
        have v4 : (p : Int) + 1 < (p : Int) + 1 + 1 := by omega
        have v5 : 0 < p + 1 := by omega
        clear hcell hu hk0
        by_cases hzu : z < u
        · have z1 : (z : Int) < (u : Int) := by omega
          go_wp2_with fail
          go_quiet (fail)
          go_wp2_with fail
          go_ret2
          refine BAD.out 4 _ (by decide) ?_ (below_drewN HB4.out _)
          rw [HSP.out, if_pos]
          cases hri : rise (ends bs) with
          | false => rfl
          | true =>
            have := HRI.out.1 hri p (by omega)
            rw [HU.out, HEND.out] at this
            omega
        · have z1 : ¬ ((z : Int) < (u : Int)) := by omega
          go_wp2_with fail
          go_quiet (fail)
          go_wp2_with fail
          go_roundw
          case rel =>
            refine ⟨p + 1 + 1, by omega, by go_num, HO4.out, UPD.out (fun j hj => ?_), below_drewN HB4.out _⟩
            obtain rfl : j = p := by omega
            rw [HU.out]
            omega
          case measure => simp [intOf]; omega
    · obtain rfl : n = k := by omega
      have htk : (ends bs).take n = ends bs := List.take_of_length_le (by rw [ends_len, HN.out]; exact Nat.le_refl _)
      obtain ⟨eb, eo, rfl, hcell⟩ := own_cell hown (j := 0) (by omega)
      have hcells : ∀ j, j < n → wr.cell? ⟨eb, eo + j, none⟩ = some (.int .i64 ((endAt bs j : Nat) : Int)) := fun j hj => by
        rw [hcell j hj, ends_take_at (by rw [HN.out]; omega) hj]
      have heb : eb < wr.heap.size := by have := hcells 0 hn0; exact World.block_lt_of_cell? _ _ this
      have hri : rise (ends bs) = true := HRI.out.2 hup
      rw [hri] at HSP
      have hsp : errE bs = if l - (2 + 2 * n) < endAt bs (n - 1) then 3 else if endAt bs (n - 1) < l - (2 + 2 * n) ∨ 480 < l then 4 else 0 := by rw [HSP.out]; simp
      have g1 := hcells (n - 1) (by omega)
      have HCE := Lib.hid hcells
      have HEB := Lib.hid heb
      have HBW := Lib.hid hbel
      clear hown hup hbel hcell hcells htk hri heb
      generalize hw1 : wr = w1 at *
      clear hw1
      have hwp : IntKind.i64.wrap ((n : Int) - 1) = ((n - 1 : Nat) : Int) := by rw [IntWalk.i64_in _ (by omega)]; omega
      have hp1 : (0 : Int) ≤ ((n - 1 : Nat) : Int) := by omega
      have hp2 : ((n - 1 : Nat) : Int) < (n : Int) := by omega
      have hp3 : n - 1 < n := by omega
      have hv1 : IntKind.i64.wrap ((l : Int) - (2 + 2 * (n : Int))) = ((l - (2 + 2 * n) : Nat) : Int) := by rw [IntWalk.i64_in _ (by omega)]; omega
      obtain ⟨q, hq⟩ : ∃ q, n - 1 = q := ⟨_, rfl⟩
      obtain ⟨x, hx⟩ : ∃ x, endAt bs (n - 1) = x := ⟨_, rfl⟩
      obtain ⟨y, hy⟩ : ∃ y, l - (2 + 2 * n) = y := ⟨_, rfl⟩
      rw [hx] at g1 hsp
      rw [hy] at hv1 hsp
      rw [hq] at g1 hwp hp1 hp2 hp3
      have HSP2 := Lib.hid hsp
      clear hsp HSP hx hq
      by_cases z1 : y < x
      · have z1' : (y : Int) < (x : Int) := by omega
        clear hy
        go_wp2_with fail
        go_ret2
        exact BAD.out 3 _ (by decide) (by rw [HSP2.out, if_pos z1]) HBW.out
      have z1' : ¬ ((y : Int) < (x : Int)) := by omega
      by_cases z2 : x < y
      · have z2' : (x : Int) < (y : Int) := by omega
        clear hy
        go_wp2_with fail
        go_ret2
        exact BAD.out 4 _ (by decide) (by rw [HSP2.out, if_neg z1, if_pos (.inl z2)]) HBW.out
      have z2' : ¬ ((x : Int) < (y : Int)) := by omega
      by_cases z3 : 480 < l
      · have z3' : (480 : Int) < (l : Int) := by omega
        clear hy
        go_wp2_with fail
        go_ret2
        exact BAD.out 4 _ (by decide) (by rw [HSP2.out, if_neg z1, if_pos (.inr z3)]) HBW.out
      have z3' : ¬ ((480 : Int) < (l : Int)) := by omega
      have herr : errE bs = 0 := by rw [HSP2.out, if_neg z1, if_neg (by omega)]
      have HERR := Lib.hid herr
      have HOK := Lib.hid (ok_of herr)
      clear herr hy
      go_wp2_with fail
      go_loopw [8, 9, 10] (UnR bs n w1) (fun _ _ i _ => n - (intOf i).toNat)
      case atStart => exact ⟨0, [], by omega, rfl, rfl, World.ownsRow_nil _ _ _ _, OwnRecs.nil _ _ _, Below.refl _ _⟩
      case round =>
        obtain ⟨k, vs, hk, rfl, rfl, hown, hrecs, hB⟩ := hrel
        obtain ⟨A1, o1, rfl, ho1'⟩ := Mem.own_shape hown
        by_cases hkn : k < n
        · have hge := HOK.out.beg_le (i := k) (by rw [HN.out]; exact hkn)
          have hel := HOK.out.end_le (i := k) (by rw [HN.out]; exact hkn)
          have hla := HOK.out.last
          rw [HN.out, HL.out] at hla
          rw [HN.out] at hel
          have hrl := HOK.out.rec_len (i := k) (by rw [HN.out]; exact hkn)
          have RD := HR.out.below (HBW.out.trans (hB.mono HBW.out.size))
          have US := Lib.hid (fun w2 w3 v v2 h1 h2 h3 h4 h5 i hi => un_step (w1 := w2) (w2 := w3) (v := v) (v2 := v2) HN.out hkn hown hrecs hB h1 h2 h3 h4 h5 i hi)
          have d1 : wr.cell? ⟨eb, eo + k, none⟩ = some (.int .i64 ((endAt bs k : Nat) : Int)) := (hB.cell (p := ⟨eb, eo + k, none⟩) HEB.out).trans (HCE.out k hkn)
          have hrec : rec1 bs k = (bs.drop (2 + 2 * n + beg bs k)).take (endAt bs k - beg bs k) := by unfold rec1; rw [List.drop_drop, HN.out]
          obtain ⟨x, hx⟩ : ∃ x, endAt bs k = x := ⟨_, rfl⟩
          obtain ⟨g, hg⟩ : ∃ g, beg bs k = g := ⟨_, rfl⟩
          rw [hx] at d1 hge hel hrl US hrec
          rw [hg] at hge hrl hrec ⊢
          have RR : Mem.Rd wr (some ⟨b, off + (2 + 2 * n + g), none⟩) (octets (rec1 bs k)) := by
            have := Mem.Rd.cut RD (2 + 2 * n + g) (x - g) (by rw [octets_len, HL.out]; omega) (some ⟨b, off + (2 + 2 * n + g), none⟩) (fun _ => by simp [Mem.add_none])
            rw [octets_drop, octets_take, ← hrec] at this
            exact this
          have RN : x = g → Mem.Rd wr (some ⟨b, off, none⟩) (octets (rec1 bs k)) := fun e => by
            have : rec1 bs k = [] := List.eq_nil_of_length_eq_zero (by omega)
            rw [this]
            exact Mem.Rd.nil _ _
          have HOWN := Lib.hid hown
          have HBB := Lib.hid hB
          have HRR := Lib.hid RR
          have HRN := Lib.hid RN
          have HRL := Lib.hid hrl
          have hf1 : IntKind.i64.wrap (2 + 2 * (n : Int) + (g : Int)) = 2 + 2 * (n : Int) + (g : Int) := IntWalk.i64_in _ (by omega)
          have hf2 : IntKind.i64.wrap (2 + 2 * (n : Int) + (x : Int)) = 2 + 2 * (n : Int) + (x : Int) := IntWalk.i64_in _ (by omega)
          obtain ⟨lo, hlo⟩ : ∃ lo, 2 + 2 * n + g = lo := ⟨_, rfl⟩
          obtain ⟨hi, hhi⟩ : ∃ hi, 2 + 2 * n + x = hi := ⟨_, rfl⟩
          have hf3 : IntKind.i64.wrap (2 + 2 * (n : Int) + (g : Int)) = (lo : Int) := by rw [hf1]; omega
          have hf4 : IntKind.i64.wrap (2 + 2 * (n : Int) + (x : Int)) = (hi : Int) := by rw [hf2]; omega
          have e0 : (0 : Int) ≤ (lo : Int) := by omega
          have e1 : (lo : Int) ≤ (hi : Int) := by omega
          have e2 : (hi : Int) ≤ (c : Int) := by omega
          have e3 : lo ≤ hi := by omega
          have e4 : hi ≤ c := by omega
          have e5 : hi - lo = x - g := by omega
          have e6 : hi ≤ 480 := by omega
          have hk0' : (0 : Int) ≤ (k : Int) := by omega
          have hk1' : (k : Int) < (n : Int) := by omega
          have HLO := Lib.hid hlo
          have HXG : RowKit.Hid (hi = lo → x = g) := Lib.hid (by omega)
          have HX := Lib.hid hx
          have heb2 : eb < wr.heap.size := Nat.lt_of_lt_of_le HEB.out hB.size
          have d1a : ∀ o, (wr.alloc o).cell? ⟨eb, eo + k, none⟩ = some (.int .i64 (x : Int)) := fun o => by rw [World.cell?_alloc_lt _ _ _ heb2]; exact d1
          have HE5 := Lib.hid e5
          clear hown hrecs hB RD RR RN hrl hx hg hrec hf1 hf2 hlo hhi e5 hge hel hla
          by_cases hcz : c = lo
          · have hhl : hi = lo := by omega
            have hxg := HXG.out hhl
            subst hhl
            subst hcz
            have HXG2 := Lib.hid hxg
            clear hxg
            go_wp2_with (first | (at_builtin; refine Mem.wpList_append_rd _ rfl (.tmp 106) (.tmp 117) 22 rfl wr.heap.size 5 j0 (.int .u8 0) 1 Try.underlying22 J0.out J1.out J2.out J3.out rfl (.slice (some ⟨wr.heap.size, 0, none⟩) 0 0) 0 [] rfl (own_zero wr 5 1) (some ⟨b, off, none⟩) (0) (0) (octets (rec1 bs k)) rfl (by rw [octets_len, HRL.out]; have := HXG2.out; omega) (by exact Mem.Rd.alloc (HRN.out HXG2.out) _) (one_octets _) (by first | decide | (simp only [maxLen]; omega)) (by omega) (by simp) ?_; intro v1 w2 hown1 hg1 _; simp only [Nat.zero_add, List.nil_append] at hown1; obtain ⟨Av, cv, rfl, _⟩ := Mem.own_shape hown1; have hbv : Below wr.heap.size wr w2 := ((Below.refl _ _).alloc (Nat.le_refl _) _).grown hg1 (by simp) (by simp [Value.ownBlock]); have HV := Lib.hid hown1; have HBV := Lib.hid hbv; clear hown1 hbv hg1) | (at_builtin; refine Mem.wpList_append_rd _ rfl (.tmp 105) (.tmp 119) 38 rfl w1.heap.size 22 r0 (.slice none 0 0) 24 Try.underlying38 R0.out R1.out R2.out R3.out rfl (.slice A1 k o1) k vs rfl (by exact (Mem.own_below HOWN.out HBV.out).alloc _) (some ⟨w2.heap.size, 0, none⟩) 1 1 [.slice Av (0) cv] rfl rfl (by exact rd_one w2 _ _) (by intro u hu; simp at hu; subst hu; rfl) (by simp only [maxLen]; omega) (by omega) (by have h1 := HBB.out.size; have h2 := HBV.out.size; simp; omega) ?_; intro v4 w4 hown4 hg4 hv4; obtain ⟨A4, c4, rfl, _⟩ := Mem.own_shape hown4; have U4 := Lib.hid (US.out w2 w4 _ _ (by rw [HRL.out, show x - g = 0 by have := HXG2.out; omega]; exact HV.out) HBV.out hown4 hg4 hv4); have d4 : w4.cell? ⟨eb, eo + k, none⟩ = some (.int .i64 (x : Int)) := (by rw [← HX.out]; exact ((UnR.below (U4.out (.int .i64 ((k + 1 : Nat) : Int)) rfl)).cell (p := ⟨eb, eo + k, none⟩) HEB.out).trans (HCE.out k hkn)); clear hown4 hg4 hv4))
            go_roundw
            case rel => exact U4.out _ (by go_num)
            case measure => simp [intOf]; omega
          · have hcz2 : ¬ (c - lo = 0) := by omega
            go_wp2_with (first | (at_builtin; refine Mem.wpList_append_rd _ rfl (.tmp 106) (.tmp 117) 22 rfl wr.heap.size 5 j0 (.int .u8 0) 1 Try.underlying22 J0.out J1.out J2.out J3.out rfl (.slice (some ⟨wr.heap.size, 0, none⟩) 0 0) 0 [] rfl (own_zero wr 5 1) (some ⟨b, off + lo, none⟩) (hi - lo) (c - lo) (octets (rec1 bs k)) rfl (by rw [octets_len, HRL.out]; exact HE5.out.symm) (by exact Mem.Rd.alloc (by rw [← HLO.out]; exact HRR.out) _) (one_octets _) (by first | decide | (simp only [maxLen]; omega)) (by omega) (by simp) ?_; intro v1 w2 hown1 hg1 _; simp only [Nat.zero_add, List.nil_append] at hown1; obtain ⟨Av, cv, rfl, _⟩ := Mem.own_shape hown1; have hbv : Below wr.heap.size wr w2 := ((Below.refl _ _).alloc (Nat.le_refl _) _).grown hg1 (by simp) (by simp [Value.ownBlock]); have HV := Lib.hid hown1; have HBV := Lib.hid hbv; clear hown1 hbv hg1) | (at_builtin; refine Mem.wpList_append_rd _ rfl (.tmp 105) (.tmp 119) 38 rfl w1.heap.size 22 r0 (.slice none 0 0) 24 Try.underlying38 R0.out R1.out R2.out R3.out rfl (.slice A1 k o1) k vs rfl (by exact (Mem.own_below HOWN.out HBV.out).alloc _) (some ⟨w2.heap.size, 0, none⟩) 1 1 [.slice Av (hi - lo) cv] rfl rfl (by exact rd_one w2 _ _) (by intro u hu; simp at hu; subst hu; rfl) (by simp only [maxLen]; omega) (by omega) (by have h1 := HBB.out.size; have h2 := HBV.out.size; simp; omega) ?_; intro v4 w4 hown4 hg4 hv4; obtain ⟨A4, c4, rfl, _⟩ := Mem.own_shape hown4; have U4 := Lib.hid (US.out w2 w4 _ _ (by rw [HRL.out, ← HE5.out]; exact HV.out) HBV.out hown4 hg4 hv4); have d4 : w4.cell? ⟨eb, eo + k, none⟩ = some (.int .i64 (x : Int)) := (by rw [← HX.out]; exact ((UnR.below (U4.out (.int .i64 ((k + 1 : Nat) : Int)) rfl)).cell (p := ⟨eb, eo + k, none⟩) HEB.out).trans (HCE.out k hkn)); clear hown4 hg4 hv4))
            go_roundw
            case rel => exact U4.out _ (by go_num)
            case measure => simp [intOf]; omega
        · obtain rfl : n = k := by omega
          have hfull : (recs bs).take n = recs bs := List.take_of_length_le (by rw [recs_len, HN.out]; exact Nat.le_refl _)
          rw [hfull] at hrecs
          have fin : UnRes bs W (.returned (.tuple #[.slice A1 n o1, .int .i64 0])) wr := ⟨.inl ⟨HERR.out, w1.heap.size, A1, o1, vs, HBW.out.size, by rw [HN.out], by rw [HN.out]; exact hown, by rw [HN.out]; exact hrecs⟩, HBW.out.trans (hB.mono HBW.out.size)⟩
          have FIN := Lib.hid fin
          clear fin hown hrecs hB hfull
          go_wp2_with fail
          go_ret2
          exact FIN.out
end Rc
end Go.Proofs.Ytajkcghbdbjmaaa
