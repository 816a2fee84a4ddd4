/- Layers 6 and 7: the contract of ends. -/
import Derived.Test.YtajkcghbdbjmaaaRcC
namespace Go.Proofs.Ytajkcghbdbjmaaa
open Go.RowKit
namespace Rc

theorem infoI : (Try.prog.info? 3).map (fun i => (i.zero, i.size, i.bytes)) = some (some (.int .i64 0), 1, 8) := by kernel_rfl
theorem infoB : (Try.prog.info? 5).map (fun i => (i.zero, i.size, i.bytes)) = some (some (.int .u8 0), 1, 1) := by kernel_rfl
theorem infoR : (Try.prog.info? 22).map (fun i => (i.zero, i.size, i.bytes)) = some (some (.slice none 0 0), 1, 24) := by kernel_rfl
theorem info_at {e : TypeId} {z : Value} {n m : Nat} (h : (Try.prog.info? e).map (fun i => (i.zero, i.size, i.bytes)) = some (some z, n, m)) : ∃ i, Try.prog.info? e = some i ∧ i.zero = some z ∧ i.size = n ∧ i.bytes = m := by
  cases hi : Try.prog.info? e with
  | none => rw [hi] at h; cases h
  | some i =>
    rw [hi] at h
    simp only [Option.map_some, Option.some.injEq, Prod.mk.injEq] at h
    exact ⟨i, rfl, h.1, h.2.1, h.2.2⟩
/-- A block of its own with these numbers. -/
def Cnts (sb n : Nat) (f : Nat → Nat) (w : World) : Prop := sb < w.heap.size ∧ (∀ j, j < n → w.cell? ⟨sb, j, none⟩ = some (.int .i64 ((f j : Nat) : Int))) ∧ ∀ j, w.frozen? ⟨sb, j, none⟩ = false
section
variable {sb n : Nat} {f : Nat → Nat} {w : World}
theorem Cnts.set (h : Cnts sb n f w) {x : Nat} (hx : x < n) (v : Nat) : Cnts sb n (fun j => if x = j then v else f j) (w.setCell ⟨sb, x, none⟩ (.int .i64 (v : Int))) := by
  obtain ⟨h3, h7, h8⟩ := h
  refine ⟨by simpa using h3, fun j hj => ?_, fun j => ?_⟩
  · show _ = some (Value.int .i64 (((if x = j then v else f j : Nat)) : Int))
    by_cases e : x = j
    · subst e
      rw [World.cell?_setCell_same (h := h7 x hx), if_pos rfl]
    · rw [if_neg e, World.cell?_setCell_other]
      · exact h7 j hj
      · intro e2
        injection e2 with _ e2
        exact e e2
  · rw [World.frozen?_setCell]
    exact h8 j
theorem cnts_made (w : World) (n : Nat) (t : TypeId) : Cnts w.heap.size n (fun _ => 0) (w.alloc (.cells (madeCells #[.int .i64 0] n) t)) := by
  refine ⟨by simp, fun j hj => ?_, fun j => by simp⟩
  rw [World.cell?_alloc_new]
  simp [madeCells, hj, Nat.mod_one]
theorem Cnts.rd (h : Cnts sb n f w) {is : List Nat} (hl : is.length = n) (he : ∀ j, j < n → is.getD j 0 = f j) : Mem.Rd w (some ⟨sb, 0, none⟩) (ints is) := fun _ => by
  obtain ⟨h3, h7, _⟩ := h
  refine ⟨sb, 0, rfl, h3, fun i hi => ?_⟩
  rw [ints_len] at hi
  rw [Nat.zero_add, h7 i (by omega), ints_at hi, he i (by omega)]
end
/-- What ends answers. -/
def EndsRes (bs : List Nat) (W : World) (e : Ending) (w : World) : Prop :=
  ((errE bs = 0 ∧ ∃ U uc, e = .returned (.tuple #[.slice U (num bs) uc, .int .i64 0]) ∧ Mem.Rd w U (ints (ends bs))) ∨ (errE bs ≠ 0 ∧ e = .returned (.tuple #[.slice none 0 0, .int .i64 (errE bs : Nat)]))) ∧ Below W.heap.size W w
/-- The relation of its loop. -/
def EnR (bs : List Nat) (sb n : Nat) (W : World) (i : Value) (w : World) : Prop :=
  ∃ k : Nat, k ≤ n ∧ i = .int .i64 (k : Int) ∧ Cnts sb n (fun j => if j < k then endAt bs j else 0) w ∧ Below W.heap.size W w
theorem en_step {bs : List Nat} {sb n k : Nat} {W w : World} (hW : W.heap.size ≤ sb) (hk : k < n) (hC : Cnts sb n (fun j => if j < k then endAt bs j else 0) w) (hB : Below W.heap.size W w) (i : Value) (hi : i = .int .i64 ((k + 1 : Nat) : Int)) :
    EnR bs sb n W i (w.setCell ⟨sb, k, none⟩ (.int .i64 ((endAt bs k : Nat) : Int))) := by
  refine ⟨k + 1, hk, hi, ?_, hB.setCell (by simpa using hW) _⟩
  have := hC.set hk (endAt bs k)
  have e : (fun j => if j < k + 1 then endAt bs j else 0) = fun j => if k = j then endAt bs k else if j < k then endAt bs j else 0 := by
    funext j
    by_cases e : k = j
    · subst e
      simp
    · rw [if_neg e]
      by_cases e2 : j < k
      · rw [if_pos e2, if_pos (by omega)]
      · rw [if_neg e2, if_neg (by omega)]
  rw [e]
  exact this
set_option maxHeartbeats 3200000 in
theorem ends_any (bs : List Nat) (A : Option Addr) (c : Nat) (W : World) (hr : Mem.Rd W A (octets bs)) (hs : Small bs) (hm : bs.length ≤ 100000) :
    Calls Try.prog 31 #[.slice A bs.length c] W (EndsRes bs W) := by
  by_cases h1 : bs.length < 2
  · have he : errE bs = 3 := by unfold errE; rw [if_pos h1]
    have fin : ∀ w, Below W.heap.size W w → EndsRes bs W (.returned (.tuple #[.slice none 0 0, .int .i64 3])) w := fun w hb => ⟨.inr ⟨by omega, by rw [he]; rfl⟩, hb⟩
    have FIN := Lib.hid fin
    generalize bs.length = l at *
    have h1' : (l : Int) < 2 := by omega
    clear hr hs he fin
    go_enter Try.func31, Try.ntmps31
    go_wp2
    go_ret2
    exact FIN.out _ (Below.refl _ _)
  obtain ⟨b, off, rfl, hlt, hc⟩ := hr (by rw [octets_len]; omega)
  have c0 := hc 0 (by rw [octets_len]; omega)
  have c1 := hc 1 (by rw [octets_len]; omega)
  rw [octets_at (by omega)] at c0 c1
  rw [Nat.add_zero] at c0
  have s0 := hs.at 0
  have s1 := hs.at 1
  obtain ⟨n, hn⟩ : ∃ n, num bs = n := ⟨_, rfl⟩
  obtain ⟨o, ho⟩ : ∃ o, byt bs 1 = o := ⟨_, rfl⟩
  have hn' : byt bs 0 = n := hn
  rw [hn'] at c0 s0
  rw [ho] at c1 s1
  have hl1 : ¬ ((bs.length : Int) < 2) := by omega
  have hl2 : (0 : Int) < (bs.length : Int) := by omega
  have hl3 : (1 : Int) < (bs.length : Int) := by omega
  by_cases h2 : n = 0 ∨ 16 < n ∨ o ≠ 0
  · have he : errE bs = 4 := by unfold errE; rw [if_neg h1, hn, ho, if_pos h2]
    have fin : ∀ w, Below W.heap.size W w → EndsRes bs W (.returned (.tuple #[.slice none 0 0, .int .i64 4])) w := fun w hb => ⟨.inr ⟨by omega, by rw [he]; rfl⟩, hb⟩
    have FIN := Lib.hid fin
    generalize bs.length = l at *
    clear hr hs he fin hc hn hn' ho
    have hwn : IntKind.i64.wrap (n : Int) = (n : Int) := IntWalk.i64_in _ (by omega)
    by_cases q0 : n = 0
    · subst q0
      go_enter Try.func31, Try.ntmps31
      go_wp2
      go_ret2
      exact FIN.out _ (Below.refl _ _)
    have q0' : ¬ ((n : Int) = 0) := by omega
    have b0 : ((n : Int) == 0) = false := by simp; omega
    by_cases q1 : 16 < n
    · have q1' : (16 : Int) < (n : Int) := by omega
      clear h2
      go_enter Try.func31, Try.ntmps31
      go_wp2
      go_ret2
      exact FIN.out _ (Below.refl _ _)
    · have q1' : ¬ ((16 : Int) < (n : Int)) := by omega
      have q2 : ((o : Int) != 0) = true := by simp; omega
      clear h2
      go_enter Try.func31, Try.ntmps31
      go_wp2
      go_ret2
      exact FIN.out _ (Below.refl _ _)
  have hn0 : 0 < n := by omega
  have hn16 : n ≤ 16 := by omega
  obtain rfl : o = 0 := by omega
  by_cases h3 : bs.length < 2 + 2 * n
  · have he : errE bs = 3 := by unfold errE; rw [if_neg h1, hn, ho, if_neg (by omega), if_pos h3]
    have fin : ∀ w, Below W.heap.size W w → EndsRes bs W (.returned (.tuple #[.slice none 0 0, .int .i64 3])) w := fun w hb => ⟨.inr ⟨by omega, by rw [he]; rfl⟩, hb⟩
    have FIN := Lib.hid fin
    generalize bs.length = l at *
    have hwn : IntKind.i64.wrap (n : Int) = (n : Int) := IntWalk.i64_in _ (by omega)
    have hw2 : IntKind.i64.wrap (2 * (n : Int)) = 2 * (n : Int) := IntWalk.i64_in _ (by omega)
    have hw3 : IntKind.i64.wrap (2 + 2 * (n : Int)) = 2 + 2 * (n : Int) := IntWalk.i64_in _ (by omega)
    have q3 : (l : Int) < 2 + 2 * (n : Int) := by omega
    have b0 : ((n : Int) == 0) = false := by simp; omega
    have q1' : ¬ ((16 : Int) < (n : Int)) := by omega
    clear hr hs he fin hc hn hn' ho h2
    go_enter Try.func31, Try.ntmps31
    go_wp2
    go_ret2
    exact FIN.out _ (Below.refl _ _)
  have hmk := run_make_row' (P := Try.prog) 53 3 (.int .i64 0) 8 Try.underlying53 infoI rfl .i64 .i64 n (by omega) (by omega)
  have hb : ∀ i, endAt bs i ≤ 65535 := fun i => by
    unfold endAt
    have := hs.at (2 + 2 * i)
    have := hs.at (2 + 2 * i + 1)
    omega
  have HB := Lib.hid hb
  have HR := Lib.hid hr
  have HS := Lib.hid hs
  have hsplit : errE bs = if rise (ends bs) = false then 4 else if bs.length - (2 + 2 * n) < endAt bs (n - 1) then 3 else if endAt bs (n - 1) < bs.length - (2 + 2 * n) ∨ 480 < bs.length then 4 else 0 := by
    unfold errE
    rw [if_neg h1, hn, ho, if_neg (by omega), if_neg h3]
  have HSP := Lib.hid hsplit
  have HN := Lib.hid hn
  obtain ⟨l, hl⟩ : ∃ l, bs.length = l := ⟨_, rfl⟩
  have HL := Lib.hid hl
  rw [hl] at h1 h3 hm hl1 hl2 hl3 HSP ⊢
  have hwn : IntKind.i64.wrap (n : Int) = (n : Int) := IntWalk.i64_in _ (by omega)
  have hw2 : IntKind.i64.wrap (2 * (n : Int)) = 2 * (n : Int) := IntWalk.i64_in _ (by omega)
  have hw3 : IntKind.i64.wrap (2 + 2 * (n : Int)) = 2 + 2 * (n : Int) := IntWalk.i64_in _ (by omega)
  have q3 : ¬ ((l : Int) < 2 + 2 * (n : Int)) := by omega
  have b0 : ((n : Int) == 0) = false := by simp; omega
  have q1' : ¬ ((16 : Int) < (n : Int)) := by omega
  clear hr hs hc hn hn' ho h2 hb hsplit hl hlt
  go_enter Try.func31, Try.ntmps31
  go_wp2
  obtain ⟨sb, hsb⟩ : ∃ sb, W.heap.size = sb := ⟨_, rfl⟩
  have hst : EnR bs sb n W (.int .i64 0) (W.alloc (.cells (madeCells #[.int .i64 0] n) 3)) := ⟨0, by omega, rfl, by rw [← hsb]; simpa using cnts_made W n _, (Below.refl _ _).alloc (Nat.le_refl _) _⟩
  have HST := Lib.hid hst
  have HSB := Lib.hid hsb
  rw [hsb]
  clear hst hsb
  go_loopw [39] (EnR bs sb n W) (fun i _ => n - (intOf i).toNat)
  case atStart => exact HST.out
  case round =>
    obtain ⟨k, hk, rfl, hC, hB⟩ := hrel
    by_cases hkn : k < n
    · have hp : wr.cell? ⟨sb, k, none⟩ = some (.int .i64 (((if k < k then endAt bs k else 0 : Nat)) : Int)) := hC.2.1 k hkn
      have f2 := hC.2.2 k
      have hll := Lib.hid (load_two bs (some ⟨b, off, none⟩) c k wr (HR.out.below hB) HS.out (by rw [HL.out]; omega) (by rw [HL.out]; omega))
      rw [HL.out] at hll
      have ES := Lib.hid (en_step (bs := bs) (W := W) (by rw [HSB.out]; exact Nat.le_refl _) hkn hC hB)
      have hbe := HB.out k
      obtain ⟨x, hx⟩ : ∃ x, endAt bs k = x := ⟨_, rfl⟩
      rw [hx] at hbe hll ES
      have hwx : IntKind.i64.wrap (x : Int) = (x : Int) := IntWalk.i64_in _ (by omega)
      have hw4 : IntKind.i64.wrap (2 * (k : Int)) = 2 * (k : Int) := IntWalk.i64_in _ (by omega)
      have hw5 : IntKind.i64.wrap (2 + 2 * (k : Int)) = 2 + 2 * (k : Int) := IntWalk.i64_in _ (by omega)
      have hk0' : (0 : Int) ≤ (k : Int) := by omega
      have hk1' : (k : Int) < (n : Int) := by omega
      clear hC hB hx
      go_wp2_with (go_at_call 33; refine hll.out.mono ?_; rintro e w' ⟨rfl, rfl⟩)
      go_roundw
      case rel => exact ES.out _ (by go_num)
      case measure => simp [intOf]; omega
    · obtain rfl : n = k := by omega
      have hrd : Mem.Rd wr (some ⟨sb, 0, none⟩) (ints (ends bs)) := hC.rd (by rw [ends_len]; exact HN.out) (fun j hj => by rw [ends_at (by rw [HN.out]; exact hj)]; exact (if_pos hj).symm)
      have HRD := Lib.hid hrd
      have HBW := Lib.hid hB
      have hso := Lib.hid (sorted_any (ends bs) (some ⟨sb, 0, none⟩) n wr hrd (by rw [ends_len, HN.out]; exact hn0) (by rw [ends_len, HN.out]; omega))
      rw [ends_len, HN.out] at hso
      have hlast : wr.cell? ⟨sb, n - 1, none⟩ = some (.int .i64 ((endAt bs (n - 1) : Nat) : Int)) := by
        have : wr.cell? ⟨sb, n - 1, none⟩ = some (.int .i64 (((if n - 1 < n then endAt bs (n - 1) else 0 : Nat)) : Int)) := hC.2.1 (n - 1) (by omega)
        rw [if_pos (by omega)] at this
        exact this
      clear hC hB hrd
      go_wp2_with fail
      refine hso.out.mono ?_
      rintro e w2' ⟨rfl, m, rfl⟩
      obtain ⟨w2, hw2'⟩ : ∃ w2, wr.drewN m = w2 := ⟨_, rfl⟩
      have g1 : w2.cell? ⟨sb, n - 1, none⟩ = some (.int .i64 ((endAt bs (n - 1) : Nat) : Int)) := by rw [← hw2']; exact hlast
      have G2 : RowKit.Hid (Below W.heap.size W w2) := Lib.hid (by rw [← hw2']; exact below_drewN HBW.out _)
      have G3 : RowKit.Hid (Mem.Rd w2 (some ⟨sb, 0, none⟩) (ints (ends bs))) := Lib.hid (by rw [← hw2']; exact HRD.out.drewN _)
      rw [hw2']
      clear hw2' hlast
      obtain ⟨p, rfl⟩ : ∃ p, n = p + 1 := ⟨n - 1, by omega⟩
      rw [Nat.add_sub_cancel] at g1 HSP
      obtain ⟨x, hx⟩ : ∃ x, endAt bs p = x := ⟨_, rfl⟩
      have hbe := HB.out p
      rw [hx] at g1 hbe HSP
      have hwp : IntKind.i64.wrap (((p + 1 : Nat) : Int) - 1) = (p : Int) := by rw [IntWalk.i64_in _ (by omega)]; omega
      have hwp2 : IntKind.i64.wrap ((p : Int) + 1 - 1) = (p : Int) := by rw [IntWalk.i64_in _ (by omega)]; omega
      have hp1 : (0 : Int) ≤ (p : Int) := by omega
      have hp2 : (p : Int) < (p : Int) + 1 := by omega
      have hv1 : IntKind.i64.wrap ((l : Int) - 2) = (l : Int) - 2 := IntWalk.i64_in _ (by omega)
      have hv2 : IntKind.i64.wrap ((l : Int) - 2 - 2 * ((p + 1 : Nat) : Int)) = ((l - (2 + 2 * (p + 1)) : Nat) : Int) := by rw [IntWalk.i64_in _ (by omega)]; omega
      have hv3 : IntKind.i64.wrap ((l : Int) - 2 - 2 * ((p : Int) + 1)) = ((l - (2 + 2 * (p + 1)) : Nat) : Int) := by rw [IntWalk.i64_in _ (by omega)]; omega
      obtain ⟨y, hy⟩ : ∃ y, l - (2 + 2 * (p + 1)) = y := ⟨_, rfl⟩
      rw [hy] at hv2 hv3 HSP
      clear hx
      have bad : ∀ v : Nat, v ≠ 0 → errE bs = v → EndsRes bs W (.returned (.tuple #[.slice none 0 0, .int .i64 (v : Int)])) w2 := fun v hv he => ⟨.inr ⟨by omega, by rw [he]⟩, G2.out⟩
      have BAD := Lib.hid bad
      clear bad
      cases hri : rise (ends bs) with
      | false =>
        rw [hri] at HSP
        go_wp2_with fail
        go_ret2
        exact BAD.out 4 (by decide) (by rw [HSP.out]; rfl)
      | true =>
        rw [hri] at HSP
        have hsp : errE bs = if y < x then 3 else if x < y ∨ 480 < l then 4 else 0 := by rw [HSP.out]; simp
        have HSP2 := Lib.hid hsp
        clear hsp hri
        by_cases z1 : y < x
        · have z1' : (y : Int) < (x : Int) := by omega
          go_wp2_with fail
          go_ret2
          exact BAD.out 3 (by decide) (by rw [HSP2.out, if_pos z1])
        have z1' : ¬ ((y : Int) < (x : Int)) := by omega
        by_cases z2 : x < y
        · have z2' : (x : Int) < (y : Int) := by omega
          go_wp2_with fail
          go_ret2
          exact BAD.out 4 (by decide) (by rw [HSP2.out, if_neg z1, if_pos (.inl z2)])
        have z2' : ¬ ((x : Int) < (y : Int)) := by omega
        by_cases z3 : 480 < l
        · have z3' : (480 : Int) < (l : Int) := by omega
          go_wp2_with fail
          go_ret2
          exact BAD.out 4 (by decide) (by rw [HSP2.out, if_neg z1, if_pos (.inr z3)])
        · have z3' : ¬ ((480 : Int) < (l : Int)) := by omega
          go_wp2_with fail
          go_ret2
          exact ⟨.inl ⟨by rw [HSP2.out, if_neg z1, if_neg (by omega)], _, _, by rw [HN.out]; rfl, G3.out⟩, G2.out⟩
end Rc
end Go.Proofs.Ytajkcghbdbjmaaa
