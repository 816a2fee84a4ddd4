/- Layer 19: what comes of an insertion that is done, and of deleting the same again. No program's function is spoken of. -/
import Derived.Test.YtommffcojbdldaaPfG
namespace Go.Proofs.Ytommffcojbdldaa
open Go.RowKit
namespace Pr

theorem dp_mod {t : Tab} {n a s : Nat} : dp t n (a % n) s = dp t n a s := by
  unfold dp
  rw [show a % n + 1 + s = a % n + (1 + s) by omega, Nat.mod_add_mod, show a + (1 + s) = a + 1 + s by omega]
theorem delS_mod {t : Tab} {n a m : Nat} (ht : t.length = n) (hm : m < n) : delS t n (a % n) m = delS t n a m := by
  refine tab_ext a (delS_len ht) (delS_len ht) fun i hi => ?_
  have h1 := delS_at (a := a % n) ht hm hi
  rw [delS_at ht hm hi]
  simp only [Nat.mod_add_mod] at h1
  exact h1
theorem delT_eq {t : Tab} {n a m : Nat} (hm : fst (dp t n a) n = some m) : delT t n a = delS t n a m := by
  unfold delT delM delS
  rw [hm]
  rfl
theorem has_not {t : Tab} {n id : Nat} (hl : t.length = n) (h : hasB t id = false) : ∀ i, i < n → (cl t i).1 ≠ id := fun i hi he => by
  unfold hasB at h
  rw [hl] at h
  cases hf : fst (idAt t id) n with
  | some k => rw [hf] at h; cases h
  | none =>
    have := none_of hf i hi
    unfold idAt at this
    rw [decide_eq_false_iff_not] at this
    exact this he
theorem not_has {t : Tab} {n id : Nat} (hl : t.length = n) (h : ∀ i, i < n → (cl t i).1 ≠ id) : hasB t id = false := by
  unfold hasB
  rw [hl, fst_none fun j hj => by unfold idAt; exact decide_eq_false (h j hj)]
  rfl
theorem has_of {t : Tab} {n id i : Nat} (hl : t.length = n) (hi : i < n) (h : (cl t i).1 = id) : hasB t id = true := by
  cases hb : hasB t id with
  | true => rfl
  | false => exact absurd h (has_not hl hb i hi)
/-- What holds where an insertion is done. -/
theorem ins_ok {t : Tab} {n id : Nat} {h : Int} (hl : t.length = n) (e : insE t n id h = 0) :
    id ≠ 0 ∧ rightB t = true ∧ (∀ i, i < n → (cl t i).1 ≠ id) ∧ hasB t 0 = true ∧ ∃ H k0 g : Nat, h = (H : Int) ∧ H < n ∧ fst (opF t n H) n = some k0 ∧ fst (emp t n (H + k0)) n = some g ∧ insT t n id h.toNat = insS t n (H + k0) g (id, (H : Int)) := by
  unfold insE at e
  split at e
  · rename_i h1
    exact absurd e h1
  · rename_i h1
    split at e
    · cases e
    · rename_i h2
      split at e
      · cases e
      · rename_i h3
        have h1 : begE t n id h = 0 := by omega
        have h2 : hasB t id = false := by simpa using h2
        have h3 : hasB t 0 = true := by simpa using h3
        obtain ⟨p0, p1, p2, p3, p4⟩ := beg_ok h1
        obtain ⟨H, rfl⟩ : ∃ H : Nat, h = (H : Int) := ⟨h.toNat, by omega⟩
        obtain ⟨x, hx, hxe⟩ := empty_of hl (right_known p3) h3
        obtain ⟨k0, hk0⟩ := open_of (h := H) hx hxe
        have hA : insA t n H = H + k0 := by unfold insA; rw [hk0]; rfl
        obtain ⟨g, hg⟩ := emp_of (a := H + k0) hx hxe
        have hG : insG t n H = g := by unfold insG; rw [hA, hg]; rfl
        refine ⟨p0, p3, has_not hl h2, h3, H, k0, g, rfl, by omega, hk0, hg, ?_⟩
        rw [show ((H : Int)).toNat = H by omega]
        unfold insT insS
        rw [hA, hG]
theorem begE_ok {t : Tab} {n id H : Nat} (h0 : id ≠ 0) (hh : H < n) (hr : rightB t = true) : begE t n id (H : Int) = 0 :=
  beg_d h0 (by unfold inB; exact decide_eq_true ⟨by omega, by omega⟩) hr
/-- The law of ProbeBack. -/
theorem back {t : Tab} {n id : Nat} {h : Int} (hl : t.length = n) (e : insE t n id h = 0) :
    rightB t = true ∧ (insT t n id h.toNat).length = n ∧ rightB (insT t n id h.toNat) = true ∧ delE (insT t n id h.toNat) n id h = 0 ∧
      (∀ a, fnd (insT t n id h.toNat) n id h.toNat = some a → delT (insT t n id h.toNat) n a = t) ∧ fin t n id h = none := by
  obtain ⟨h0, hr, hid, _, H, k0, g, rfl, hH, hk0, hg, hT⟩ := ins_ok hl e
  rw [hT, show ((H : Int)).toNat = H by omega]
  obtain ⟨g1, g2, g3⟩ := fst_of hg
  have hn : 0 < n := by omega
  have hlen := insS_len (a := H + k0) (g := g) (p := (id, (H : Int))) hl
  have hrx := right_ins hl hr h0 hH hid hk0 hg
  have hemp : nz (cl t ((H + k0 + g) % n)) = false := by
    unfold emp at g2
    simpa using g2
  have hc : cl (insS t n (H + k0) g (id, (H : Int))) ((H + k0) % n) = (id, (H : Int)) := by
    have := insS_at (a := H + k0) (p := (id, (H : Int))) hl g1 hn
    rwa [if_pos rfl, Nat.add_zero] at this
  have hf := fnd_of hlen hrx (Nat.mod_lt _ hn) hc h0
  refine ⟨hr, hlen, hrx, ?_, fun a ha => ?_, ?_⟩
  · exact delE_c (begE_ok h0 hH hrx) (a := (H + k0) % n) (by rw [show ((H : Int)).toNat = H by omega]; exact hf)
  · rw [hf] at ha
    injection ha with ha
    subst ha
    have hm : fst (dp (insS t n (H + k0) g (id, (H : Int))) n ((H + k0) % n)) n = some g := by
      rw [show dp (insS t n (H + k0) g (id, (H : Int))) n ((H + k0) % n) = dp (insS t n (H + k0) g (id, (H : Int))) n (H + k0) from funext fun s => dp_mod]
      exact dp_ins hl hr hg
    rw [delT_eq hm, delS_mod hlen g1]
    exact del_ins hl g1 hemp
  · unfold fin
    rw [if_pos (begE_ok h0 hH hr), show ((H : Int)).toNat = H by omega]
    cases hfn : fnd t n id H with
    | none => rfl
    | some a =>
      have h1 := of_fnd hfn
      exact absurd (by rw [h1]) (hid a (fnd_lt hfn))
end Pr
end Go.Proofs.Ytommffcojbdldaa
