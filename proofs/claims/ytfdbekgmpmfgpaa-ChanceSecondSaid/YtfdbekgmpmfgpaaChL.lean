/- Layer 18 (chance): the contract of the document's Turns. -/
import Derived.Test.YtfdbekgmpmfgpaaChK
namespace Go.Proofs.Ytfdbekgmpmfgpaa
open Go.RowKit
namespace Ch

def allv (us ov : List Bool) : Nat → Bool
  | 0 => true
  | k + 1 => allv us ov k && us.getD k false && !ov.getD k false
theorem allv_iff (us ov : List Bool) : ∀ k, allv us ov k = true ↔ ∀ j, j < k → stay us ov j = true
  | 0 => by simp [allv]
  | k + 1 => by
    show (allv us ov k && us.getD k false && !ov.getD k false) = true ↔ _
    rw [Bool.and_assoc, Bool.and_eq_true, allv_iff us ov k]
    constructor
    · rintro ⟨h1, h2⟩ j hj
      by_cases e : j = k
      · rw [e]; exact h2
      · exact h1 j (by omega)
    · exact fun h => ⟨fun j hj => h j (by omega), h k (by omega)⟩
theorem ring_has {n h i : Nat} (hh : h < n) (hi : i < n) : ∃ j, j < n ∧ (h + j) % n = i := by
  refine ⟨(i + n - h) % n, Nat.mod_lt _ (by omega), ?_⟩
  rw [Nat.add_mod_mod, show h + (i + n - h) = i + n by omega, Nat.add_mod_right, Nat.mod_eq_of_lt hi]
theorem turns_full {us ov : List Bool} {h : Nat} (ha : allv us ov us.length = true) : turns us ov h = us.length := by
  unfold turns
  rw [tw_all, ring_len]
  intro j hj
  rw [ring_len] at hj
  rw [ring_at hj]
  exact (allv_iff us ov _).1 ha _ (Nat.mod_lt _ (by omega))
theorem tw_lt {p : Nat → Bool} : ∀ (l : List Nat) (j : Nat), j < (l.takeWhile p).length → p (l.getD j 0) = true := by
  intro l
  induction l with
  | nil => intro j h; simp at h
  | cons x l ih =>
    intro j h
    rw [List.takeWhile_cons] at h
    split at h
    · rename_i hx
      cases j with
      | zero => simpa using hx
      | succ j => simpa using ih j (by simpa using h)
    · simp at h
theorem turns_part {us ov : List Bool} {h : Nat} (hh : h < us.length) (ha : allv us ov us.length = false) : turns us ov h < us.length := by
  rcases Nat.lt_or_ge (turns us ov h) us.length with hlt | hge
  · exact hlt
  · exfalso
    have : allv us ov us.length = true := by
      rw [allv_iff]
      intro i hi
      obtain ⟨j, hj, rfl⟩ := ring_has hh hi
      rw [← ring_at hj]
      exact tw_lt (p := stay us ov) _ j (by unfold turns at hge; omega)
    rw [ha] at this
    cases this
/-- What the document says of the turns where one does not stay. -/
theorem turns_mod {us ov : List Bool} {h : Nat} (hh : h < us.length) (ht : turns us ov h < us.length) : ((nextOrder us ov h).getD 0 0 + us.length - h) % us.length = turns us ov h := by
  have e : (nextOrder us ov h).getD 0 0 = (h + turns us ov h) % us.length := by
    unfold nextOrder
    rw [List.getD_eq_getElem?_getD, List.getElem?_append_left (by rw [List.length_drop, ring_len]; omega), List.getElem?_drop, Nat.add_zero, ← List.getD_eq_getElem?_getD, ring_at ht]
  rw [e]
  generalize turns us ov h = t at *
  generalize us.length = n at *
  rcases Nat.lt_or_ge (h + t) n with hlt | hge
  · rw [Nat.mod_eq_of_lt hlt, show h + t + n - h = t + n by omega, Nat.add_mod_right, Nat.mod_eq_of_lt ht]
  · rw [Nat.mod_eq_sub_mod hge, Nat.mod_eq_of_lt (show h + t - n < n by omega), show h + t - n + n - h = t by omega, Nat.mod_eq_of_lt ht]
theorem next_lt {us ov : List Bool} {h : Nat} (hh : h < us.length) : (nextOrder us ov h).getD 0 0 < us.length := by
  have hl : 0 < (nextOrder us ov h).length := by
    unfold nextOrder
    rw [List.length_append, List.length_drop, List.length_take, ring_len]
    have := turns_le us ov h
    omega
  have hm : (nextOrder us ov h).getD 0 0 ∈ ring us.length h := by
    have h1 : (nextOrder us ov h).getD 0 0 ∈ nextOrder us ov h := by
      rw [List.getD_eq_getElem?_getD, List.getElem?_eq_getElem hl]
      exact List.getElem_mem _
    unfold nextOrder at h1 ⊢
    rcases List.mem_append.1 h1 with h2 | h2
    · exact List.mem_of_mem_drop h2
    · exact List.mem_of_mem_take h2
  exact ring_lt _ hm
/-- The relation of the loop of the document's Turns. -/
def TuR (us ov : List Bool) (W : World) (b i : Value) (w : World) : Prop := ∃ k : Nat, k ≤ us.length ∧ b = .bool (allv us ov k) ∧ i = .int .i64 k ∧ W = w
set_option maxHeartbeats 3200000 in
theorem refturns_any (us ov : List Bool) (A : Option Addr) (c : Nat) (Ao : Option Addr) (co : Nat) (h : Nat) (W : World) (hr : Mem.Rd W A (bools us)) (ho : Mem.Rd W Ao (bools ov)) (hl : us.length = ov.length) (hm : us.length ≤ 1000) (hh : h < us.length) :
    Calls Try.prog 18 #[.slice A us.length c, .slice Ao ov.length co, .int .i64 (h : Int)] W fun e w' => e = .returned (.int .i64 (turns us ov h : Nat)) ∧ Below W.heap.size W w' := by
  have HC := Lib.hid (refnext_any us ov A c Ao co h W hr ho hl hm hh)
  obtain ⟨b0, o0, rfl, hb0, _⟩ := ho (by rw [bools_len]; omega)
  obtain ⟨b1, o1, rfl, hb1, _⟩ := hr (by rw [bools_len]; omega)
  have HO := Lib.hid ho
  have HR := Lib.hid hr
  have HL := Lib.hid hl
  have HF := Lib.hid (fun ha => turns_full (us := us) (ov := ov) (h := h) ha)
  have HP := Lib.hid (fun ha => turns_part (us := us) (ov := ov) (h := h) hh ha)
  have HM := Lib.hid (fun ht => turns_mod (us := us) (ov := ov) (h := h) hh ht)
  have hx := next_lt (us := us) (ov := ov) hh
  obtain ⟨x, hxe⟩ : ∃ x, (nextOrder us ov h).getD 0 0 = x := ⟨_, rfl⟩
  have HX := Lib.hid hxe
  obtain ⟨n, hn⟩ : ∃ n, us.length = n := ⟨_, rfl⟩
  have HN := Lib.hid hn
  rw [hxe] at hx
  rw [← hl] at HC ⊢
  rw [hn] at hh hm hx HC ⊢
  clear hr ho hl hn hxe
  go_enter Try.func18, Try.ntmps18
  go_wp2_with fail
  refine HC.out.mono ?_
  rintro e w1 ⟨U, uc, rfl, _, _, hb⟩
  rw [HX.out, HN.out]
  go_wp2_with fail
  go_loopw [10, 11] (TuR us ov w1) (fun _ i _ => n - (intOf i).toNat)
  case atStart => exact ⟨0, by omega, rfl, rfl, rfl⟩
  case round =>
    obtain ⟨k, hk, rfl, rfl, rfl⟩ := hrel
    rw [HN.out] at hk
    obtain ⟨av, hav⟩ : ∃ av, allv us ov k = av := ⟨_, rfl⟩
    have HAV := Lib.hid hav
    rw [hav]
    clear hav
    by_cases hlt : k < n
    · obtain ⟨b2, o2, e1, hbl, hc⟩ := (HO.out.below hb) (by rw [bools_len, ← HL.out, HN.out]; omega)
      injection e1 with e1
      injection e1 with e1 e2 _
      subst e1 e2
      have c2 := hc k (by rw [bools_len, ← HL.out, HN.out]; omega)
      rw [bools_at (by rw [← HL.out, HN.out]; omega)] at c2
      obtain ⟨b3, o3, e3, hbl3, hc3⟩ := (HR.out.below hb) (by rw [bools_len, HN.out]; omega)
      injection e3 with e3
      injection e3 with e3 e4 _
      subst e3 e4
      have c1 := hc3 k (by rw [bools_len, HN.out]; omega)
      rw [bools_at (by rw [HN.out]; omega)] at c1
      have hnext : allv us ov (k + 1) = (av && us.getD k false && !ov.getD k false) := by rw [← HAV.out]; rfl
      have hk0 : (0 : Int) ≤ (k : Int) := by omega
      have hk1 : (k : Int) < (n : Int) := by omega
      clear hc hc3
      obtain ⟨y1, hy1⟩ : ∃ y1, us.getD k false = y1 := ⟨_, rfl⟩
      obtain ⟨y2, hy2⟩ : ∃ y2, ov.getD k false = y2 := ⟨_, rfl⟩
      rw [hy1] at c1 hnext
      rw [hy2] at c2 hnext
      have HNX := Lib.hid hnext
      clear hnext hy1 hy2
      cases av <;> cases y1 <;> cases y2
      all_goals
        go_wp2_with fail
        go_roundw
        case rel => exact ⟨k + 1, by rw [HN.out]; omega, by rw [HNX.out]; rfl, by go_num, rfl⟩
        case measure => simp [intOf]; omega
    · obtain rfl : n = k := by omega
      cases av with
      | true =>
        go_wp2_with fail
        go_ret
        refine ⟨Mem.ret_int ?_, hb⟩
        rw [HF.out (by rw [HN.out]; exact HAV.out), HN.out]
      | false =>
        have ht := HP.out (by rw [HN.out]; exact HAV.out)
        have hmo := HM.out ht
        rw [HX.out, HN.out] at hmo
        obtain ⟨t, hte⟩ : ∃ t, turns us ov h = t := ⟨_, rfl⟩
        rw [hte] at hmo
        have HTE := Lib.hid hte
        have hw1 : IntKind.i64.wrap ((x : Int) - (h : Int)) = (x : Int) - (h : Int) := IntWalk.i64_in _ (by omega)
        have hw2 : IntKind.i64.wrap ((x : Int) - (h : Int) + (n : Int)) = (x : Int) - (h : Int) + (n : Int) := IntWalk.i64_in _ (by omega)
        have hmo2 : ((x : Int) - (h : Int) + (n : Int)) % (n : Int) = (t : Int) := by
          rw [show (x : Int) - (h : Int) + (n : Int) = ((x + n - h : Nat) : Int) by omega, ← hmo]
          norm_cast
        have hmo3 : ((x : Int) - (h : Int) + (n : Int)).tmod (n : Int) = (t : Int) := by rw [Int.tmod_eq_emod_of_nonneg (by omega)]; exact hmo2
        have hnn : ¬ (n = 0) := by omega
        have hnn2 : ¬ ((n : Int) = 0) := by omega
        clear ht hte hmo
        go_wp2_with fail
        go_ret
        exact ⟨Mem.ret_int (by rw [HTE.out]), hb⟩
end Ch
end Go.Proofs.Ytfdbekgmpmfgpaa
