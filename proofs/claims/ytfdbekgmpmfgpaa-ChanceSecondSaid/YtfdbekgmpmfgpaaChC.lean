/- Layer 18 (chance): the contracts of the closure, of slices.IndexFunc over it, and of passed. -/
import Derived.Test.YtfdbekgmpmfgpaaChB
namespace Go.Proofs.Ytfdbekgmpmfgpaa
open Go.RowKit
namespace Ch

theorem tw_len {p : Nat → Bool} : ∀ (l : List Nat) (k : Nat), k < l.length → (∀ j, j < k → p (l.getD j 0) = true) → p (l.getD k 0) = false → (l.takeWhile p).length = k := by
  intro l
  induction l with
  | nil => intro k h; simp at h
  | cons x l ih =>
    intro k hk ht hf
    cases k with
    | zero =>
      have : p x = false := by simpa using hf
      rw [List.takeWhile_cons, this]
      rfl
    | succ k =>
      have hx : p x = true := by simpa using ht 0 (by omega)
      rw [List.takeWhile_cons, hx]
      have := ih k (by simpa using hk) (fun j hj => by simpa using ht (j + 1) (by omega)) (by simpa using hf)
      simp [this]
theorem tw_all {p : Nat → Bool} : ∀ (l : List Nat), (∀ j, j < l.length → p (l.getD j 0) = true) → (l.takeWhile p).length = l.length := by
  intro l
  induction l with
  | nil => intro _; rfl
  | cons x l ih =>
    intro ht
    have hx : p x = true := by simpa using ht 0 (by simp)
    rw [List.takeWhile_cons, hx]
    have := ih (fun j hj => by simpa using ht (j + 1) (by simpa using hj))
    simp [this]
theorem ints_at {l : List Nat} {k : Nat} (h : k < l.length) : (ints l)[k]? = some (.int .i64 ((l.getD k 0 : Nat) : Int)) := by
  unfold ints
  rw [List.getElem?_map, List.getElem?_eq_getElem h, List.getD_eq_getElem?_getD, List.getElem?_eq_getElem h]
  rfl
abbrev meth (p : Nat) : Value := .func (.func 23) #[.pointer (some ⟨p, 0, none⟩)] #[]
set_option maxHeartbeats 800000 in
theorem neg_any (p ub : Nat) (who : List Nat) (us ov : List Bool) (Ao : Option Addr) (co i : Nat) (q : Addr) (w : World) (h : Wheel p ub who us (.slice Ao ov.length co) w) (ho : Mem.Rd w Ao (bools ov)) (hl : us.length = ov.length) (hi : i < us.length) (hm : us.length ≤ 1000)
    (hq : w.cell? q = some (meth p)) :
    Calls Try.prog 27 #[.int .i64 (i : Int), .pointer (some q)] w fun e w' => e = .returned (.bool (!stay us ov i)) ∧ w = w' := by
  have H := stays_any p ub who us ov Ao co i w h ho hl hi hm
  clear h ho hl hi hm
  go_enter Try.func27, Try.ntmps27
  go_wp2_with (go_at_call 23; refine H.mono ?_; rintro e w1 ⟨rfl, rfl⟩)
  go_ret
  exact ⟨rfl, rfl⟩
def idxv (m n : Nat) : Int := if m < n then (m : Int) else -1
theorem idxv_lt {m n : Nat} (h : m < n) : idxv m n = m := if_pos h
theorem idxv_ge {m n : Nat} (h : ¬ m < n) : idxv m n = -1 := if_neg h
/-- The relation of IndexFunc's loop. -/
def IdxR (who : List Nat) (f : Nat → Bool) (W : World) (i : Value) (w : World) : Prop := ∃ k : Nat, k ≤ who.length ∧ i = .int .i64 k ∧ W = w ∧ ∀ j, j < k → f (who.getD j 0) = true
set_option maxHeartbeats 1600000 in
theorem idx_any (p ub : Nat) (who : List Nat) (us ov : List Bool) (Ao : Option Addr) (co : Nat) (q : Addr) (A : Option Addr) (c : Nat) (w : World) (h : Wheel p ub who us (.slice Ao ov.length co) w) (ho : Mem.Rd w Ao (bools ov)) (hl : us.length = ov.length) (hm : us.length ≤ 1000)
    (hwho : ∀ i ∈ who, i < us.length) (hwl : who.length ≤ 1000) (hA : Mem.Rd w A (ints who)) (hq : w.cell? q = some (meth p)) :
    Calls Try.prog 26 #[.slice A who.length c, .func (.func 27) #[] #[.pointer (some q)]] w fun e w' =>
      e = .returned (.int .i64 (idxv (who.takeWhile (stay us ov)).length who.length)) ∧ w = w' := by
  obtain ⟨n, hn⟩ : ∃ n, who.length = n := ⟨_, rfl⟩
  have HH := Lib.hid h
  have HO := Lib.hid ho
  have HL := Lib.hid hl
  have HM := Lib.hid hm
  have HW := Lib.hid hwho
  have HA := Lib.hid hA
  have HQ := Lib.hid hq
  have HN := Lib.hid hn
  rw [hn] at hwl ⊢
  clear h ho hl hm hwho hA hq hn
  go_enter Try.func26, Try.ntmps26
  go_wp2
  go_loopw [8] (IdxR who (stay us ov) w) (fun i _ => n - (intOf i).toNat)
  case atStart => exact ⟨0, by omega, rfl, rfl, fun j hj => absurd hj (by omega)⟩
  case round =>
    obtain ⟨k, hk, rfl, rfl, hall⟩ := hrel
    rw [HN.out] at hk
    have HALL := Lib.hid hall
    clear hall
    by_cases hlt : k < n
    · obtain ⟨b, off, rfl, hb, hc⟩ := HA.out (by rw [ints_len, HN.out]; omega)
      have c1 := hc k (by rw [ints_len, HN.out]; omega)
      rw [ints_at (by rw [HN.out]; omega)] at c1
      have hxi : who.getD k 0 < us.length := HW.out _ (by
        rw [List.getD_eq_getElem?_getD, List.getElem?_eq_getElem (by rw [HN.out]; omega)]
        exact List.getElem_mem _)
      obtain ⟨x, hx⟩ : ∃ x, who.getD k 0 = x := ⟨_, rfl⟩
      rw [hx] at c1 hxi
      have HX := Lib.hid hx
      have HC := Lib.hid (neg_any p ub who us ov Ao co x q w HH.out HO.out HL.out hxi HM.out HQ.out)
      have hk0 : (0 : Int) ≤ (k : Int) := by omega
      have hk1 : (k : Int) < (n : Int) := by omega
      clear hc hx hxi
      cases hs : stay us ov x with
      | true =>
        have HS := Lib.hid hs
        clear hs
        go_wp2_with (go_at_call 27; refine HC.out.mono ?_; rw [HS.out]; rintro e w1 ⟨rfl, rfl⟩)
        go_roundw
        case rel =>
          refine ⟨k + 1, by rw [HN.out]; omega, by go_num, rfl, fun j hj => ?_⟩
          by_cases e : j = k
          · rw [e, HX.out]; exact HS.out
          · exact HALL.out j (by omega)
        case measure => simp [intOf]; omega
      | false =>
        have HS := Lib.hid hs
        clear hs
        go_wp2_with (go_at_call 27; refine HC.out.mono ?_; rw [HS.out]; rintro e w1 ⟨rfl, rfl⟩)
        go_ret
        have K := tw_len (p := stay us ov) who k (by rw [HN.out]; omega) HALL.out (by rw [HX.out]; exact HS.out)
        refine ⟨Mem.ret_int ?_, rfl⟩
        rw [K, idxv_lt hlt]
    · obtain rfl : k = n := by omega
      go_wp2
      go_ret
      have K := tw_all (p := stay us ov) who (by rw [HN.out]; exact HALL.out)
      refine ⟨Mem.ret_int ?_, rfl⟩
      rw [K, HN.out, idxv_ge (by omega)]
set_option maxHeartbeats 1600000 in
theorem passed_any (p ub : Nat) (who : List Nat) (us ov : List Bool) (Ao : Option Addr) (co : Nat) (w : World) (h : Wheel p ub who us (.slice Ao ov.length co) w) (ho : Mem.Rd w Ao (bools ov)) (hl : us.length = ov.length) (hm : us.length ≤ 1000)
    (hwho : ∀ i ∈ who, i < us.length) (hwl : who.length ≤ 1000) :
    Calls Try.prog 22 #[.pointer (some ⟨p, 0, none⟩), meth p] w fun e w' => e = .returned (.int .i64 ((who.takeWhile (stay us ov)).length : Int)) ∧ Below w.heap.size w w' := by
  have hB : Below w.heap.size w (w.alloc (.cells #[meth p] 51)) := (Below.refl _ _).alloc (Nat.le_refl _) _
  have h' := h.below hB
  have ho' := ho.below hB
  have HH := Lib.hid h'
  obtain ⟨A, c, uc, h1, h2, h3, h4, h5, h6, h7, h8⟩ := h'
  have c0 : (w.alloc (.cells #[meth p] 51)).cell? ⟨p, 0, none⟩ = some (.slice A who.length c) := by unfold World.cell?; rw [h1]; rfl
  have hq : (w.alloc (.cells #[meth p] 51)).cell? ⟨w.heap.size, 0, none⟩ = some (meth p) := by simp [World.cell?_alloc_new]
  have HI := Lib.hid (idx_any p ub who us ov Ao co ⟨w.heap.size, 0, none⟩ A c _ HH.out ho' hl hm hwho hwl h6 hq)
  have hle : (who.takeWhile (stay us ov)).length ≤ who.length := by
    exact List.IsPrefix.length_le (List.takeWhile_prefix _)
  obtain ⟨k, hk⟩ : ∃ k, (who.takeWhile (stay us ov)).length = k := ⟨_, rfl⟩
  obtain ⟨n, hn⟩ : ∃ n, who.length = n := ⟨_, rfl⟩
  rw [hk, hn] at hle HI
  rw [hk]
  rw [hn] at c0
  clear h ho hl hm hwho hwl h1 h2 h3 h4 h5 h6 h7 h8 ho' hk hn HH
  by_cases hlt : k < n
  · rw [idxv_lt hlt] at HI
    have hk0 : (0 : Int) ≤ (k : Int) := by omega
    go_enter Try.func22, Try.ntmps22
    go_wp2_with (go_at_call 26; refine HI.out.mono ?_; rintro e w1 ⟨rfl, rfl⟩)
    go_ret
    exact ⟨rfl, hB⟩
  · rw [idxv_ge hlt] at HI
    obtain rfl : k = n := by omega
    go_enter Try.func22, Try.ntmps22
    go_wp2_with (go_at_call 26; refine HI.out.mono ?_; rintro e w1 ⟨rfl, rfl⟩)
    go_ret
    exact ⟨rfl, hB⟩
end Ch
end Go.Proofs.Ytfdbekgmpmfgpaa
