/- Layer 1 (num): bytes turned into a string; Same; what must come at any rate (the law's own loads). Condition: the slices' cells are these bytes. -/
import Derived.Test.YtijfhgbddkcglaaNumG
namespace Go.Proofs.Ytijfhgbddkcglaa
open Go.RowKit
namespace Num

/-- A list of bytes as a string. -/
def strOf (l : List Int) : ByteArray := l.foldl (fun r n => r.push (UInt8.ofNat n.toNat)) ByteArray.empty
theorem strOf_data (l : List Int) (s : ByteArray) : (l.foldl (fun r n => r.push (UInt8.ofNat n.toNat)) s).data.toList = s.data.toList ++ l.map (fun n => UInt8.ofNat n.toNat) := by
  induction l generalizing s with
  | nil => simp
  | cons x l ih => rw [List.foldl_cons, ih]; simp
theorem strOf_toList (l : List Int) : (strOf l).data.toList = l.map (fun n => UInt8.ofNat n.toNat) := by
  unfold strOf
  rw [strOf_data]
  rfl
theorem u8_inj {a b : Int} (ha : 0 ≤ a ∧ a ≤ 255) (hb : 0 ≤ b ∧ b ≤ 255) (h : UInt8.ofNat a.toNat = UInt8.ofNat b.toNat) : a = b := by
  have h1 := congrArg UInt8.toNat h
  rw [UInt8.toNat_ofNat', UInt8.toNat_ofNat', Nat.mod_eq_of_lt (by omega), Nat.mod_eq_of_lt (by omega)] at h1
  omega
theorem strOf_inj {l m : List Int} (hl : ∀ x ∈ l, 0 ≤ x ∧ x ≤ 255) (hm : ∀ x ∈ m, 0 ≤ x ∧ x ≤ 255) (h : strOf l = strOf m) : l = m := by
  have h1 : l.map (fun n => UInt8.ofNat n.toNat) = m.map (fun n => UInt8.ofNat n.toNat) := by rw [← strOf_toList, ← strOf_toList, h]
  clear h
  induction l generalizing m with
  | nil =>
    cases m with
    | nil => rfl
    | cons y m => simp at h1
  | cons x l ih =>
    cases m with
    | nil => simp at h1
    | cons y m =>
      simp only [List.map_cons, List.cons.injEq] at h1
      have e := u8_inj (hl x (by simp)) (hm y (by simp)) h1.1
      have e2 := ih (fun z hz => hl z (by simp [hz])) (fun z hz => hm z (by simp [hz])) h1.2
      rw [e, e2]

/-- string(b), of bytes in memory. -/
theorem conv_run {W : World} {A : Option Addr} {l : List Int} (cap : Nat) (hb : Bytes W A l) : (convert 22 9 (.slice A l.length cap)).run Try.prog W = .ok (.string (strOf l)) W := by
  rw [run_convert_bytes_string W 22 9 5 A l.length cap Try.underlying22 Try.underlying5 Try.underlying9]
  cases A with
  | none =>
    have h0 : l = [] := by
      cases l with
      | nil => rfl
      | cons x l =>
        obtain ⟨b, off, h, _⟩ := hb.2 (by simp)
        cases h
    subst h0
    rfl
  | some ad =>
    refine run_bytesToString W ad l.length cap l ?_
    have := run_loadCells_list (P := Try.prog) (w := W) ad (l.map (Value.int .u8)) (by
      intro j u hu
      rw [List.getElem?_map] at hu
      obtain ⟨x, hx, rfl⟩ := Option.map_eq_some_iff.1 hu
      have hj : j < l.length := (List.getElem?_eq_some_iff.1 hx).1
      obtain ⟨b, off, h, _, hc⟩ := hb.2 (by omega)
      injection h with h
      subst h
      have h2 := hc j hj
      rw [List.getD_eq_getElem?_getD, hx] at h2
      have e : (⟨b, off, none⟩ : Addr).add j = ⟨b, off + j, none⟩ := by unfold Addr.add; by_cases h0 : j = 0 <;> simp [h0]
      rw [e]
      exact h2)
    rw [List.length_map] at this
    exact this
theorem same_eq (A B : Option Addr) (l : List Int) (c d : Nat) (W : World) (ha : Bytes W A l) (hb : Bytes W B l) :
    Calls Try.prog 13 #[.slice A l.length c, .slice B l.length d] W fun e W' => e = .returned (.bool true) ∧ W = W' := by
  have h1 := conv_run c ha
  have h2 := conv_run d hb
  go_enter Try.func13, Try.ntmps13
  go_wp2
  go_ret
  exact ⟨ret_bool (by simp), rfl⟩

/-- What Store answers, its slice written out. -/
def SB (x : Int) (l : List Int) (W : World) (e : Ending) (W' : World) : Prop :=
  ∃ A cap, e = .returned (.tuple #[.slice A l.length cap, .int .i64 x]) ∧ Bytes W' A l ∧ Below W.heap.size W W'
theorem SRes.sb {x : Int} {l : List Int} {W W' : World} {e : Ending} (h : SRes x l W e W') (hl : ∀ x ∈ l, 0 ≤ x ∧ x ≤ 255) : SB x l W e W' := by
  obtain ⟨v, rfl, hown, hb⟩ := h
  rcases hown.2 with ⟨rfl, h0⟩ | ⟨g, cap, cur, rfl, _⟩
  · have : l = [] := List.eq_nil_of_length_eq_zero h0
    subst this
    exact ⟨none, 0, rfl, ⟨hl, fun h => absurd h (by simp)⟩, hb⟩
  · exact ⟨_, cap, rfl, Bytes.of_own hown hl, hb⟩
theorem stL_bytes {W : World} {A : Option Addr} {l : List Int} (hb : Bytes W A l) (a w v : Int) : ∀ x ∈ stL l a w v, 0 ≤ x ∧ x ≤ 255 := by
  unfold stL
  split
  · exact st_bytes _ _ _ _ hb.getD
  · intro x hx
    cases hx
theorem store_sb (A : Option Addr) (l : List Int) (cap : Nat) (a w v : Int) (W : World) (hl : l.length ≤ 1099511627776) (ha : a ≤ 9223372036854775807) (hv0 : 0 ≤ v) (hv1 : v ≤ 18446744073709551615) (hb : Bytes W A l) :
    Calls Try.prog 11 #[.slice A l.length cap, .int .i64 a, .int .i64 w, .int .u64 v] W (SB (stE l.length a w v) (stL l a w v) W) :=
  (store_any A l cap a w v W hl ha hv0 hv1 hb).mono fun _ _ h => h.sb (stL_bytes hb a w v)
theorem rstore_sb (A : Option Addr) (l : List Int) (cap : Nat) (a w v : Int) (W : World) (hl : l.length ≤ 1099511627776) (ha : a ≤ 9223372036854775807) (hv0 : 0 ≤ v) (hv1 : v ≤ 18446744073709551615) (hb : Bytes W A l) :
    Calls Try.prog 12 #[.slice A l.length cap, .int .i64 a, .int .i64 w, .int .u64 v] W (SB (stE l.length a w v) (stL l a w v) W) :=
  (rstore_any A l cap a w v W hl ha hv0 hv1 hb).mono fun _ _ h => h.sb (stL_bytes hb a w v)

theorem bytes4 (W : World) (t : TypeId) : Bytes (W.alloc (.cells #[.int .u8 0, .int .u8 0, .int .u8 0, .int .u8 0] t)) (some ⟨W.heap.size, 0, none⟩) [0, 0, 0, 0] := by
  refine ⟨by decide, fun _ => ⟨_, 0, rfl, by simp, fun i hi => ?_⟩⟩
  have hi' : i < 4 := hi
  have : i = 0 ∨ i = 1 ∨ i = 2 ∨ i = 3 := by omega
  rcases this with rfl | rfl | rfl | rfl <;> simp [World.cell?_alloc_new]
set_option maxHeartbeats 800000 in
theorem loads_true (W : World) : Calls Try.prog 8 #[] W fun e W' => e = .returned (.bool true) ∧ Below W.heap.size W W' := by
  have hmk : ∀ w, (Instr.makeSlice 22 (.int .i64 4) (.int .i64 4)).run Try.prog w = .ok (.slice (some ⟨w.heap.size, 0, none⟩) 4 4) (w.alloc (.cells #[.int .u8 0, .int .u8 0, .int .u8 0, .int .u8 0] 5)) := fun _ => by kernel_rfl
  go_enter Try.func8, Try.ntmps8
  go_wp2_with fail
  refine (store_sb _ [0, 0, 0, 0] 4 2 2 258 _ (by decide) (by decide) (by decide) (by decide) (bytes4 W _)).mono ?_
  rintro e w1 ⟨A1, c1, rfl, hby1, hb1⟩
  have hbw : Below W.heap.size W w1 := ((Below.refl _ _).alloc (Nat.le_refl _) _).trans (hb1.mono (by simp))
  clear hb1
  rw [show stL [0, 0, 0, 0] 2 2 258 = [0, 0, 2, 1] from by decide] at hby1 ⊢
  rw [show stE ([0, 0, 0, 0] : List Int).length 2 2 258 = 0 from by decide]
  go_wp2_with fail
  refine (load_any A1 [0, 0, 2, 1] c1 2 2 _ (by decide) (by decide) hby1).mono ?_
  rintro e w2 ⟨rfl, rfl⟩
  rw [show ldV [0, 0, 2, 1] 2 2 = 258 from by decide, show plE ([0, 0, 2, 1] : List Int).length 2 2 = 0 from by decide]
  go_wp2_with fail
  refine (load_any A1 [0, 0, 2, 1] c1 1 2 _ (by decide) (by decide) hby1).mono ?_
  rintro e w2 ⟨rfl, rfl⟩
  rw [show ldV [0, 0, 2, 1] 1 2 = 0 from by decide, show plE ([0, 0, 2, 1] : List Int).length 1 2 = 9 from by decide]
  go_wp2_with fail
  refine (store_sb A1 [0, 0, 2, 1] c1 0 1 256 _ (by decide) (by decide) (by decide) (by decide) hby1).mono ?_
  rintro e w2 ⟨A2, c2, rfl, -, hb2⟩
  rw [show stE ([0, 0, 2, 1] : List Int).length 0 1 256 = 2 from by decide]
  have hbw2 : Below W.heap.size W w2 := hbw.trans (hb2.mono hbw.size)
  have hcv : (convert 22 9 (.slice A1 4 c1)).run Try.prog w2 = .ok (.string (strOf [0, 0, 2, 1])) w2 := conv_run c1 (hby1.below hb2)
  rw [show strOf [0, 0, 2, 1] = ⟨#[0, 0, 2, 1]⟩ from by decide] at hcv
  go_wp2_with (first
    | (go_at_call 16; refine (round_any 33 16 _).mono ?_; rw [show rd 33 16 = 48 from by decide]; rintro e w' ⟨rfl, rfl⟩)
    | (go_at_call 18; refine (halves_any 5 (by decide) _).mono ?_; rw [show hvI 5 = 3 from by decide]; rintro e w' ⟨rfl, rfl⟩)
    | (go_at_call 14; refine (fits_any 255 1 (by decide) (by decide) _).mono ?_; rw [show fitB (isW 1) 255 1 = true from by decide]; rintro e w' ⟨rfl, rfl⟩))
  go_ret
  exact ⟨rfl, hbw2⟩
end Num
end Go.Proofs.Ytijfhgbddkcglaa
