/- Layer 7 (spans): the contract of Cut. -/
import Derived.Test.YtajkcghbdbjmaaaRcG
namespace Go.Proofs.Ytajkcghbdbjmaaa
open Go.RowKit
namespace Sp

abbrev spanv (a l : Int) : Value := .agg #[.int .i64 a, .int .i64 l]
def fits (n : Nat) (a l : Int) : Bool := decide (0 ≤ a ∧ 0 ≤ l ∧ a ≤ (n : Int) ∧ l ≤ (n : Int) - a)
/-- What Cut answers. -/
def CutRes (n : Nat) (A : Option Addr) (a l : Int) (W : World) (e : Ending) (w : World) : Prop :=
  ((fits n a l = false ∧ e = .returned (.tuple #[.slice none 0 0, .int .i64 6])) ∨
    (fits n a l = true ∧ ∃ A', e = .returned (.tuple #[.slice A' l.toNat l.toNat, .int .i64 0]) ∧ (0 < l → A' = A.map (·.add a.toNat)) ∧ (A = none → A' = none))) ∧ Below W.heap.size W w
set_option maxHeartbeats 3200000 in
theorem cut_any (n c : Nat) (A : Option Addr) (a l : Int) (W : World) (hA : A = none → n = 0 ∧ c = 0) (hs : 0 < n → ∀ x, A = some x → x.spot = none) (hnc : n ≤ c) (hm : c ≤ 9223372036854775807) (ha : a ≤ 9223372036854775807) (ha2 : -9223372036854775808 ≤ a) (hl2 : -9223372036854775808 ≤ l) (hl : l ≤ 9223372036854775807) :
    Calls Try.prog 11 #[.slice A n c, spanv a l] W (CutRes n A a l W) := by
  have hB : Below W.heap.size W (W.alloc (.cells #[.int .i64 a, .int .i64 l] 31)) := (Below.refl _ _).alloc (Nat.le_refl _) _
  have HB := Lib.hid hB
  have c1 : (W.alloc (.cells #[.int .i64 a, .int .i64 l] 31)).cell? ⟨W.heap.size, 0, none⟩ = some (.int .i64 a) := by simp [World.cell?_alloc_new]
  have c2 : (W.alloc (.cells #[.int .i64 a, .int .i64 l] 31)).cell? ⟨W.heap.size, 1, none⟩ = some (.int .i64 l) := by simp [World.cell?_alloc_new]
  have bad : fits n a l = false → ∀ w, Below W.heap.size W w → CutRes n A a l W (.returned (.tuple #[.slice none 0 0, .int .i64 6])) w := fun h w hb => ⟨.inl ⟨h, rfl⟩, hb⟩
  have BAD := Lib.hid bad
  clear hB bad
  by_cases hz : a = 0 ∧ l = 0
  · obtain ⟨rfl, rfl⟩ := hz
    have hf : fits n 0 0 = true := by simp [fits]
    have HF := Lib.hid hf
    have HA := Lib.hid hA
    clear hA hs hf
    go_enter Try.func11, Try.ntmps11
    go_wp2_with fail
    go_ret2
    exact ⟨.inr ⟨HF.out, A, rfl, fun h => absurd h (by decide), fun h => h⟩, HB.out⟩
  have hq : ((a == 0) && (l == 0)) = false := by
    rw [Bool.and_eq_false_iff]
    by_cases h : a = 0
    · exact .inr (by simp; omega)
    · exact .inl (by simpa using h)
  have HZ := Lib.hid hz
  clear hz
  by_cases h1 : a < 0
  · have HF := Lib.hid (show fits n a l = false by simp [fits]; omega)
    clear hA hs
    go_enter Try.func11, Try.ntmps11
    go_wp2_with fail
    go_ret2
    exact BAD.out HF.out _ HB.out
  have h1' : 0 ≤ a := by omega
  by_cases h2 : l < 0
  · have HF := Lib.hid (show fits n a l = false by simp [fits]; omega)
    clear hA hs
    go_enter Try.func11, Try.ntmps11
    go_wp2_with fail
    go_ret2
    exact BAD.out HF.out _ HB.out
  have h2' : 0 ≤ l := by omega
  by_cases h3 : (n : Int) < a
  · have HF := Lib.hid (show fits n a l = false by simp [fits]; omega)
    clear hA hs
    go_enter Try.func11, Try.ntmps11
    go_wp2_with fail
    go_ret2
    exact BAD.out HF.out _ HB.out
  have hw1 : IntKind.i64.wrap ((n : Int) - a) = (n : Int) - a := IntWalk.i64_in _ (by omega)
  by_cases h4 : (n : Int) - a < l
  · have HF := Lib.hid (show fits n a l = false by simp [fits]; omega)
    clear hA hs
    go_enter Try.func11, Try.ntmps11
    go_wp2_with fail
    go_ret2
    exact BAD.out HF.out _ HB.out
  · have HF := Lib.hid (show fits n a l = true by simp [fits]; omega)
    cases A with
    | none =>
      obtain ⟨rfl, rfl⟩ := hA rfl
      exact absurd ⟨by omega, by omega⟩ HZ.out
    | some x =>
      obtain ⟨b, off, spot⟩ := x
      have hsp : spot = none := hs (by
        rcases Nat.eq_zero_or_pos n with h0 | h0
        · exact absurd ⟨by omega, by omega⟩ HZ.out
        · exact h0) _ rfl
      subst hsp
      obtain ⟨p, rfl⟩ : ∃ p : Nat, a = p := ⟨a.toNat, by omega⟩
      obtain ⟨q, rfl⟩ : ∃ q : Nat, l = q := ⟨l.toNat, by omega⟩
      have hw2 : IntKind.i64.wrap ((p : Int) + (q : Int)) = ((p + q : Nat) : Int) := by rw [IntWalk.i64_in _ (by omega)]; omega
      obtain ⟨t, ht⟩ : ∃ t, p + q = t := ⟨_, rfl⟩
      rw [ht] at hw2
      have e0 : (p : Int) ≤ (t : Int) := by omega
      have e1 : (t : Int) ≤ (c : Int) := by omega
      have e2 : p ≤ t := by omega
      have e3 : t ≤ c := by omega
      have e4 : t - p = q := by omega
      have fin : ∀ A' : Option Addr, (0 < q → A' = some ⟨b, off + p, none⟩) → CutRes n (some ⟨b, off, none⟩) (p : Int) (q : Int) W (.returned (.tuple #[.slice A' q q, .int .i64 0])) (W.alloc (.cells #[.int .i64 (p : Int), .int .i64 (q : Int)] 31)) := fun A' h => ⟨.inr ⟨HF.out, A', rfl, fun h0 => by rw [h (by omega)]; simp [Mem.add_none], fun e => by cases e⟩, HB.out⟩
      have FIN := Lib.hid fin
      have HE4 := Lib.hid e4
      have h3b : ¬ (n < p) := by omega
      clear hA hs fin ht hl hl2 ha ha2
      by_cases hq0 : q = 0
      · have hpt : t = p := by omega
        subst hpt
        subst hq0
        have p1 : ¬ ((t : Int) = 0) := fun e => HZ.out ⟨e, rfl⟩
        have p2 : ¬ (t = 0) := by omega
        have p3 : ((t : Int) == 0) = false := by simpa using p1
        clear e4 hq
        go_enter Try.func11, Try.ntmps11
        go_wp2_with fail
        go_ret2
        exact FIN.out _ (fun h => absurd h (by decide))
      · have hpt : ¬ (t - p = 0) := by omega
        have hpt2 : ¬ (t = p) := by omega
        clear hq0
        go_enter Try.func11, Try.ntmps11
        go_wp2_with fail
        go_ret2
        exact FIN.out _ (fun _ => rfl)
end Sp
end Go.Proofs.Ytajkcghbdbjmaaa
