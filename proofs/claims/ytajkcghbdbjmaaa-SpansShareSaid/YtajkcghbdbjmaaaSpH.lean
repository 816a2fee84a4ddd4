/- Layer 7 (spans): the contract of the document's Fits; the walk of the law SpansCut. -/
import Derived.Test.YtajkcghbdbjmaaaSpG
import Derived.StillTailTactics
namespace Go.Proofs.Ytajkcghbdbjmaaa
open Go.RowKit Rc
namespace Sp

def I64 (x : Int) : Prop := -9223372036854775808 ≤ x ∧ x ≤ 9223372036854775807
set_option maxHeartbeats 1600000 in
theorem fits_any (n : Nat) (a l : Int) (W : World) (hn : n ≤ 100000) (ha : I64 a) (hl : I64 l) : Calls Try.prog 12 #[.int .i64 (n : Int), spanv a l] W fun e w => e = .returned (.bool (fits n a l)) ∧ Below W.heap.size W w := by
  have hB : Below W.heap.size W (W.alloc (.cells #[.int .i64 a, .int .i64 l] 31)) := (Below.refl _ _).alloc (Nat.le_refl _) _
  have HB := Lib.hid hB
  have c1 : (W.alloc (.cells #[.int .i64 a, .int .i64 l] 31)).cell? ⟨W.heap.size, 0, none⟩ = some (.int .i64 a) := by simp [World.cell?_alloc_new]
  have c2 : (W.alloc (.cells #[.int .i64 a, .int .i64 l] 31)).cell? ⟨W.heap.size, 1, none⟩ = some (.int .i64 l) := by simp [World.cell?_alloc_new]
  obtain ⟨ha1, ha2⟩ := ha
  obtain ⟨hl1, hl2⟩ := hl
  obtain ⟨v, hv⟩ : ∃ v, fits n a l = v := ⟨_, rfl⟩
  have HV := Lib.hid hv
  clear hB
  by_cases h1 : a < 0
  · have hF : v = false := by rw [← hv]; simp [fits]; omega
    have h1' : ¬ (0 ≤ a) := by omega
    rw [HV.out]
    subst hF
    clear hv
    go_enter Try.func12, Try.ntmps12
    go_wp2_with fail
    go_ret
    exact ⟨rfl, HB.out⟩
  have h1' : 0 ≤ a := by omega
  by_cases h2 : l < 0
  · have hF : v = false := by rw [← hv]; simp [fits]; omega
    have h2' : ¬ (0 ≤ l) := by omega
    rw [HV.out]
    subst hF
    clear hv
    go_enter Try.func12, Try.ntmps12
    go_wp2_with fail
    go_ret
    exact ⟨rfl, HB.out⟩
  have h2' : 0 ≤ l := by omega
  by_cases h3 : (n : Int) < a
  · have hF : v = false := by rw [← hv]; simp [fits]; omega
    have h3' : ¬ (a ≤ (n : Int)) := by omega
    rw [HV.out]
    subst hF
    clear hv
    go_enter Try.func12, Try.ntmps12
    go_wp2_with fail
    go_ret
    exact ⟨rfl, HB.out⟩
  have h3' : a ≤ (n : Int) := by omega
  have hw1 : IntKind.i64.wrap ((n : Int) - a) = (n : Int) - a := IntWalk.i64_in _ (by omega)
  by_cases h4 : (n : Int) - a < l
  · have hF : v = false := by rw [← hv]; simp [fits]; omega
    have h4' : ¬ (l ≤ (n : Int) - a) := by omega
    rw [HV.out]
    subst hF
    clear hv
    go_enter Try.func12, Try.ntmps12
    go_wp2_with fail
    go_ret
    exact ⟨rfl, HB.out⟩
  · have hF : v = true := by rw [← hv]; simp [fits]; omega
    have h4' : l ≤ (n : Int) - a := by omega
    rw [HV.out]
    subst hF
    clear hv
    go_enter Try.func12, Try.ntmps12
    go_wp2_with fail
    go_ret
    exact ⟨rfl, HB.out⟩
theorem fits_val (n : Nat) (a l : Int) (v : Bool) (hv : fits n a l = v) (W : World) (hn : n ≤ 100000) (ha : I64 a) (hl : I64 l) : Calls Try.prog 12 #[.int .i64 (n : Int), spanv a l] W fun e w => e = .returned (.bool v) ∧ Below W.heap.size W w := hv ▸ fits_any n a l W hn ha hl
set_option maxRecDepth 20000 in
set_option maxHeartbeats 3200000 in
theorem spansCut_walk (bs : List Nat) (A : Option Addr) (n c : Nat) (a l : Int) (W : World) (h : Byts W A n c bs) (ha : I64 a) (hl : I64 l) :
    Calls Try.prog 4 #[.slice A n c, spanv a l] W (Good W) := by
  have hB : Below W.heap.size W (W.alloc (.cells #[.int .i64 a, .int .i64 l] 31)) := (Below.refl _ _).alloc (Nat.le_refl _) _
  have HB := Lib.hid hB
  have c1 : (W.alloc (.cells #[.int .i64 a, .int .i64 l] 31)).cell? ⟨W.heap.size, 0, none⟩ = some (.int .i64 a) := by simp [World.cell?_alloc_new]
  have c2 : (W.alloc (.cells #[.int .i64 a, .int .i64 l] 31)).cell? ⟨W.heap.size, 1, none⟩ = some (.int .i64 l) := by simp [World.cell?_alloc_new]
  by_cases h1 : 3000 < n
  · have h1' : (3000 : Int) < (n : Int) := by omega
    clear h hB
    go_enter Try.func4, Try.ntmps4
    go_wp2_with (go_at_call 8; refine (views_good _).mono ?_; rintro e w1 ⟨rfl, hb⟩)
    go_ret
    exact ⟨rfl, below_next HB.out hb⟩
  have h1' : ¬ ((3000 : Int) < (n : Int)) := by omega
  have C1 := Lib.hid (fun w => cut_any n c A a l w h.none_ (fun h0 => h.spot (by have := h.cap; omega)) h.cap h.most ha.2 ha.1 hl.1 hl.2)
  have HR := Lib.hid h.rd
  have HS := Lib.hid h.small
  have HL := Lib.hid h.len
  have hcap := h.cap
  have hmost := h.most
  have hsz : (W.alloc (.cells #[.int .i64 a, .int .i64 l] 31)).heap.size = W.heap.size + 1 := by simp
  have HSZ := Lib.hid hsz
  cases hf : fits n a l with
  | false =>
    have C2 := Lib.hid (fun w => fits_val n a l false hf w (by omega) ha hl)
    have HF := Lib.hid hf
    have k1 := Lib.hid c1
    have k2 := Lib.hid c2
    clear h hB ha hl hf hsz
    go_enter Try.func4, Try.ntmps4
    go_wp2_with fail
    refine (C1.out _).mono ?_
    rintro e w1 ⟨⟨_, rfl⟩ | ⟨hf, _⟩, b1⟩
    case inr => rw [HF.out] at hf; cases hf
    have B1 := Lib.hid (below_next HB.out b1)
    have d1 := (b1.cell (p := ⟨W.heap.size, 0, none⟩) (by rw [HSZ.out]; exact Nat.lt_succ_self _)).trans k1.out
    have d2 := (b1.cell (p := ⟨W.heap.size, 1, none⟩) (by rw [HSZ.out]; exact Nat.lt_succ_self _)).trans k2.out
    clear b1
    go_wp2_with fail
    refine (C2.out _).mono ?_
    rintro e w2 ⟨rfl, b2⟩
    have B2 := Lib.hid (below_next B1.out b2)
    clear b2
    go_wp2_with fail
    refine (views_good _).mono ?_
    rintro e w6 ⟨rfl, b6⟩
    have B6 := Lib.hid (below_next B2.out b6)
    clear b6
    go_wp2_with fail
    go_ret
    exact ⟨rfl, B6.out⟩
  | true =>
    have C2 := Lib.hid (fun w => fits_val n a l true hf w (by omega) ha hl)
    have HF := Lib.hid hf
    have k1 := Lib.hid c1
    have k2 := Lib.hid c2
    have hfp : 0 ≤ a ∧ 0 ≤ l ∧ a ≤ (n : Int) ∧ l ≤ (n : Int) - a := by simpa [fits] using hf
    obtain ⟨f1, f2, f3, f4⟩ := hfp
    obtain ⟨p, rfl⟩ : ∃ p : Nat, a = p := ⟨a.toNat, by omega⟩
    obtain ⟨q, rfl⟩ : ∃ q : Nat, l = q := ⟨l.toNat, by omega⟩
    have HNONE := Lib.hid h.none_
    have HSPOT := Lib.hid h.spot
    clear h hB ha hl hf hsz
    go_enter Try.func4, Try.ntmps4
    go_wp2_with fail
    refine (C1.out _).mono ?_
    rintro e w1 ⟨⟨hf, _⟩ | ⟨_, A', rfl, hA', hA0⟩, b1⟩
    case inl => rw [HF.out] at hf; cases hf
    have B1 := Lib.hid (below_next HB.out b1)
    have hq1 : ((q : Int)).toNat = q := by omega
    rw [hq1]
    have d1 := (b1.cell (p := ⟨W.heap.size, 0, none⟩) (by rw [HSZ.out]; exact Nat.lt_succ_self _)).trans k1.out
    have d2 := (b1.cell (p := ⟨W.heap.size, 1, none⟩) (by rw [HSZ.out]; exact Nat.lt_succ_self _)).trans k2.out
    have hlt1 : W.heap.size < w1.heap.size := by have := b1.size; rw [HSZ.out] at this; omega
    have D1 := Lib.hid d1
    have D2 := Lib.hid d2
    have HLT := Lib.hid hlt1
    have HA' := Lib.hid hA'
    have HA0 := Lib.hid hA0
    clear b1 hA' hA0 hlt1
    go_wp2_with fail
    refine (C2.out _).mono ?_
    rintro e w2 ⟨rfl, b2⟩
    have B2 := Lib.hid (below_next B1.out b2)
    have e1 := (b2.cell (p := ⟨W.heap.size, 0, none⟩) HLT.out).trans D1.out
    have e2 := (b2.cell (p := ⟨W.heap.size, 1, none⟩) HLT.out).trans D2.out
    have hR := HR.out.below B2.out
    have hcut : ∀ A2, (0 < q → A2 = A.map (·.add p)) → Mem.Rd w2 A2 (octets ((bs.drop p).take q)) := fun A2 hA2 => by
      have := Mem.Rd.cut hR p q (by rw [octets_len, HL.out]; omega) A2 hA2
      rw [octets_drop, octets_take] at this
      exact this
    have hlen : ((bs.drop p).take q).length = q := by rw [List.length_take, List.length_drop, HL.out]; omega
    have hsm : Small ((bs.drop p).take q) := fun b hb => HS.out b (List.mem_of_mem_drop (List.mem_of_mem_take hb))
    have hconv := fun (A2 : Option Addr) (c2 : Nat) (w : World) (hw : w2.drew = w) (hA2 : 0 < q → A2 = A.map (·.add p)) (hn2 : A2 = none → q = 0) => (conv_str ((bs.drop p).take q) A2 q c2 w hlen (by rw [← hw]; exact hcut A2 hA2) hsm hn2)
    have hpq : IntKind.i64.wrap ((p : Int) + (q : Int)) = ((p + q : Nat) : Int) := by rw [IntWalk.i64_in _ (by omega)]; omega
    obtain ⟨t, ht⟩ : ∃ t, p + q = t := ⟨_, rfl⟩
    rw [ht] at hpq
    have hwt : IntKind.i64.wrap (t : Int) = (t : Int) := IntWalk.i64_in _ (by omega)
    have hwp : IntKind.i64.wrap (p : Int) = (p : Int) := IntWalk.i64_in _ (by omega)
    have g0 : (p : Int) ≤ (t : Int) := by omega
    have g1 : (t : Int) ≤ (c : Int) := by omega
    have g2 : p ≤ t := by omega
    have g3 : t ≤ c := by omega
    have g4 : t - p = q := by omega
    have n0 : 0 < q → A ≠ none := fun h0 e => by
      have := (HNONE.out e).1
      omega
    have hAm : ∀ A2, (0 < q → A2 = A.map (·.add p)) → A2 = none → q = 0 := fun A2 h1 h2 => by
      rcases Nat.eq_zero_or_pos q with h0 | h0
      · exact h0
      · have := h1 h0
        rw [h2] at this
        cases A with
        | none => exact absurd rfl (n0 h0)
        | some y => cases this
    have hA2 : 0 < q → A' = A.map (·.add p) := fun h0 => HA'.out (by omega)
    have k3 := hconv A' q w2.drew rfl hA2 (hAm A' hA2)
    clear b2
    by_cases hcp : c = p
    · have hq0 : q = 0 := by omega
      have htp : t = p := by omega
      have k4 := hconv A 0 w2.drew rfl (fun h => by omega) (fun _ => hq0)
      subst hcp
      subst htp
      rw [hq0] at k4
      subst hq0
      clear hconv hcut hR hlen hsm n0 hAm hA2 ht
      go_wp2_with fail
      go_still_tail 25, (by kernel_rfl)
      refine wpList_step (fun K hK => ?_)
      go_simp
      refine (views_good _).mono ?_
      rintro e w6 ⟨rfl, b6⟩
      have B6 := Lib.hid (below_next (Below.drew B2.out) b6)
      clear b6
      refine hK _ _ ?_
      clear hK K
      go_wp2_with fail
      go_ret
      exact ⟨rfl, B6.out⟩
    · obtain ⟨x, hx⟩ : ∃ x, A = some x := by
        cases A with
        | none => have := (HNONE.out rfl).2; omega
        | some y => exact ⟨y, rfl⟩
      subst hx
      have hsp := HSPOT.out (by omega) x rfl
      obtain ⟨b, off, spot⟩ := x
      simp only at hsp
      subst hsp
      have k4 := hconv (some ⟨b, off + p, none⟩) (c - p) w2.drew rfl (fun _ => by simp [Mem.add_none]) (fun e => by cases e)
      have hcp2 : ¬ (c - p = 0) := by omega
      clear hconv hcut hR hlen hsm n0 hAm hA2 ht
      go_wp2_with fail
      go_still_tail 25, (by kernel_rfl)
      refine wpList_step (fun K hK => ?_)
      go_simp
      refine (views_good _).mono ?_
      rintro e w6 ⟨rfl, b6⟩
      have B6 := Lib.hid (below_next (Below.drew B2.out) b6)
      clear b6
      refine hK _ _ ?_
      clear hK K
      go_wp2_with fail
      go_ret
      exact ⟨rfl, B6.out⟩
end Sp
end Go.Proofs.Ytajkcghbdbjmaaa
