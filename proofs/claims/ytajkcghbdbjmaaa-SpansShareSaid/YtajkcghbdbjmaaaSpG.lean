/- Layer 7 (spans): the walk of the law SpansTell; what the frame is told of bytes that came in. -/
import Derived.Test.YtajkcghbdbjmaaaSpF
namespace Go.Proofs.Ytajkcghbdbjmaaa
open Go.RowKit Rc
namespace Sp

/-- Bytes that came in. -/
structure Byts (w : World) (A : Option Addr) (n c : Nat) (bs : List Nat) : Prop where
  rd : Mem.Rd w A (octets bs)
  small : Small bs
  len : bs.length = n
  cap : n ≤ c
  most : c ≤ 9223372036854775807
  none_ : A = none → n = 0 ∧ c = 0
  spot : 0 < c → ∀ x, A = some x → x.spot = none
theorem byts_of {w : World} {a : Option Addr} {len cap : Nat} {zs : List Int} (h : Mem.IsRow .u8 w a len cap zs) : ∃ bs, Byts w a len cap bs := by
  obtain ⟨h1, h2, h3, h4, _⟩ := h.rd
  have hb : ∀ x ∈ zs.take len, 0 ≤ x ∧ x ≤ 255 := fun x hx => by
    have := h2 x hx
    exact bounds_u8 this
  have he : octets ((zs.take len).map Int.toNat) = (zs.take len).map (Value.int .u8) := by
    unfold octets
    rw [List.map_map]
    refine List.map_congr_left fun x hx => ?_
    have := hb x hx
    show Value.int .u8 ((x.toNat : Nat) : Int) = _
    rw [Int.toNat_of_nonneg this.1]
  refine ⟨(zs.take len).map Int.toNat, by rw [he]; exact h1, fun b hbm => ?_, by rw [List.length_map]; exact h3, h4, ?_, ?_, ?_⟩
  · obtain ⟨x, hx, rfl⟩ := List.mem_map.1 hbm
    have := hb x hx
    omega
  · rcases h with ⟨_, _, rfl, _⟩ | ⟨x, _, _, hm, _⟩
    · decide
    · unfold maxLen at hm; omega
  · intro e
    rcases h with ⟨_, rfl, rfl, _⟩ | ⟨x, e2, _⟩
    · exact ⟨rfl, rfl⟩
    · rw [e] at e2; cases e2
  · intro h0 x e
    rcases h with ⟨_, _, rfl, _⟩ | ⟨y, e2, _, _, hz, hc, _⟩
    · omega
    · rw [e] at e2
      injection e2 with e2
      subst e2
      have h3 := hc 0 (by omega)
      simpa [Addr.add] using World.cell?_spot h3
/-- The relation of SpansTell's loop. -/
def TeR (n : Nat) (W : World) (i : Value) (w : World) : Prop := ∃ k m : Nat, k ≤ n ∧ i = .int .i64 (k : Int) ∧ w = W.drewN m
theorem cells_two {w : World} {N n : Nat} {v : Value} {rs : List (Nat × Nat)} (h : w.ownsRow N 31 2 v n (scs rs)) (hn : 0 < n) (hl : rs.length = n) : ∃ ub uc, v = .slice (some ⟨ub, 0, none⟩) n uc ∧ ub < w.heap.size ∧
    ∀ k, k < n → w.cell? ⟨ub, k * 2, none⟩ = some (.int .i64 ((rs.getD k (0, 0)).1 : Nat)) ∧ w.cell? ⟨ub, k * 2 + 1, none⟩ = some (.int .i64 ((rs.getD k (0, 0)).2 : Nat)) := by
  obtain ⟨ub, uc, rfl, h1, _, h2⟩ := own_cells h hn
  refine ⟨ub, uc, rfl, h1, fun k hk => ?_⟩
  obtain ⟨q1, q2⟩ := scs_at rs k (by omega)
  have hsl := scs_len rs
  exact ⟨by rw [h2 _ (by omega), q1], by rw [h2 _ (by omega), q2]⟩
set_option maxHeartbeats 3200000 in
theorem spansTell_walk (bs : List Nat) (A : Option Addr) (n c : Nat) (W : World) (h : Byts W A n c bs) :
    Calls Try.prog 3 #[.slice A n c] W (Good W) := by
  by_cases h1 : 3000 < n
  · have h1' : (3000 : Int) < (n : Int) := by omega
    clear h
    go_enter Try.func3, Try.ntmps3
    go_wp2_with (go_at_call 8; refine (views_good _).mono ?_; rintro e w1 ⟨rfl, hb⟩)
    go_ret
    exact ⟨rfl, hb⟩
  have h1' : ¬ ((3000 : Int) < (n : Int)) := by omega
  have C1 : ∀ w, Below W.heap.size W w → Calls Try.prog 9 #[.slice A n c] w (OfRes bs w) := fun w hb => by
    have := of_any bs A c w (h.rd.below hb) h.small (by rw [h.len]; omega) (by rw [h.len]; exact h.cap) h.most
    rw [h.len] at this
    exact this
  have C2 : ∀ w, Below W.heap.size W w → Calls Try.prog 10 #[.slice A n c] w (OfRes bs w) := fun w hb => by
    have := refof_any bs A c w (h.rd.below hb) h.small (by rw [h.len]; omega) (by rw [h.len]; exact h.cap)
    rw [h.len] at this
    exact this
  have D1 := Lib.hid C1
  have D2 := Lib.hid C2
  clear C1 C2 h
  by_cases he : errE bs = 0
  · have hok := ok_of he
    have hp := hok.pos
    have hsl := spn_len bs
    have hn16 := hok.le
    obtain ⟨m, hm⟩ : ∃ m, num bs = m := ⟨_, rfl⟩
    have HM := Lib.hid hm
    rw [hm] at hp hsl hn16
    have HE := Lib.hid he
    have HSL := Lib.hid hsl
    clear he hok hm hsl
    go_enter Try.func3, Try.ntmps3
    go_wp2_with fail
    refine (D1.out _ (Below.refl _ _)).mono ?_
    rintro e w1 ⟨⟨_, N1, v1, _, rfl, o1⟩ | ⟨hne, _⟩, b1⟩
    case inr => exact absurd HE.out hne
    rw [HM.out] at o1
    obtain ⟨ub, uc, rfl, hub, hcl⟩ := cells_two o1 hp HSL.out
    have H1 := Lib.hid hcl
    have HUB := Lib.hid hub
    have B1 := Lib.hid b1
    clear o1 hcl hub b1
    go_wp2_with fail
    refine (D2.out _ B1.out).mono ?_
    rintro e w2 ⟨⟨_, N2, v2, _, rfl, o2⟩ | ⟨hne, _⟩, b2⟩
    case inr => exact absurd HE.out hne
    rw [HM.out] at o2
    obtain ⟨vb, vc, rfl, hvb, hcl2⟩ := cells_two o2 hp HSL.out
    have H2 := Lib.hid hcl2
    have B2 := Lib.hid (below_next B1.out b2)
    have H1' := Lib.hid (fun k hk => (⟨(b2.cell (p := ⟨ub, k * 2, none⟩) HUB.out).trans (H1.out k hk).1, (b2.cell (p := ⟨ub, k * 2 + 1, none⟩) HUB.out).trans (H1.out k hk).2⟩ : w2.cell? ⟨ub, k * 2, none⟩ = _ ∧ w2.cell? ⟨ub, k * 2 + 1, none⟩ = _))
    clear o2 hcl2 hvb b2
    go_wp2_with fail
    go_loopw [7] (TeR m w2) (fun i _ => m - (intOf i).toNat)
    case atStart => exact ⟨0, 0, by omega, rfl, rfl⟩
    case round =>
      obtain ⟨k, j, hk, rfl, rfl⟩ := hrel
      by_cases hkm : k < m
      · obtain ⟨w3, hw3⟩ : ∃ w3, w2.drewN j = w3 := ⟨_, rfl⟩
        have HW3 := Lib.hid hw3
        have a1 : w3.cell? ⟨ub, k * 2, none⟩ = some (.int .i64 ((((spn bs).getD k (0, 0)).1 : Nat) : Int)) := by rw [← hw3]; exact (H1'.out k hkm).1
        have a2 : w3.cell? ⟨ub, k * 2 + 1, none⟩ = some (.int .i64 ((((spn bs).getD k (0, 0)).2 : Nat) : Int)) := by rw [← hw3]; exact (H1'.out k hkm).2
        have a3 : w3.cell? ⟨vb, k * 2, none⟩ = some (.int .i64 ((((spn bs).getD k (0, 0)).1 : Nat) : Int)) := by rw [← hw3]; exact (H2.out k hkm).1
        have a4 : w3.cell? ⟨vb, k * 2 + 1, none⟩ = some (.int .i64 ((((spn bs).getD k (0, 0)).2 : Nat) : Int)) := by rw [← hw3]; exact (H2.out k hkm).2
        rw [hw3]
        generalize ((spn bs).getD k (0, 0)).1 = x at a1 a3
        generalize ((spn bs).getD k (0, 0)).2 = y at a2 a4
        have hk0' : (0 : Int) ≤ (k : Int) := by omega
        have hk1' : (k : Int) < (m : Int) := by omega
        clear hw3
        go_wp2_with fail
        go_quiet (fail)
        go_wp2_with fail
        go_roundw
        case rel => exact ⟨k + 1, j + nq, by omega, by go_num, by rw [← HW3.out, World.drewN_drewN]⟩
        case measure => simp [intOf]; omega
      · obtain rfl : m = k := by omega
        go_wp2_with fail
        refine (views_good _).mono ?_
        rintro e w6 ⟨rfl, b6⟩
        have B6 := Lib.hid (below_next (below_drewN B2.out _) b6)
        clear b6
        go_wp2_with fail
        go_ret
        exact ⟨rfl, B6.out⟩
  · obtain ⟨v, hv⟩ : ∃ v, errE bs = v := ⟨_, rfl⟩
    have HV := Lib.hid hv
    have HE := Lib.hid he
    clear he hv
    go_enter Try.func3, Try.ntmps3
    go_wp2_with fail
    refine (D1.out _ (Below.refl _ _)).mono ?_
    rintro e w1 ⟨⟨h0, _⟩ | ⟨_, rfl⟩, b1⟩
    case inl => exact absurd h0 HE.out
    rw [HV.out]
    have B1 := Lib.hid b1
    clear b1
    go_wp2_with fail
    refine (D2.out _ B1.out).mono ?_
    rintro e w2 ⟨⟨h0, _⟩ | ⟨_, rfl⟩, b2⟩
    case inl => exact absurd h0 HE.out
    rw [HV.out]
    have B2 := Lib.hid (below_next B1.out b2)
    clear b2
    go_wp2_with fail
    go_loopw [7] (fun i w => i = .int .i64 0 ∧ w = w2) (fun _ _ => 0)
    case atStart => exact ⟨rfl, rfl⟩
    case round =>
      obtain ⟨rfl, rfl⟩ := hrel
      go_wp2_with fail
      refine (views_good _).mono ?_
      rintro e w6 ⟨rfl, b6⟩
      have B6 := Lib.hid (below_next B2.out b6)
      clear b6
      go_wp2_with fail
      go_ret
      exact ⟨rfl, B6.out⟩
end Sp
end Go.Proofs.Ytajkcghbdbjmaaa
