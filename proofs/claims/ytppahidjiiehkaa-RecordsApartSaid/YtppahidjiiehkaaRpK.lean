/- Layer 6: the walk of the law RecordsUnpack; what the frame is told of bytes that came in. -/
import Derived.Test.YtppahidjiiehkaaRpH
namespace Go.Proofs.Ytppahidjiiehkaa
open Go.RowKit
namespace Rc

/-- Bytes that came in. -/
structure Byts (w : World) (A : Option Addr) (n c : Nat) (bs : List Nat) : Prop where
  rd : Mem.Rd w A (octets bs)
  small : Small bs
  len : bs.length = n
  cap : n ≤ c
  most : c ≤ 9223372036854775807
  none_ : A = none → n = 0 ∧ c = 0
  spot : 0 < c → ∀ x, A = some x → x.spot = none
theorem byts_of {w : World} {a : Option Addr} {len cap : Nat} {zs : List Int} (h : Mem.IsRow .u8 w a len cap zs) : ∃ bs, Byts w a len cap bs := by
  obtain ⟨h1, h2, h3, h4, _⟩ := h.rd
  have hb : ∀ x ∈ zs.take len, 0 ≤ x ∧ x ≤ 255 := fun x hx => by
    have := h2 x hx
    exact bounds_u8 this
  have he : octets ((zs.take len).map Int.toNat) = (zs.take len).map (Value.int .u8) := by
    unfold octets
    rw [List.map_map]
    refine List.map_congr_left fun x hx => ?_
    have := hb x hx
    show Value.int .u8 ((x.toNat : Nat) : Int) = _
    rw [Int.toNat_of_nonneg this.1]
  refine ⟨(zs.take len).map Int.toNat, by rw [he]; exact h1, fun b hbm => ?_, by rw [List.length_map]; exact h3, h4, ?_, ?_, ?_⟩
  · obtain ⟨x, hx, rfl⟩ := List.mem_map.1 hbm
    have := hb x hx
    omega
  · rcases h with ⟨_, _, rfl, _⟩ | ⟨x, _, _, hm, _⟩
    · decide
    · unfold maxLen at hm; omega
  · intro e
    rcases h with ⟨_, rfl, rfl, _⟩ | ⟨x, e2, _⟩
    · exact ⟨rfl, rfl⟩
    · rw [e] at e2; cases e2
  · intro h0 x e
    rcases h with ⟨_, _, rfl, _⟩ | ⟨y, e2, _, _, hz, hc, _⟩
    · omega
    · rw [e] at e2
      injection e2 with e2
      subst e2
      have h3 := hc 0 (by omega)
      simpa [Addr.add] using World.cell?_spot h3

/-- What Unpack answers, in one. -/
theorem un_full {bs : List Nat} {W w : World} {e : Ending} (hs : Small bs) (h : UnRes bs W e w) : ∃ U n uc, e = .returned (.tuple #[.slice U n uc, .int .i64 (errE bs : Nat)]) ∧ n ≤ 16 ∧ RdRecs w U n (if errE bs = 0 then recs bs else []) ∧ Below W.heap.size W w := by
  obtain ⟨⟨h0, B, U, uc, vs, _, rfl, ho, hr⟩ | ⟨h0, rfl⟩, hb⟩ := h
  · rw [if_pos h0, h0]
    exact ⟨U, _, uc, rfl, (ok_of h0).le, un_rd hs ho hr, hb⟩
  · rw [if_neg h0]
    exact ⟨none, 0, 0, rfl, by decide, RdRecs.nil _ _, hb⟩
set_option maxRecDepth 20000 in
set_option maxHeartbeats 3200000 in
theorem recordsUnpack_walk (bs : List Nat) (A : Option Addr) (n c : Nat) (W : World) (h : Byts W A n c bs) :
    Calls Try.prog 4 #[.slice A n c] W (Good W) := by
  by_cases h1 : 3000 < n
  · have h1' : (3000 : Int) < (n : Int) := by omega
    clear h
    go_enter Try.func4, Try.ntmps4
    go_wp2_with (go_at_call 9; refine (packs_good _).mono ?_; rintro e w1 ⟨rfl, hb⟩)
    go_ret
    exact ⟨rfl, hb⟩
  have h1' : ¬ ((3000 : Int) < (n : Int)) := by omega
  have C1 := Lib.hid (unpack_any bs A c W h.rd h.small (by rw [h.len]; omega) (by rw [h.len]; exact h.cap) h.most)
  have C2 := Lib.hid (fun w (hb : Below W.heap.size W w) => refunpack_any bs A c w (h.rd.below hb) h.small (by rw [h.len]; omega) (by rw [h.len]; exact h.cap))
  rw [h.len] at C1 C2
  have HS := Lib.hid h.small
  clear h
  go_enter Try.func4, Try.ntmps4
  go_wp2_with fail
  refine C1.out.mono ?_
  intro e w1 hu
  obtain ⟨U, m, uc, rfl, hm, hr, hb⟩ := un_full HS.out hu
  have R1 := Lib.hid hr
  have B1 := Lib.hid hb
  clear hu hr hb
  go_wp2_with fail
  refine (C2.out w1 B1.out).mono ?_
  intro e w2 hu
  obtain ⟨V, m2, vc, rfl, hm2, hr, hb⟩ := un_full HS.out hu
  have R2 := Lib.hid hr
  have R3 := Lib.hid (R1.out.below hb)
  have B2 := Lib.hid (below_next B1.out hb)
  clear hu hr hb
  go_wp2_with fail
  refine (refsame_any _ _ U V m uc m2 vc w2 R3.out R2.out (by omega) (by omega)).mono ?_
  rintro e w3 ⟨rfl, q3⟩
  have B3 := Lib.hid (below_next B2.out q3.below)
  have hd : ∀ l : List (List Nat), decide (l = l) = true := fun l => by simp
  rw [hd]
  obtain ⟨v, hv⟩ : ∃ v, errE bs = v := ⟨_, rfl⟩
  rw [hv]
  clear q3 hd hv
  go_wp2_with fail
  refine (packs_good _).mono ?_
  rintro e w4 ⟨rfl, hb4⟩
  have HB := Lib.hid (below_next B3.out hb4)
  clear hb4
  go_wp2_with fail
  go_ret
  exact ⟨rfl, HB.out⟩
end Rc
end Go.Proofs.Ytppahidjiiehkaa
