/- Layer 6: the contract of packs. -/
import Derived.Test.YtppahidjiiehkaaRpI
import Derived.Lib.SlBytesConst
namespace Go.Proofs.Ytppahidjiiehkaa
open Go.RowKit
namespace Rc

theorem below_next {W w w' : World} (h : Below W.heap.size W w) (h2 : Below w.heap.size w w') : Below W.heap.size W w' := h.trans (h2.mono h.size)
theorem below_two {W w' : World} {a b : Obj} (h2 : Below ((W.alloc a).alloc b).heap.size ((W.alloc a).alloc b) w') : Below W.heap.size W w' := below_next (((Below.refl _ _).alloc (Nat.le_refl _) a).alloc (by simp) b) h2
theorem packs_rd (w : World) (fr : Nat × Nat) : RdRecs ((w.alloc (.cells #[.int .u8 97, .int .u8 98] 5 fr)).alloc (.cells #[.slice (some ⟨w.heap.size, 0, none⟩) 2 2, .slice none 0 0] 25)) (some ⟨w.heap.size + 1, 0, none⟩) 2 [[97, 98], []] := by
  refine ⟨rfl, (by intro r hr b hb; simp at hr; rcases hr with rfl | rfl <;> simp at hb <;> omega), (fun e => by cases e), fun _ => ⟨_, 0, rfl, by simp, fun k hk => ?_⟩⟩
  match k, hk with
  | 0, _ =>
    refine ⟨some ⟨w.heap.size, 0, none⟩, 2, ?_, ?_, by decide, by decide, fun e => by cases e⟩
    · rw [show w.heap.size + 1 = (w.alloc (.cells #[.int .u8 97, .int .u8 98] 5 fr)).heap.size by simp, World.cell?_alloc_new]
      rfl
    · have : Mem.Rd (w.alloc (.cells #[.int .u8 97, .int .u8 98] 5 fr)) (some ⟨w.heap.size, 0, none⟩) (octets [97, 98]) := fun _ =>
        ⟨w.heap.size, 0, rfl, by simp, fun i hi => by
          rw [Nat.zero_add, World.cell?_alloc_mark]
          match i, hi with
          | 0, _ => rfl
          | 1, _ => rfl⟩
      exact this.alloc _
  | 1, _ =>
    refine ⟨none, 0, ?_, Mem.Rd.nil _ _, by decide, by decide, fun _ => ⟨rfl, rfl⟩⟩
    rw [show w.heap.size + 1 = (w.alloc (.cells #[.int .u8 97, .int .u8 98] 5 fr)).heap.size by simp, World.cell?_alloc_new]
    rfl
abbrev Good (W : World) (e : Ending) (w : World) : Prop := e = .returned (.bool true) ∧ Below W.heap.size W w
theorem small8 : Small [2, 0, 2, 0, 2, 0, 97, 98] := by intro b hb; simp at hb; omega
theorem small3 : Small [2, 0, 2] := by intro b hb; simp at hb; omega
theorem small2 : Small [97, 98] := by intro b hb; simp at hb; omega
/-- The records that Unpack answers, as they read. -/
theorem un_rd {bs : List Nat} {w : World} {B uc : Nat} {U : Option Addr} {vs : List Value} (hs : Small bs) (ho : w.ownsRow B 25 1 (.slice U (num bs) uc) (num bs) vs) (hr : OwnRecs w B (Value.slice U (num bs) uc).ownBlock vs (recs bs)) : RdRecs w U (num bs) (recs bs) :=
  RdRecs.of_own hr ho (recs_small hs)
set_option maxRecDepth 20000 in
set_option maxHeartbeats 3200000 in
theorem packs_good (W : World) : Calls Try.prog 9 #[] W (Good W) := by
  have E1 : RowKit.Hid (packE [[97, 98], []] = 0) := Lib.hid (by decide)
  have E2 : RowKit.Hid (packed [[97, 98], []] = [2, 0, 2, 0, 2, 0, 97, 98]) := Lib.hid (by decide)
  have E3 : RowKit.Hid (packLen [[97, 98], []] = 8) := Lib.hid (by decide)
  have E4 : RowKit.Hid (errE [2, 0, 2, 0, 2, 0, 97, 98] = 0) := Lib.hid (by decide)
  have E5 : RowKit.Hid (errE [2, 0, 2] = 3) := Lib.hid (by decide)
  have E6 : RowKit.Hid (num [2, 0, 2, 0, 2, 0, 97, 98] = 2) := Lib.hid (by decide)
  have E7 : RowKit.Hid (recs [2, 0, 2, 0, 2, 0, 97, 98] = [[97, 98], []]) := Lib.hid (by decide)
  have kc := fun (w : World) (C : Array Value) (n c : Nat) => Lib.run_convert_bytes_const (P := Try.prog) w 25 5 C n c Try.underlying25 Try.underlying5
  go_enter Try.func9, Try.ntmps9
  go_wp2_with fail
  refine (pack_any [[97, 98], []] _ 2 _ _ (packs_rd W _) (by decide)).mono ?_
  rintro e w1 ⟨⟨_, v, rfl, ho⟩ | ⟨hne, _⟩, b1⟩
  case inr => exact absurd E1.out hne
  rw [E2.out, E3.out] at ho
  obtain ⟨A, c, rfl, hc1, hc2, hr, hA⟩ := own_full ho
  have HR := Lib.hid hr
  have HC := Lib.hid (And.intro hc1 hc2)
  have HA := Lib.hid hA
  have B1 := Lib.hid (below_two b1)
  clear ho hr hA b1 hc1 hc2
  go_wp2_with fail
  refine (unpack_any [2, 0, 2, 0, 2, 0, 97, 98] A c w1 HR.out small8 (by decide) HC.out.1 HC.out.2).mono ?_
  rintro e w2 ⟨⟨_, B, U, uc, vs, hB, rfl, ho, hrs⟩ | ⟨hne, _⟩, b2⟩
  case inr => exact absurd E4.out hne
  have hrd := un_rd small8 ho hrs
  rw [E6.out, E7.out] at hrd
  rw [E6.out]
  obtain ⟨b, off, A1, l1, c1, rfl, hl1, hc1, hr1, _, _, _, hn1⟩ := hrd.at (k := 0) (by decide)
  obtain ⟨b', off', A2, l2, c2, e2, hl2, hc2, hr2, _, _, _, hn2⟩ := hrd.at (k := 1) (by decide)
  injection e2 with e2
  injection e2 with e2 e3
  subst e2
  subst e3
  obtain rfl : l1 = 2 := hl1.symm
  obtain rfl : l2 = 0 := hl2.symm
  have HLT := Lib.hid (show b < w2.heap.size by
    obtain ⟨b2, o2, e, hlt, _⟩ := hrd.rows (by decide)
    injection e with e
    injection e with e _
    subst e
    exact hlt)
  have C1 := Lib.hid hc1
  have C2 := Lib.hid hc2
  have R1 := Lib.hid hr1
  have N1 := Lib.hid hn1
  have B2 := Lib.hid b2
  clear ho hrs hrd hc1 hc2 hr1 hr2 hn1 hn2 hl1 hl2 b2 hB
  have q1 : 3 ≤ c := by have := HC.out.1; omega
  have q2 : (3 : Int) ≤ (c : Int) := by omega
  go_wp2_with fail
  refine (unpack_any [2, 0, 2] A c w2 ?_ small3 (by decide) q1 HC.out.2).mono ?_
  · have := Mem.Rd.cut (HR.out.below B2.out) 0 3 (by decide) A (fun _ => by cases A <;> simp [Addr.add])
    exact this
  rintro e w3 ⟨⟨h0, _⟩ | ⟨_, rfl⟩, b3⟩
  case inl => rw [E5.out] at h0; cases h0
  rw [E5.out]
  have HB := Lib.hid (below_next (below_next B1.out B2.out) b3)
  have k1 := conv_str [2, 0, 2, 0, 2, 0, 97, 98] A 8 c w3 rfl ((HR.out.below B2.out).below b3) small8 (fun e => (HA.out e).1)
  have k2 := conv_str [97, 98] A1 2 c1 w3 rfl (R1.out.below b3) small2 (fun e => (N1.out e).1)
  have s1 : strOf [2, 0, 2, 0, 2, 0, 97, 98] = ⟨#[2, 0, 2, 0, 2, 0, 97, 98]⟩ := rfl
  have s2 : strOf [97, 98] = ⟨#[97, 98]⟩ := rfl
  rw [s1] at k1
  rw [s2] at k2
  have g1 := (b3.cell (p := ⟨b, off + 0, none⟩) HLT.out).trans C1.out
  have g2 := (b3.cell (p := ⟨b, off + 1, none⟩) HLT.out).trans C2.out
  rw [Nat.add_zero] at g1
  clear s1 s2 b3
  go_wp2_with fail
  go_ret
  exact ⟨rfl, HB.out⟩
end Rc
end Go.Proofs.Ytppahidjiiehkaa
