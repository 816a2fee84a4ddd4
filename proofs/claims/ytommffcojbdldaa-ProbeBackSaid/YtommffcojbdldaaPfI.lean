/- Layer 19: the walk of ProbeBack. -/
import Derived.Test.YtommffcojbdldaaPfH
namespace Go.Proofs.Ytommffcojbdldaa
open Go.RowKit
namespace Pr

set_option maxRecDepth 100000 in
set_option maxHeartbeats 6400000 in
theorem probeBack_walk (t : Tab) (A : Option Addr) (n c id : Nat) (h : Int) (W : World) (hr : RdT W A n t) (hid : id < 4294967296) :
    Calls Try.prog 6 #[.slice A n c, .int .u32 (id : Int), .int .i64 h] W fun e w => e = .returned (.bool true) ∧ Below W.heap.size W w := by
  have PG := Lib.hid (fun w => probes_good w)
  by_cases hn : 80 < n
  · clear hr
    go_enter Try.func6, Try.ntmps6
    go_wp2_with fail
    refine (PG.out _).mono ?_
    rintro e w1 ⟨rfl, hB⟩
    have B := Lib.hid hB
    clear hB
    go_wp2_with fail
    go_ret
    exact ⟨rfl, B.out⟩
  have hn1 : n ≤ 100000 := by omega
  have R := Lib.hid hr
  have HL := Lib.hid hr.len
  clear hr
  go_enter Try.func6, Try.ntmps6
  go_wp2_with fail
  refine (own_any t A n c _ R.out hn1).mono ?_
  rintro e w1 ⟨⟨A1, c1, rfl, hO⟩, hB⟩
  have P1 := Lib.hid hO.rd
  have B1 := Lib.hid hB
  clear hO hB
  go_wp2_with fail
  refine (insert_any t A1 n c1 id h _ P1.out hn1 hid).mono ?_
  rintro e w2 ⟨⟨he, A2, c2, rfl, hO⟩ | ⟨hne, rfl⟩, hB⟩
  case inr =>
    have B2 := Lib.hid (below_next B1.out hB)
    obtain ⟨v, hv⟩ : ∃ v, insE t n id h = v := ⟨_, rfl⟩
    rw [hv] at hne ⊢
    have v1 : ¬ (v : Int) = 0 := by omega
    have v2 : ((v : Int) != 0) = true := by simpa using v1
    clear hB hv hne
    go_wp2_with fail
    refine (PG.out _).mono ?_
    rintro e w3 ⟨rfl, hB⟩
    have B := Lib.hid (below_next B2.out hB)
    clear hB
    go_wp2_with fail
    go_ret
    exact ⟨rfl, B.out⟩
  case inl =>
    obtain ⟨b1, _, b2, b3, b4, b5⟩ := back HL.out he
    have X2 := Lib.hid hO.rd
    have P2 := Lib.hid (P1.out.below hB)
    have B2 := Lib.hid (below_next B1.out hB)
    have HD := Lib.hid b3
    have HT := Lib.hid b4
    have R1 := Lib.hid (fun w (hb : Below w2.heap.size w2 w) => b1 ▸ right_any t A1 n c1 w (P2.out.below hb) hn1)
    have R2 := Lib.hid (fun w (hb : Below w2.heap.size w2 w) => b2 ▸ right_any _ A2 n c2 w (X2.out.below hb) hn1)
    have F5 := Lib.hid (fun A c w (hb : RdT w A n t) => b5 ▸ find_any t A n c id h w hb hn1)
    clear hB hO b1 b2 b3 b4 b5 he
    go_wp2_with fail
    refine (R1.out _ (Below.refl _ _)).mono ?_
    rintro e w3 ⟨rfl, hB⟩
    have B3 := Lib.hid hB
    clear hB
    go_wp2_with fail
    refine (R2.out _ B3.out).mono ?_
    rintro e w4 ⟨rfl, hB⟩
    have B4 := Lib.hid (below_next B3.out hB)
    clear hB
    go_wp2_with fail
    refine (delete_any _ A2 n c2 id h _ (X2.out.below B4.out) hn1).mono ?_
    rintro e w5 ⟨⟨a, A5, c5, hd, hf, rfl, hO⟩ | ⟨hne, _⟩, hB⟩
    case inr => exact absurd HD.out hne
    rw [HT.out a hf] at hO
    have Y5 := Lib.hid hO.rd
    have B5 := Lib.hid (below_next B4.out hB)
    clear hB hO hd hf
    go_wp2_with fail
    refine (F5.out A5 c5 _ Y5.out).mono ?_
    rintro e w6 ⟨rfl, hB⟩
    have Y6 := Lib.hid (Y5.out.below hB)
    have B6 := Lib.hid (below_next B5.out hB)
    clear hB
    go_wp2_with fail
    refine (given_any t A1 n c1 _ (P2.out.below B6.out) hn1).mono ?_
    rintro e w7 ⟨⟨A7, c7, rfl, hO⟩, hB⟩
    have Z7 := Lib.hid hO.rd
    have Y7 := Lib.hid (Y6.out.below hB)
    have B7 := Lib.hid (below_next B6.out hB)
    clear hB hO
    go_wp2_with fail
    refine (same_any _ _ _ _ _ _ _ _ _ Y7.out Z7.out hn1 hn1).mono ?_
    rintro e w8 ⟨rfl, hB⟩
    have B8 := Lib.hid (below_next B7.out (hB.below (B := w7.heap.size)))
    rw [decide_eq_true rfl]
    clear hB
    go_wp2_with fail
    refine (PG.out _).mono ?_
    rintro e w9 ⟨rfl, hB⟩
    have BF := Lib.hid (below_next (below_next B2.out B8.out) hB)
    clear hB
    go_wp2_with fail
    go_ret
    exact ⟨rfl, BF.out⟩
end Pr
end Go.Proofs.Ytommffcojbdldaa
