/- Layer 18 (chance): the contract of Order. -/
import Derived.Test.YtfdbekgmpmfgpaaChG
namespace Go.Proofs.Ytfdbekgmpmfgpaa
open Go.RowKit
namespace Ch

theorem filter_two (f : Nat → Bool) (l : List Nat) : (l.filter fun i => !f i).length + (l.filter f).length = l.length := by
  induction l with
  | nil => rfl
  | cons x l ih => cases h : f x <;> simp [h] <;> omega
theorem Inv.len {us0 ov us : List Bool} {all out who : List Nat} (h : Inv us0 ov all out who us) : out.length + who.length = all.length := by
  obtain ⟨U, P, rfl, _, _, _, _, _, ht⟩ := h
  rw [← ht]
  have := filter_two (stay us0 ov) U
  simp only [List.length_append]
  omega
theorem total_len (us ov : List Bool) (h : Nat) : (total us ov h).length = us.length := by
  unfold total
  rw [List.length_append, filter_two, ring_len]
theorem Inv.lt {us0 ov us : List Bool} {all out who : List Nat} (h : Inv us0 ov all out who us) : ∀ i ∈ who, i < us.length := by
  obtain ⟨U, P, rfl, _, hl, hb, _⟩ := h
  rw [hl]
  exact hb
theorem Inv.us_len {us0 ov us : List Bool} {all out who : List Nat} (h : Inv us0 ov all out who us) : us.length = us0.length := by
  obtain ⟨U, P, rfl, _, hl, _⟩ := h
  exact hl
def lenS : Value → Nat
  | .slice _ n _ => n
  | _ => 0
/-- What Order answers where all is right. -/
def OrderRes (us ov : List Bool) (h : Nat) (W : World) (e : Ending) (w : World) : Prop :=
  ∃ U uc, e = .returned (.tuple #[.slice U us.length uc, .int .i64 0]) ∧ Mem.Rd w U (ints (total us ov h)) ∧ us.length ≤ uc ∧ Below W.heap.size W w
/-- The relation of Order's loop. -/
def OrdR (p ub B : Nat) (us ov : List Bool) (h : Nat) (vo : Value) (W : World) (v : Value) (w : World) : Prop :=
  ∃ out who us' blk, w.ownsRow B 3 1 v out.length (ints out) ∧ WheelB p ub blk who us' vo w ∧ (0 < who.length → blk < w.heap.size ∧ v.ownBlock ≠ some blk) ∧ Inv us ov (total us ov h) out who us' ∧ B ≤ w.heap.size ∧ Below W.heap.size W w
theorem WheelB.len {p ub blk : Nat} {who : List Nat} {us : List Bool} {vo : Value} {w : World} (h : WheelB p ub blk who us vo w) : ∃ off c uc, w.cell? ⟨p, 0, none⟩ = some (.slice (some ⟨blk, off, none⟩) who.length c) ∧ who.length ≤ c ∧ w.frozen? ⟨p, 0, none⟩ = false ∧ WheelA p ub (some ⟨blk, off, none⟩) c uc who us vo w ∧ p < w.heap.size := by
  obtain ⟨off, c, uc, h⟩ := h
  exact ⟨off, c, uc, h.field0, h.2.2.2.1, h.free 0, h, lt_of_block h.1⟩
theorem WheelA.grown {p ub blk off c uc : Nat} {who : List Nat} {us : List Bool} {vo : Value} {w w' : World} {ob : Option Nat} (h : WheelA p ub (some ⟨blk, off, none⟩) c uc who us vo w) (hg : w.grownBy w' ob) (hp : ob ≠ some p) (hu : ob ≠ some ub) (hb : ob ≠ some blk) :
    WheelA p ub (some ⟨blk, off, none⟩) c uc who us vo w' := by
  obtain ⟨h1, h2, h3, h4, h5, h6, h7, h8⟩ := h
  refine ⟨(hg.block p (lt_of_block h1) hp.symm).trans h1, h2, Nat.lt_of_lt_of_le h3 hg.size, h4, h5, fun hl => ?_, fun j hj => ?_, fun j => ?_⟩
  · obtain ⟨b, o, e, hlt, hc⟩ := h6 hl
    injection e with e
    injection e with e1 e2 _
    subst e1 e2
    exact ⟨_, _, rfl, Nat.lt_of_lt_of_le hlt hg.size, fun i hi => (World.cell?_of_block (w := w) (hg.block _ hlt hb.symm)).trans (hc i hi)⟩
  · exact (World.cell?_of_block (w := w) (hg.block ub h3 hu.symm)).trans (h7 j hj)
  · exact (World.frozen?_of_block (w := w) (hg.block ub h3 hu.symm)).trans (h8 j)
theorem own_lt {w : World} {base : Nat} {e : TypeId} {size : Nat} {v : Value} {n : Nat} {xs : List Value} (h : w.ownsRow base e size v n xs) : ∀ k, v.ownBlock = some k → base ≤ k ∧ k < w.heap.size := by
  intro k hk
  rcases h.2 with ⟨rfl, _⟩ | ⟨g, cap, cur, rfl, hb, hg, _⟩
  · cases hk
  · simp only [Value.ownBlock, Option.some.injEq] at hk
    subst hk
    exact ⟨hb, lt_of_block hg⟩
/-- What the round's walk is told, and the relation behind it. -/
structure OrdStep (p ub B : Nat) (us ov : List Bool) (h m : Nat) (vo : Value) (v : Value) (out : List Nat) (W w3 : World) (x : Nat) (blk off c2 : Nat) : Prop where
  own : w3.ownsRow B 3 1 v out.length (ints out)
  f0 : w3.cell? ⟨p, 0, none⟩ = some (.slice (some ⟨blk, off, none⟩) m c2)
  le : m ≤ c2
  fz : w3.frozen? ⟨p, 0, none⟩ = false
  c0 : w3.cell? ⟨blk, off, none⟩ = some (.int .i64 (x : Int))
  lt : p < w3.heap.size
  base : B ≤ w3.heap.size
  more : ∀ v4 w4, w4.ownsRow B 3 1 v4 (out.length + 1) (ints out ++ [.int .i64 (x : Int)]) → (w3.alloc (.cells #[.int .i64 (x : Int)] 3)).grownBy w4 v.ownBlock → (v4.ownBlock = v.ownBlock ∨ v4.ownBlock = some (w3.alloc (.cells #[.int .i64 (x : Int)] 3)).heap.size) →
    w4.cell? ⟨p, 0, none⟩ = some (.slice (some ⟨blk, off, none⟩) m c2) ∧ w4.frozen? ⟨p, 0, none⟩ = false ∧ ∀ A', (A' = some ⟨blk, off, none⟩ ∧ c2 ≤ 1 ∨ A' = some ⟨blk, off + 1, none⟩) → OrdR p ub B us ov h vo W v4 (w4.setCell ⟨p, 0, none⟩ (.slice A' (m - 1) (c2 - 1)))
theorem ord_step {p ub B blk h : Nat} {us ov us' : List Bool} {out who : List Nat} {v vo : Value} {W wr w2 w3 : World} (hpB : p < B) (huB : ub < B) (hp : W.heap.size ≤ p) (hu : W.heap.size ≤ ub)
    (hown : wr.ownsRow B 3 1 v out.length (ints out)) (hsep : blk < wr.heap.size ∧ v.ownBlock ≠ some blk) (hinv : Inv us ov (total us ov h) out who us') (hBw : B ≤ wr.heap.size) (hbe : Below W.heap.size W wr)
    (hb2 : Below wr.heap.size wr w2) (hpass : PassRes p ub blk who us' vo (who.takeWhile (stay us' ov)).length w2 w3) (h0 : who ≠ []) :
    ∃ x blk2 off2 c2, OrdStep p ub B us ov h who.length vo v out W w3 x blk2 off2 c2 := by
  obtain ⟨x, rest, e, hinv2⟩ := hinv.step h0
  obtain ⟨blk2, ⟨off2, c2, uc, hA⟩, hblk, hk⟩ := hpass
  have hl : who.length = rest.length + 1 := by
    have := congrArg List.length e
    simp only [List.length_append, List.length_drop, List.length_take, List.length_cons] at this
    have h1 := List.IsPrefix.length_le (List.takeWhile_prefix (l := who) (stay us' ov))
    omega
  rw [e] at hA
  have hown2 : w3.ownsRow B 3 1 v out.length (ints out) := hk.own (Mem.own_below hown hb2) hpB huB
  have hs2 : wr.heap.size ≤ w3.heap.size := Nat.le_trans hb2.size hk.size
  have f0 := hA.field0
  have c0 : w3.cell? ⟨blk2, off2, none⟩ = some (.int .i64 (x : Int)) ∧ blk2 < w3.heap.size := by
    obtain ⟨b, o, e1, hlt, hc⟩ := hA.2.2.2.2.2.1 (by simp [ints])
    injection e1 with e1
    injection e1 with e1 e2 _
    subst e1 e2
    have := hc 0 (by simp [ints])
    simpa [ints] using ⟨this, hlt⟩
  have hlen : (x :: rest).length = who.length := by rw [hl]; rfl
  rw [hlen] at f0
  have hle : who.length ≤ c2 := by rw [← hlen]; exact hA.2.2.2.1
  have hne : v.ownBlock ≠ some blk2 := by
    intro e1
    rcases hblk with rfl | hblk
    · exact hsep.2 e1
    · have := (own_lt hown _ e1).2
      have := hb2.size
      omega
  have hpl : p < w3.heap.size := lt_of_block hA.1
  refine ⟨x, blk2, off2, c2, hown2, f0, hle, hA.free 0, c0.1, hpl, by omega, fun v4 w4 ho4 hg h4 => ?_⟩
  have hal : Below w3.heap.size w3 (w3.alloc (.cells #[.int .i64 (x : Int)] 3)) := (Below.refl _ _).alloc (Nat.le_refl _) _
  have hA1 : WheelA p ub (some ⟨blk2, off2, none⟩) c2 uc (x :: rest) (clear us' (who.take (who.takeWhile (stay us' ov)).length)) vo (w3.alloc (.cells #[.int .i64 (x : Int)] 3)) := by
    refine WheelA.grown (ob := none) hA ⟨hal.os, hal.tape, hal.output, hal.size, fun k hk _ => hal.block k hk⟩ (by intro e; cases e) (by intro e; cases e) (by intro e; cases e)
  have hA4 := hA1.grown hg (by intro e1; have := (own_lt hown _ e1).1; omega) (by intro e1; have := (own_lt hown _ e1).1; omega) hne
  have f4 := hA4.field0
  rw [hlen] at f4
  refine ⟨f4, hA4.free 0, fun A' hA' => ?_⟩
  have hsz4 : w3.heap.size ≤ w4.heap.size := Nat.le_trans hal.size hg.size
  have hrd : Mem.Rd w4 A' (ints rest) := by
    have := Mem.Rd.cut hA4.2.2.2.2.2.1 1 rest.length (by simp [ints]; omega) A' (fun hpos => by
      rcases hA' with ⟨_, hc⟩ | hA'
      · omega
      · rw [hA']; simp [Mem.add_none])
    rw [ints_drop, ints_take, List.drop_one, List.tail_cons, List.take_length] at this
    exact this
  obtain ⟨ht, _⟩ := hA4.turn (Below.refl _ _) (who' := rest) (n := who.length - 1) (c' := c2 - 1) (by omega) (by omega) hrd
  obtain ⟨offn, hAn⟩ : ∃ offn, A' = some ⟨blk2, offn, none⟩ := by
    rcases hA' with ⟨h1, _⟩ | h1
    · exact ⟨_, h1⟩
    · exact ⟨_, h1⟩
  subst hAn
  have hbl : Below W.heap.size W w4 := by
    have q1 : Below W.heap.size W w3 := (hbe.trans (hb2.mono hbe.size)).trans (hk.below hp hu (Nat.le_trans hbe.size hb2.size))
    have q2 : Below W.heap.size W (w3.alloc (.cells #[.int .i64 (x : Int)] 3)) := q1.trans (hal.mono q1.size)
    refine q2.grown hg q2.size ?_
    intro k hk'
    have := (own_lt hown _ hk').1
    omega
  refine ⟨out ++ [x], rest, clear us' (who.take (who.takeWhile (stay us' ov)).length), blk2, ?_, ⟨offn, c2 - 1, uc, ht⟩, fun _ => ⟨?_, ?_⟩, hinv2, ?_, hbl.setCell (by simpa using hp) _⟩
  · rw [List.length_append, ints_app]
    exact ownsRow_setCell_below ho4 (by simpa using hpB) _
  · have := c0.2
    simp only [World.size_setCell]
    omega
  · rcases h4 with h4 | h4
    · rw [h4]; exact hne
    · rw [h4]
      intro e1
      injection e1 with e1
      have := c0.2
      have := hal.size
      omega
  · simp only [World.size_setCell]
    omega
set_option maxHeartbeats 3200000 in
theorem order_any (us ov : List Bool) (A : Option Addr) (c : Nat) (Ao : Option Addr) (co : Nat) (h : Nat) (W : World) (hr : Mem.Rd W A (bools us)) (ho : Mem.Rd W Ao (bools ov)) (hl : us.length = ov.length) (hm : us.length ≤ 1000) (hh : h < us.length) :
    Calls Try.prog 9 #[.slice A us.length c, .slice Ao ov.length co, .int .i64 (h : Int)] W (OrderRes us ov h W) := by
  have HR := right_any us.length ov.length (h : Int) W
  rw [← hl, rightv_of hh] at HR
  have HS := Lib.hid (set_any us h A c Ao ov.length co W hr (by omega) hm hh)
  have HO := Lib.hid ho
  have HL := Lib.hid hl
  have HM := Lib.hid hm
  obtain ⟨i0, hi0, hz0, hz1, hz2⟩ := info_at infoI
  have I0 := Lib.hid hi0
  have I1 := Lib.hid hz0
  have I2 := Lib.hid hz1
  have I3 := Lib.hid hz2
  obtain ⟨n, hn⟩ : ∃ n, us.length = n := ⟨_, rfl⟩
  have HN := Lib.hid hn
  rw [← hl] at HS ⊢
  rw [hn] at hh hm HR
  rw [hn] at HS ⊢
  clear hr ho hl hn hi0 hz0 hz1 hz2
  go_enter Try.func9, Try.ntmps9
  go_wp2_with (go_at_call 19; refine HR.mono ?_; rintro e w1 ⟨rfl, rfl⟩)
  refine HS.out.mono ?_
  rintro e w1 ⟨p, ub, rfl, hw, hp, hu, hb⟩
  go_wp2_with fail
  have hw' : Wheel p ub (ring us.length h) us (.slice Ao ov.length co) w1 := by
    rw [HN.out] at hw
    rw [← HL.out, HN.out]
    exact hw
  obtain ⟨vo, hvo⟩ : ∃ vo, Value.slice Ao ov.length co = vo := ⟨_, rfl⟩
  have HVO := Lib.hid hvo
  have hpl : p < w1.heap.size ∧ ub < w1.heap.size := by
    obtain ⟨_, _, _, q1, _, q2, _⟩ := hw'
    exact ⟨lt_of_block q1, q2⟩
  obtain ⟨B, hB⟩ : ∃ B, w1.heap.size = B := ⟨_, rfl⟩
  have HST : OrdR p ub B us ov h vo W (.slice none 0 0) w1 := by
    obtain ⟨blk, hblk, hwb⟩ := hw'.at (by rw [ring_len, HN.out]; omega)
    rw [HVO.out] at hwb
    exact ⟨[], ring us.length h, us, blk, World.ownsRow_nil _ _ _ _, hwb, fun _ => ⟨hblk, by simp [Value.ownBlock]⟩, Inv.start us ov h, by omega, hb⟩
  have HST := Lib.hid HST
  have HP := Lib.hid hp
  have HU := Lib.hid hu
  have HPL := Lib.hid hpl
  have HB := Lib.hid hB
  clear hw hw' hb hvo hp hu hpl hB
  go_loopw [10] (OrdR p ub B us ov h vo W) (fun v _ => n - lenS v)
  case atStart => exact HST.out
  case round =>
    obtain ⟨out, who, us', blk, hown, hwb, hsep, hinv, hBw, hbelow⟩ := hrel
    obtain ⟨off, c1, uc, f0, hc1, fz, hA, hpw⟩ := hwb.len
    obtain ⟨A1, o1, rfl, ho1⟩ := Mem.own_shape hown
    have HOWN := Lib.hid hown
    have HWB := Lib.hid hwb
    have HSEP := Lib.hid hsep
    have HINV := Lib.hid hinv
    have HBW := Lib.hid hBw
    have HBE := Lib.hid hbelow
    have hlen := hinv.len
    rw [total_len, HN.out] at hlen
    obtain ⟨m, hm2⟩ : ∃ m, who.length = m := ⟨_, rfl⟩
    rw [hm2] at f0 hc1 hlen
    obtain ⟨j, hj⟩ : ∃ j, out.length = j := ⟨_, rfl⟩
    rw [hj] at hlen
    have HM2 := Lib.hid hm2
    have HJ := Lib.hid hj
    clear hown hwb hsep hinv hBw hbelow hA hm2 hj
    by_cases h0 : 0 < m
    · have h0' : (0 : Int) < (m : Int) := by omega
      go_wp2_with fail
      have hwl : who.length ≤ 1000 := by rw [HM2.out]; omega
      have hus : us'.length = us.length := HINV.out.us_len
      have hwv : WheelB p ub blk who us' (.slice Ao ov.length co) wr := by rw [HVO.out]; exact HWB.out
      refine (passed_any p ub who us' ov Ao co wr hwv.wheel (HO.out.below (HBE.out)) (hus.trans HL.out) (by rw [hus]; exact HM.out) HINV.out.lt hwl).mono ?_
      rintro e w2 ⟨rfl, hb2⟩
      go_wp2_with fail
      refine (pass_any p ub blk who us' (.slice Ao ov.length co) _ w2 (hwv.below hb2) (List.IsPrefix.length_le (List.takeWhile_prefix _)) HINV.out.lt hwl (by rw [HM2.out]; exact h0)).mono ?_
      rintro e w3 ⟨rfl, hpass⟩
      rw [HVO.out] at hpass
      have hne : who ≠ [] := by intro e; have := HM2.out; rw [e] at this; simp at this; omega
      obtain ⟨x, blk2, off2, c2, hs⟩ := ord_step (h := h) (by rw [← HB.out]; exact HPL.out.1) (by rw [← HB.out]; exact HPL.out.2) HP.out HU.out HOWN.out (HSEP.out (by rw [HM2.out]; exact h0)) HINV.out HBW.out HBE.out hb2 hpass hne
      rw [HM2.out] at hs
      have g0 := hs.f0
      have g1 := hs.fz
      have g2 := hs.c0
      have hle := hs.le
      have HSS := Lib.hid hs
      have hm1 : (1 : Int) ≤ (m : Int) := by omega
      have hm2 : (m : Int) ≤ (c2 : Int) := by omega
      have ga : ∀ o, (w3.alloc o).cell? ⟨p, 0, none⟩ = some (.slice (some ⟨blk2, off2, none⟩) m c2) := fun o => by rw [World.cell?_alloc_lt _ _ _ HSS.out.lt]; exact HSS.out.f0
      have hoj : w3.ownsRow B 3 1 (.slice A1 out.length o1) j (ints out) := by
        have := hs.own
        rw [HJ.out] at this ⊢
        exact this
      have HOJ := Lib.hid hoj
      clear hs hpass hwv hb2 hwl hne hus hoj
      go_wp2_with (at_builtin; refine Mem.wpList_append_rd _ rfl (.tmp 36) (.tmp 43) 24 rfl B 3 i0 (.int .i64 0) 8 Try.underlying24 I0.out I1.out I2.out I3.out rfl (.slice A1 out.length o1) j (ints out) rfl (by exact HOJ.out.alloc _) (some ⟨w3.heap.size, 0, none⟩) 1 1 [.int .i64 (x : Int)] rfl rfl (by exact rd_new w3 x _) (by intro u hu; simp at hu; subst hu; rfl) (by simp only [maxLen]; omega) (by omega) (by have := HSS.out.base; simp; omega) ?_; intro v4 w4 hown4 hg4 hv4; obtain ⟨A4, c4, rfl, _⟩ := Mem.own_shape hown4; obtain ⟨k1, k2, k3⟩ := HSS.out.more _ w4 (by rw [HJ.out]; exact hown4) hg4 hv4; have K3 := Lib.hid k3; clear k3 hown4 hg4 hv4)
      refine ⟨K3.out _ ?_, ?_⟩
      · by_cases hc : c2 = 1
        · rw [if_pos hc]; exact .inl ⟨rfl, by omega⟩
        · rw [if_neg hc]; exact .inr rfl
      · have := HJ.out
        simp only [lenS]
        omega
    · obtain rfl : m = 0 := by omega
      have hd : out = total us ov h := by
        have e := HM2.out
        rw [List.length_eq_zero_iff] at e
        have hi := HINV.out
        rw [e] at hi
        exact hi.done
      have HD := Lib.hid hd
      clear hd
      go_wp2_with fail
      go_ret2
      refine ⟨A1, o1, ?_, ?_, ?_, HBE.out⟩
      · rw [HJ.out, HN.out, show j = n by omega]; rfl
      · rw [← HD.out]
        exact Mem.Rd.of_own HOWN.out
      · rw [HN.out, ← show j = n by omega, ← HJ.out]
        exact ho1
theorem order_bad (n m : Nat) (A : Option Addr) (c : Nat) (Ao : Option Addr) (co : Nat) (h : Int) (w : World) (hb : rightv n m h ≠ 0) :
    Calls Try.prog 9 #[.slice A n c, .slice Ao m co, .int .i64 h] w fun e w' => e = .returned (.tuple #[.slice none 0 0, .int .i64 (rightv n m h)]) ∧ w = w' := by
  have HR := right_any n m h w
  obtain ⟨r, hr⟩ : ∃ r, rightv n m h = r := ⟨_, rfl⟩
  rw [hr] at hb HR ⊢
  clear hr
  go_enter Try.func9, Try.ntmps9
  go_wp2_with (go_at_call 19; refine HR.mono ?_; rintro e w1 ⟨rfl, rfl⟩)
  go_ret2
  exact ⟨rfl, rfl⟩
end Ch
end Go.Proofs.Ytfdbekgmpmfgpaa
