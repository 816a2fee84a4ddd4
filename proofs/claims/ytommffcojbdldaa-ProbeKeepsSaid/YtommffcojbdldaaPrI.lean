/- Layer 19: the contracts of has and slices.Clone. -/
import Derived.Test.YtommffcojbdldaaPrH
namespace Go.Proofs.Ytommffcojbdldaa
open Go.RowKit
namespace Pr

theorem has1_any (p : Nat × Int) (id q : Nat) (W : World) (hq : W.cell? ⟨q, 0, none⟩ = some (.int .u32 (id : Int))) :
    Calls Try.prog 44 #[.agg #[.int .u32 (p.1 : Int), .int .i64 p.2], .pointer (some ⟨q, 0, none⟩)] W fun e w => e = .returned (.bool (decide (p.1 = id))) ∧ Below W.heap.size W w := by
  obtain ⟨u, v⟩ := p
  have hlt : q < W.heap.size := World.block_lt_of_cell? W _ hq
  by_cases h : u = id
  · have x1 : (u : Int) = (id : Int) := by omega
    have HD := Lib.hid (show decide (u = id) = true by simpa using h)
    clear h
    go_enter Try.func44, Try.ntmps44
    go_wp2_with fail
    go_ret
    exact ⟨by rw [HD.out]; rfl, (Below.refl _ _).alloc (Nat.le_refl _) _⟩
  · have x1 : ¬ (u : Int) = (id : Int) := by omega
    have x2 : ((u : Int) == (id : Int)) = false := by simpa using x1
    have HD := Lib.hid (show decide (u = id) = false by simpa using h)
    clear h
    go_enter Try.func44, Try.ntmps44
    go_wp2_with fail
    go_ret
    exact ⟨by rw [HD.out]; rfl, (Below.refl _ _).alloc (Nat.le_refl _) _⟩
def idAt (t : Tab) (id k : Nat) : Bool := decide ((cl t k).1 = id)
/-- Is an ID in a table? -/
def hasB (t : Tab) (id : Nat) : Bool := (fst (idAt t id) t.length).isSome
def IxRes (p : Nat → Bool) (n : Nat) (W : World) (e : Ending) (w : World) : Prop := e = .returned (.int .i64 (fstI (fst p n))) ∧ Below W.heap.size W w
def IxR (p : Nat → Bool) (n : Nat) (W : World) (i : Value) (w : World) : Prop := ∃ k : Nat, k ≤ n ∧ i = .int .i64 (k : Int) ∧ Below W.heap.size W w ∧ ∀ j, j < k → p j = false
set_option maxHeartbeats 1600000 in
theorem index_any (t : Tab) (A : Option Addr) (n c id q : Nat) (W : World) (hr : RdT W A n t) (hn : n ≤ 100000) (hq : W.cell? ⟨q, 0, none⟩ = some (.int .u32 (id : Int))) :
    Calls Try.prog 45 #[.slice A n c, .func (.func 44) #[] #[.pointer (some ⟨q, 0, none⟩)]] W (IxRes (idAt t id) n W) := by
  have HR := Lib.hid hr
  have HQ := Lib.hid hq
  have HQL := Lib.hid (World.block_lt_of_cell? W _ hq)
  clear hr hq
  go_enter Try.func45, Try.ntmps45
  go_wp2_with fail
  go_loopw [8] (IxR (idAt t id) n W) (fun i _ => n - (intOf i).toNat)
  case atStart => exact ⟨0, by omega, rfl, Below.refl _ _, fun j hj => absurd hj (by omega)⟩
  case round =>
    obtain ⟨k, hk, rfl, hb, hp⟩ := hrel
    have HB := Lib.hid hb
    have HP := Lib.hid hp
    by_cases hkn : k < n
    · obtain ⟨tb, off, rfl, _, hc⟩ := (HR.out.below hb).rows (by omega)
      obtain ⟨h1, h2⟩ := hc k hkn
      have CL := Lib.hid (has1_any (cl t k) id q wr ((hb.cell (p := ⟨q, 0, none⟩) HQL.out).trans HQ.out))
      obtain ⟨m, hm⟩ : ∃ m, idAt t id k = m := ⟨_, rfl⟩
      have hm2 : decide ((cl t k).1 = id) = m := hm
      rw [hm2] at CL
      have HM := Lib.hid hm
      obtain ⟨u, hu⟩ : ∃ u, (cl t k).1 = u := ⟨_, rfl⟩
      obtain ⟨v, hv⟩ : ∃ v, (cl t k).2 = v := ⟨_, rfl⟩
      rw [hu, hv] at CL
      rw [hu] at h1
      rw [hv] at h2
      have q0 : (0 : Int) ≤ (k : Int) := by omega
      have q1 : (k : Int) < (n : Int) := by omega
      clear hb hp hc hm hm2 hu hv
      go_wp2_with fail
      refine CL.out.mono ?_
      rintro e w2 ⟨rfl, b2⟩
      have B2 := Lib.hid (below_next HB.out b2)
      clear b2
      cases m with
      | true =>
        have FI := Lib.hid (fst_some hkn HM.out HP.out)
        go_wp2_with fail
        go_ret
        exact ⟨by rw [FI.out]; rfl, B2.out⟩
      | false =>
        go_wp2_with fail
        go_roundw
        case rel => exact ⟨k + 1, by omega, by go_num, B2.out, fun j hj => by
          rcases Nat.lt_or_ge j k with h | h
          · exact HP.out j h
          · obtain rfl : j = k := by omega
            exact HM.out⟩
        case measure => simp [intOf]; omega
    · obtain rfl : n = k := by omega
      have FI := Lib.hid (fst_none hp)
      clear hb hp
      go_wp2_with fail
      go_ret
      exact ⟨by rw [FI.out]; rfl, HB.out⟩
theorem contains_any (t : Tab) (A : Option Addr) (n c id q : Nat) (W : World) (hr : RdT W A n t) (hn : n ≤ 100000) (hq : W.cell? ⟨q, 0, none⟩ = some (.int .u32 (id : Int))) :
    Calls Try.prog 43 #[.slice A n c, .func (.func 44) #[] #[.pointer (some ⟨q, 0, none⟩)]] W fun e w => e = .returned (.bool (hasB t id)) ∧ Below W.heap.size W w := by
  have IX := Lib.hid (index_any t A n c id q W hr hn hq)
  have HL := Lib.hid hr.len
  clear hr hq
  go_enter Try.func43, Try.ntmps43
  go_wp2_with fail
  refine IX.out.mono ?_
  rintro e w ⟨rfl, b⟩
  have B := Lib.hid b
  clear b
  cases hf : fst (idAt t id) n with
  | none =>
    have HF := Lib.hid (show hasB t id = false by unfold hasB; rw [HL.out, hf]; rfl)
    simp only [fstI]
    clear hf
    go_wp2_with fail
    go_ret
    exact ⟨by rw [HF.out]; rfl, B.out⟩
  | some k =>
    have HF := Lib.hid (show hasB t id = true by unfold hasB; rw [HL.out, hf]; rfl)
    simp only [fstI]
    clear hf
    go_wp2_with fail
    go_ret
    exact ⟨by rw [HF.out]; rfl, B.out⟩
theorem has_any (t : Tab) (A : Option Addr) (n c id : Nat) (W : World) (hr : RdT W A n t) (hn : n ≤ 100000) :
    Calls Try.prog 29 #[.slice A n c, .int .u32 (id : Int)] W fun e w => e = .returned (.bool (hasB t id)) ∧ Below W.heap.size W w := by
  have hmf : ∀ (fn : Fn) (first cap : Array Value) (w : World), (Instr.makeFunc fn first cap).run Try.prog w = .ok (.func fn first cap) w := fun _ _ _ _ => rfl
  have hb : Below W.heap.size W (W.alloc (.cells #[.int .u32 (id : Int)] 23)) := (Below.refl _ _).alloc (Nat.le_refl _) _
  have CO := Lib.hid (contains_any t A n c id W.heap.size (W.alloc (.cells #[.int .u32 (id : Int)] 23)) (hr.below hb) hn (by simp [go_sem]))
  have HB := Lib.hid hb
  clear hr hb
  go_enter Try.func29, Try.ntmps29
  go_wp2_with fail
  refine CO.out.mono ?_
  rintro e w ⟨rfl, b⟩
  have B := Lib.hid (below_next HB.out b)
  clear b
  go_wp2_with fail
  go_ret
  exact ⟨rfl, B.out⟩
theorem infoC : (Try.prog.info? 48).map (fun i => (i.zero, i.size, i.bytes)) = some (some (.agg #[.int .u32 0, .int .i64 0]), 2, 16) := by kernel_rfl
theorem info_at {e : TypeId} {z : Value} {n m : Nat} (h : (Try.prog.info? e).map (fun i => (i.zero, i.size, i.bytes)) = some (some z, n, m)) : ∃ i, Try.prog.info? e = some i ∧ i.zero = some z ∧ i.size = n ∧ i.bytes = m := by
  cases hi : Try.prog.info? e with
  | none => rw [hi] at h; cases h
  | some i =>
    rw [hi] at h
    simp only [Option.map_some, Option.some.injEq, Prod.mk.injEq] at h
    exact ⟨i, rfl, h.1, h.2.1, h.2.2⟩
/-- These cells lie at a slice's address. -/
def Lie (w : World) (A : Option Addr) (xs : List Value) : Prop := 0 < xs.length → ∃ b off, A = some ⟨b, off, none⟩ ∧ b < w.heap.size ∧ ∀ i, i < xs.length → w.cell? ⟨b, off + i, none⟩ = xs[i]?
theorem RdT.lie {w : World} {A : Option Addr} {n : Nat} {t : Tab} (h : RdT w A n t) : Lie w A (cels t) := fun h0 => by
  rw [cels_len, h.len] at h0
  obtain ⟨b, off, ha, hlt, hc⟩ := h.rows (by omega)
  refine ⟨b, off, ha, hlt, fun i hi => ?_⟩
  rw [cels_len, h.len] at hi
  obtain ⟨k, hk⟩ : ∃ k, i = k * 2 ∨ i = k * 2 + 1 := ⟨i / 2, by omega⟩
  obtain ⟨a1, a2⟩ := cels_at t k (by rw [h.len]; omega)
  obtain ⟨c1, c2⟩ := hc k (by omega)
  rcases hk with rfl | rfl
  · rw [c1, a1]
  · rw [← Nat.add_assoc, c2, a2]
theorem run_append_nil {P : Program} {w : World} {base size : Nat} {t ty e : TypeId} {i : TypeInfo} (ht : P.underlying t = some (.slice e)) (hi : P.info? e = some i)
    {v : Value} {n : Nat} {xs : List Value} (hown : w.ownsRow base e size v n xs) (c : Nat) : (Builtin.append_ #[t, t] ty #[v, .slice none 0 c]).run P w = .ok v w := by
  rcases hown.2 with ⟨rfl, rfl⟩ | ⟨g, cap, cur, rfl, _, _, hnc, _⟩
  · simp [Builtin.append_, run_underlying ht, sizeOf, typeInfo, hi, Builtin.lenOf, Builtin.firstCells]
  · simp [Builtin.append_, run_underlying ht, sizeOf, typeInfo, hi, Builtin.lenOf, Builtin.firstCells, hnc, storeCells]
theorem wpList_append_lie {P : Program} (w : World) {ops : Array Oper} {rest : List Oper} {o : Oper} {a : Act} {Q : Exit → Act → World → Prop} (hgd : o.guard = none) (s x : Operand) (t : TypeId)
    (ho : o.op = .call { callee := .builtin .append, args := #[s, x], argTypes := #[t, t] })
    (base : Nat) (e : TypeId) (i : TypeInfo) (z : Value) (size bytes : Nat) (ht : P.underlying t = some (.slice e)) (hi : P.info? e = some i) (hz : i.zero = some z)
    (hsize : i.size = size) (hby : i.bytes = bytes) (hzs : z.cells.size = size) (hs0 : 0 < size)
    (v : Value) (n : Nat) (xs : List Value) (hs : a.eval s = v) (hown : w.ownsRow base e size v n xs)
    (A : Option Addr) (m c : Nat) (news : List Value) (hx : a.eval x = .slice A m c) (hm : news.length = m * size) (hr : Lie w A news) (h1 : ∀ u ∈ news, u.oneCell' = true)
    (h63 : n + m ≤ maxLen) (hbytes : (n + m) * bytes ≤ 140737488355328) (hbase : base ≤ w.heap.size)
    (h : ∀ v' w', w'.ownsRow base e size v' (n + m) (xs ++ news) → w.grownBy w' v.ownBlock → (v'.ownBlock = v.ownBlock ∨ v'.ownBlock = some w.heap.size) → wpList P ops Q rest (a.put o.dst v') w') : wpList P ops Q (o :: rest) a w := by
  refine wpList_plain hgd fun K hK => ?_
  have key : ∃ v' w', (Builtin.append_ #[t, t] o.type #[v, .slice A m c]).run P w = .ok v' w' ∧ w'.ownsRow base e size v' (n + m) (xs ++ news) ∧ w.grownBy w' v.ownBlock ∧ (v'.ownBlock = v.ownBlock ∨ v'.ownBlock = some w.heap.size) := by
    cases A with
    | none =>
      have h0 : m = 0 := by
        rcases Nat.eq_zero_or_pos m with h0 | h0
        · exact h0
        · obtain ⟨b, off, e1, _⟩ := hr (by rw [hm]; exact Nat.mul_pos h0 hs0)
          cases e1
      subst h0
      have hn : news = [] := List.eq_nil_of_length_eq_zero (by omega)
      subst hn
      exact ⟨v, w, run_append_nil ht hi hown c, by simpa using hown, ⟨rfl, rfl, rfl, Nat.le_refl _, fun _ _ _ => rfl⟩, .inl rfl⟩
    | some ad =>
      have hcells : ∀ j u, news[j]? = some u → w.cell? (ad.add j) = some u := by
        intro j u hu
        have hj : j < news.length := (List.getElem?_eq_some_iff.1 hu).1
        obtain ⟨b, off, e1, _, hc⟩ := hr (by omega)
        injection e1 with e1
        subst e1
        rw [Mem.add_none, hc j hj, hu]
      obtain ⟨v', w', hrun, h2, h3, _, h5⟩ := run_append_own_at (P := P) w base t o.type e i z size bytes ht hi hz hsize hby hzs hs0 v n xs hown ad m c news hm hcells h1 h63 hbytes hbase
      exact ⟨v', w', hrun, h2, h3, h5⟩
  obtain ⟨v', w', hrun, h2, h3, h4⟩ := key
  unfold Oper.wp execOp
  simp only [ho, resolve, invoke, builtin, Sem.run_bind, Sem.run_pure, Result.andThen_ok, List.map_toArray, List.map_cons, List.map_nil, hs, hx, hrun]
  exact hK _ _ (h v' w' h2 h3 h4)
theorem own_zero (w : World) (e : TypeId) (size : Nat) : (w.alloc (.cells #[] e)).ownsRow w.heap.size e size (.slice (some ⟨w.heap.size, 0, none⟩) 0 0) 0 [] :=
  ⟨by simp, .inr ⟨w.heap.size, 0, #[], rfl, Nat.le_refl _, heap_alloc_new w _, Nat.le_refl _, by decide, by simp, by simp⟩⟩
def ClRes (t : Tab) (n : Nat) (W : World) (e : Ending) (w : World) : Prop := (∃ A c, e = .returned (.slice A n c) ∧ OwnT w W.heap.size A n c t) ∧ Below W.heap.size W w
set_option maxHeartbeats 800000 in
theorem clone_any (t : Tab) (A : Option Addr) (n c : Nat) (W : World) (hr : RdT W A n t) (h0 : 0 < n) (hn : n ≤ 100000) :
    Calls Try.prog 42 #[.slice A n c] W (ClRes t n W) := by
  have qT : ∀ (w : World) (a : Option Addr) (n c n' c' : Nat), (binOp .eql 25 (.slice a n c) (.slice none n' c')).run Try.prog w = .ok (.bool a.isNone) w := fun w a n c n' c' => Lib.run_eql_slice_nil w _ _ a n c n' c' Try.underlying25
  obtain ⟨i0, hi0, hz0, hz1, hz2⟩ := info_at infoC
  have I0 := Lib.hid hi0
  have I1 := Lib.hid hz0
  have I2 := Lib.hid hz1
  have I3 := Lib.hid hz2
  obtain ⟨b, off, rfl, _, _⟩ := hr.rows h0
  have HL := Lib.hid (show Lie (W.alloc (.cells #[] 48)) (some ⟨b, off, none⟩) (cels t) from (hr.below ((Below.refl _ _).alloc (Nat.le_refl _) _)).lie)
  have HN := Lib.hid (show (cels t).length = n * 2 by rw [cels_len, hr.len])
  have HF := Lib.hid (And.intro hr.len hr.fine)
  clear hi0 hz0 hz1 hz2 hr
  go_enter Try.func42, Try.ntmps42
  go_wp2_with (at_builtin; refine wpList_append_lie _ rfl (.tmp 5) (.tmp 6) 25 rfl W.heap.size 48 i0 (.agg #[.int .u32 0, .int .i64 0]) 2 16 Try.underlying25 I0.out I1.out I2.out I3.out rfl (by decide) (.slice (some ⟨W.heap.size, 0, none⟩) 0 0) 0 [] rfl (own_zero W 48 2) (some ⟨b, off, none⟩) n c (cels t) rfl HN.out HL.out (one_cels t) (by simp only [maxLen]; omega) (by omega) (by simp) ?_; intro v1 w1 hown1 hg1 _)
  simp only [Nat.zero_add, List.nil_append] at hown1
  obtain ⟨A1, c1, rfl, _⟩ := Mem.own_shape hown1
  go_ret
  exact ⟨⟨A1, c1, rfl, hown1, HF.out.1, HF.out.2⟩, ((Below.refl _ _).alloc (Nat.le_refl _) _).grown hg1 (by simp) (by simp [Value.ownBlock])⟩
end Pr
end Go.Proofs.Ytommffcojbdldaa
