/- Layers 6 and 7: bytes.Clone; records in blocks of their own. -/
import Derived.Test.YtajkcghbdbjmaaaRcD
import Derived.Lib.SliceRun
import Derived.Lib.JoinLaws
namespace Go.Proofs.Ytajkcghbdbjmaaa
open Go.RowKit
namespace Rc

theorem own_zero (w : World) (e : TypeId) (size : Nat) : (w.alloc (.cells #[] e)).ownsRow w.heap.size e size (.slice (some ⟨w.heap.size, 0, none⟩) 0 0) 0 [] :=
  ⟨by simp, .inr ⟨w.heap.size, 0, #[], rfl, Nat.le_refl _, heap_alloc_new w _, Nat.le_refl _, by decide, by simp, by simp⟩⟩
theorem own_ge {w : World} {base : Nat} {e : TypeId} {size : Nat} {v : Value} {n : Nat} {xs : List Value} (h : w.ownsRow base e size v n xs) : ∀ k, v.ownBlock = some k → base ≤ k := by
  intro k hk
  rcases h.2 with ⟨rfl, _⟩ | ⟨g, cap, cur, rfl, hb, _⟩
  · cases hk
  · simp only [Value.ownBlock, Option.some.injEq] at hk
    omega
theorem own_lt {w : World} {base : Nat} {e : TypeId} {size : Nat} {v : Value} {n : Nat} {xs : List Value} (h : w.ownsRow base e size v n xs) : ∀ k, v.ownBlock = some k → base ≤ k ∧ k < w.heap.size := by
  intro k hk
  rcases h.2 with ⟨rfl, _⟩ | ⟨g, cap, cur, rfl, hb, hg, _⟩
  · cases hk
  · simp only [Value.ownBlock, Option.some.injEq] at hk
    subst hk
    exact ⟨hb, lt_of_block hg⟩
theorem own_mono {w : World} {base base' : Nat} {e : TypeId} {size : Nat} {v : Value} {n : Nat} {xs : List Value} (h : w.ownsRow base e size v n xs) (hb : base' ≤ base) : w.ownsRow base' e size v n xs := by
  refine ⟨h.1, ?_⟩
  rcases h.2 with h2 | ⟨g, cap, cur, h3, h4, h5⟩
  · exact .inl h2
  · exact .inr ⟨g, cap, cur, h3, Nat.le_trans hb h4, h5⟩
/-- What bytes.Clone answers. -/
def CloneRes (bs : List Nat) (W : World) (e : Ending) (w : World) : Prop :=
  (∃ v, e = .returned v ∧ w.ownsRow W.heap.size 5 1 v bs.length (octets bs)) ∧ Below W.heap.size W w
set_option maxHeartbeats 800000 in
theorem clone_any (bs : List Nat) (A : Option Addr) (c : Nat) (W : World) (hr : Mem.Rd W A (octets bs)) (hn : A = none → bs.length = 0 ∧ c = 0) (hm : bs.length ≤ 100000) :
    Calls Try.prog 32 #[.slice A bs.length c] W (CloneRes bs W) := by
  have qT : ∀ (w : World) (a : Option Addr) (n c n' c' : Nat), (binOp .eql 22 (.slice a n c) (.slice none n' c')).run Try.prog w = .ok (.bool a.isNone) w := fun w a n c n' c' => Lib.run_eql_slice_nil w _ _ a n c n' c' Try.underlying22
  obtain ⟨i0, hi0, hz0, hz1, hz2⟩ := info_at infoB
  have I0 := Lib.hid hi0
  have I1 := Lib.hid hz0
  have I2 := Lib.hid hz1
  have I3 := Lib.hid hz2
  have HA := Lib.hid (hr.alloc (.cells #[] 5))
  obtain ⟨n, hn0⟩ : ∃ n, bs.length = n := ⟨_, rfl⟩
  have HN := Lib.hid hn0
  rw [hn0] at hm hn ⊢
  clear hi0 hz0 hz1 hz2 hr hn0
  cases A with
  | none =>
    obtain ⟨rfl, rfl⟩ := hn rfl
    obtain rfl : bs = [] := List.eq_nil_of_length_eq_zero HN.out
    clear hn
    go_enter Try.func32, Try.ntmps32
    go_wp2
    go_ret
    exact ⟨⟨_, rfl, World.ownsRow_nil _ _ _ _⟩, Below.refl _ _⟩
  | some ad =>
    clear hn
    go_enter Try.func32, Try.ntmps32
    go_wp2_with (at_builtin; refine Mem.wpList_append_rd _ rfl (.tmp 5) (.tmp 6) 22 rfl W.heap.size 5 i0 (.int .u8 0) 1 Try.underlying22 I0.out I1.out I2.out I3.out rfl (.slice (some ⟨W.heap.size, 0, none⟩) 0 0) 0 [] rfl (own_zero W 5 1) (some ad) n c (octets bs) rfl (by rw [octets_len]; exact HN.out) HA.out (one_octets bs) (by simp only [maxLen]; omega) (by omega) (by simp) ?_; intro v1 w1 hown1 hg1 _)
    simp only [Nat.zero_add, List.nil_append] at hown1
    go_ret
    exact ⟨⟨_, rfl, by rw [HN.out]; exact hown1⟩, ((Below.refl _ _).alloc (Nat.le_refl _) _).grown hg1 (by simp) (by simp [Value.ownBlock])⟩
theorem clone_n {bs : List Nat} {n : Nat} (hn : bs.length = n) (A : Option Addr) (c : Nat) (W : World) (hr : Mem.Rd W A (octets bs)) (hA : A = none → n = 0 ∧ c = 0) (hm : n ≤ 100000) :
    Calls Try.prog 32 #[.slice A n c] W (CloneRes bs W) := by
  subst hn
  exact clone_any bs A c W hr hA hm
/-- Records, each in a block of its own, none in the row's block. -/
structure OwnRecs (w : World) (B : Nat) (ob : Option Nat) (vs : List Value) (rs : List (List Nat)) : Prop where
  len : vs.length = rs.length
  own : ∀ (i : Nat) (v : Value) (r : List Nat), vs[i]? = some v → rs[i]? = some r → w.ownsRow B 5 1 v r.length (octets r)
  out : ∀ (i : Nat) (v : Value) (k : Nat), vs[i]? = some v → v.ownBlock = some k → ob ≠ some k
  apart : ∀ (i j : Nat) (v u : Value) (k : Nat), i < j → vs[i]? = some v → vs[j]? = some u → v.ownBlock = some k → u.ownBlock ≠ some k
theorem OwnRecs.nil (w : World) (B : Nat) (ob : Option Nat) : OwnRecs w B ob [] [] :=
  ⟨rfl, fun i v r h => by simp at h, fun i v k h => by simp at h, fun i j v u k _ h => by simp at h⟩
theorem kept_below {w w' : World} {base : Nat} {e : TypeId} {size : Nat} {v : Value} {n : Nat} {xs : List Value} (h : w.ownsRow base e size v n xs) (hb : Below w.heap.size w w') : w'.ownsRow base e size v n xs := Mem.own_below h hb
theorem OwnRecs.below {w w' : World} {B : Nat} {ob : Option Nat} {vs : List Value} {rs : List (List Nat)} (h : OwnRecs w B ob vs rs) (hb : Below w.heap.size w w') : OwnRecs w' B ob vs rs :=
  ⟨h.len, fun i v r h1 h2 => kept_below (h.own i v r h1 h2) hb, h.out, h.apart⟩
theorem OwnRecs.rec_at {w : World} {B : Nat} {ob : Option Nat} {vs : List Value} {rs : List (List Nat)} (h : OwnRecs w B ob vs rs) {i : Nat} {v : Value} (hv : vs[i]? = some v) : ∃ r, rs[i]? = some r := by
  have hi := (List.getElem?_eq_some_iff.1 hv).1
  exact ⟨_, List.getElem?_eq_getElem (by rw [← h.len]; exact hi)⟩
theorem OwnRecs.push {w w1 w2 : World} {B : Nat} {ob ob' : Option Nat} {vs : List Value} {rs : List (List Nat)} {v : Value} {r : List Nat} {o : Obj} (h : OwnRecs w B ob vs rs) (hB : B ≤ w.heap.size) (hob : ∀ k, ob = some k → k < w.heap.size)
    (hv : w1.ownsRow w.heap.size 5 1 v r.length (octets r)) (hb : Below w.heap.size w w1) (hg : (w1.alloc o).grownBy w2 ob) (ho : ob' = ob ∨ ob' = some (w1.alloc o).heap.size) :
    OwnRecs w2 B ob' (vs ++ [v]) (rs ++ [r]) := by
  have hal : Below w1.heap.size w1 (w1.alloc o) := (Below.refl _ _).alloc (Nat.le_refl _) _
  have hsz : w1.heap.size ≤ (w1.alloc o).heap.size := hal.size
  have old : ∀ (i : Nat) (v' : Value), vs[i]? = some v' → ∀ k, v'.ownBlock = some k → B ≤ k ∧ k < w.heap.size := fun i v' h1 k hk => by
    obtain ⟨r', hr'⟩ := h.rec_at h1
    exact own_lt (h.own i v' r' h1 hr') k hk
  have new : ∀ k, v.ownBlock = some k → w.heap.size ≤ k ∧ k < w1.heap.size := own_lt hv
  have hlast : ∀ {i : Nat} {v' : Value}, (vs ++ [v])[i]? = some v' → vs[i]? = some v' ∨ i = vs.length ∧ v' = v := fun {i v'} h1 => by
    rcases Nat.lt_or_ge i vs.length with hi | hi
    · rw [List.getElem?_append_left hi] at h1; exact .inl h1
    · rw [List.getElem?_append_right hi] at h1
      have hlt := (List.getElem?_eq_some_iff.1 h1).1
      simp at hlt
      have : i = vs.length := by omega
      subst this
      simp at h1
      exact .inr ⟨rfl, h1.symm⟩
  refine ⟨by simp [h.len], fun i v' r' h1 h2 => ?_, fun i v' k h1 hk => ?_, fun i j v' u k hij h1 h2 hk => ?_⟩
  · rcases hlast h1 with h1 | ⟨rfl, rfl⟩
    · have hi := (List.getElem?_eq_some_iff.1 h1).1
      rw [List.getElem?_append_left (by rw [← h.len]; exact hi)] at h2
      refine ((kept_below (h.own i v' r' h1 h2) hb).alloc o).kept hg ?_
      cases he : v'.ownBlock with
      | none => exact .inl rfl
      | some k => exact .inr fun e => h.out i v' k h1 he e.symm
    · rw [h.len, List.getElem?_append_right (Nat.le_refl _)] at h2
      simp at h2
      subst h2
      refine own_mono (((hv.alloc o)).kept hg ?_) hB
      cases he : v'.ownBlock with
      | none => exact .inl rfl
      | some k =>
        refine .inr fun e => ?_
        have := (new k he).1
        have := hob k e.symm
        omega
  · have hk' : k < w1.heap.size ∧ ob ≠ some k := by
      rcases hlast h1 with h1 | ⟨rfl, rfl⟩
      · have := (old i v' h1 k hk).2
        have := hb.size
        exact ⟨by omega, h.out i v' k h1 hk⟩
      · refine ⟨(new k hk).2, fun e => ?_⟩
        have := (new k hk).1
        have := hob k e
        omega
    rcases ho with rfl | rfl
    · exact hk'.2
    · intro e
      injection e with e
      omega
  · intro e
    rcases hlast h1 with p1 | ⟨p1, p1'⟩
    · rcases hlast h2 with p2 | ⟨p2, p2'⟩
      · exact h.apart i j v' u k hij p1 p2 hk e
      · subst p2'
        have := (old i v' p1 k hk).2
        have := (new k e).1
        omega
    · rcases hlast h2 with p2 | ⟨p2, p2'⟩
      · have := (List.getElem?_eq_some_iff.1 p2).1
        omega
      · omega
end Rc
end Go.Proofs.Ytajkcghbdbjmaaa
