/- Layer 7 (spans): the plain spans; the box of a function literal; the contracts of the literals in Of and Views. -/
import Derived.Test.YtajkcghbdbjmaaaSpA
namespace Go.Proofs.Ytajkcghbdbjmaaa
open Go.RowKit Rc
namespace Sp

/-- Where each record lies. -/
def spn (bs : List Nat) : List (Nat × Nat) := (List.range (num bs)).map fun i => (2 + 2 * num bs + beg bs i, endAt bs i - beg bs i)
def sc (p : Nat × Nat) : List Value := [.int .i64 (p.1 : Int), .int .i64 (p.2 : Int)]
def scs (rs : List (Nat × Nat)) : List Value := rs.flatMap sc
theorem spn_len (bs : List Nat) : (spn bs).length = num bs := by simp [spn]
theorem scs_len (rs : List (Nat × Nat)) : (scs rs).length = rs.length * 2 := by
  induction rs with
  | nil => rfl
  | cons r rs ih =>
    have e : scs (r :: rs) = sc r ++ scs rs := by simp [scs]
    rw [e, List.length_append, ih, List.length_cons]
    show 2 + _ = _
    omega
theorem scs_app (a b : List (Nat × Nat)) : scs (a ++ b) = scs a ++ scs b := by simp [scs]
theorem spn_take {bs : List Nat} {k : Nat} (hk : k < num bs) : (spn bs).take (k + 1) = (spn bs).take k ++ [(2 + 2 * num bs + beg bs k, endAt bs k - beg bs k)] := by
  unfold spn
  rw [List.take_add_one, List.getElem?_map, List.getElem?_range hk]
  rfl
theorem scs_at (rs : List (Nat × Nat)) (k : Nat) (h : k < rs.length) : (scs rs)[k * 2]? = some (.int .i64 ((rs.getD k (0, 0)).1 : Nat)) ∧ (scs rs)[k * 2 + 1]? = some (.int .i64 ((rs.getD k (0, 0)).2 : Nat)) := by
  induction rs generalizing k with
  | nil => simp at h
  | cons r rs ih =>
    cases k with
    | zero => exact ⟨rfl, rfl⟩
    | succ k =>
      have e : scs (r :: rs) = sc r ++ scs rs := by simp [scs]
      have hl : (sc r).length = 2 := rfl
      obtain ⟨h1, h2⟩ := ih k (by simpa using h)
      rw [e]
      constructor
      · rw [List.getElem?_append_right (by rw [hl]; omega), hl, show (k + 1) * 2 - 2 = k * 2 by omega, h1]
        rfl
      · rw [List.getElem?_append_right (by rw [hl]; omega), hl, show (k + 1) * 2 + 1 - 2 = k * 2 + 1 by omega, h2]
        rfl
/-- All blocks below N but B are as they were. -/
structure KB (B N : Nat) (w w' : World) : Prop where
  os : w'.os = w.os
  tape : w'.tape = w.tape
  output : w'.output = w.output
  size : w.heap.size ≤ w'.heap.size
  block : ∀ k, k < N → k ≠ B → w'.heap[k]? = w.heap[k]?
theorem KB.refl (B N : Nat) (w : World) : KB B N w w := ⟨rfl, rfl, rfl, Nat.le_refl _, fun _ _ _ => rfl⟩
theorem KB.trans {B N : Nat} {a b c : World} (h : KB B N a b) (k : KB B N b c) : KB B N a c :=
  ⟨k.os.trans h.os, k.tape.trans h.tape, k.output.trans h.output, Nat.le_trans h.size k.size, fun i h1 h2 => (k.block i h1 h2).trans (h.block i h1 h2)⟩
theorem KB.of_below {B N M : Nat} {w w' : World} (h : Below M w w') (hM : N ≤ M) : KB B N w w' := ⟨h.os, h.tape, h.output, h.size, fun k hk _ => h.block k (by omega)⟩
theorem KB.of_grown {B N : Nat} {w w' : World} {ob : Option Nat} (h : w.grownBy w' ob) (hN : N ≤ w.heap.size) (ho : ∀ k, ob = some k → N ≤ k) : KB B N w w' :=
  ⟨h.os, h.tape, h.output, h.size, fun k hk _ => h.block k (by omega) (fun e => by have := ho k e.symm; omega)⟩
theorem KB.setB {B N : Nat} (w : World) (x : Value) : KB B N w (w.setCell ⟨B, 0, none⟩ x) :=
  ⟨rfl, rfl, rfl, by simp, fun k _ hk => by
    simp only [World.setCell, Array.getElem?_modify]
    rw [if_neg (by omega)]⟩
theorem KB.below {B N M : Nat} {w w' : World} (h : KB B N w w') (hB : M ≤ B) (hN : M ≤ N) : Below M w w' := ⟨h.os, h.tape, h.output, h.size, fun k hk => h.block k (by omega) (by omega)⟩
theorem KB.mono {B N M : Nat} {w w' : World} (h : KB B N w w') (hN : M ≤ N) : KB B M w w' := ⟨h.os, h.tape, h.output, h.size, fun k hk hb => h.block k (by omega) hb⟩
theorem KB.rd {B N : Nat} {w w' : World} {A : Option Addr} {xs : List Value} (h : KB B N w w') (hr : Mem.Rd w A xs) (hne : ∀ b off, A = some ⟨b, off, none⟩ → b < N ∧ b ≠ B) : Mem.Rd w' A xs := fun hl => by
  obtain ⟨b, off, ha, hlt, hc⟩ := hr hl
  obtain ⟨h1, h2⟩ := hne b off ha
  exact ⟨b, off, ha, Nat.lt_of_lt_of_le hlt h.size, fun i hi => (World.cell?_of_block (w := w) (h.block b h1 h2)).trans (hc i hi)⟩
theorem infoS : (Try.prog.info? 31).map (fun i => (i.zero, i.size, i.bytes)) = some (some (.agg #[.int .i64 0, .int .i64 0]), 2, 16) := by kernel_rfl
theorem new2 (w : World) (x y : Int) (t : TypeId) : ∀ j u, [Value.int .i64 x, Value.int .i64 y][j]? = some u → (w.alloc (.cells #[.int .i64 x, .int .i64 y] t)).cell? ((⟨w.heap.size, 0, none⟩ : Addr).add j) = some u := by
  intro j u hj
  rw [Mem.add_none, Nat.zero_add]
  match j, hj with
  | 0, hj => simpa [World.cell?_alloc_new] using hj
  | 1, hj => simpa [World.cell?_alloc_new] using hj
theorem one2 (x y : Int) : ∀ u ∈ [Value.int .i64 x, Value.int .i64 y], u.oneCell' = true := by
  intro u hu
  simp only [List.mem_cons, List.not_mem_nil, or_false] at hu
  rcases hu with rfl | rfl <;> rfl
theorem cell_of_one {w : World} {B : Nat} {v : Value} {t : TypeId} (h : w.heap[B]? = some (.cells #[v] t (0, 0))) : w.cell? ⟨B, 0, none⟩ = some v := by
  unfold World.cell?
  rw [h]
  rfl
theorem free_of_one {w : World} {B : Nat} {v : Value} {t : TypeId} (h : w.heap[B]? = some (.cells #[v] t (0, 0))) : w.frozen? ⟨B, 0, none⟩ = false := by
  unfold World.frozen?
  rw [h]
  rfl
theorem one_set {w : World} {B : Nat} {v x : Value} {t : TypeId} (h : w.heap[B]? = some (.cells #[v] t (0, 0))) : (w.setCell ⟨B, 0, none⟩ x).heap[B]? = some (.cells #[x] t (0, 0)) := by
  simp [World.setCell, Array.getElem?_modify, h]
/-- The box at B holds these spans, their row in a block of N or above. -/
def OfInv (B N : Nat) (rs : List (Nat × Nat)) (w : World) : Prop :=
  ∃ v, w.heap[B]? = some (.cells #[v] 24 (0, 0)) ∧ w.ownsRow N 31 2 v rs.length (scs rs)
theorem of_end {B N n : Nat} {rs : List (Nat × Nat)} {w w2 w3 : World} {v v3 : Value} {a l : Nat} {o1 o2 : Obj} (hn : rs.length = n) (hBN : B < N) (hN : N ≤ w.heap.size) (hB : w.heap[B]? = some (.cells #[v] 24 (0, 0))) (hown : w.ownsRow N 31 2 v n (scs rs))
    (h2 : w2 = (w.alloc o1).alloc o2) (hg : w2.grownBy w3 v.ownBlock) (hown3 : w3.ownsRow N 31 2 v3 (n + 1) (scs rs ++ sc (a, l))) :
    w3.heap[B]? = some (.cells #[v] 24 (0, 0)) ∧ OfInv B N (rs ++ [(a, l)]) (w3.setCell ⟨B, 0, none⟩ v3) ∧ KB B N w (w3.setCell ⟨B, 0, none⟩ v3) := by
  subst h2
  have b1 : Below w.heap.size w ((w.alloc o1).alloc o2) := by
    have := (Below.refl w.heap.size w).alloc (Nat.le_refl _) o1
    exact this.alloc this.size o2
  have hob : ∀ k, v.ownBlock = some k → N ≤ k := fun k hk => (own_lt hown k hk).1
  have hB3 : w3.heap[B]? = some (.cells #[v] 24 (0, 0)) := by
    rw [hg.block B (by have := b1.size; omega) (fun e => by have := hob B e.symm; omega), b1.block B (by omega)]
    exact hB
  refine ⟨hB3, ⟨v3, one_set hB3, ?_⟩, ((KB.of_below b1 hN).trans (KB.of_grown hg (Nat.le_trans hN b1.size) hob)).trans (KB.setB _ _)⟩
  rw [List.length_append, scs_app, hn]
  have e : scs [(a, l)] = sc (a, l) := by simp [scs]
  rw [e]
  exact ownsRow_setCell_below hown3 (by simpa using hBN) _
set_option maxHeartbeats 1600000 in
theorem of1_any (B N a l : Nat) (rs : List (Nat × Nat)) (w : World) (h : OfInv B N rs w) (hBN : B < N) (hN : N ≤ w.heap.size) (hlen : rs.length ≤ 1000) :
    Calls Try.prog 22 #[spanv (a : Int) (l : Int), .pointer (some ⟨B, 0, none⟩)] w fun e w' => e = .returned (.tuple #[]) ∧ OfInv B N (rs ++ [(a, l)]) w' ∧ KB B N w w' := by
  obtain ⟨v, hB, hown⟩ := h
  obtain ⟨i0, hi0, hz0, hz1, hz2⟩ := info_at infoS
  obtain ⟨n, hn⟩ : ∃ n, rs.length = n := ⟨_, rfl⟩
  rw [hn] at hown hlen
  obtain ⟨A, cap, rfl, _⟩ := Mem.own_shape hown
  have hlt : B < w.heap.size := by omega
  have c0 : ∀ o, (w.alloc o).cell? ⟨B, 0, none⟩ = some (.slice A n cap) := fun o => by rw [World.cell?_alloc_lt _ _ _ hlt]; exact cell_of_one hB
  have HN := Lib.hid hn
  have HB := Lib.hid hB
  have HOWN := Lib.hid hown
  have I0 := Lib.hid hi0
  have I1 := Lib.hid hz0
  have I2 := Lib.hid hz1
  have I3 := Lib.hid hz2
  clear hi0 hz0 hz1 hz2 hown hB hn
  go_enter Try.func22, Try.ntmps22
  go_wp2_with (at_builtin; refine wpList_append_own _ rfl (.tmp 3) (.tmp 5) 24 rfl N 31 i0 (.agg #[.int .i64 0, .int .i64 0]) 2 16 Try.underlying24 I0.out I1.out I2.out I3.out rfl (by decide) (.slice A n cap) n (scs rs) rfl (by exact (HOWN.out.alloc _).alloc _) ⟨w.heap.size + 1, 0, none⟩ 1 1 (sc (a, l)) (by simp [Act.eval]) rfl (by have := new2 (w.alloc (.cells #[.int .i64 (a : Int), .int .i64 (l : Int)] 31)) (a : Int) (l : Int) 31; rw [World.size_alloc] at this; exact this) (one2 _ _) (by simp only [maxLen]; omega) (by omega) (by simp; omega) ?_; intro v3 w3 hown3 hg3 _; obtain ⟨q1, q2, q3⟩ := of_end HN.out hBN hN HB.out HOWN.out rfl hg3 hown3; obtain ⟨A1, cap1, rfl, _⟩ := Mem.own_shape hown3; have c3 := cell_of_one q1; have f3 := free_of_one q1; have Q2 := Lib.hid q2; have Q3 := Lib.hid q3; clear q1 q2 q3 hown3 hg3)
  go_end0
  exact ⟨rfl, Q2.out, Q3.out⟩
end Sp
end Go.Proofs.Ytajkcghbdbjmaaa
