/- Layer 7 (spans): the contract of views. -/
import Derived.Test.YtajkcghbdbjmaaaSpE
import Derived.Test.YtajkcghbdbjmaaaRcS
import Derived.Lib.SlBytesConst
namespace Go.Proofs.Ytajkcghbdbjmaaa
open Go.RowKit Rc
namespace Sp

theorem rd_row (w : World) (xs : List Value) (t : TypeId) (fr : Nat × Nat) : Mem.Rd (w.alloc (.cells xs.toArray t fr)) (some ⟨w.heap.size, 0, none⟩) xs := fun _ =>
  ⟨w.heap.size, 0, rfl, by simp, fun i _ => by rw [Nat.zero_add, World.cell?_alloc_mark]; simp⟩
theorem below_one {W w w' : World} {a : Obj} (h : Below W.heap.size W w) (h2 : Below (w.alloc a).heap.size (w.alloc a) w') : Below W.heap.size W w' ∧ Below w.heap.size w w' := by
  have h1 := h.alloc h.size a
  have h3 : Below w.heap.size w (w.alloc a) := (Below.refl _ _).alloc (Nat.le_refl _) a
  exact ⟨h1.trans (h2.mono h1.size), h3.trans (h2.mono h3.size)⟩
theorem below_next {W w w' : World} (h : Below W.heap.size W w) (h2 : Below w.heap.size w w') : Below W.heap.size W w' := h.trans (h2.mono h.size)
theorem own_cells {w : World} {N n : Nat} {v : Value} {xs : List Value} {e : TypeId} {size : Nat} (h : w.ownsRow N e size v n xs) (hn : 0 < n) : ∃ ub uc, v = .slice (some ⟨ub, 0, none⟩) n uc ∧ ub < w.heap.size ∧ N ≤ ub ∧ ∀ j, j < xs.length → w.cell? ⟨ub, j, none⟩ = xs[j]? := by
  obtain ⟨ub, uc, rfl, h1, h2⟩ := h.form hn
  exact ⟨ub, uc, rfl, h2, h1, fun j hj => h.cellAt j (by rw [← h.1]; exact hj)⟩
abbrev Good (W : World) (e : Ending) (w : World) : Prop := e = .returned (.bool true) ∧ Below W.heap.size W w
theorem small8 : Small [2, 0, 2, 0, 2, 0, 97, 98] := by intro b hb; simp at hb; omega
theorem small5 : Small [1, 0, 1, 0, 120] := by intro b hb; simp at hb; omega
theorem small1 : Small [120] := by intro b hb; simp at hb; omega
set_option maxRecDepth 20000 in
set_option maxHeartbeats 3200000 in
theorem views_good (W : World) : Calls Try.prog 8 #[] W (Good W) := by
  have e1 : errE [2, 0, 2, 0, 2, 0, 97, 98] = 0 := by decide
  have e2 : spn [2, 0, 2, 0, 2, 0, 97, 98] = [(6, 2), (8, 0)] := by decide
  have e3 : errE [1, 0, 1, 0, 120] = 0 := by decide
  have e4 : spn [1, 0, 1, 0, 120] = [(4, 1)] := by decide
  have e5 : num [2, 0, 2, 0, 2, 0, 97, 98] = 2 := by decide
  have e6 : num [1, 0, 1, 0, 120] = 1 := by decide
  have E1 := Lib.hid e1
  have E2 := Lib.hid e2
  have E3 := Lib.hid e3
  have E4 := Lib.hid e4
  have E5 := Lib.hid e5
  have E6 := Lib.hid e6
  have E7 : RowKit.Hid (fits 0 1 0 = false) := Lib.hid (by decide)
  have kc := fun (w : World) (C : Array Value) (n c : Nat) => Lib.run_convert_bytes_const (P := Try.prog) w 22 5 C n c Try.underlying22 Try.underlying5
  clear e1 e2 e3 e4 e5 e6
  go_enter Try.func8, Try.ntmps8
  go_wp2_with fail
  refine (of_any [2, 0, 2, 0, 2, 0, 97, 98] (some ⟨W.heap.size, 0, none⟩) 8 _ (rd_row W (octets [2, 0, 2, 0, 2, 0, 97, 98]) _ _) small8 (by decide) (by decide) (by decide)).mono ?_
  rintro e w1 ⟨⟨_, N, v, hN, rfl, hown⟩ | ⟨hne, _⟩, b1⟩
  case inr => exact absurd E1.out hne
  rw [E5.out, E2.out] at hown
  obtain ⟨ub, uc, rfl, hub, _, hcl⟩ := own_cells hown (by decide)
  have HC := Lib.hid (show w1.cell? ⟨ub, 0, none⟩ = some (.int .i64 6) ∧ w1.cell? ⟨ub, 1, none⟩ = some (.int .i64 2) ∧ w1.cell? ⟨ub, 2, none⟩ = some (.int .i64 8) ∧ w1.cell? ⟨ub, 3, none⟩ = some (.int .i64 0) from ⟨hcl 0 (by decide), hcl 1 (by decide), hcl 2 (by decide), hcl 3 (by decide)⟩)
  have HUB := Lib.hid hub
  have B1 := Lib.hid (below_one (Below.refl _ _) b1).1
  clear hown hcl hub b1 hN
  go_wp2_with fail
  refine (views_any [1, 0, 1, 0, 120] (some ⟨w1.heap.size, 0, none⟩) 5 _ (rd_row w1 (octets [1, 0, 1, 0, 120]) _ _) small5 (by decide) (by decide) (by decide)).mono ?_
  rintro e w2 ⟨⟨_, N, v, vs, hN, rfl, hown, hvl, hv⟩ | ⟨hne, _⟩, b2⟩
  case inr => exact absurd E3.out hne
  rw [E6.out] at hown hvl
  rw [E4.out] at hv
  obtain ⟨vb, vc, rfl, hvb, _, hcl⟩ := own_cells hown (by decide)
  have hv0 := hvl
  obtain ⟨u, hu⟩ : ∃ u, vs[0]? = some u := ⟨vs[0], List.getElem?_eq_getElem (by omega)⟩
  obtain ⟨A', rfl, hA'⟩ := hv 0 (4, 1) u rfl hu
  have hA2 := hA' (by decide)
  simp [Mem.add_none] at hA2
  subst hA2
  have HV := Lib.hid (show w2.cell? ⟨vb, 0, none⟩ = some (.slice (some ⟨w1.heap.size, 4, none⟩) 1 1) from by rw [hcl 0 (by omega), hu])
  have HVB := Lib.hid hvb
  have B2 := Lib.hid (below_one B1.out b2)
  have HX : RowKit.Hid (Mem.Rd w2 (some ⟨w1.heap.size, 4, none⟩) (octets [120])) := Lib.hid (by
    have h1 := (rd_row w1 (octets [1, 0, 1, 0, 120]) 5 _).below b2
    have := Mem.Rd.cut h1 4 1 (by decide) (some ⟨w1.heap.size, 4, none⟩) (fun _ => by simp [Mem.add_none])
    exact this)
  clear hown hcl hvb b2 hN hv hvl hv0 hu hA'
  go_wp2_with fail
  refine (cut_any 0 0 none 1 0 w2 (fun _ => ⟨rfl, rfl⟩) (by intro _ x e; cases e) (by decide) (by decide) (by decide) (by decide) (by decide) (by decide)).mono ?_
  rintro e w3 ⟨⟨_, rfl⟩ | ⟨hf, _⟩, b3⟩
  case inr => rw [E7.out] at hf; cases hf
  have B3 := Lib.hid (below_next B2.out.1 b3)
  have k23 := Lib.hid b3
  have b13 : Below w1.heap.size w1 w3 := B2.out.2.trans (b3.mono B2.out.2.size)
  have c0 := (b13.cell (p := ⟨ub, 0, none⟩) HUB.out).trans HC.out.1
  have c1 := (b13.cell (p := ⟨ub, 1, none⟩) HUB.out).trans HC.out.2.1
  have c2 := (b13.cell (p := ⟨ub, 2, none⟩) HUB.out).trans HC.out.2.2.1
  have c3 := (b13.cell (p := ⟨ub, 3, none⟩) HUB.out).trans HC.out.2.2.2
  have d0 := (b3.cell (p := ⟨vb, 0, none⟩) HVB.out).trans HV.out
  have hconv := conv_str [120] (some ⟨w1.heap.size, 4, none⟩) 1 1 w3 rfl (HX.out.below b3) small1 (by intro e; cases e)
  have hstr : strOf [120] = ⟨#[120]⟩ := rfl
  rw [hstr] at hconv
  clear b3 b13 hstr
  go_wp2_with fail
  go_ret
  exact ⟨rfl, B3.out⟩
end Sp
end Go.Proofs.Ytajkcghbdbjmaaa
