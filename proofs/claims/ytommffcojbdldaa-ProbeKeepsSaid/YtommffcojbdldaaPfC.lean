/- Layer 19: an insertion leaves a right table right. No program's function is spoken of. -/
import Derived.Test.YtommffcojbdldaaPfB
namespace Go.Proofs.Ytommffcojbdldaa
open Go.RowKit
namespace Pr

/-- With a cell empty, nothing is as far from home as could be. -/
theorem far_lt {t : Tab} {n x : Nat} (hl : t.length = n) (hr : rightB t = true) (hx : x < n) (he : nz (cl t x) = false) {i : Nat} (hi : i < n) (h0 : nz (cl t i) = true) : farT t n i + 1 < (n : Int) := by
  obtain ⟨g, e, h1, h2, h3, h4, h5⟩ := far_of hl (right_known hr) hi h0
  rw [h5]
  rcases Nat.lt_or_ge (e + 1) n with h | h
  · omega
  · exfalso
    obtain ⟨s, hs, hsx⟩ := reach (x := g) hx
    have := (near hl hr h2 h3 (by rw [h4]; exact h0) (by rw [h4]; exact h1) (e - s) (by omega)).1
    rw [show e - (e - s) = s by omega, hsx, he] at this
    cases this
/-- A cell a place further is one further from home. -/
theorem far_up {t : Tab} {n a s : Nat} (hl : t.length = n) (hk : knownB t = true) (hn : 0 < n) (h0 : nz (cl t ((a + s) % n)) = true) (hf : farT t n ((a + s) % n) + 1 < (n : Int)) : D n (cl t ((a + s) % n)).2 (((a + (s + 1)) % n : Nat) : Int) = farT t n ((a + s) % n) + 1 := by
  obtain ⟨g, e, h1, h2, h3, h4, h5⟩ := far_of hl hk (Nat.mod_lt _ hn) h0
  rw [h5] at hf ⊢
  rw [h1]
  have : (a + (s + 1)) % n = (g + (e + 1)) % n := by
    rw [show a + (s + 1) = a + s + 1 by omega, Nat.add_mod, ← h4, ← Nat.add_mod, show g + e + 1 = g + (e + 1) by omega]
  rw [this]
  exact D_at h2 (by omega)
/-- A cell a place back is one nearer. -/
theorem far_down {t : Tab} {n a s : Nat} (hl : t.length = n) (hk : knownB t = true) (hn : 0 < n) (h0 : nz (cl t ((a + (s + 1)) % n)) = true) (hf : 0 < farT t n ((a + (s + 1)) % n)) : D n (cl t ((a + (s + 1)) % n)).2 (((a + s) % n : Nat) : Int) = farT t n ((a + (s + 1)) % n) - 1 := by
  obtain ⟨g, e, h1, h2, h3, h4, h5⟩ := far_of hl hk (Nat.mod_lt _ hn) h0
  rw [h5] at hf ⊢
  rw [h1]
  obtain ⟨e', rfl⟩ : ∃ e', e = e' + 1 := ⟨e - 1, by omega⟩
  have : (a + s) % n = (g + e') % n := by
    have q1 := prv_at (n := n) (a := a) (s := s) hn
    have q2 := prv_at (n := n) (a := g) (s := e') hn
    rw [← q1, ← q2, h4]
  rw [this, D_at h2 (by omega)]
  omega
end Pr
end Go.Proofs.Ytommffcojbdldaa
