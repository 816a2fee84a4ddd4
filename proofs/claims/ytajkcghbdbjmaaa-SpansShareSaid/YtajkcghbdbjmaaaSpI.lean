/- Layer 7 (spans): the contracts of may, Inside and Apart of both sides. -/
import Derived.Test.YtajkcghbdbjmaaaSpH
namespace Go.Proofs.Ytajkcghbdbjmaaa
open Go.RowKit Rc
namespace Sp

def mayB (a l : Int) : Bool := decide (0 ≤ a ∧ a ≤ 1099511627776 ∧ 0 ≤ l ∧ l ≤ 1099511627776)
def insB (a l b k : Int) : Bool := mayB a l && mayB b k && decide (b ≤ a ∧ a + l ≤ b + k)
def apaB (a l b k : Int) : Bool := mayB a l && mayB b k && decide (l = 0 ∨ k = 0 ∨ a + l ≤ b ∨ b + k ≤ a)
theorem box_cells (W : World) (a l : Int) : (W.alloc (.cells #[.int .i64 a, .int .i64 l] 31)).cell? ⟨W.heap.size, 0, none⟩ = some (.int .i64 a) ∧ (W.alloc (.cells #[.int .i64 a, .int .i64 l] 31)).cell? ⟨W.heap.size, 1, none⟩ = some (.int .i64 l) := by
  simp [World.cell?_alloc_new]
set_option maxHeartbeats 1600000 in
theorem may_any (a l : Int) (v : Bool) (hv : mayB a l = v) (W : World) : Calls Try.prog 24 #[spanv a l] W fun e w => e = .returned (.bool v) ∧ Below W.heap.size W w := by
  have HB := Lib.hid (((Below.refl W.heap.size W).alloc (Nat.le_refl _) (.cells #[.int .i64 a, .int .i64 l] 31)))
  obtain ⟨c1, c2⟩ := box_cells W a l
  by_cases h1 : 0 ≤ a
  · by_cases h2 : a ≤ 1099511627776
    · by_cases h3 : 0 ≤ l
      · by_cases h4 : l ≤ 1099511627776
        · obtain rfl : true = v := by rw [← hv]; simp [mayB]; omega
          clear hv
          go_enter Try.func24, Try.ntmps24
          go_wp2_with fail
          go_ret
          exact ⟨rfl, HB.out⟩
        · obtain rfl : false = v := by rw [← hv]; simp [mayB]; omega
          clear hv
          go_enter Try.func24, Try.ntmps24
          go_wp2_with fail
          go_ret
          exact ⟨rfl, HB.out⟩
      · obtain rfl : false = v := by rw [← hv]; simp [mayB]; omega
        clear hv
        go_enter Try.func24, Try.ntmps24
        go_wp2_with fail
        go_ret
        exact ⟨rfl, HB.out⟩
    · obtain rfl : false = v := by rw [← hv]; simp [mayB]; omega
      clear hv
      go_enter Try.func24, Try.ntmps24
      go_wp2_with fail
      go_ret
      exact ⟨rfl, HB.out⟩
  · obtain rfl : false = v := by rw [← hv]; simp [mayB]; omega
    clear hv
    go_enter Try.func24, Try.ntmps24
    go_wp2_with fail
    go_ret
    exact ⟨rfl, HB.out⟩
set_option maxHeartbeats 1600000 in
theorem rmay_any (a l : Int) (v : Bool) (hv : mayB a l = v) (W : World) : Calls Try.prog 25 #[spanv a l] W fun e w => e = .returned (.bool v) ∧ Below W.heap.size W w := by
  have HB := Lib.hid (((Below.refl W.heap.size W).alloc (Nat.le_refl _) (.cells #[.int .i64 a, .int .i64 l] 31)))
  obtain ⟨c1, c2⟩ := box_cells W a l
  by_cases h1 : 0 ≤ a
  · by_cases h2 : a ≤ 1099511627776
    · by_cases h3 : 0 ≤ l
      · by_cases h4 : l ≤ 1099511627776
        · obtain rfl : true = v := by rw [← hv]; simp [mayB]; omega
          clear hv
          go_enter Try.func25, Try.ntmps25
          go_wp2_with fail
          go_ret
          exact ⟨rfl, HB.out⟩
        · obtain rfl : false = v := by rw [← hv]; simp [mayB]; omega
          clear hv
          go_enter Try.func25, Try.ntmps25
          go_wp2_with fail
          go_ret
          exact ⟨rfl, HB.out⟩
      · obtain rfl : false = v := by rw [← hv]; simp [mayB]; omega
        clear hv
        go_enter Try.func25, Try.ntmps25
        go_wp2_with fail
        go_ret
        exact ⟨rfl, HB.out⟩
    · obtain rfl : false = v := by rw [← hv]; simp [mayB]; omega
      clear hv
      go_enter Try.func25, Try.ntmps25
      go_wp2_with fail
      go_ret
      exact ⟨rfl, HB.out⟩
  · obtain rfl : false = v := by rw [← hv]; simp [mayB]; omega
    clear hv
    go_enter Try.func25, Try.ntmps25
    go_wp2_with fail
    go_ret
    exact ⟨rfl, HB.out⟩
/-- Two boxes, one behind the other. -/
theorem two_boxes (W : World) (a l b k : Int) : ∀ w, Below ((W.alloc (.cells #[.int .i64 a, .int .i64 l] 31)).alloc (.cells #[.int .i64 b, .int .i64 k] 31)).heap.size ((W.alloc (.cells #[.int .i64 a, .int .i64 l] 31)).alloc (.cells #[.int .i64 b, .int .i64 k] 31)) w →
    w.cell? ⟨W.heap.size, 0, none⟩ = some (.int .i64 a) ∧ w.cell? ⟨W.heap.size, 1, none⟩ = some (.int .i64 l) ∧ w.cell? ⟨W.heap.size + 1, 0, none⟩ = some (.int .i64 b) ∧ w.cell? ⟨W.heap.size + 1, 1, none⟩ = some (.int .i64 k) ∧ Below W.heap.size W w := by
  intro w hb
  obtain ⟨p1, p2⟩ := box_cells W a l
  obtain ⟨p3, p4⟩ := box_cells (W.alloc (.cells #[.int .i64 a, .int .i64 l] 31)) b k
  rw [World.size_alloc] at p3 p4
  have s1 : W.heap.size < (W.alloc (.cells #[.int .i64 a, .int .i64 l] 31)).heap.size := by simp
  have s2 : ((W.alloc (.cells #[.int .i64 a, .int .i64 l] 31)).alloc (.cells #[.int .i64 b, .int .i64 k] 31)).heap.size = W.heap.size + 2 := by simp
  refine ⟨?_, ?_, ?_, ?_, ?_⟩
  · rw [hb.cell (p := ⟨W.heap.size, 0, none⟩) (by rw [s2]; show W.heap.size < _; omega), World.cell?_alloc_lt _ _ _ s1, p1]
  · rw [hb.cell (p := ⟨W.heap.size, 1, none⟩) (by rw [s2]; show W.heap.size < _; omega), World.cell?_alloc_lt _ _ _ s1, p2]
  · rw [hb.cell (p := ⟨W.heap.size + 1, 0, none⟩) (by rw [s2]; show W.heap.size + 1 < _; omega), p3]
  · rw [hb.cell (p := ⟨W.heap.size + 1, 1, none⟩) (by rw [s2]; show W.heap.size + 1 < _; omega), p4]
  · have b1 : Below W.heap.size W (W.alloc (.cells #[.int .i64 a, .int .i64 l] 31)) := (Below.refl _ _).alloc (Nat.le_refl _) _
    have b2 := b1.alloc b1.size (.cells #[.int .i64 b, .int .i64 k] 31)
    exact b2.trans (hb.mono b2.size)
set_option maxHeartbeats 3200000 in
theorem inside_any (a l b k : Int) (v : Bool) (hv : insB a l b k = v) (W : World) : Calls Try.prog 13 #[spanv a l, spanv b k] W fun e w => e = .returned (.bool v) ∧ Below W.heap.size W w := by
  have TB := Lib.hid (two_boxes W a l b k)
  have base := two_boxes W a l b k _ (Below.refl _ _)
  obtain ⟨c1, c2, c3, c4, _⟩ := base
  cases h1 : mayB a l with
  | false =>
    have M1 := Lib.hid (fun w => may_any a l false h1 w)
    obtain rfl : false = v := by rw [← hv]; simp [insB, h1]
    clear hv h1
    go_enter Try.func13, Try.ntmps13
    go_wp2_with fail
    refine (M1.out _).mono ?_
    rintro e w1 ⟨rfl, b1⟩
    have B1 := Lib.hid (TB.out _ b1).2.2.2.2
    clear b1
    go_wp2_with fail
    go_ret
    exact ⟨rfl, B1.out⟩
  | true =>
    have M1 := Lib.hid (fun w => may_any a l true h1 w)
    cases h2 : mayB b k with
    | false =>
      have M2 := Lib.hid (fun w => may_any b k false h2 w)
      obtain rfl : false = v := by rw [← hv]; simp [insB, h2]
      clear hv h1 h2
      go_enter Try.func13, Try.ntmps13
      go_wp2_with fail
      refine (M1.out _).mono ?_
      rintro e w1 ⟨rfl, b1⟩
      obtain ⟨d1, d2, d3, d4, _⟩ := TB.out _ b1
      have K1 := Lib.hid b1
      clear b1
      go_wp2_with fail
      refine (M2.out _).mono ?_
      rintro e w2 ⟨rfl, b2⟩
      have B2 := Lib.hid (TB.out _ (K1.out.trans (b2.mono K1.out.size))).2.2.2.2
      clear b2
      go_wp2_with fail
      go_ret
      exact ⟨rfl, B2.out⟩
    | true =>
      have M2 := Lib.hid (fun w => may_any b k true h2 w)
      have q1 : 0 ≤ a ∧ a ≤ 1099511627776 ∧ 0 ≤ l ∧ l ≤ 1099511627776 := by simpa [mayB] using h1
      have q2 : 0 ≤ b ∧ b ≤ 1099511627776 ∧ 0 ≤ k ∧ k ≤ 1099511627776 := by simpa [mayB] using h2
      have hw1 : IntKind.i64.wrap (a + l) = a + l := IntWalk.i64_in _ (by omega)
      have hw2 : IntKind.i64.wrap (b + k) = b + k := IntWalk.i64_in _ (by omega)
      have hval : decide (b ≤ a ∧ a + l ≤ b + k) = v := by rw [← hv]; simp [insB, h1, h2]
      have HVAL := Lib.hid hval
      obtain ⟨x, hx⟩ : ∃ x, a + l = x := ⟨_, rfl⟩
      obtain ⟨y, hy⟩ : ∃ y, b + k = y := ⟨_, rfl⟩
      have HX := Lib.hid hx
      have HY := Lib.hid hy
      rw [hx] at hw1
      rw [hy] at hw2
      have hw1' : IntKind.i64.wrap (a + l) = x := by rw [hx]; exact hw1
      have hw2' : IntKind.i64.wrap (b + k) = y := by rw [hy]; exact hw2
      have Q := Lib.hid (show 0 ≤ a ∧ 0 ≤ l ∧ 0 ≤ b ∧ 0 ≤ k ∧ a + l = x ∧ b + k = y from ⟨q1.1, q1.2.2.1, q2.1, q2.2.2.1, hx, hy⟩)
      clear hv h1 h2 q1 q2 hx hy hval hw1 hw2
      go_enter Try.func13, Try.ntmps13
      go_wp2_with fail
      refine (M1.out _).mono ?_
      rintro e w1 ⟨rfl, b1⟩
      obtain ⟨d1, d2, d3, d4, _⟩ := TB.out _ b1
      have K1 := Lib.hid b1
      clear b1
      go_wp2_with fail
      refine (M2.out _).mono ?_
      rintro e w2 ⟨rfl, b2⟩
      have T2 := TB.out _ (K1.out.trans (b2.mono K1.out.size))
      obtain ⟨e1, e2, e3, e4, e5⟩ := T2
      have B2 := Lib.hid e5
      clear b2 e5
      by_cases g1 : b ≤ a
      · by_cases g2 : x ≤ y
        · obtain rfl : true = v := by rw [← HVAL.out]; have := Q.out; simp; omega
          go_wp2_with fail
          go_ret
          exact ⟨by first | rfl | exact Mem.ret_bool (by simp; omega), B2.out⟩
        · obtain rfl : false = v := by rw [← HVAL.out]; have := Q.out; simp; omega
          go_wp2_with fail
          go_ret
          exact ⟨by first | rfl | exact Mem.ret_bool (by simp; omega), B2.out⟩
      · obtain rfl : false = v := by rw [← HVAL.out]; have := Q.out; simp; omega
        go_wp2_with fail
        go_ret
        exact ⟨by first | rfl | exact Mem.ret_bool (by simp; omega), B2.out⟩
set_option maxHeartbeats 3200000 in
theorem rinside_any (a l b k : Int) (v : Bool) (hv : insB a l b k = v) (W : World) : Calls Try.prog 14 #[spanv a l, spanv b k] W fun e w => e = .returned (.bool v) ∧ Below W.heap.size W w := by
  have TB := Lib.hid (two_boxes W a l b k)
  have base := two_boxes W a l b k _ (Below.refl _ _)
  obtain ⟨c1, c2, c3, c4, _⟩ := base
  cases h1 : mayB a l with
  | false =>
    have M1 := Lib.hid (fun w => rmay_any a l false h1 w)
    obtain rfl : false = v := by rw [← hv]; simp [insB, h1]
    clear hv h1
    go_enter Try.func14, Try.ntmps14
    go_wp2_with fail
    refine (M1.out _).mono ?_
    rintro e w1 ⟨rfl, b1⟩
    have B1 := Lib.hid (TB.out _ b1).2.2.2.2
    clear b1
    go_wp2_with fail
    go_ret
    exact ⟨rfl, B1.out⟩
  | true =>
    have M1 := Lib.hid (fun w => rmay_any a l true h1 w)
    cases h2 : mayB b k with
    | false =>
      have M2 := Lib.hid (fun w => rmay_any b k false h2 w)
      obtain rfl : false = v := by rw [← hv]; simp [insB, h2]
      clear hv h1 h2
      go_enter Try.func14, Try.ntmps14
      go_wp2_with fail
      refine (M1.out _).mono ?_
      rintro e w1 ⟨rfl, b1⟩
      obtain ⟨d1, d2, d3, d4, _⟩ := TB.out _ b1
      have K1 := Lib.hid b1
      clear b1
      go_wp2_with fail
      refine (M2.out _).mono ?_
      rintro e w2 ⟨rfl, b2⟩
      have B2 := Lib.hid (TB.out _ (K1.out.trans (b2.mono K1.out.size))).2.2.2.2
      clear b2
      go_wp2_with fail
      go_ret
      exact ⟨rfl, B2.out⟩
    | true =>
      have M2 := Lib.hid (fun w => rmay_any b k true h2 w)
      have q1 : 0 ≤ a ∧ a ≤ 1099511627776 ∧ 0 ≤ l ∧ l ≤ 1099511627776 := by simpa [mayB] using h1
      have q2 : 0 ≤ b ∧ b ≤ 1099511627776 ∧ 0 ≤ k ∧ k ≤ 1099511627776 := by simpa [mayB] using h2
      have hw1 : IntKind.i64.wrap (a + l) = a + l := IntWalk.i64_in _ (by omega)
      have hw2 : IntKind.i64.wrap (b + k) = b + k := IntWalk.i64_in _ (by omega)
      have hval : decide (b ≤ a ∧ a + l ≤ b + k) = v := by rw [← hv]; simp [insB, h1, h2]
      have HVAL := Lib.hid hval
      obtain ⟨x, hx⟩ : ∃ x, a + l = x := ⟨_, rfl⟩
      obtain ⟨y, hy⟩ : ∃ y, b + k = y := ⟨_, rfl⟩
      have HX := Lib.hid hx
      have HY := Lib.hid hy
      rw [hx] at hw1
      rw [hy] at hw2
      have hw1' : IntKind.i64.wrap (a + l) = x := by rw [hx]; exact hw1
      have hw2' : IntKind.i64.wrap (b + k) = y := by rw [hy]; exact hw2
      have Q := Lib.hid (show 0 ≤ a ∧ 0 ≤ l ∧ 0 ≤ b ∧ 0 ≤ k ∧ a + l = x ∧ b + k = y from ⟨q1.1, q1.2.2.1, q2.1, q2.2.2.1, hx, hy⟩)
      clear hv h1 h2 q1 q2 hx hy hval hw1 hw2
      go_enter Try.func14, Try.ntmps14
      go_wp2_with fail
      refine (M1.out _).mono ?_
      rintro e w1 ⟨rfl, b1⟩
      obtain ⟨d1, d2, d3, d4, _⟩ := TB.out _ b1
      have K1 := Lib.hid b1
      clear b1
      go_wp2_with fail
      refine (M2.out _).mono ?_
      rintro e w2 ⟨rfl, b2⟩
      have T2 := TB.out _ (K1.out.trans (b2.mono K1.out.size))
      obtain ⟨e1, e2, e3, e4, e5⟩ := T2
      have B2 := Lib.hid e5
      clear b2 e5
      by_cases g1 : b ≤ a
      · by_cases g2 : x ≤ y
        · obtain rfl : true = v := by rw [← HVAL.out]; have := Q.out; simp; omega
          go_wp2_with fail
          go_ret
          exact ⟨by first | rfl | exact Mem.ret_bool (by simp; omega), B2.out⟩
        · obtain rfl : false = v := by rw [← HVAL.out]; have := Q.out; simp; omega
          go_wp2_with fail
          go_ret
          exact ⟨by first | rfl | exact Mem.ret_bool (by simp; omega), B2.out⟩
      · obtain rfl : false = v := by rw [← HVAL.out]; have := Q.out; simp; omega
        go_wp2_with fail
        go_ret
        exact ⟨by first | rfl | exact Mem.ret_bool (by simp; omega), B2.out⟩
set_option maxHeartbeats 3200000 in
theorem apart_any (a l b k : Int) (v : Bool) (hv : apaB a l b k = v) (W : World) : Calls Try.prog 15 #[spanv a l, spanv b k] W fun e w => e = .returned (.bool v) ∧ Below W.heap.size W w := by
  have TB := Lib.hid (two_boxes W a l b k)
  have base := two_boxes W a l b k _ (Below.refl _ _)
  obtain ⟨c1, c2, c3, c4, _⟩ := base
  cases h1 : mayB a l with
  | false =>
    have M1 := Lib.hid (fun w => may_any a l false h1 w)
    obtain rfl : false = v := by rw [← hv]; simp [apaB, h1]
    clear hv h1
    go_enter Try.func15, Try.ntmps15
    go_wp2_with fail
    refine (M1.out _).mono ?_
    rintro e w1 ⟨rfl, b1⟩
    have B1 := Lib.hid (TB.out _ b1).2.2.2.2
    clear b1
    go_wp2_with fail
    go_ret
    exact ⟨rfl, B1.out⟩
  | true =>
    have M1 := Lib.hid (fun w => may_any a l true h1 w)
    cases h2 : mayB b k with
    | false =>
      have M2 := Lib.hid (fun w => may_any b k false h2 w)
      obtain rfl : false = v := by rw [← hv]; simp [apaB, h2]
      clear hv h1 h2
      go_enter Try.func15, Try.ntmps15
      go_wp2_with fail
      refine (M1.out _).mono ?_
      rintro e w1 ⟨rfl, b1⟩
      obtain ⟨d1, d2, d3, d4, _⟩ := TB.out _ b1
      have K1 := Lib.hid b1
      clear b1
      go_wp2_with fail
      refine (M2.out _).mono ?_
      rintro e w2 ⟨rfl, b2⟩
      have B2 := Lib.hid (TB.out _ (K1.out.trans (b2.mono K1.out.size))).2.2.2.2
      clear b2
      go_wp2_with fail
      go_ret
      exact ⟨rfl, B2.out⟩
    | true =>
      have M2 := Lib.hid (fun w => may_any b k true h2 w)
      have q1 : 0 ≤ a ∧ a ≤ 1099511627776 ∧ 0 ≤ l ∧ l ≤ 1099511627776 := by simpa [mayB] using h1
      have q2 : 0 ≤ b ∧ b ≤ 1099511627776 ∧ 0 ≤ k ∧ k ≤ 1099511627776 := by simpa [mayB] using h2
      have hw1 : IntKind.i64.wrap (a + l) = a + l := IntWalk.i64_in _ (by omega)
      have hw2 : IntKind.i64.wrap (b + k) = b + k := IntWalk.i64_in _ (by omega)
      have hval : decide (l = 0 ∨ k = 0 ∨ a + l ≤ b ∨ b + k ≤ a) = v := by rw [← hv]; simp [apaB, h1, h2]
      have HVAL := Lib.hid hval
      obtain ⟨x, hx⟩ : ∃ x, a + l = x := ⟨_, rfl⟩
      obtain ⟨y, hy⟩ : ∃ y, b + k = y := ⟨_, rfl⟩
      have HX := Lib.hid hx
      have HY := Lib.hid hy
      rw [hx] at hw1
      rw [hy] at hw2
      have hw1' : IntKind.i64.wrap (a + l) = x := by rw [hx]; exact hw1
      have hw2' : IntKind.i64.wrap (b + k) = y := by rw [hy]; exact hw2
      have Q := Lib.hid (show 0 ≤ a ∧ 0 ≤ l ∧ 0 ≤ b ∧ 0 ≤ k ∧ a + l = x ∧ b + k = y from ⟨q1.1, q1.2.2.1, q2.1, q2.2.2.1, hx, hy⟩)
      clear hv h1 h2 q1 q2 hx hy hval hw1 hw2
      go_enter Try.func15, Try.ntmps15
      go_wp2_with fail
      refine (M1.out _).mono ?_
      rintro e w1 ⟨rfl, b1⟩
      obtain ⟨d1, d2, d3, d4, _⟩ := TB.out _ b1
      have K1 := Lib.hid b1
      clear b1
      go_wp2_with fail
      refine (M2.out _).mono ?_
      rintro e w2 ⟨rfl, b2⟩
      have T2 := TB.out _ (K1.out.trans (b2.mono K1.out.size))
      obtain ⟨e1, e2, e3, e4, e5⟩ := T2
      have B2 := Lib.hid e5
      clear b2 e5
      obtain ⟨v', hv'⟩ : ∃ v', decide (min x y ≤ max a b) = v' := ⟨_, rfl⟩
      obtain rfl : v' = v := by
        rw [← hv', ← HVAL.out]
        have := Q.out
        simp only [decide_eq_decide]
        omega
      have HV' := Lib.hid hv'
      go_wp2_with fail
      all_goals
        go_ret
        refine ⟨Mem.ret_bool ?_, B2.out⟩
        rw [← HV'.out]
        simp only [decide_eq_decide]
        omega
set_option maxHeartbeats 3200000 in
theorem rapart_any (a l b k : Int) (v : Bool) (hv : apaB a l b k = v) (W : World) : Calls Try.prog 16 #[spanv a l, spanv b k] W fun e w => e = .returned (.bool v) ∧ Below W.heap.size W w := by
  have TB := Lib.hid (two_boxes W a l b k)
  have base := two_boxes W a l b k _ (Below.refl _ _)
  obtain ⟨c1, c2, c3, c4, _⟩ := base
  cases h1 : mayB a l with
  | false =>
    have M1 := Lib.hid (fun w => rmay_any a l false h1 w)
    obtain rfl : false = v := by rw [← hv]; simp [apaB, h1]
    clear hv h1
    go_enter Try.func16, Try.ntmps16
    go_wp2_with fail
    refine (M1.out _).mono ?_
    rintro e w1 ⟨rfl, b1⟩
    have B1 := Lib.hid (TB.out _ b1).2.2.2.2
    clear b1
    go_wp2_with fail
    go_ret
    exact ⟨rfl, B1.out⟩
  | true =>
    have M1 := Lib.hid (fun w => rmay_any a l true h1 w)
    cases h2 : mayB b k with
    | false =>
      have M2 := Lib.hid (fun w => rmay_any b k false h2 w)
      obtain rfl : false = v := by rw [← hv]; simp [apaB, h2]
      clear hv h1 h2
      go_enter Try.func16, Try.ntmps16
      go_wp2_with fail
      refine (M1.out _).mono ?_
      rintro e w1 ⟨rfl, b1⟩
      obtain ⟨d1, d2, d3, d4, _⟩ := TB.out _ b1
      have K1 := Lib.hid b1
      clear b1
      go_wp2_with fail
      refine (M2.out _).mono ?_
      rintro e w2 ⟨rfl, b2⟩
      have B2 := Lib.hid (TB.out _ (K1.out.trans (b2.mono K1.out.size))).2.2.2.2
      clear b2
      go_wp2_with fail
      go_ret
      exact ⟨rfl, B2.out⟩
    | true =>
      have M2 := Lib.hid (fun w => rmay_any b k true h2 w)
      have q1 : 0 ≤ a ∧ a ≤ 1099511627776 ∧ 0 ≤ l ∧ l ≤ 1099511627776 := by simpa [mayB] using h1
      have q2 : 0 ≤ b ∧ b ≤ 1099511627776 ∧ 0 ≤ k ∧ k ≤ 1099511627776 := by simpa [mayB] using h2
      have hw1 : IntKind.i64.wrap (a + l) = a + l := IntWalk.i64_in _ (by omega)
      have hw2 : IntKind.i64.wrap (b + k) = b + k := IntWalk.i64_in _ (by omega)
      have hval : decide (l = 0 ∨ k = 0 ∨ a + l ≤ b ∨ b + k ≤ a) = v := by rw [← hv]; simp [apaB, h1, h2]
      have HVAL := Lib.hid hval
      obtain ⟨x, hx⟩ : ∃ x, a + l = x := ⟨_, rfl⟩
      obtain ⟨y, hy⟩ : ∃ y, b + k = y := ⟨_, rfl⟩
      have HX := Lib.hid hx
      have HY := Lib.hid hy
      rw [hx] at hw1
      rw [hy] at hw2
      have hw1' : IntKind.i64.wrap (a + l) = x := by rw [hx]; exact hw1
      have hw2' : IntKind.i64.wrap (b + k) = y := by rw [hy]; exact hw2
      have Q := Lib.hid (show 0 ≤ a ∧ 0 ≤ l ∧ 0 ≤ b ∧ 0 ≤ k ∧ a + l = x ∧ b + k = y from ⟨q1.1, q1.2.2.1, q2.1, q2.2.2.1, hx, hy⟩)
      clear hv h1 h2 q1 q2 hx hy hval hw1 hw2
      go_enter Try.func16, Try.ntmps16
      go_wp2_with fail
      refine (M1.out _).mono ?_
      rintro e w1 ⟨rfl, b1⟩
      obtain ⟨d1, d2, d3, d4, _⟩ := TB.out _ b1
      have K1 := Lib.hid b1
      clear b1
      go_wp2_with fail
      refine (M2.out _).mono ?_
      rintro e w2 ⟨rfl, b2⟩
      have T2 := TB.out _ (K1.out.trans (b2.mono K1.out.size))
      obtain ⟨e1, e2, e3, e4, e5⟩ := T2
      have B2 := Lib.hid e5
      clear b2 e5
      by_cases g1 : l = 0
      · have g1' : (l == 0) = true := by simp [g1]
        obtain rfl : true = v := by rw [← HVAL.out]; simp [g1]
        go_wp2_with fail
        go_ret
        exact ⟨by first | rfl | exact Mem.ret_bool (by simp; omega), B2.out⟩
      have g1' : (l == 0) = false := by simp [g1]
      by_cases g2 : k = 0
      · have g2' : (k == 0) = true := by simp [g2]
        obtain rfl : true = v := by rw [← HVAL.out]; simp [g2]
        go_wp2_with fail
        go_ret
        exact ⟨by first | rfl | exact Mem.ret_bool (by simp; omega), B2.out⟩
      have g2' : (k == 0) = false := by simp [g2]
      by_cases g3 : x ≤ b
      · obtain rfl : true = v := by rw [← HVAL.out]; have := Q.out; simp; omega
        go_wp2_with fail
        go_ret
        exact ⟨by first | rfl | exact Mem.ret_bool (by simp; omega), B2.out⟩
      by_cases g4 : y ≤ a
      · obtain rfl : true = v := by rw [← HVAL.out]; have := Q.out; simp; omega
        go_wp2_with fail
        go_ret
        exact ⟨by first | rfl | exact Mem.ret_bool (by simp; omega), B2.out⟩
      · obtain rfl : false = v := by rw [← HVAL.out]; have := Q.out; simp; omega
        go_wp2_with fail
        go_ret
        exact ⟨by first | rfl | exact Mem.ret_bool (by simp; omega), B2.out⟩
end Sp
end Go.Proofs.Ytajkcghbdbjmaaa
