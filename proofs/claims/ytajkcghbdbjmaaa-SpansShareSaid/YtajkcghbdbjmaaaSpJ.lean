/- Layer 7 (spans): the walk of the law SpansLie. -/
import Derived.Test.YtajkcghbdbjmaaaSpI
namespace Go.Proofs.Ytajkcghbdbjmaaa
open Go.RowKit Rc
namespace Sp

abbrev boxes (W : World) (a l b k : Int) : World := (W.alloc (.cells #[.int .i64 a, .int .i64 l] 31)).alloc (.cells #[.int .i64 b, .int .i64 k] 31)
theorem apaB_comm (a l b k : Int) : apaB a l b k = apaB b k a l := by
  unfold apaB
  rw [Bool.and_comm (mayB a l)]
  congr 1
  rw [decide_eq_decide]
  omega
theorem boxes_trans {W0 w w' : World} (h : Below W0.heap.size W0 w) (hb : Below w.heap.size w w') : Below W0.heap.size W0 w' := h.trans (hb.mono h.size)
set_option maxHeartbeats 3200000 in
theorem spansLie_walk (a l b k : Int) (W : World) : Calls Try.prog 5 #[spanv a l, spanv b k] W (Good W) := by
  have TB := Lib.hid (two_boxes W a l b k)
  obtain ⟨c1, c2, c3, c4, _⟩ := two_boxes W a l b k _ (Below.refl _ _)
  obtain ⟨v1, hv1⟩ : ∃ v, insB a l b k = v := ⟨_, rfl⟩
  obtain ⟨v2, hv2⟩ : ∃ v, apaB a l b k = v := ⟨_, rfl⟩
  have V1 := Lib.hid hv1
  have V2 := Lib.hid hv2
  have V3 := Lib.hid ((apaB_comm a l b k).symm.trans hv2)
  have hB : Below (boxes W a l b k).heap.size (boxes W a l b k) (boxes W a l b k) := Below.refl _ _
  clear hv1 hv2
  go_enter Try.func5, Try.ntmps5
  go_wp2_with fail
  go_region_held3 (fun w' => w'.cell? ⟨W.heap.size, 0, none⟩ = some (.int .i64 a) ∧ w'.cell? ⟨W.heap.size, 1, none⟩ = some (.int .i64 l) ∧ w'.cell? ⟨W.heap.size + 1, 0, none⟩ = some (.int .i64 b) ∧ w'.cell? ⟨W.heap.size + 1, 1, none⟩ = some (.int .i64 k)) (go_keep)
    (first
      | (go_at_call 13; refine (inside_any _ _ _ _ v1 (by exact V1.out) _).mono ?_; rintro e w2 ⟨rfl, hb⟩; have hB : Below (boxes W a l b k).heap.size (boxes W a l b k) w2 := boxes_trans hB (by first | exact hb | exact Mem.below_of_drew hb); obtain ⟨c1, c2, c3, c4, _⟩ := TB.out _ hB; clear hb)
      | (go_at_call 14; refine (rinside_any _ _ _ _ v1 (by exact V1.out) _).mono ?_; rintro e w2 ⟨rfl, hb⟩; have hB : Below (boxes W a l b k).heap.size (boxes W a l b k) w2 := boxes_trans hB (by first | exact hb | exact Mem.below_of_drew hb); obtain ⟨c1, c2, c3, c4, _⟩ := TB.out _ hB; clear hb)
      | (go_at_call 15; refine (apart_any _ _ _ _ v2 (by first | exact V2.out | exact V3.out) _).mono ?_; rintro e w2 ⟨rfl, hb⟩; have hB : Below (boxes W a l b k).heap.size (boxes W a l b k) w2 := boxes_trans hB (by first | exact hb | exact Mem.below_of_drew hb); obtain ⟨c1, c2, c3, c4, _⟩ := TB.out _ hB; clear hb)
      | (go_at_call 16; refine (rapart_any _ _ _ _ v2 (by exact V2.out) _).mono ?_; rintro e w2 ⟨rfl, hb⟩; have hB : Below (boxes W a l b k).heap.size (boxes W a l b k) w2 := boxes_trans hB (by first | exact hb | exact Mem.below_of_drew hb); obtain ⟨c1, c2, c3, c4, _⟩ := TB.out _ hB; clear hb)
      | (go_at_call 8; refine (views_good _).mono ?_; rintro e w2 ⟨rfl, hb⟩; have hB : Below (boxes W a l b k).heap.size (boxes W a l b k) w2 := boxes_trans hB (by first | exact hb | exact Mem.below_of_drew hb); obtain ⟨c1, c2, c3, c4, _⟩ := TB.out _ hB; clear hb))
  all_goals
    go_wp2_with fail
    go_ret
    exact ⟨rfl, (TB.out _ hB).2.2.2.2⟩
end Sp
end Go.Proofs.Ytajkcghbdbjmaaa
