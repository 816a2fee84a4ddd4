/- Layer 18 (chance): the contracts of slices.Clone at bools and of set. -/
import Derived.Test.YtfdbekgmpmfgpaaChC
import Derived.Lib.SliceRun
namespace Go.Proofs.Ytfdbekgmpmfgpaa
open Go.RowKit
namespace Ch

theorem infoB : (Try.prog.info? 4).map (fun i => (i.zero, i.size, i.bytes)) = some (some (.bool false), 1, 1) := by kernel_rfl
theorem infoI : (Try.prog.info? 3).map (fun i => (i.zero, i.size, i.bytes)) = some (some (.int .i64 0), 1, 8) := by kernel_rfl
theorem info_at {e : TypeId} {z : Value} {n m : Nat} (h : (Try.prog.info? e).map (fun i => (i.zero, i.size, i.bytes)) = some (some z, n, m)) : ∃ i, Try.prog.info? e = some i ∧ i.zero = some z ∧ i.size = n ∧ i.bytes = m := by
  cases hi : Try.prog.info? e with
  | none => rw [hi] at h; cases h
  | some i =>
    rw [hi] at h
    simp only [Option.map_some, Option.some.injEq, Prod.mk.injEq] at h
    exact ⟨i, rfl, h.1, h.2.1, h.2.2⟩
theorem one_bools (bs : List Bool) : ∀ u ∈ bools bs, u.oneCell' = true := by
  intro u hu
  obtain ⟨b, _, rfl⟩ := List.mem_map.1 hu
  rfl
theorem one_ints (is : List Nat) : ∀ u ∈ ints is, u.oneCell' = true := by
  intro u hu
  obtain ⟨b, _, rfl⟩ := List.mem_map.1 hu
  rfl
theorem own_zero (w : World) (e : TypeId) (size : Nat) : (w.alloc (.cells #[] e)).ownsRow w.heap.size e size (.slice (some ⟨w.heap.size, 0, none⟩) 0 0) 0 [] :=
  ⟨by simp, .inr ⟨w.heap.size, 0, #[], rfl, Nat.le_refl _, heap_alloc_new w _, Nat.le_refl _, by decide, by simp, by simp⟩⟩
set_option maxHeartbeats 800000 in
theorem clone_any (us : List Bool) (A : Option Addr) (c : Nat) (w : World) (hr : Mem.Rd w A (bools us)) (h0 : 0 < us.length) (hm : us.length ≤ 1000) :
    Calls Try.prog 25 #[.slice A us.length c] w fun e w' => (∃ v, e = .returned v ∧ w'.ownsRow w.heap.size 4 1 v us.length (bools us)) ∧ Below w.heap.size w w' := by
  obtain ⟨b, off, rfl, hb, hc⟩ := hr (by rw [bools_len]; omega)
  have HR := Lib.hid hr
  obtain ⟨n, hn⟩ : ∃ n, us.length = n := ⟨_, rfl⟩
  have HN := Lib.hid hn
  rw [hn] at h0 hm ⊢
  have HA := Lib.hid (hr.alloc (.cells #[] 4))
  clear hr hc hn
  have qT : ∀ (w : World) (a : Option Addr) (n c n' c' : Nat), (binOp .eql 22 (.slice a n c) (.slice none n' c')).run Try.prog w = .ok (.bool a.isNone) w := fun w a n c n' c' => Lib.run_eql_slice_nil w _ _ a n c n' c' Try.underlying22
  obtain ⟨i0, hi0, hz0, hz1, hz2⟩ := info_at infoB
  have I0 := Lib.hid hi0
  have I1 := Lib.hid hz0
  have I2 := Lib.hid hz1
  have I3 := Lib.hid hz2
  clear hi0 hz0 hz1 hz2
  go_enter Try.func25, Try.ntmps25
  go_wp2_with (at_builtin; refine Mem.wpList_append_rd _ rfl (.tmp 5) (.tmp 6) 22 rfl w.heap.size 4 i0 (.bool false) 1 Try.underlying22 I0.out I1.out I2.out I3.out rfl (.slice (some ⟨w.heap.size, 0, none⟩) 0 0) 0 [] rfl (own_zero w 4 1) (some ⟨b, off, none⟩) n c (bools us) rfl (by rw [bools_len]; exact HN.out) HA.out (one_bools us) (by simp only [maxLen]; omega) (by omega) (by simp) ?_; intro v1 w1 hown1 hg1 _)
  simp only [Nat.zero_add, List.nil_append] at hown1
  go_ret
  exact ⟨⟨_, rfl, hown1⟩, ((Below.refl _ _).alloc (Nat.le_refl _) _).grown hg1 (by simp) (by simp [Value.ownBlock])⟩
end Ch
end Go.Proofs.Ytfdbekgmpmfgpaa
