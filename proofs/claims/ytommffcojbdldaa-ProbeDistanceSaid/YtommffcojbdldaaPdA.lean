/- Layer 19: the walk of ProbeDistance. -/
import Derived.Test.YtommffcojbdldaaPrZ
namespace Go.Proofs.Ytommffcojbdldaa
open Go.RowKit
namespace Pr

set_option maxRecDepth 20000 in
set_option maxHeartbeats 1600000 in
theorem probeDistance_walk (n h a : Int) (W : World) (hn : I64 n) : Calls Try.prog 4 #[.int .i64 n, .int .i64 h, .int .i64 a] W fun e w => e = .returned (.bool true) ∧ Below W.heap.size W w := by
  have D1 := Lib.hid (fun w => distance_any n h a hn w)
  have D2 := Lib.hid (fun w => refdist_any n h a hn w)
  have PG := Lib.hid (fun w => probes_good w)
  go_enter Try.func4, Try.ntmps4
  go_wp2_with fail
  refine (D1.out _).mono ?_
  rintro e w1 ⟨rfl, rfl⟩
  go_wp2_with fail
  refine (D2.out _).mono ?_
  rintro e w1 ⟨rfl, rfl⟩
  go_wp2_with fail
  refine (PG.out _).mono ?_
  rintro e w1 ⟨rfl, hB⟩
  have B := Lib.hid hB
  clear hB
  go_wp2_with fail
  go_ret
  exact ⟨rfl, B.out⟩
end Pr
end Go.Proofs.Ytommffcojbdldaa
