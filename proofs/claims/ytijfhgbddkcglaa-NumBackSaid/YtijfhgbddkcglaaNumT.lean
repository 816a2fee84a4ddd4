/- Layer 1 (num): the contract of parted: a number's eight bytes, the lowest first. Condition: the number is a uint64's. -/
import Derived.Test.YtijfhgbddkcglaaNumC
namespace Go.Proofs.Ytijfhgbddkcglaa
open Go.RowKit
namespace Num

def PR (W : World) (v : Int) (i : Value) (wr : World) : Prop := (i = .int .i64 0 ∧ wr = (W.alloc (.cells #[.int .u8 0, .int .u8 0, .int .u8 0, .int .u8 0, .int .u8 0, .int .u8 0, .int .u8 0, .int .u8 0] 49)).alloc (.cells #[.int .u8 0, .int .u8 0, .int .u8 0, .int .u8 0, .int .u8 0, .int .u8 0, .int .u8 0, .int .u8 0] 49)) ∨ (i = .int .i64 1 ∧ wr = (W.alloc (.cells #[.int .u8 0, .int .u8 0, .int .u8 0, .int .u8 0, .int .u8 0, .int .u8 0, .int .u8 0, .int .u8 0] 49)).alloc (.cells #[.int .u8 (v % 256), .int .u8 0, .int .u8 0, .int .u8 0, .int .u8 0, .int .u8 0, .int .u8 0, .int .u8 0] 49)) ∨ (i = .int .i64 2 ∧ wr = (W.alloc (.cells #[.int .u8 0, .int .u8 0, .int .u8 0, .int .u8 0, .int .u8 0, .int .u8 0, .int .u8 0, .int .u8 0] 49)).alloc (.cells #[.int .u8 (v % 256), .int .u8 (v / 256 % 256), .int .u8 0, .int .u8 0, .int .u8 0, .int .u8 0, .int .u8 0, .int .u8 0] 49)) ∨ (i = .int .i64 3 ∧ wr = (W.alloc (.cells #[.int .u8 0, .int .u8 0, .int .u8 0, .int .u8 0, .int .u8 0, .int .u8 0, .int .u8 0, .int .u8 0] 49)).alloc (.cells #[.int .u8 (v % 256), .int .u8 (v / 256 % 256), .int .u8 (v / 65536 % 256), .int .u8 0, .int .u8 0, .int .u8 0, .int .u8 0, .int .u8 0] 49)) ∨ (i = .int .i64 4 ∧ wr = (W.alloc (.cells #[.int .u8 0, .int .u8 0, .int .u8 0, .int .u8 0, .int .u8 0, .int .u8 0, .int .u8 0, .int .u8 0] 49)).alloc (.cells #[.int .u8 (v % 256), .int .u8 (v / 256 % 256), .int .u8 (v / 65536 % 256), .int .u8 (v / 16777216 % 256), .int .u8 0, .int .u8 0, .int .u8 0, .int .u8 0] 49)) ∨ (i = .int .i64 5 ∧ wr = (W.alloc (.cells #[.int .u8 0, .int .u8 0, .int .u8 0, .int .u8 0, .int .u8 0, .int .u8 0, .int .u8 0, .int .u8 0] 49)).alloc (.cells #[.int .u8 (v % 256), .int .u8 (v / 256 % 256), .int .u8 (v / 65536 % 256), .int .u8 (v / 16777216 % 256), .int .u8 (v / 4294967296 % 256), .int .u8 0, .int .u8 0, .int .u8 0] 49)) ∨ (i = .int .i64 6 ∧ wr = (W.alloc (.cells #[.int .u8 0, .int .u8 0, .int .u8 0, .int .u8 0, .int .u8 0, .int .u8 0, .int .u8 0, .int .u8 0] 49)).alloc (.cells #[.int .u8 (v % 256), .int .u8 (v / 256 % 256), .int .u8 (v / 65536 % 256), .int .u8 (v / 16777216 % 256), .int .u8 (v / 4294967296 % 256), .int .u8 (v / 1099511627776 % 256), .int .u8 0, .int .u8 0] 49)) ∨ (i = .int .i64 7 ∧ wr = (W.alloc (.cells #[.int .u8 0, .int .u8 0, .int .u8 0, .int .u8 0, .int .u8 0, .int .u8 0, .int .u8 0, .int .u8 0] 49)).alloc (.cells #[.int .u8 (v % 256), .int .u8 (v / 256 % 256), .int .u8 (v / 65536 % 256), .int .u8 (v / 16777216 % 256), .int .u8 (v / 4294967296 % 256), .int .u8 (v / 1099511627776 % 256), .int .u8 (v / 281474976710656 % 256), .int .u8 0] 49)) ∨ (i = .int .i64 8 ∧ wr = (W.alloc (.cells #[.int .u8 0, .int .u8 0, .int .u8 0, .int .u8 0, .int .u8 0, .int .u8 0, .int .u8 0, .int .u8 0] 49)).alloc (.cells #[.int .u8 (v % 256), .int .u8 (v / 256 % 256), .int .u8 (v / 65536 % 256), .int .u8 (v / 16777216 % 256), .int .u8 (v / 4294967296 % 256), .int .u8 (v / 1099511627776 % 256), .int .u8 (v / 281474976710656 % 256), .int .u8 (v / 72057594037927936)] 49))
/-- The number's eight bytes as cells. -/
def eight (v : Int) : Array Value := #[.int .u8 (v % 256), .int .u8 (v / 256 % 256), .int .u8 (v / 65536 % 256), .int .u8 (v / 16777216 % 256), .int .u8 (v / 4294967296 % 256), .int .u8 (v / 1099511627776 % 256), .int .u8 (v / 281474976710656 % 256), .int .u8 (v / 72057594037927936)]
set_option maxHeartbeats 1600000 in
theorem parted_any (v : Int) (h0 : 0 ≤ v) (h1 : v ≤ 18446744073709551615) (W : World) :
    Calls Try.prog 23 #[.int .u64 v] W fun e W' => e = .returned (.agg (eight v)) ∧ Below W.heap.size W W' := by
  go_enter Try.func23, Try.ntmps23
  go_wp2
  go_loopw [5] (PR W v) (fun i _ => (9 - intOf i).toNat)
  case atStart => exact .inl ⟨rfl, rfl⟩
  case round =>
    unfold PR at hrel
    rcases hrel with ⟨rfl, rfl⟩ | ⟨rfl, rfl⟩ | ⟨rfl, rfl⟩ | ⟨rfl, rfl⟩ | ⟨rfl, rfl⟩ | ⟨rfl, rfl⟩ | ⟨rfl, rfl⟩ | ⟨rfl, rfl⟩ | ⟨rfl, rfl⟩
    · go_wp2
      go_roundw
      case rel => exact .inr <| .inl <| ⟨rfl, rfl⟩
      case measure => simp [intOf]
    · go_wp2
      go_roundw
      case rel => exact .inr <| .inr <| .inl <| ⟨rfl, rfl⟩
      case measure => simp [intOf]
    · go_wp2
      go_roundw
      case rel => exact .inr <| .inr <| .inr <| .inl <| ⟨rfl, rfl⟩
      case measure => simp [intOf]
    · go_wp2
      go_roundw
      case rel => exact .inr <| .inr <| .inr <| .inr <| .inl <| ⟨rfl, rfl⟩
      case measure => simp [intOf]
    · go_wp2
      go_roundw
      case rel => exact .inr <| .inr <| .inr <| .inr <| .inr <| .inl <| ⟨rfl, rfl⟩
      case measure => simp [intOf]
    · go_wp2
      go_roundw
      case rel => exact .inr <| .inr <| .inr <| .inr <| .inr <| .inr <| .inl <| ⟨rfl, rfl⟩
      case measure => simp [intOf]
    · go_wp2
      go_roundw
      case rel => exact .inr <| .inr <| .inr <| .inr <| .inr <| .inr <| .inr <| .inl <| ⟨rfl, rfl⟩
      case measure => simp [intOf]
    · go_wp2
      go_roundw
      case rel => exact .inr <| .inr <| .inr <| .inr <| .inr <| .inr <| .inr <| .inr <| ⟨rfl, rfl⟩
      case measure => simp [intOf]
    · go_wp2
      exact bodyPost_ret (v := .agg (eight v)) (by simp [results, Try.results23, go_sem, eight]) rfl ⟨rfl, (((Below.refl _ _).alloc (Nat.le_refl _) _).alloc (by simp) _)⟩
end Num
end Go.Proofs.Ytijfhgbddkcglaa
