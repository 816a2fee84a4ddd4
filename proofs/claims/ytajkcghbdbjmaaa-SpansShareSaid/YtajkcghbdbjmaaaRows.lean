/-
  No cell of these rows narrows 'for every input' (looked for: loops, veiled, ifaces, maps, wideKeys, modest, calm, conditions, laid).
  DERIVED. THE GIVEN ROWS OF THIS SEAT. 5 by the template 'for every input the law returns true; each argument reads behind the call as it read before'; 0 by the template 'total and deterministic' (their statements: YtajkcghbdbjmaaaTotals.lean).
  GIVEN WITH THE SEED: the statements are not yours to turn. If you find one false, say at which input.
  Laid BY PROGRAM, IN A SANDBOX (cutbox-rows.mjs): the forced cells as the released guide's own fill.sh prints them over the translation 28f575c5d1a01c47… (all of the seat's roots in one cut). By AI agents, Wed Nov 11 2026. No macro, syntax, notation, axiom, sorry.
-/
import Derived.Test.YtajkcghbdbjmaaaChecked
import GoSem.Claim
import GoSem.ClaimJoined
import GoSem.ClaimMapViews
import Derived.JoinedTies
import Derived.KernelRfl
namespace Go.Proofs.Ytajkcghbdbjmaaa
/- THE CELL 'sum', in the pinned program and in every row, IS THE sha256 OF THE DUMP (.gsa) THAT YtajkcghbdbjmaaaProg.lean LOADS. Nothing in Lean hashes anything: it is a label: what it is worth is what the hold of that sum in a sandbox is worth. -/
noncomputable def Try.pinned : Pinned := { name := "ytajkcghbdbjmaaa", sum := "28f575c5d1a01c474c49c38431f6e589cdf55c9dc2ab3926b8b25f904fbf3d49", checked := Try.checked }
namespace Rows
def none {H : Type} : Left H := { results := [], args := [] }

/-- 'columbariumlaw07.SpansTell': WHATEVER THE INPUT: true; the input reads as it did. -/
def spansTellSpec : ChangeSpec := { name := "spansTell", fn := fun _ => fun
  | [d] => { results := [.lit (.bool true)], args := [d] }
  | _ => none }
def spansTellRow : OpenClaim := { program := "ytajkcghbdbjmaaa", sum := "28f575c5d1a01c474c49c38431f6e589cdf55c9dc2ab3926b8b25f904fbf3d49", func := "columbarium/columbariumlaw07.SpansTell", spec := "spansTell", unfollowed := true, recurses := true, apart := false }
def SpansTellSaid : Prop := spansTellRow.holds Try.pinned (OpenSpec.ofChange spansTellSpec)

/-- ITS FALSE NEIGHBOUR: 'it returns false'. Refute it at one input. -/
def spansTellWrong : ChangeSpec := { name := "spansTell", fn := fun _ => fun
  | [d] => { results := [.lit (.bool false)], args := [d] }
  | _ => none }
def SpansTellWrongFalsely : Prop := spansTellRow.holds Try.pinned (OpenSpec.ofChange spansTellWrong)

/-- 'columbariumlaw07.SpansCut': WHATEVER THE INPUT: true; the input reads as it did. -/
def spansCutSpec : ChangeSpec := { name := "spansCut", fn := fun _ => fun
  | [d1, d2] => { results := [.lit (.bool true)], args := [d1, d2] }
  | _ => none }
def spansCutRow : OpenClaim := { program := "ytajkcghbdbjmaaa", sum := "28f575c5d1a01c474c49c38431f6e589cdf55c9dc2ab3926b8b25f904fbf3d49", func := "columbarium/columbariumlaw07.SpansCut", spec := "spansCut", unfollowed := true, recurses := true, apart := false }
def SpansCutSaid : Prop := spansCutRow.holds Try.pinned (OpenSpec.ofChange spansCutSpec)

/-- ITS FALSE NEIGHBOUR: 'it returns false'. Refute it at one input. -/
def spansCutWrong : ChangeSpec := { name := "spansCut", fn := fun _ => fun
  | [d1, d2] => { results := [.lit (.bool false)], args := [d1, d2] }
  | _ => none }
def SpansCutWrongFalsely : Prop := spansCutRow.holds Try.pinned (OpenSpec.ofChange spansCutWrong)

/-- 'columbariumlaw07.SpansLie': WHATEVER THE INPUT: true; the input reads as it did. -/
def spansLieSpec : ChangeSpec := { name := "spansLie", fn := fun _ => fun
  | [d1, d2] => { results := [.lit (.bool true)], args := [d1, d2] }
  | _ => none }
def spansLieRow : OpenClaim := { program := "ytajkcghbdbjmaaa", sum := "28f575c5d1a01c474c49c38431f6e589cdf55c9dc2ab3926b8b25f904fbf3d49", func := "columbarium/columbariumlaw07.SpansLie", spec := "spansLie", unfollowed := true, recurses := true, apart := false }
def SpansLieSaid : Prop := spansLieRow.holds Try.pinned (OpenSpec.ofChange spansLieSpec)

/-- ITS FALSE NEIGHBOUR: 'it returns false'. Refute it at one input. -/
def spansLieWrong : ChangeSpec := { name := "spansLie", fn := fun _ => fun
  | [d1, d2] => { results := [.lit (.bool false)], args := [d1, d2] }
  | _ => none }
def SpansLieWrongFalsely : Prop := spansLieRow.holds Try.pinned (OpenSpec.ofChange spansLieWrong)

/-- 'columbariumlaw07.SpansRow': WHATEVER THE INPUT: true; the input reads as it did. -/
def spansRowSpec : ChangeSpec := { name := "spansRow", fn := fun _ => fun
  | [d] => { results := [.lit (.bool true)], args := [d] }
  | _ => none }
def spansRowRow : OpenClaim := { program := "ytajkcghbdbjmaaa", sum := "28f575c5d1a01c474c49c38431f6e589cdf55c9dc2ab3926b8b25f904fbf3d49", func := "columbarium/columbariumlaw07.SpansRow", spec := "spansRow", unfollowed := true, recurses := true, apart := false }
def SpansRowSaid : Prop := spansRowRow.holds Try.pinned (OpenSpec.ofChange spansRowSpec)

/-- ITS FALSE NEIGHBOUR: 'it returns false'. Refute it at one input. -/
def spansRowWrong : ChangeSpec := { name := "spansRow", fn := fun _ => fun
  | [d] => { results := [.lit (.bool false)], args := [d] }
  | _ => none }
def SpansRowWrongFalsely : Prop := spansRowRow.holds Try.pinned (OpenSpec.ofChange spansRowWrong)

/-- 'columbariumlaw07.SpansShare': WHATEVER THE INPUT: true; the input reads as it did. -/
def spansShareSpec : ChangeSpec := { name := "spansShare", fn := fun _ => fun
  | [d1, d2, d3] => { results := [.lit (.bool true)], args := [d1, d2, d3] }
  | _ => none }
def spansShareRow : OpenClaim := { program := "ytajkcghbdbjmaaa", sum := "28f575c5d1a01c474c49c38431f6e589cdf55c9dc2ab3926b8b25f904fbf3d49", func := "columbarium/columbariumlaw07.SpansShare", spec := "spansShare", unfollowed := true, recurses := true, apart := false }
def SpansShareSaid : Prop := spansShareRow.holds Try.pinned (OpenSpec.ofChange spansShareSpec)

/-- ITS FALSE NEIGHBOUR: 'it returns false'. Refute it at one input. -/
def spansShareWrong : ChangeSpec := { name := "spansShare", fn := fun _ => fun
  | [d1, d2, d3] => { results := [.lit (.bool false)], args := [d1, d2, d3] }
  | _ => none }
def SpansShareWrongFalsely : Prop := spansShareRow.holds Try.pinned (OpenSpec.ofChange spansShareWrong)

/- THE SECOND FORM. 'bulk': how many values and letters a reading holds, each counted each time it is reached (what is shared counts as often as it is met; a slice's spare places count too). A statement '..UptoSaid' is the law's where the arguments, and the package variables that the reading takes, are together of bulk at most 1048576: NARROWER than '..Said'. Prove '..Said' where nothing that the law and all that it calls make is longer than what came in: it says more and counts as full. Else prove '..UptoSaid'. A law counts once. -/
mutual
def uptoBulk {H : Type} : DataW H → Nat
  | .lit (.string bytes) => bytes.length + 1
  | .lit _ => 1
  | .nil => 1
  | .ptr d => uptoBulk d + 1
  | .slice elems spare => uptoBulkAll elems + uptoBulkAll spare + 1
  | .agg parts => uptoBulkAll parts + 1
  | .iface _ d => uptoBulk d + 1
  | .map entries => uptoBulkEntries entries + 1
  | .held _ => 1
def uptoBulkAll {H : Type} : List (DataW H) → Nat
  | [] => 0
  | d :: r => uptoBulk d + uptoBulkAll r
def uptoBulkEntries {H : Type} : List (Lit × DataW H) → Nat
  | [] => 0
  | x :: r => uptoBulkEntry x + uptoBulkEntries r
def uptoBulkEntry {H : Type} : Lit × DataW H → Nat
  | (.string bytes, d) => bytes.length + uptoBulk d + 1
  | (_, d) => uptoBulk d + 1
 end
def uptoSmall : (H : Type) → List (DataW H) → Bool := fun _ ds => decide (uptoBulkAll ds ≤ 1048576)
def OpenSpec.upto (s : _root_.Go.ChangeSpec) : _root_.Go.OpenSpec := { _root_.Go.OpenSpec.ofChange s with cond := some uptoSmall }

/-- 'columbariumlaw07.SpansTell', WHERE WHAT IT READS IS OF BULK AT MOST 1048576: true; the input reads as it did. -/
def spansTellUptoRow : OpenClaim := { program := "ytajkcghbdbjmaaa", sum := "28f575c5d1a01c474c49c38431f6e589cdf55c9dc2ab3926b8b25f904fbf3d49", func := "columbarium/columbariumlaw07.SpansTell", spec := "spansTell", unfollowed := true, recurses := true, apart := false, narrowed := true }
def SpansTellUptoSaid : Prop := spansTellUptoRow.holds Try.pinned (OpenSpec.upto spansTellSpec)

/-- 'columbariumlaw07.SpansCut', WHERE WHAT IT READS IS OF BULK AT MOST 1048576: true; the input reads as it did. -/
def spansCutUptoRow : OpenClaim := { program := "ytajkcghbdbjmaaa", sum := "28f575c5d1a01c474c49c38431f6e589cdf55c9dc2ab3926b8b25f904fbf3d49", func := "columbarium/columbariumlaw07.SpansCut", spec := "spansCut", unfollowed := true, recurses := true, apart := false, narrowed := true }
def SpansCutUptoSaid : Prop := spansCutUptoRow.holds Try.pinned (OpenSpec.upto spansCutSpec)

/-- 'columbariumlaw07.SpansLie', WHERE WHAT IT READS IS OF BULK AT MOST 1048576: true; the input reads as it did. -/
def spansLieUptoRow : OpenClaim := { program := "ytajkcghbdbjmaaa", sum := "28f575c5d1a01c474c49c38431f6e589cdf55c9dc2ab3926b8b25f904fbf3d49", func := "columbarium/columbariumlaw07.SpansLie", spec := "spansLie", unfollowed := true, recurses := true, apart := false, narrowed := true }
def SpansLieUptoSaid : Prop := spansLieUptoRow.holds Try.pinned (OpenSpec.upto spansLieSpec)

/-- 'columbariumlaw07.SpansRow', WHERE WHAT IT READS IS OF BULK AT MOST 1048576: true; the input reads as it did. -/
def spansRowUptoRow : OpenClaim := { program := "ytajkcghbdbjmaaa", sum := "28f575c5d1a01c474c49c38431f6e589cdf55c9dc2ab3926b8b25f904fbf3d49", func := "columbarium/columbariumlaw07.SpansRow", spec := "spansRow", unfollowed := true, recurses := true, apart := false, narrowed := true }
def SpansRowUptoSaid : Prop := spansRowUptoRow.holds Try.pinned (OpenSpec.upto spansRowSpec)

/-- 'columbariumlaw07.SpansShare', WHERE WHAT IT READS IS OF BULK AT MOST 1048576: true; the input reads as it did. -/
def spansShareUptoRow : OpenClaim := { program := "ytajkcghbdbjmaaa", sum := "28f575c5d1a01c474c49c38431f6e589cdf55c9dc2ab3926b8b25f904fbf3d49", func := "columbarium/columbariumlaw07.SpansShare", spec := "spansShare", unfollowed := true, recurses := true, apart := false, narrowed := true }
def SpansShareUptoSaid : Prop := spansShareUptoRow.holds Try.pinned (OpenSpec.upto spansShareSpec)

end Rows
end Go.Proofs.Ytajkcghbdbjmaaa
