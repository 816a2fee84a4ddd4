/-
  No cell of these rows narrows 'for every input' (looked for: loops, veiled, ifaces, maps, wideKeys, modest, calm, conditions, laid).
  DERIVED. THE GIVEN ROWS OF THIS SEAT. 5 by the template 'for every input the law returns true; each argument reads behind the call as it read before'; 0 by the template 'total and deterministic' (their statements: YtijfhgbddkcglaaTotals.lean).
  GIVEN WITH THE SEED: the statements are not yours to turn. If you find one false, say at which input.
  Laid BY PROGRAM, IN A SANDBOX (cutbox-rows.mjs): the forced cells as the released guide's own fill.sh prints them over the translation f3ab56c9d0e8e059… (all of the seat's roots in one cut). By AI agents, Wed Nov 11 2026. No macro, syntax, notation, axiom, sorry.
-/
import Derived.Test.YtijfhgbddkcglaaChecked
import GoSem.Claim
import GoSem.ClaimJoined
import GoSem.ClaimMapViews
import Derived.JoinedTies
import Derived.KernelRfl
namespace Go.Proofs.Ytijfhgbddkcglaa
/- THE CELL 'sum', in the pinned program and in every row, IS THE sha256 OF THE DUMP (.gsa) THAT YtijfhgbddkcglaaProg.lean LOADS. Nothing in Lean hashes anything: it is a label: what it is worth is what the hold of that sum in a sandbox is worth. -/
noncomputable def Try.pinned : Pinned := { name := "ytijfhgbddkcglaa", sum := "f3ab56c9d0e8e059efe5c316feaac00e1e0a5ef9471c2c4c166391ba974e9d17", checked := Try.checked }
namespace Rows
def none {H : Type} : Left H := { results := [], args := [] }

/-- 'columbariumlaw01.NumLoads': WHATEVER THE INPUT: true; the input reads as it did. -/
def numLoadsSpec : ChangeSpec := { name := "numLoads", fn := fun _ => fun
  | [d1, d2, d3] => { results := [.lit (.bool true)], args := [d1, d2, d3] }
  | _ => none }
def numLoadsRow : OpenClaim := { program := "ytijfhgbddkcglaa", sum := "f3ab56c9d0e8e059efe5c316feaac00e1e0a5ef9471c2c4c166391ba974e9d17", func := "columbarium/columbariumlaw01.NumLoads", spec := "numLoads", apart := false }
def NumLoadsSaid : Prop := numLoadsRow.holds Try.pinned (OpenSpec.ofChange numLoadsSpec)

/-- ITS FALSE NEIGHBOUR: 'it returns false'. Refute it at one input. -/
def numLoadsWrong : ChangeSpec := { name := "numLoads", fn := fun _ => fun
  | [d1, d2, d3] => { results := [.lit (.bool false)], args := [d1, d2, d3] }
  | _ => none }
def NumLoadsWrongFalsely : Prop := numLoadsRow.holds Try.pinned (OpenSpec.ofChange numLoadsWrong)

/-- 'columbariumlaw01.NumStores': WHATEVER THE INPUT: true; the input reads as it did. -/
def numStoresSpec : ChangeSpec := { name := "numStores", fn := fun _ => fun
  | [d1, d2, d3, d4] => { results := [.lit (.bool true)], args := [d1, d2, d3, d4] }
  | _ => none }
def numStoresRow : OpenClaim := { program := "ytijfhgbddkcglaa", sum := "f3ab56c9d0e8e059efe5c316feaac00e1e0a5ef9471c2c4c166391ba974e9d17", func := "columbarium/columbariumlaw01.NumStores", spec := "numStores", apart := false }
def NumStoresSaid : Prop := numStoresRow.holds Try.pinned (OpenSpec.ofChange numStoresSpec)

/-- ITS FALSE NEIGHBOUR: 'it returns false'. Refute it at one input. -/
def numStoresWrong : ChangeSpec := { name := "numStores", fn := fun _ => fun
  | [d1, d2, d3, d4] => { results := [.lit (.bool false)], args := [d1, d2, d3, d4] }
  | _ => none }
def NumStoresWrongFalsely : Prop := numStoresRow.holds Try.pinned (OpenSpec.ofChange numStoresWrong)

/-- 'columbariumlaw01.NumRounds': WHATEVER THE INPUT: true; the input reads as it did. -/
def numRoundsSpec : ChangeSpec := { name := "numRounds", fn := fun _ => fun
  | [d1, d2] => { results := [.lit (.bool true)], args := [d1, d2] }
  | _ => none }
def numRoundsRow : OpenClaim := { program := "ytijfhgbddkcglaa", sum := "f3ab56c9d0e8e059efe5c316feaac00e1e0a5ef9471c2c4c166391ba974e9d17", func := "columbarium/columbariumlaw01.NumRounds", spec := "numRounds", apart := false }
def NumRoundsSaid : Prop := numRoundsRow.holds Try.pinned (OpenSpec.ofChange numRoundsSpec)

/-- ITS FALSE NEIGHBOUR: 'it returns false'. Refute it at one input. -/
def numRoundsWrong : ChangeSpec := { name := "numRounds", fn := fun _ => fun
  | [d1, d2] => { results := [.lit (.bool false)], args := [d1, d2] }
  | _ => none }
def NumRoundsWrongFalsely : Prop := numRoundsRow.holds Try.pinned (OpenSpec.ofChange numRoundsWrong)

/-- 'columbariumlaw01.NumBack': WHATEVER THE INPUT: true; the input reads as it did. -/
def numBackSpec : ChangeSpec := { name := "numBack", fn := fun _ => fun
  | [d1, d2, d3] => { results := [.lit (.bool true)], args := [d1, d2, d3] }
  | _ => none }
def numBackRow : OpenClaim := { program := "ytijfhgbddkcglaa", sum := "f3ab56c9d0e8e059efe5c316feaac00e1e0a5ef9471c2c4c166391ba974e9d17", func := "columbarium/columbariumlaw01.NumBack", spec := "numBack", apart := false }
def NumBackSaid : Prop := numBackRow.holds Try.pinned (OpenSpec.ofChange numBackSpec)

/-- ITS FALSE NEIGHBOUR: 'it returns false'. Refute it at one input. -/
def numBackWrong : ChangeSpec := { name := "numBack", fn := fun _ => fun
  | [d1, d2, d3] => { results := [.lit (.bool false)], args := [d1, d2, d3] }
  | _ => none }
def NumBackWrongFalsely : Prop := numBackRow.holds Try.pinned (OpenSpec.ofChange numBackWrong)

/-- 'columbariumlaw01.NumParts': WHATEVER THE INPUT: true; the input reads as it did. -/
def numPartsSpec : ChangeSpec := { name := "numParts", fn := fun _ => fun
  | [d1, d2] => { results := [.lit (.bool true)], args := [d1, d2] }
  | _ => none }
def numPartsRow : OpenClaim := { program := "ytijfhgbddkcglaa", sum := "f3ab56c9d0e8e059efe5c316feaac00e1e0a5ef9471c2c4c166391ba974e9d17", func := "columbarium/columbariumlaw01.NumParts", spec := "numParts", apart := false }
def NumPartsSaid : Prop := numPartsRow.holds Try.pinned (OpenSpec.ofChange numPartsSpec)

/-- ITS FALSE NEIGHBOUR: 'it returns false'. Refute it at one input. -/
def numPartsWrong : ChangeSpec := { name := "numParts", fn := fun _ => fun
  | [d1, d2] => { results := [.lit (.bool false)], args := [d1, d2] }
  | _ => none }
def NumPartsWrongFalsely : Prop := numPartsRow.holds Try.pinned (OpenSpec.ofChange numPartsWrong)

/- THE SECOND FORM. 'bulk': how many values and letters a reading holds, each counted each time it is reached (what is shared counts as often as it is met; a slice's spare places count too). A statement '..UptoSaid' is the law's where the arguments, and the package variables that the reading takes, are together of bulk at most 1048576: NARROWER than '..Said'. Prove '..Said' where nothing that the law and all that it calls make is longer than what came in: it says more and counts as full. Else prove '..UptoSaid'. A law counts once. -/
mutual
def uptoBulk {H : Type} : DataW H → Nat
  | .lit (.string bytes) => bytes.length + 1
  | .lit _ => 1
  | .nil => 1
  | .ptr d => uptoBulk d + 1
  | .slice elems spare => uptoBulkAll elems + uptoBulkAll spare + 1
  | .agg parts => uptoBulkAll parts + 1
  | .iface _ d => uptoBulk d + 1
  | .map entries => uptoBulkEntries entries + 1
  | .held _ => 1
def uptoBulkAll {H : Type} : List (DataW H) → Nat
  | [] => 0
  | d :: r => uptoBulk d + uptoBulkAll r
def uptoBulkEntries {H : Type} : List (Lit × DataW H) → Nat
  | [] => 0
  | x :: r => uptoBulkEntry x + uptoBulkEntries r
def uptoBulkEntry {H : Type} : Lit × DataW H → Nat
  | (.string bytes, d) => bytes.length + uptoBulk d + 1
  | (_, d) => uptoBulk d + 1
 end
def uptoSmall : (H : Type) → List (DataW H) → Bool := fun _ ds => decide (uptoBulkAll ds ≤ 1048576)
def OpenSpec.upto (s : _root_.Go.ChangeSpec) : _root_.Go.OpenSpec := { _root_.Go.OpenSpec.ofChange s with cond := some uptoSmall }

/-- 'columbariumlaw01.NumLoads', WHERE WHAT IT READS IS OF BULK AT MOST 1048576: true; the input reads as it did. -/
def numLoadsUptoRow : OpenClaim := { program := "ytijfhgbddkcglaa", sum := "f3ab56c9d0e8e059efe5c316feaac00e1e0a5ef9471c2c4c166391ba974e9d17", func := "columbarium/columbariumlaw01.NumLoads", spec := "numLoads", apart := false, narrowed := true }
def NumLoadsUptoSaid : Prop := numLoadsUptoRow.holds Try.pinned (OpenSpec.upto numLoadsSpec)

/-- 'columbariumlaw01.NumStores', WHERE WHAT IT READS IS OF BULK AT MOST 1048576: true; the input reads as it did. -/
def numStoresUptoRow : OpenClaim := { program := "ytijfhgbddkcglaa", sum := "f3ab56c9d0e8e059efe5c316feaac00e1e0a5ef9471c2c4c166391ba974e9d17", func := "columbarium/columbariumlaw01.NumStores", spec := "numStores", apart := false, narrowed := true }
def NumStoresUptoSaid : Prop := numStoresUptoRow.holds Try.pinned (OpenSpec.upto numStoresSpec)

/-- 'columbariumlaw01.NumRounds', WHERE WHAT IT READS IS OF BULK AT MOST 1048576: true; the input reads as it did. -/
def numRoundsUptoRow : OpenClaim := { program := "ytijfhgbddkcglaa", sum := "f3ab56c9d0e8e059efe5c316feaac00e1e0a5ef9471c2c4c166391ba974e9d17", func := "columbarium/columbariumlaw01.NumRounds", spec := "numRounds", apart := false, narrowed := true }
def NumRoundsUptoSaid : Prop := numRoundsUptoRow.holds Try.pinned (OpenSpec.upto numRoundsSpec)

/-- 'columbariumlaw01.NumBack', WHERE WHAT IT READS IS OF BULK AT MOST 1048576: true; the input reads as it did. -/
def numBackUptoRow : OpenClaim := { program := "ytijfhgbddkcglaa", sum := "f3ab56c9d0e8e059efe5c316feaac00e1e0a5ef9471c2c4c166391ba974e9d17", func := "columbarium/columbariumlaw01.NumBack", spec := "numBack", apart := false, narrowed := true }
def NumBackUptoSaid : Prop := numBackUptoRow.holds Try.pinned (OpenSpec.upto numBackSpec)

/-- 'columbariumlaw01.NumParts', WHERE WHAT IT READS IS OF BULK AT MOST 1048576: true; the input reads as it did. -/
def numPartsUptoRow : OpenClaim := { program := "ytijfhgbddkcglaa", sum := "f3ab56c9d0e8e059efe5c316feaac00e1e0a5ef9471c2c4c166391ba974e9d17", func := "columbarium/columbariumlaw01.NumParts", spec := "numParts", apart := false, narrowed := true }
def NumPartsUptoSaid : Prop := numPartsUptoRow.holds Try.pinned (OpenSpec.upto numPartsSpec)

end Rows
end Go.Proofs.Ytijfhgbddkcglaa
