/-
  No cell of these rows narrows 'for every input' (looked for: loops, veiled, ifaces, maps, wideKeys, modest, calm, conditions, laid).
  DERIVED. THE GIVEN ROWS OF THIS SEAT. 5 by the template 'for every input the law returns true; each argument reads behind the call as it read before'; 0 by the template 'total and deterministic' (their statements: YtppahidjiiehkaaTotals.lean).
  GIVEN WITH THE SEED: the statements are not yours to turn. If you find one false, say at which input.
  Laid BY PROGRAM, IN A SANDBOX (cutbox-rows.mjs): the forced cells as the released guide's own fill.sh prints them over the translation b3790dbf1102d3f3… (all of the seat's roots in one cut). By AI agents, Wed Nov 11 2026. No macro, syntax, notation, axiom, sorry.
-/
import Derived.Test.YtppahidjiiehkaaChecked
import GoSem.Claim
import GoSem.ClaimJoined
import GoSem.ClaimMapViews
import Derived.JoinedTies
import Derived.KernelRfl
namespace Go.Proofs.Ytppahidjiiehkaa
/- THE CELL 'sum', in the pinned program and in every row, IS THE sha256 OF THE DUMP (.gsa) THAT YtppahidjiiehkaaProg.lean LOADS. Nothing in Lean hashes anything: it is a label: what it is worth is what the hold of that sum in a sandbox is worth. -/
noncomputable def Try.pinned : Pinned := { name := "ytppahidjiiehkaa", sum := "b3790dbf1102d3f38b3adfefa606c6b7eff5707e508365d60d946e8be98ab769", checked := Try.checked }
namespace Rows
def none {H : Type} : Left H := { results := [], args := [] }

/-- 'columbariumlaw06.RecordsPack': WHATEVER THE INPUT: true; the input reads as it did. -/
def recordsPackSpec : ChangeSpec := { name := "recordsPack", fn := fun _ => fun
  | [d] => { results := [.lit (.bool true)], args := [d] }
  | _ => none }
def recordsPackRow : OpenClaim := { program := "ytppahidjiiehkaa", sum := "b3790dbf1102d3f38b3adfefa606c6b7eff5707e508365d60d946e8be98ab769", func := "columbarium/columbariumlaw06.RecordsPack", spec := "recordsPack", unfollowed := true, recurses := true, apart := false }
def RecordsPackSaid : Prop := recordsPackRow.holds Try.pinned (OpenSpec.ofChange recordsPackSpec)

/-- ITS FALSE NEIGHBOUR: 'it returns false'. Refute it at one input. -/
def recordsPackWrong : ChangeSpec := { name := "recordsPack", fn := fun _ => fun
  | [d] => { results := [.lit (.bool false)], args := [d] }
  | _ => none }
def RecordsPackWrongFalsely : Prop := recordsPackRow.holds Try.pinned (OpenSpec.ofChange recordsPackWrong)

/-- 'columbariumlaw06.RecordsUnpack': WHATEVER THE INPUT: true; the input reads as it did. -/
def recordsUnpackSpec : ChangeSpec := { name := "recordsUnpack", fn := fun _ => fun
  | [d] => { results := [.lit (.bool true)], args := [d] }
  | _ => none }
def recordsUnpackRow : OpenClaim := { program := "ytppahidjiiehkaa", sum := "b3790dbf1102d3f38b3adfefa606c6b7eff5707e508365d60d946e8be98ab769", func := "columbarium/columbariumlaw06.RecordsUnpack", spec := "recordsUnpack", unfollowed := true, recurses := true, apart := false }
def RecordsUnpackSaid : Prop := recordsUnpackRow.holds Try.pinned (OpenSpec.ofChange recordsUnpackSpec)

/-- ITS FALSE NEIGHBOUR: 'it returns false'. Refute it at one input. -/
def recordsUnpackWrong : ChangeSpec := { name := "recordsUnpack", fn := fun _ => fun
  | [d] => { results := [.lit (.bool false)], args := [d] }
  | _ => none }
def RecordsUnpackWrongFalsely : Prop := recordsUnpackRow.holds Try.pinned (OpenSpec.ofChange recordsUnpackWrong)

/-- 'columbariumlaw06.RecordsBack': WHATEVER THE INPUT: true; the input reads as it did. -/
def recordsBackSpec : ChangeSpec := { name := "recordsBack", fn := fun _ => fun
  | [d1, d2] => { results := [.lit (.bool true)], args := [d1, d2] }
  | _ => none }
def recordsBackRow : OpenClaim := { program := "ytppahidjiiehkaa", sum := "b3790dbf1102d3f38b3adfefa606c6b7eff5707e508365d60d946e8be98ab769", func := "columbarium/columbariumlaw06.RecordsBack", spec := "recordsBack", unfollowed := true, recurses := true, apart := false }
def RecordsBackSaid : Prop := recordsBackRow.holds Try.pinned (OpenSpec.ofChange recordsBackSpec)

/-- ITS FALSE NEIGHBOUR: 'it returns false'. Refute it at one input. -/
def recordsBackWrong : ChangeSpec := { name := "recordsBack", fn := fun _ => fun
  | [d1, d2] => { results := [.lit (.bool false)], args := [d1, d2] }
  | _ => none }
def RecordsBackWrongFalsely : Prop := recordsBackRow.holds Try.pinned (OpenSpec.ofChange recordsBackWrong)

/-- 'columbariumlaw06.RecordsApart': WHATEVER THE INPUT: true; the input reads as it did. -/
def recordsApartSpec : ChangeSpec := { name := "recordsApart", fn := fun _ => fun
  | [d] => { results := [.lit (.bool true)], args := [d] }
  | _ => none }
def recordsApartRow : OpenClaim := { program := "ytppahidjiiehkaa", sum := "b3790dbf1102d3f38b3adfefa606c6b7eff5707e508365d60d946e8be98ab769", func := "columbarium/columbariumlaw06.RecordsApart", spec := "recordsApart", unfollowed := true, recurses := true, apart := false }
def RecordsApartSaid : Prop := recordsApartRow.holds Try.pinned (OpenSpec.ofChange recordsApartSpec)

/-- ITS FALSE NEIGHBOUR: 'it returns false'. Refute it at one input. -/
def recordsApartWrong : ChangeSpec := { name := "recordsApart", fn := fun _ => fun
  | [d] => { results := [.lit (.bool false)], args := [d] }
  | _ => none }
def RecordsApartWrongFalsely : Prop := recordsApartRow.holds Try.pinned (OpenSpec.ofChange recordsApartWrong)

/-- 'columbariumlaw06.RecordsSame': WHATEVER THE INPUT: true; the input reads as it did. -/
def recordsSameSpec : ChangeSpec := { name := "recordsSame", fn := fun _ => fun
  | [d1, d2] => { results := [.lit (.bool true)], args := [d1, d2] }
  | _ => none }
def recordsSameRow : OpenClaim := { program := "ytppahidjiiehkaa", sum := "b3790dbf1102d3f38b3adfefa606c6b7eff5707e508365d60d946e8be98ab769", func := "columbarium/columbariumlaw06.RecordsSame", spec := "recordsSame", unfollowed := true, recurses := true, apart := false }
def RecordsSameSaid : Prop := recordsSameRow.holds Try.pinned (OpenSpec.ofChange recordsSameSpec)

/-- ITS FALSE NEIGHBOUR: 'it returns false'. Refute it at one input. -/
def recordsSameWrong : ChangeSpec := { name := "recordsSame", fn := fun _ => fun
  | [d1, d2] => { results := [.lit (.bool false)], args := [d1, d2] }
  | _ => none }
def RecordsSameWrongFalsely : Prop := recordsSameRow.holds Try.pinned (OpenSpec.ofChange recordsSameWrong)

/- THE SECOND FORM. 'bulk': how many values and letters a reading holds, each counted each time it is reached (what is shared counts as often as it is met; a slice's spare places count too). A statement '..UptoSaid' is the law's where the arguments, and the package variables that the reading takes, are together of bulk at most 1048576: NARROWER than '..Said'. Prove '..Said' where nothing that the law and all that it calls make is longer than what came in: it says more and counts as full. Else prove '..UptoSaid'. A law counts once. -/
mutual
def uptoBulk {H : Type} : DataW H → Nat
  | .lit (.string bytes) => bytes.length + 1
  | .lit _ => 1
  | .nil => 1
  | .ptr d => uptoBulk d + 1
  | .slice elems spare => uptoBulkAll elems + uptoBulkAll spare + 1
  | .agg parts => uptoBulkAll parts + 1
  | .iface _ d => uptoBulk d + 1
  | .map entries => uptoBulkEntries entries + 1
  | .held _ => 1
def uptoBulkAll {H : Type} : List (DataW H) → Nat
  | [] => 0
  | d :: r => uptoBulk d + uptoBulkAll r
def uptoBulkEntries {H : Type} : List (Lit × DataW H) → Nat
  | [] => 0
  | x :: r => uptoBulkEntry x + uptoBulkEntries r
def uptoBulkEntry {H : Type} : Lit × DataW H → Nat
  | (.string bytes, d) => bytes.length + uptoBulk d + 1
  | (_, d) => uptoBulk d + 1
 end
def uptoSmall : (H : Type) → List (DataW H) → Bool := fun _ ds => decide (uptoBulkAll ds ≤ 1048576)
def OpenSpec.upto (s : _root_.Go.ChangeSpec) : _root_.Go.OpenSpec := { _root_.Go.OpenSpec.ofChange s with cond := some uptoSmall }

/-- 'columbariumlaw06.RecordsPack', WHERE WHAT IT READS IS OF BULK AT MOST 1048576: true; the input reads as it did. -/
def recordsPackUptoRow : OpenClaim := { program := "ytppahidjiiehkaa", sum := "b3790dbf1102d3f38b3adfefa606c6b7eff5707e508365d60d946e8be98ab769", func := "columbarium/columbariumlaw06.RecordsPack", spec := "recordsPack", unfollowed := true, recurses := true, apart := false, narrowed := true }
def RecordsPackUptoSaid : Prop := recordsPackUptoRow.holds Try.pinned (OpenSpec.upto recordsPackSpec)

/-- 'columbariumlaw06.RecordsUnpack', WHERE WHAT IT READS IS OF BULK AT MOST 1048576: true; the input reads as it did. -/
def recordsUnpackUptoRow : OpenClaim := { program := "ytppahidjiiehkaa", sum := "b3790dbf1102d3f38b3adfefa606c6b7eff5707e508365d60d946e8be98ab769", func := "columbarium/columbariumlaw06.RecordsUnpack", spec := "recordsUnpack", unfollowed := true, recurses := true, apart := false, narrowed := true }
def RecordsUnpackUptoSaid : Prop := recordsUnpackUptoRow.holds Try.pinned (OpenSpec.upto recordsUnpackSpec)

/-- 'columbariumlaw06.RecordsBack', WHERE WHAT IT READS IS OF BULK AT MOST 1048576: true; the input reads as it did. -/
def recordsBackUptoRow : OpenClaim := { program := "ytppahidjiiehkaa", sum := "b3790dbf1102d3f38b3adfefa606c6b7eff5707e508365d60d946e8be98ab769", func := "columbarium/columbariumlaw06.RecordsBack", spec := "recordsBack", unfollowed := true, recurses := true, apart := false, narrowed := true }
def RecordsBackUptoSaid : Prop := recordsBackUptoRow.holds Try.pinned (OpenSpec.upto recordsBackSpec)

/-- 'columbariumlaw06.RecordsApart', WHERE WHAT IT READS IS OF BULK AT MOST 1048576: true; the input reads as it did. -/
def recordsApartUptoRow : OpenClaim := { program := "ytppahidjiiehkaa", sum := "b3790dbf1102d3f38b3adfefa606c6b7eff5707e508365d60d946e8be98ab769", func := "columbarium/columbariumlaw06.RecordsApart", spec := "recordsApart", unfollowed := true, recurses := true, apart := false, narrowed := true }
def RecordsApartUptoSaid : Prop := recordsApartUptoRow.holds Try.pinned (OpenSpec.upto recordsApartSpec)

/-- 'columbariumlaw06.RecordsSame', WHERE WHAT IT READS IS OF BULK AT MOST 1048576: true; the input reads as it did. -/
def recordsSameUptoRow : OpenClaim := { program := "ytppahidjiiehkaa", sum := "b3790dbf1102d3f38b3adfefa606c6b7eff5707e508365d60d946e8be98ab769", func := "columbarium/columbariumlaw06.RecordsSame", spec := "recordsSame", unfollowed := true, recurses := true, apart := false, narrowed := true }
def RecordsSameUptoSaid : Prop := recordsSameUptoRow.holds Try.pinned (OpenSpec.upto recordsSameSpec)

end Rows
end Go.Proofs.Ytppahidjiiehkaa
