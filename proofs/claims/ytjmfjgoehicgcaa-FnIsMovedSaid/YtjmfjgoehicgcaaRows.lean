/-
  No cell of these rows narrows 'for every input' (looked for: loops, veiled, ifaces, maps, wideKeys, modest, calm, conditions, laid).
  DERIVED. THE GIVEN ROWS OF THIS SEAT. 8 by the template 'for every input the law returns true; each argument reads behind the call as it read before'; 0 by the template 'total and deterministic' (their statements: YtjmfjgoehicgcaaTotals.lean).
  GIVEN WITH THE SEED: the statements are not yours to turn. If you find one false, say at which input.
  Laid BY PROGRAM, IN A SANDBOX (cutbox-rows.mjs): the forced cells as the released guide's own fill.sh prints them over the translation 130ada1650188d34… (all of the seat's roots in one cut). By AI agents, Wed Nov 11 2026. No macro, syntax, notation, axiom, sorry.
-/
import Derived.Test.YtjmfjgoehicgcaaChecked
import GoSem.Claim
import GoSem.ClaimJoined
import GoSem.ClaimMapViews
import Derived.JoinedTies
import Derived.KernelRfl
namespace Go.Proofs.Ytjmfjgoehicgcaa
/- THE CELL 'sum', in the pinned program and in every row, IS THE sha256 OF THE DUMP (.gsa) THAT YtjmfjgoehicgcaaProg.lean LOADS. Nothing in Lean hashes anything: it is a label: what it is worth is what the hold of that sum in a sandbox is worth. -/
noncomputable def Try.pinned : Pinned := { name := "ytjmfjgoehicgcaa", sum := "130ada1650188d3457429d83449330c388cb06c428a1c932514f03ad578a2d99", checked := Try.checked }
namespace Rows
def none {H : Type} : Left H := { results := [], args := [] }

/-- 'laws.FnExactIsSpecialized': WHATEVER THE INPUT: true; the input reads as it did. -/
def fnExactIsSpecializedSpec : ChangeSpec := { name := "fnExactIsSpecialized", fn := fun _ => fun
  | [d1, d2] => { results := [.lit (.bool true)], args := [d1, d2] }
  | _ => none }
def fnExactIsSpecializedRow : OpenClaim := { program := "ytjmfjgoehicgcaa", sum := "130ada1650188d3457429d83449330c388cb06c428a1c932514f03ad578a2d99", func := "loop.example/weighedevidence/laws.FnExactIsSpecialized", spec := "fnExactIsSpecialized", unfollowed := true, recurses := true, apart := false }
def FnExactIsSpecializedSaid : Prop := fnExactIsSpecializedRow.holds Try.pinned (OpenSpec.ofChange fnExactIsSpecializedSpec)

/-- ITS FALSE NEIGHBOUR: 'it returns false'. Refute it at one input. -/
def fnExactIsSpecializedWrong : ChangeSpec := { name := "fnExactIsSpecialized", fn := fun _ => fun
  | [d1, d2] => { results := [.lit (.bool false)], args := [d1, d2] }
  | _ => none }
def FnExactIsSpecializedWrongFalsely : Prop := fnExactIsSpecializedRow.holds Try.pinned (OpenSpec.ofChange fnExactIsSpecializedWrong)

/-- 'laws.FnReliable': WHATEVER THE INPUT: true; the input reads as it did. -/
def fnReliableSpec : ChangeSpec := { name := "fnReliable", fn := fun _ => fun
  | [d] => { results := [.lit (.bool true)], args := [d] }
  | _ => none }
def fnReliableRow : OpenClaim := { program := "ytjmfjgoehicgcaa", sum := "130ada1650188d3457429d83449330c388cb06c428a1c932514f03ad578a2d99", func := "loop.example/weighedevidence/laws.FnReliable", spec := "fnReliable", unfollowed := true, recurses := true, apart := false }
def FnReliableSaid : Prop := fnReliableRow.holds Try.pinned (OpenSpec.ofChange fnReliableSpec)

/-- ITS FALSE NEIGHBOUR: 'it returns false'. Refute it at one input. -/
def fnReliableWrong : ChangeSpec := { name := "fnReliable", fn := fun _ => fun
  | [d] => { results := [.lit (.bool false)], args := [d] }
  | _ => none }
def FnReliableWrongFalsely : Prop := fnReliableRow.holds Try.pinned (OpenSpec.ofChange fnReliableWrong)

/-- 'laws.FnMorePossible': WHATEVER THE INPUT: true; the input reads as it did. -/
def fnMorePossibleSpec : ChangeSpec := { name := "fnMorePossible", fn := fun _ => fun
  | [d] => { results := [.lit (.bool true)], args := [d] }
  | _ => none }
def fnMorePossibleRow : OpenClaim := { program := "ytjmfjgoehicgcaa", sum := "130ada1650188d3457429d83449330c388cb06c428a1c932514f03ad578a2d99", func := "loop.example/weighedevidence/laws.FnMorePossible", spec := "fnMorePossible", unfollowed := true, recurses := true, apart := false }
def FnMorePossibleSaid : Prop := fnMorePossibleRow.holds Try.pinned (OpenSpec.ofChange fnMorePossibleSpec)

/-- ITS FALSE NEIGHBOUR: 'it returns false'. Refute it at one input. -/
def fnMorePossibleWrong : ChangeSpec := { name := "fnMorePossible", fn := fun _ => fun
  | [d] => { results := [.lit (.bool false)], args := [d] }
  | _ => none }
def FnMorePossibleWrongFalsely : Prop := fnMorePossibleRow.holds Try.pinned (OpenSpec.ofChange fnMorePossibleWrong)

/-- 'laws.FnExactMovedParts': WHATEVER THE INPUT: true; the input reads as it did. -/
def fnExactMovedPartsSpec : ChangeSpec := { name := "fnExactMovedParts", fn := fun _ => fun
  | [d1, d2] => { results := [.lit (.bool true)], args := [d1, d2] }
  | _ => none }
def fnExactMovedPartsRow : OpenClaim := { program := "ytjmfjgoehicgcaa", sum := "130ada1650188d3457429d83449330c388cb06c428a1c932514f03ad578a2d99", func := "loop.example/weighedevidence/laws.FnExactMovedParts", spec := "fnExactMovedParts", unfollowed := true, recurses := true, apart := false }
def FnExactMovedPartsSaid : Prop := fnExactMovedPartsRow.holds Try.pinned (OpenSpec.ofChange fnExactMovedPartsSpec)

/-- ITS FALSE NEIGHBOUR: 'it returns false'. Refute it at one input. -/
def fnExactMovedPartsWrong : ChangeSpec := { name := "fnExactMovedParts", fn := fun _ => fun
  | [d1, d2] => { results := [.lit (.bool false)], args := [d1, d2] }
  | _ => none }
def FnExactMovedPartsWrongFalsely : Prop := fnExactMovedPartsRow.holds Try.pinned (OpenSpec.ofChange fnExactMovedPartsWrong)

/-- 'laws.FnLeastCommitted': WHATEVER THE INPUT: true; the input reads as it did. -/
def fnLeastCommittedSpec : ChangeSpec := { name := "fnLeastCommitted", fn := fun _ => fun
  | [d] => { results := [.lit (.bool true)], args := [d] }
  | _ => none }
def fnLeastCommittedRow : OpenClaim := { program := "ytjmfjgoehicgcaa", sum := "130ada1650188d3457429d83449330c388cb06c428a1c932514f03ad578a2d99", func := "loop.example/weighedevidence/laws.FnLeastCommitted", spec := "fnLeastCommitted", unfollowed := true, recurses := true, apart := false }
def FnLeastCommittedSaid : Prop := fnLeastCommittedRow.holds Try.pinned (OpenSpec.ofChange fnLeastCommittedSpec)

/-- ITS FALSE NEIGHBOUR: 'it returns false'. Refute it at one input. -/
def fnLeastCommittedWrong : ChangeSpec := { name := "fnLeastCommitted", fn := fun _ => fun
  | [d] => { results := [.lit (.bool false)], args := [d] }
  | _ => none }
def FnLeastCommittedWrongFalsely : Prop := fnLeastCommittedRow.holds Try.pinned (OpenSpec.ofChange fnLeastCommittedWrong)

/-- 'laws.FnSpecialized': WHATEVER THE INPUT: true; the input reads as it did. -/
def fnSpecializedSpec : ChangeSpec := { name := "fnSpecialized", fn := fun _ => fun
  | [d1, d2] => { results := [.lit (.bool true)], args := [d1, d2] }
  | _ => none }
def fnSpecializedRow : OpenClaim := { program := "ytjmfjgoehicgcaa", sum := "130ada1650188d3457429d83449330c388cb06c428a1c932514f03ad578a2d99", func := "loop.example/weighedevidence/laws.FnSpecialized", spec := "fnSpecialized", unfollowed := true, recurses := true, apart := false }
def FnSpecializedSaid : Prop := fnSpecializedRow.holds Try.pinned (OpenSpec.ofChange fnSpecializedSpec)

/-- ITS FALSE NEIGHBOUR: 'it returns false'. Refute it at one input. -/
def fnSpecializedWrong : ChangeSpec := { name := "fnSpecialized", fn := fun _ => fun
  | [d1, d2] => { results := [.lit (.bool false)], args := [d1, d2] }
  | _ => none }
def FnSpecializedWrongFalsely : Prop := fnSpecializedRow.holds Try.pinned (OpenSpec.ofChange fnSpecializedWrong)

/-- 'laws.FnIsMoved': WHATEVER THE INPUT: true; the input reads as it did. -/
def fnIsMovedSpec : ChangeSpec := { name := "fnIsMoved", fn := fun _ => fun
  | [d] => { results := [.lit (.bool true)], args := [d] }
  | _ => none }
def fnIsMovedRow : OpenClaim := { program := "ytjmfjgoehicgcaa", sum := "130ada1650188d3457429d83449330c388cb06c428a1c932514f03ad578a2d99", func := "loop.example/weighedevidence/laws.FnIsMoved", spec := "fnIsMoved", unfollowed := true, recurses := true, apart := false }
def FnIsMovedSaid : Prop := fnIsMovedRow.holds Try.pinned (OpenSpec.ofChange fnIsMovedSpec)

/-- ITS FALSE NEIGHBOUR: 'it returns false'. Refute it at one input. -/
def fnIsMovedWrong : ChangeSpec := { name := "fnIsMoved", fn := fun _ => fun
  | [d] => { results := [.lit (.bool false)], args := [d] }
  | _ => none }
def FnIsMovedWrongFalsely : Prop := fnIsMovedRow.holds Try.pinned (OpenSpec.ofChange fnIsMovedWrong)

/-- 'laws.FnMovedParts': WHATEVER THE INPUT: true; the input reads as it did. -/
def fnMovedPartsSpec : ChangeSpec := { name := "fnMovedParts", fn := fun _ => fun
  | [d] => { results := [.lit (.bool true)], args := [d] }
  | _ => none }
def fnMovedPartsRow : OpenClaim := { program := "ytjmfjgoehicgcaa", sum := "130ada1650188d3457429d83449330c388cb06c428a1c932514f03ad578a2d99", func := "loop.example/weighedevidence/laws.FnMovedParts", spec := "fnMovedParts", unfollowed := true, recurses := true, apart := false }
def FnMovedPartsSaid : Prop := fnMovedPartsRow.holds Try.pinned (OpenSpec.ofChange fnMovedPartsSpec)

/-- ITS FALSE NEIGHBOUR: 'it returns false'. Refute it at one input. -/
def fnMovedPartsWrong : ChangeSpec := { name := "fnMovedParts", fn := fun _ => fun
  | [d] => { results := [.lit (.bool false)], args := [d] }
  | _ => none }
def FnMovedPartsWrongFalsely : Prop := fnMovedPartsRow.holds Try.pinned (OpenSpec.ofChange fnMovedPartsWrong)

/- THE SECOND FORM. 'bulk': how many values and letters a reading holds, each counted each time it is reached (what is shared counts as often as it is met; a slice's spare places count too). A statement '..UptoSaid' is the law's where the arguments, and the package variables that the reading takes, are together of bulk at most 1048576: NARROWER than '..Said'. Prove '..Said' where nothing that the law and all that it calls make is longer than what came in: it says more and counts as full. Else prove '..UptoSaid'. A law counts once. -/
mutual
def uptoBulk {H : Type} : DataW H → Nat
  | .lit (.string bytes) => bytes.length + 1
  | .lit _ => 1
  | .nil => 1
  | .ptr d => uptoBulk d + 1
  | .slice elems spare => uptoBulkAll elems + uptoBulkAll spare + 1
  | .agg parts => uptoBulkAll parts + 1
  | .iface _ d => uptoBulk d + 1
  | .map entries => uptoBulkEntries entries + 1
  | .held _ => 1
def uptoBulkAll {H : Type} : List (DataW H) → Nat
  | [] => 0
  | d :: r => uptoBulk d + uptoBulkAll r
def uptoBulkEntries {H : Type} : List (Lit × DataW H) → Nat
  | [] => 0
  | x :: r => uptoBulkEntry x + uptoBulkEntries r
def uptoBulkEntry {H : Type} : Lit × DataW H → Nat
  | (.string bytes, d) => bytes.length + uptoBulk d + 1
  | (_, d) => uptoBulk d + 1
 end
def uptoSmall : (H : Type) → List (DataW H) → Bool := fun _ ds => decide (uptoBulkAll ds ≤ 1048576)
def OpenSpec.upto (s : _root_.Go.ChangeSpec) : _root_.Go.OpenSpec := { _root_.Go.OpenSpec.ofChange s with cond := some uptoSmall }

/-- 'laws.FnExactIsSpecialized', WHERE WHAT IT READS IS OF BULK AT MOST 1048576: true; the input reads as it did. -/
def fnExactIsSpecializedUptoRow : OpenClaim := { program := "ytjmfjgoehicgcaa", sum := "130ada1650188d3457429d83449330c388cb06c428a1c932514f03ad578a2d99", func := "loop.example/weighedevidence/laws.FnExactIsSpecialized", spec := "fnExactIsSpecialized", unfollowed := true, recurses := true, apart := false, narrowed := true }
def FnExactIsSpecializedUptoSaid : Prop := fnExactIsSpecializedUptoRow.holds Try.pinned (OpenSpec.upto fnExactIsSpecializedSpec)

/-- 'laws.FnReliable', WHERE WHAT IT READS IS OF BULK AT MOST 1048576: true; the input reads as it did. -/
def fnReliableUptoRow : OpenClaim := { program := "ytjmfjgoehicgcaa", sum := "130ada1650188d3457429d83449330c388cb06c428a1c932514f03ad578a2d99", func := "loop.example/weighedevidence/laws.FnReliable", spec := "fnReliable", unfollowed := true, recurses := true, apart := false, narrowed := true }
def FnReliableUptoSaid : Prop := fnReliableUptoRow.holds Try.pinned (OpenSpec.upto fnReliableSpec)

/-- 'laws.FnMorePossible', WHERE WHAT IT READS IS OF BULK AT MOST 1048576: true; the input reads as it did. -/
def fnMorePossibleUptoRow : OpenClaim := { program := "ytjmfjgoehicgcaa", sum := "130ada1650188d3457429d83449330c388cb06c428a1c932514f03ad578a2d99", func := "loop.example/weighedevidence/laws.FnMorePossible", spec := "fnMorePossible", unfollowed := true, recurses := true, apart := false, narrowed := true }
def FnMorePossibleUptoSaid : Prop := fnMorePossibleUptoRow.holds Try.pinned (OpenSpec.upto fnMorePossibleSpec)

/-- 'laws.FnExactMovedParts', WHERE WHAT IT READS IS OF BULK AT MOST 1048576: true; the input reads as it did. -/
def fnExactMovedPartsUptoRow : OpenClaim := { program := "ytjmfjgoehicgcaa", sum := "130ada1650188d3457429d83449330c388cb06c428a1c932514f03ad578a2d99", func := "loop.example/weighedevidence/laws.FnExactMovedParts", spec := "fnExactMovedParts", unfollowed := true, recurses := true, apart := false, narrowed := true }
def FnExactMovedPartsUptoSaid : Prop := fnExactMovedPartsUptoRow.holds Try.pinned (OpenSpec.upto fnExactMovedPartsSpec)

/-- 'laws.FnLeastCommitted', WHERE WHAT IT READS IS OF BULK AT MOST 1048576: true; the input reads as it did. -/
def fnLeastCommittedUptoRow : OpenClaim := { program := "ytjmfjgoehicgcaa", sum := "130ada1650188d3457429d83449330c388cb06c428a1c932514f03ad578a2d99", func := "loop.example/weighedevidence/laws.FnLeastCommitted", spec := "fnLeastCommitted", unfollowed := true, recurses := true, apart := false, narrowed := true }
def FnLeastCommittedUptoSaid : Prop := fnLeastCommittedUptoRow.holds Try.pinned (OpenSpec.upto fnLeastCommittedSpec)

/-- 'laws.FnSpecialized', WHERE WHAT IT READS IS OF BULK AT MOST 1048576: true; the input reads as it did. -/
def fnSpecializedUptoRow : OpenClaim := { program := "ytjmfjgoehicgcaa", sum := "130ada1650188d3457429d83449330c388cb06c428a1c932514f03ad578a2d99", func := "loop.example/weighedevidence/laws.FnSpecialized", spec := "fnSpecialized", unfollowed := true, recurses := true, apart := false, narrowed := true }
def FnSpecializedUptoSaid : Prop := fnSpecializedUptoRow.holds Try.pinned (OpenSpec.upto fnSpecializedSpec)

/-- 'laws.FnIsMoved', WHERE WHAT IT READS IS OF BULK AT MOST 1048576: true; the input reads as it did. -/
def fnIsMovedUptoRow : OpenClaim := { program := "ytjmfjgoehicgcaa", sum := "130ada1650188d3457429d83449330c388cb06c428a1c932514f03ad578a2d99", func := "loop.example/weighedevidence/laws.FnIsMoved", spec := "fnIsMoved", unfollowed := true, recurses := true, apart := false, narrowed := true }
def FnIsMovedUptoSaid : Prop := fnIsMovedUptoRow.holds Try.pinned (OpenSpec.upto fnIsMovedSpec)

/-- 'laws.FnMovedParts', WHERE WHAT IT READS IS OF BULK AT MOST 1048576: true; the input reads as it did. -/
def fnMovedPartsUptoRow : OpenClaim := { program := "ytjmfjgoehicgcaa", sum := "130ada1650188d3457429d83449330c388cb06c428a1c932514f03ad578a2d99", func := "loop.example/weighedevidence/laws.FnMovedParts", spec := "fnMovedParts", unfollowed := true, recurses := true, apart := false, narrowed := true }
def FnMovedPartsUptoSaid : Prop := fnMovedPartsUptoRow.holds Try.pinned (OpenSpec.upto fnMovedPartsSpec)

end Rows
end Go.Proofs.Ytjmfjgoehicgcaa
