/-
  No cell of these rows narrows 'for every input' (looked for: loops, veiled, ifaces, maps, wideKeys, modest, calm, conditions, laid).
  DERIVED. THE GIVEN ROWS OF THIS SEAT. 5 by the template 'for every input the law returns true; each argument reads behind the call as it read before'; 0 by the template 'total and deterministic' (their statements: YtomndhkpmfdeiaaTotals.lean).
  GIVEN WITH THE SEED: the statements are not yours to turn. If you find one false, say at which input.
  Laid BY PROGRAM, IN A SANDBOX (cutbox-rows.mjs): the forced cells as the released guide's own fill.sh prints them over the translation 93457a79f01af062… (all of the seat's roots in one cut). By AI agents, Wed Nov 11 2026. No macro, syntax, notation, axiom, sorry.
-/
import Derived.Test.YtomndhkpmfdeiaaChecked
import GoSem.Claim
import GoSem.ClaimJoined
import GoSem.ClaimMapViews
import Derived.JoinedTies
import Derived.KernelRfl
namespace Go.Proofs.Ytomndhkpmfdeiaa
/- THE CELL 'sum', in the pinned program and in every row, IS THE sha256 OF THE DUMP (.gsa) THAT YtomndhkpmfdeiaaProg.lean LOADS. Nothing in Lean hashes anything: it is a label: what it is worth is what the hold of that sum in a sandbox is worth. -/
noncomputable def Try.pinned : Pinned := { name := "ytomndhkpmfdeiaa", sum := "93457a79f01af062af208725a0098e63b84852e50b6234935e4c56e0bfcf6755", checked := Try.checked }
namespace Rows
def none {H : Type} : Left H := { results := [], args := [] }

/-- 'laws.FnExactLowestMean': WHATEVER THE INPUT: true; the input reads as it did. -/
def fnExactLowestMeanSpec : ChangeSpec := { name := "fnExactLowestMean", fn := fun _ => fun
  | [d1, d2] => { results := [.lit (.bool true)], args := [d1, d2] }
  | _ => none }
def fnExactLowestMeanRow : OpenClaim := { program := "ytomndhkpmfdeiaa", sum := "93457a79f01af062af208725a0098e63b84852e50b6234935e4c56e0bfcf6755", func := "loop.example/weighedevidence/laws.FnExactLowestMean", spec := "fnExactLowestMean", unfollowed := true, recurses := true, apart := false }
def FnExactLowestMeanSaid : Prop := fnExactLowestMeanRow.holds Try.pinned (OpenSpec.ofChange fnExactLowestMeanSpec)

/-- ITS FALSE NEIGHBOUR: 'it returns false'. Refute it at one input. -/
def fnExactLowestMeanWrong : ChangeSpec := { name := "fnExactLowestMean", fn := fun _ => fun
  | [d1, d2] => { results := [.lit (.bool false)], args := [d1, d2] }
  | _ => none }
def FnExactLowestMeanWrongFalsely : Prop := fnExactLowestMeanRow.holds Try.pinned (OpenSpec.ofChange fnExactLowestMeanWrong)

/-- 'laws.FnExactHighestMean': WHATEVER THE INPUT: true; the input reads as it did. -/
def fnExactHighestMeanSpec : ChangeSpec := { name := "fnExactHighestMean", fn := fun _ => fun
  | [d1, d2] => { results := [.lit (.bool true)], args := [d1, d2] }
  | _ => none }
def fnExactHighestMeanRow : OpenClaim := { program := "ytomndhkpmfdeiaa", sum := "93457a79f01af062af208725a0098e63b84852e50b6234935e4c56e0bfcf6755", func := "loop.example/weighedevidence/laws.FnExactHighestMean", spec := "fnExactHighestMean", unfollowed := true, recurses := true, apart := false }
def FnExactHighestMeanSaid : Prop := fnExactHighestMeanRow.holds Try.pinned (OpenSpec.ofChange fnExactHighestMeanSpec)

/-- ITS FALSE NEIGHBOUR: 'it returns false'. Refute it at one input. -/
def fnExactHighestMeanWrong : ChangeSpec := { name := "fnExactHighestMean", fn := fun _ => fun
  | [d1, d2] => { results := [.lit (.bool false)], args := [d1, d2] }
  | _ => none }
def FnExactHighestMeanWrongFalsely : Prop := fnExactHighestMeanRow.holds Try.pinned (OpenSpec.ofChange fnExactHighestMeanWrong)

/-- 'laws.FnExactIsSpecialized': WHATEVER THE INPUT: true; the input reads as it did. -/
def fnExactIsSpecializedSpec : ChangeSpec := { name := "fnExactIsSpecialized", fn := fun _ => fun
  | [d1, d2] => { results := [.lit (.bool true)], args := [d1, d2] }
  | _ => none }
def fnExactIsSpecializedRow : OpenClaim := { program := "ytomndhkpmfdeiaa", sum := "93457a79f01af062af208725a0098e63b84852e50b6234935e4c56e0bfcf6755", func := "loop.example/weighedevidence/laws.FnExactIsSpecialized", spec := "fnExactIsSpecialized", unfollowed := true, recurses := true, apart := false }
def FnExactIsSpecializedSaid : Prop := fnExactIsSpecializedRow.holds Try.pinned (OpenSpec.ofChange fnExactIsSpecializedSpec)

/-- ITS FALSE NEIGHBOUR: 'it returns false'. Refute it at one input. -/
def fnExactIsSpecializedWrong : ChangeSpec := { name := "fnExactIsSpecialized", fn := fun _ => fun
  | [d1, d2] => { results := [.lit (.bool false)], args := [d1, d2] }
  | _ => none }
def FnExactIsSpecializedWrongFalsely : Prop := fnExactIsSpecializedRow.holds Try.pinned (OpenSpec.ofChange fnExactIsSpecializedWrong)

/-- 'laws.FnExactMovedParts': WHATEVER THE INPUT: true; the input reads as it did. -/
def fnExactMovedPartsSpec : ChangeSpec := { name := "fnExactMovedParts", fn := fun _ => fun
  | [d1, d2] => { results := [.lit (.bool true)], args := [d1, d2] }
  | _ => none }
def fnExactMovedPartsRow : OpenClaim := { program := "ytomndhkpmfdeiaa", sum := "93457a79f01af062af208725a0098e63b84852e50b6234935e4c56e0bfcf6755", func := "loop.example/weighedevidence/laws.FnExactMovedParts", spec := "fnExactMovedParts", unfollowed := true, recurses := true, apart := false }
def FnExactMovedPartsSaid : Prop := fnExactMovedPartsRow.holds Try.pinned (OpenSpec.ofChange fnExactMovedPartsSpec)

/-- ITS FALSE NEIGHBOUR: 'it returns false'. Refute it at one input. -/
def fnExactMovedPartsWrong : ChangeSpec := { name := "fnExactMovedParts", fn := fun _ => fun
  | [d1, d2] => { results := [.lit (.bool false)], args := [d1, d2] }
  | _ => none }
def FnExactMovedPartsWrongFalsely : Prop := fnExactMovedPartsRow.holds Try.pinned (OpenSpec.ofChange fnExactMovedPartsWrong)

/-- 'laws.FnExactMassOfLevels': WHATEVER THE INPUT: true; the input reads as it did. -/
def fnExactMassOfLevelsSpec : ChangeSpec := { name := "fnExactMassOfLevels", fn := fun _ => fun
  | [d] => { results := [.lit (.bool true)], args := [d] }
  | _ => none }
def fnExactMassOfLevelsRow : OpenClaim := { program := "ytomndhkpmfdeiaa", sum := "93457a79f01af062af208725a0098e63b84852e50b6234935e4c56e0bfcf6755", func := "loop.example/weighedevidence/laws.FnExactMassOfLevels", spec := "fnExactMassOfLevels", recurses := true, apart := false }
def FnExactMassOfLevelsSaid : Prop := fnExactMassOfLevelsRow.holds Try.pinned (OpenSpec.ofChange fnExactMassOfLevelsSpec)

/-- ITS FALSE NEIGHBOUR: 'it returns false'. Refute it at one input. -/
def fnExactMassOfLevelsWrong : ChangeSpec := { name := "fnExactMassOfLevels", fn := fun _ => fun
  | [d] => { results := [.lit (.bool false)], args := [d] }
  | _ => none }
def FnExactMassOfLevelsWrongFalsely : Prop := fnExactMassOfLevelsRow.holds Try.pinned (OpenSpec.ofChange fnExactMassOfLevelsWrong)

/- THE SECOND FORM. 'bulk': how many values and letters a reading holds, each counted each time it is reached (what is shared counts as often as it is met; a slice's spare places count too). A statement '..UptoSaid' is the law's where the arguments, and the package variables that the reading takes, are together of bulk at most 1048576: NARROWER than '..Said'. Prove '..Said' where nothing that the law and all that it calls make is longer than what came in: it says more and counts as full. Else prove '..UptoSaid'. A law counts once. -/
mutual
def uptoBulk {H : Type} : DataW H → Nat
  | .lit (.string bytes) => bytes.length + 1
  | .lit _ => 1
  | .nil => 1
  | .ptr d => uptoBulk d + 1
  | .slice elems spare => uptoBulkAll elems + uptoBulkAll spare + 1
  | .agg parts => uptoBulkAll parts + 1
  | .iface _ d => uptoBulk d + 1
  | .map entries => uptoBulkEntries entries + 1
  | .held _ => 1
def uptoBulkAll {H : Type} : List (DataW H) → Nat
  | [] => 0
  | d :: r => uptoBulk d + uptoBulkAll r
def uptoBulkEntries {H : Type} : List (Lit × DataW H) → Nat
  | [] => 0
  | x :: r => uptoBulkEntry x + uptoBulkEntries r
def uptoBulkEntry {H : Type} : Lit × DataW H → Nat
  | (.string bytes, d) => bytes.length + uptoBulk d + 1
  | (_, d) => uptoBulk d + 1
 end
def uptoSmall : (H : Type) → List (DataW H) → Bool := fun _ ds => decide (uptoBulkAll ds ≤ 1048576)
def OpenSpec.upto (s : _root_.Go.ChangeSpec) : _root_.Go.OpenSpec := { _root_.Go.OpenSpec.ofChange s with cond := some uptoSmall }

/-- 'laws.FnExactLowestMean', WHERE WHAT IT READS IS OF BULK AT MOST 1048576: true; the input reads as it did. -/
def fnExactLowestMeanUptoRow : OpenClaim := { program := "ytomndhkpmfdeiaa", sum := "93457a79f01af062af208725a0098e63b84852e50b6234935e4c56e0bfcf6755", func := "loop.example/weighedevidence/laws.FnExactLowestMean", spec := "fnExactLowestMean", unfollowed := true, recurses := true, apart := false, narrowed := true }
def FnExactLowestMeanUptoSaid : Prop := fnExactLowestMeanUptoRow.holds Try.pinned (OpenSpec.upto fnExactLowestMeanSpec)

/-- 'laws.FnExactHighestMean', WHERE WHAT IT READS IS OF BULK AT MOST 1048576: true; the input reads as it did. -/
def fnExactHighestMeanUptoRow : OpenClaim := { program := "ytomndhkpmfdeiaa", sum := "93457a79f01af062af208725a0098e63b84852e50b6234935e4c56e0bfcf6755", func := "loop.example/weighedevidence/laws.FnExactHighestMean", spec := "fnExactHighestMean", unfollowed := true, recurses := true, apart := false, narrowed := true }
def FnExactHighestMeanUptoSaid : Prop := fnExactHighestMeanUptoRow.holds Try.pinned (OpenSpec.upto fnExactHighestMeanSpec)

/-- 'laws.FnExactIsSpecialized', WHERE WHAT IT READS IS OF BULK AT MOST 1048576: true; the input reads as it did. -/
def fnExactIsSpecializedUptoRow : OpenClaim := { program := "ytomndhkpmfdeiaa", sum := "93457a79f01af062af208725a0098e63b84852e50b6234935e4c56e0bfcf6755", func := "loop.example/weighedevidence/laws.FnExactIsSpecialized", spec := "fnExactIsSpecialized", unfollowed := true, recurses := true, apart := false, narrowed := true }
def FnExactIsSpecializedUptoSaid : Prop := fnExactIsSpecializedUptoRow.holds Try.pinned (OpenSpec.upto fnExactIsSpecializedSpec)

/-- 'laws.FnExactMovedParts', WHERE WHAT IT READS IS OF BULK AT MOST 1048576: true; the input reads as it did. -/
def fnExactMovedPartsUptoRow : OpenClaim := { program := "ytomndhkpmfdeiaa", sum := "93457a79f01af062af208725a0098e63b84852e50b6234935e4c56e0bfcf6755", func := "loop.example/weighedevidence/laws.FnExactMovedParts", spec := "fnExactMovedParts", unfollowed := true, recurses := true, apart := false, narrowed := true }
def FnExactMovedPartsUptoSaid : Prop := fnExactMovedPartsUptoRow.holds Try.pinned (OpenSpec.upto fnExactMovedPartsSpec)

/-- 'laws.FnExactMassOfLevels', WHERE WHAT IT READS IS OF BULK AT MOST 1048576: true; the input reads as it did. -/
def fnExactMassOfLevelsUptoRow : OpenClaim := { program := "ytomndhkpmfdeiaa", sum := "93457a79f01af062af208725a0098e63b84852e50b6234935e4c56e0bfcf6755", func := "loop.example/weighedevidence/laws.FnExactMassOfLevels", spec := "fnExactMassOfLevels", recurses := true, apart := false, narrowed := true }
def FnExactMassOfLevelsUptoSaid : Prop := fnExactMassOfLevelsUptoRow.holds Try.pinned (OpenSpec.upto fnExactMassOfLevelsSpec)

end Rows
end Go.Proofs.Ytomndhkpmfdeiaa
