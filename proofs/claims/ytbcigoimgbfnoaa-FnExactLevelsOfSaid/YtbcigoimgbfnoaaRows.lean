/-
  No cell of these rows narrows 'for every input' (looked for: loops, veiled, ifaces, maps, wideKeys, modest, calm, conditions, laid).
  DERIVED. THE GIVEN ROWS OF THIS SEAT. 6 by the template 'for every input the law returns true; each argument reads behind the call as it read before'; 0 by the template 'total and deterministic' (their statements: YtbcigoimgbfnoaaTotals.lean).
  GIVEN WITH THE SEED: the statements are not yours to turn. If you find one false, say at which input.
  Laid BY PROGRAM, IN A SANDBOX (cutbox-rows.mjs): the forced cells as the released guide's own fill.sh prints them over the translation 1b342999496ec330… (all of the seat's roots in one cut). By AI agents, Wed Nov 11 2026. No macro, syntax, notation, axiom, sorry.
-/
import Derived.Test.YtbcigoimgbfnoaaChecked
import GoSem.Claim
import GoSem.ClaimJoined
import GoSem.ClaimMapViews
import Derived.JoinedTies
import Derived.KernelRfl
namespace Go.Proofs.Ytbcigoimgbfnoaa
/- THE CELL 'sum', in the pinned program and in every row, IS THE sha256 OF THE DUMP (.gsa) THAT YtbcigoimgbfnoaaProg.lean LOADS. Nothing in Lean hashes anything: it is a label: what it is worth is what the hold of that sum in a sandbox is worth. -/
noncomputable def Try.pinned : Pinned := { name := "ytbcigoimgbfnoaa", sum := "1b342999496ec3302c97a07fbd2ef0ac5fe75db2fc808309529c12088caf44f2", checked := Try.checked }
namespace Rows
def none {H : Type} : Left H := { results := [], args := [] }

/-- 'laws.FnExactOuterLevels': WHATEVER THE INPUT: true; the input reads as it did. -/
def fnExactOuterLevelsSpec : ChangeSpec := { name := "fnExactOuterLevels", fn := fun _ => fun
  | [d1, d2] => { results := [.lit (.bool true)], args := [d1, d2] }
  | _ => none }
def fnExactOuterLevelsRow : OpenClaim := { program := "ytbcigoimgbfnoaa", sum := "1b342999496ec3302c97a07fbd2ef0ac5fe75db2fc808309529c12088caf44f2", func := "loop.example/weighedevidence/laws.FnExactOuterLevels", spec := "fnExactOuterLevels", unfollowed := true, recurses := true, apart := false }
def FnExactOuterLevelsSaid : Prop := fnExactOuterLevelsRow.holds Try.pinned (OpenSpec.ofChange fnExactOuterLevelsSpec)

/-- ITS FALSE NEIGHBOUR: 'it returns false'. Refute it at one input. -/
def fnExactOuterLevelsWrong : ChangeSpec := { name := "fnExactOuterLevels", fn := fun _ => fun
  | [d1, d2] => { results := [.lit (.bool false)], args := [d1, d2] }
  | _ => none }
def FnExactOuterLevelsWrongFalsely : Prop := fnExactOuterLevelsRow.holds Try.pinned (OpenSpec.ofChange fnExactOuterLevelsWrong)

/-- 'laws.FnExactLevelsOfChance': WHATEVER THE INPUT: true; the input reads as it did. -/
def fnExactLevelsOfChanceSpec : ChangeSpec := { name := "fnExactLevelsOfChance", fn := fun _ => fun
  | [d] => { results := [.lit (.bool true)], args := [d] }
  | _ => none }
def fnExactLevelsOfChanceRow : OpenClaim := { program := "ytbcigoimgbfnoaa", sum := "1b342999496ec3302c97a07fbd2ef0ac5fe75db2fc808309529c12088caf44f2", func := "loop.example/weighedevidence/laws.FnExactLevelsOfChance", spec := "fnExactLevelsOfChance", apart := false }
def FnExactLevelsOfChanceSaid : Prop := fnExactLevelsOfChanceRow.holds Try.pinned (OpenSpec.ofChange fnExactLevelsOfChanceSpec)

/-- ITS FALSE NEIGHBOUR: 'it returns false'. Refute it at one input. -/
def fnExactLevelsOfChanceWrong : ChangeSpec := { name := "fnExactLevelsOfChance", fn := fun _ => fun
  | [d] => { results := [.lit (.bool false)], args := [d] }
  | _ => none }
def FnExactLevelsOfChanceWrongFalsely : Prop := fnExactLevelsOfChanceRow.holds Try.pinned (OpenSpec.ofChange fnExactLevelsOfChanceWrong)

/-- 'laws.FnExactLevelsOf': WHATEVER THE INPUT: true; the input reads as it did. -/
def fnExactLevelsOfSpec : ChangeSpec := { name := "fnExactLevelsOf", fn := fun _ => fun
  | [d] => { results := [.lit (.bool true)], args := [d] }
  | _ => none }
def fnExactLevelsOfRow : OpenClaim := { program := "ytbcigoimgbfnoaa", sum := "1b342999496ec3302c97a07fbd2ef0ac5fe75db2fc808309529c12088caf44f2", func := "loop.example/weighedevidence/laws.FnExactLevelsOf", spec := "fnExactLevelsOf", unfollowed := true, recurses := true, apart := false }
def FnExactLevelsOfSaid : Prop := fnExactLevelsOfRow.holds Try.pinned (OpenSpec.ofChange fnExactLevelsOfSpec)

/-- ITS FALSE NEIGHBOUR: 'it returns false'. Refute it at one input. -/
def fnExactLevelsOfWrong : ChangeSpec := { name := "fnExactLevelsOf", fn := fun _ => fun
  | [d] => { results := [.lit (.bool false)], args := [d] }
  | _ => none }
def FnExactLevelsOfWrongFalsely : Prop := fnExactLevelsOfRow.holds Try.pinned (OpenSpec.ofChange fnExactLevelsOfWrong)

/-- 'laws.FnExactRefineMass': WHATEVER THE INPUT: true; the input reads as it did. -/
def fnExactRefineMassSpec : ChangeSpec := { name := "fnExactRefineMass", fn := fun _ => fun
  | [d1, d2, d3] => { results := [.lit (.bool true)], args := [d1, d2, d3] }
  | _ => none }
def fnExactRefineMassRow : OpenClaim := { program := "ytbcigoimgbfnoaa", sum := "1b342999496ec3302c97a07fbd2ef0ac5fe75db2fc808309529c12088caf44f2", func := "loop.example/weighedevidence/laws.FnExactRefineMass", spec := "fnExactRefineMass", unfollowed := true, recurses := true, apart := false }
def FnExactRefineMassSaid : Prop := fnExactRefineMassRow.holds Try.pinned (OpenSpec.ofChange fnExactRefineMassSpec)

/-- ITS FALSE NEIGHBOUR: 'it returns false'. Refute it at one input. -/
def fnExactRefineMassWrong : ChangeSpec := { name := "fnExactRefineMass", fn := fun _ => fun
  | [d1, d2, d3] => { results := [.lit (.bool false)], args := [d1, d2, d3] }
  | _ => none }
def FnExactRefineMassWrongFalsely : Prop := fnExactRefineMassRow.holds Try.pinned (OpenSpec.ofChange fnExactRefineMassWrong)

/-- 'laws.FnExactCoarsenMass': WHATEVER THE INPUT: true; the input reads as it did. -/
def fnExactCoarsenMassSpec : ChangeSpec := { name := "fnExactCoarsenMass", fn := fun _ => fun
  | [d1, d2, d3] => { results := [.lit (.bool true)], args := [d1, d2, d3] }
  | _ => none }
def fnExactCoarsenMassRow : OpenClaim := { program := "ytbcigoimgbfnoaa", sum := "1b342999496ec3302c97a07fbd2ef0ac5fe75db2fc808309529c12088caf44f2", func := "loop.example/weighedevidence/laws.FnExactCoarsenMass", spec := "fnExactCoarsenMass", unfollowed := true, recurses := true, apart := false }
def FnExactCoarsenMassSaid : Prop := fnExactCoarsenMassRow.holds Try.pinned (OpenSpec.ofChange fnExactCoarsenMassSpec)

/-- ITS FALSE NEIGHBOUR: 'it returns false'. Refute it at one input. -/
def fnExactCoarsenMassWrong : ChangeSpec := { name := "fnExactCoarsenMass", fn := fun _ => fun
  | [d1, d2, d3] => { results := [.lit (.bool false)], args := [d1, d2, d3] }
  | _ => none }
def FnExactCoarsenMassWrongFalsely : Prop := fnExactCoarsenMassRow.holds Try.pinned (OpenSpec.ofChange fnExactCoarsenMassWrong)

/-- 'laws.FnExactChanceOfOrder': WHATEVER THE INPUT: true; the input reads as it did. -/
def fnExactChanceOfOrderSpec : ChangeSpec := { name := "fnExactChanceOfOrder", fn := fun _ => fun
  | [d1, d2] => { results := [.lit (.bool true)], args := [d1, d2] }
  | _ => none }
def fnExactChanceOfOrderRow : OpenClaim := { program := "ytbcigoimgbfnoaa", sum := "1b342999496ec3302c97a07fbd2ef0ac5fe75db2fc808309529c12088caf44f2", func := "loop.example/weighedevidence/laws.FnExactChanceOfOrder", spec := "fnExactChanceOfOrder", unfollowed := true, recurses := true, apart := false }
def FnExactChanceOfOrderSaid : Prop := fnExactChanceOfOrderRow.holds Try.pinned (OpenSpec.ofChange fnExactChanceOfOrderSpec)

/-- ITS FALSE NEIGHBOUR: 'it returns false'. Refute it at one input. -/
def fnExactChanceOfOrderWrong : ChangeSpec := { name := "fnExactChanceOfOrder", fn := fun _ => fun
  | [d1, d2] => { results := [.lit (.bool false)], args := [d1, d2] }
  | _ => none }
def FnExactChanceOfOrderWrongFalsely : Prop := fnExactChanceOfOrderRow.holds Try.pinned (OpenSpec.ofChange fnExactChanceOfOrderWrong)

/- THE SECOND FORM. 'bulk': how many values and letters a reading holds, each counted each time it is reached (what is shared counts as often as it is met; a slice's spare places count too). A statement '..UptoSaid' is the law's where the arguments, and the package variables that the reading takes, are together of bulk at most 1048576: NARROWER than '..Said'. Prove '..Said' where nothing that the law and all that it calls make is longer than what came in: it says more and counts as full. Else prove '..UptoSaid'. A law counts once. -/
mutual
def uptoBulk {H : Type} : DataW H → Nat
  | .lit (.string bytes) => bytes.length + 1
  | .lit _ => 1
  | .nil => 1
  | .ptr d => uptoBulk d + 1
  | .slice elems spare => uptoBulkAll elems + uptoBulkAll spare + 1
  | .agg parts => uptoBulkAll parts + 1
  | .iface _ d => uptoBulk d + 1
  | .map entries => uptoBulkEntries entries + 1
  | .held _ => 1
def uptoBulkAll {H : Type} : List (DataW H) → Nat
  | [] => 0
  | d :: r => uptoBulk d + uptoBulkAll r
def uptoBulkEntries {H : Type} : List (Lit × DataW H) → Nat
  | [] => 0
  | x :: r => uptoBulkEntry x + uptoBulkEntries r
def uptoBulkEntry {H : Type} : Lit × DataW H → Nat
  | (.string bytes, d) => bytes.length + uptoBulk d + 1
  | (_, d) => uptoBulk d + 1
 end
def uptoSmall : (H : Type) → List (DataW H) → Bool := fun _ ds => decide (uptoBulkAll ds ≤ 1048576)
def OpenSpec.upto (s : _root_.Go.ChangeSpec) : _root_.Go.OpenSpec := { _root_.Go.OpenSpec.ofChange s with cond := some uptoSmall }

/-- 'laws.FnExactOuterLevels', WHERE WHAT IT READS IS OF BULK AT MOST 1048576: true; the input reads as it did. -/
def fnExactOuterLevelsUptoRow : OpenClaim := { program := "ytbcigoimgbfnoaa", sum := "1b342999496ec3302c97a07fbd2ef0ac5fe75db2fc808309529c12088caf44f2", func := "loop.example/weighedevidence/laws.FnExactOuterLevels", spec := "fnExactOuterLevels", unfollowed := true, recurses := true, apart := false, narrowed := true }
def FnExactOuterLevelsUptoSaid : Prop := fnExactOuterLevelsUptoRow.holds Try.pinned (OpenSpec.upto fnExactOuterLevelsSpec)

/-- 'laws.FnExactLevelsOfChance', WHERE WHAT IT READS IS OF BULK AT MOST 1048576: true; the input reads as it did. -/
def fnExactLevelsOfChanceUptoRow : OpenClaim := { program := "ytbcigoimgbfnoaa", sum := "1b342999496ec3302c97a07fbd2ef0ac5fe75db2fc808309529c12088caf44f2", func := "loop.example/weighedevidence/laws.FnExactLevelsOfChance", spec := "fnExactLevelsOfChance", apart := false, narrowed := true }
def FnExactLevelsOfChanceUptoSaid : Prop := fnExactLevelsOfChanceUptoRow.holds Try.pinned (OpenSpec.upto fnExactLevelsOfChanceSpec)

/-- 'laws.FnExactLevelsOf', WHERE WHAT IT READS IS OF BULK AT MOST 1048576: true; the input reads as it did. -/
def fnExactLevelsOfUptoRow : OpenClaim := { program := "ytbcigoimgbfnoaa", sum := "1b342999496ec3302c97a07fbd2ef0ac5fe75db2fc808309529c12088caf44f2", func := "loop.example/weighedevidence/laws.FnExactLevelsOf", spec := "fnExactLevelsOf", unfollowed := true, recurses := true, apart := false, narrowed := true }
def FnExactLevelsOfUptoSaid : Prop := fnExactLevelsOfUptoRow.holds Try.pinned (OpenSpec.upto fnExactLevelsOfSpec)

/-- 'laws.FnExactRefineMass', WHERE WHAT IT READS IS OF BULK AT MOST 1048576: true; the input reads as it did. -/
def fnExactRefineMassUptoRow : OpenClaim := { program := "ytbcigoimgbfnoaa", sum := "1b342999496ec3302c97a07fbd2ef0ac5fe75db2fc808309529c12088caf44f2", func := "loop.example/weighedevidence/laws.FnExactRefineMass", spec := "fnExactRefineMass", unfollowed := true, recurses := true, apart := false, narrowed := true }
def FnExactRefineMassUptoSaid : Prop := fnExactRefineMassUptoRow.holds Try.pinned (OpenSpec.upto fnExactRefineMassSpec)

/-- 'laws.FnExactCoarsenMass', WHERE WHAT IT READS IS OF BULK AT MOST 1048576: true; the input reads as it did. -/
def fnExactCoarsenMassUptoRow : OpenClaim := { program := "ytbcigoimgbfnoaa", sum := "1b342999496ec3302c97a07fbd2ef0ac5fe75db2fc808309529c12088caf44f2", func := "loop.example/weighedevidence/laws.FnExactCoarsenMass", spec := "fnExactCoarsenMass", unfollowed := true, recurses := true, apart := false, narrowed := true }
def FnExactCoarsenMassUptoSaid : Prop := fnExactCoarsenMassUptoRow.holds Try.pinned (OpenSpec.upto fnExactCoarsenMassSpec)

/-- 'laws.FnExactChanceOfOrder', WHERE WHAT IT READS IS OF BULK AT MOST 1048576: true; the input reads as it did. -/
def fnExactChanceOfOrderUptoRow : OpenClaim := { program := "ytbcigoimgbfnoaa", sum := "1b342999496ec3302c97a07fbd2ef0ac5fe75db2fc808309529c12088caf44f2", func := "loop.example/weighedevidence/laws.FnExactChanceOfOrder", spec := "fnExactChanceOfOrder", unfollowed := true, recurses := true, apart := false, narrowed := true }
def FnExactChanceOfOrderUptoSaid : Prop := fnExactChanceOfOrderUptoRow.holds Try.pinned (OpenSpec.upto fnExactChanceOfOrderSpec)

end Rows
end Go.Proofs.Ytbcigoimgbfnoaa
