/-
  No cell of these rows narrows 'for every input' (looked for: loops, veiled, ifaces, maps, wideKeys, modest, calm, conditions, laid).
  DERIVED. THE GIVEN ROWS OF THIS SEAT. 6 by the template 'for every input the law returns true; each argument reads behind the call as it read before'; 0 by the template 'total and deterministic' (their statements: YthjmpamcfmadiaaTotals.lean).
  GIVEN WITH THE SEED: the statements are not yours to turn. If you find one false, say at which input.
  Laid BY PROGRAM, IN A SANDBOX (cutbox-rows.mjs): the forced cells as the released guide's own fill.sh prints them over the translation d680ceb1b98b5bf4… (all of the seat's roots in one cut). By AI agents, Wed Nov 11 2026. No macro, syntax, notation, axiom, sorry.
-/
import Derived.Test.YthjmpamcfmadiaaChecked
import GoSem.Claim
import GoSem.ClaimJoined
import GoSem.ClaimMapViews
import Derived.JoinedTies
import Derived.KernelRfl
namespace Go.Proofs.Ythjmpamcfmadiaa
/- THE CELL 'sum', in the pinned program and in every row, IS THE sha256 OF THE DUMP (.gsa) THAT YthjmpamcfmadiaaProg.lean LOADS. Nothing in Lean hashes anything: it is a label: what it is worth is what the hold of that sum in a sandbox is worth. -/
noncomputable def Try.pinned : Pinned := { name := "ythjmpamcfmadiaa", sum := "d680ceb1b98b5bf4730d315be53184e3d5a04f9341953d329bf35f1524d70dab", checked := Try.checked }
namespace Rows
def none {H : Type} : Left H := { results := [], args := [] }

/-- 'laws.FnExactIsMoved': WHATEVER THE INPUT: true; the input reads as it did. -/
def fnExactIsMovedSpec : ChangeSpec := { name := "fnExactIsMoved", fn := fun _ => fun
  | [d1, d2, d3] => { results := [.lit (.bool true)], args := [d1, d2, d3] }
  | _ => none }
def fnExactIsMovedRow : OpenClaim := { program := "ythjmpamcfmadiaa", sum := "d680ceb1b98b5bf4730d315be53184e3d5a04f9341953d329bf35f1524d70dab", func := "loop.example/weighedevidence/laws.FnExactIsMoved", spec := "fnExactIsMoved", apart := false }
def FnExactIsMovedSaid : Prop := fnExactIsMovedRow.holds Try.pinned (OpenSpec.ofChange fnExactIsMovedSpec)

/-- ITS FALSE NEIGHBOUR: 'it returns false'. Refute it at one input. -/
def fnExactIsMovedWrong : ChangeSpec := { name := "fnExactIsMoved", fn := fun _ => fun
  | [d1, d2, d3] => { results := [.lit (.bool false)], args := [d1, d2, d3] }
  | _ => none }
def FnExactIsMovedWrongFalsely : Prop := fnExactIsMovedRow.holds Try.pinned (OpenSpec.ofChange fnExactIsMovedWrong)

/-- 'laws.FnExactMoreCommon': WHATEVER THE INPUT: true; the input reads as it did. -/
def fnExactMoreCommonSpec : ChangeSpec := { name := "fnExactMoreCommon", fn := fun _ => fun
  | [d1, d2] => { results := [.lit (.bool true)], args := [d1, d2] }
  | _ => none }
def fnExactMoreCommonRow : OpenClaim := { program := "ythjmpamcfmadiaa", sum := "d680ceb1b98b5bf4730d315be53184e3d5a04f9341953d329bf35f1524d70dab", func := "loop.example/weighedevidence/laws.FnExactMoreCommon", spec := "fnExactMoreCommon", unfollowed := true, recurses := true, apart := false }
def FnExactMoreCommonSaid : Prop := fnExactMoreCommonRow.holds Try.pinned (OpenSpec.ofChange fnExactMoreCommonSpec)

/-- ITS FALSE NEIGHBOUR: 'it returns false'. Refute it at one input. -/
def fnExactMoreCommonWrong : ChangeSpec := { name := "fnExactMoreCommon", fn := fun _ => fun
  | [d1, d2] => { results := [.lit (.bool false)], args := [d1, d2] }
  | _ => none }
def FnExactMoreCommonWrongFalsely : Prop := fnExactMoreCommonRow.holds Try.pinned (OpenSpec.ofChange fnExactMoreCommonWrong)

/-- 'laws.FnExactLeastCommitted': WHATEVER THE INPUT: true; the input reads as it did. -/
def fnExactLeastCommittedSpec : ChangeSpec := { name := "fnExactLeastCommitted", fn := fun _ => fun
  | [d1, d2] => { results := [.lit (.bool true)], args := [d1, d2] }
  | _ => none }
def fnExactLeastCommittedRow : OpenClaim := { program := "ythjmpamcfmadiaa", sum := "d680ceb1b98b5bf4730d315be53184e3d5a04f9341953d329bf35f1524d70dab", func := "loop.example/weighedevidence/laws.FnExactLeastCommitted", spec := "fnExactLeastCommitted", unfollowed := true, recurses := true, apart := false }
def FnExactLeastCommittedSaid : Prop := fnExactLeastCommittedRow.holds Try.pinned (OpenSpec.ofChange fnExactLeastCommittedSpec)

/-- ITS FALSE NEIGHBOUR: 'it returns false'. Refute it at one input. -/
def fnExactLeastCommittedWrong : ChangeSpec := { name := "fnExactLeastCommitted", fn := fun _ => fun
  | [d1, d2] => { results := [.lit (.bool false)], args := [d1, d2] }
  | _ => none }
def FnExactLeastCommittedWrongFalsely : Prop := fnExactLeastCommittedRow.holds Try.pinned (OpenSpec.ofChange fnExactLeastCommittedWrong)

/-- 'laws.FnExactDistanceOf': WHATEVER THE INPUT: true; the input reads as it did. -/
def fnExactDistanceOfSpec : ChangeSpec := { name := "fnExactDistanceOf", fn := fun _ => fun
  | [d1, d2] => { results := [.lit (.bool true)], args := [d1, d2] }
  | _ => none }
def fnExactDistanceOfRow : OpenClaim := { program := "ythjmpamcfmadiaa", sum := "d680ceb1b98b5bf4730d315be53184e3d5a04f9341953d329bf35f1524d70dab", func := "loop.example/weighedevidence/laws.FnExactDistanceOf", spec := "fnExactDistanceOf", apart := false }
def FnExactDistanceOfSaid : Prop := fnExactDistanceOfRow.holds Try.pinned (OpenSpec.ofChange fnExactDistanceOfSpec)

/-- ITS FALSE NEIGHBOUR: 'it returns false'. Refute it at one input. -/
def fnExactDistanceOfWrong : ChangeSpec := { name := "fnExactDistanceOf", fn := fun _ => fun
  | [d1, d2] => { results := [.lit (.bool false)], args := [d1, d2] }
  | _ => none }
def FnExactDistanceOfWrongFalsely : Prop := fnExactDistanceOfRow.holds Try.pinned (OpenSpec.ofChange fnExactDistanceOfWrong)

/-- 'laws.FnExactPossibleGiven': WHATEVER THE INPUT: true; the input reads as it did. -/
def fnExactPossibleGivenSpec : ChangeSpec := { name := "fnExactPossibleGiven", fn := fun _ => fun
  | [d1, d2, d3] => { results := [.lit (.bool true)], args := [d1, d2, d3] }
  | _ => none }
def fnExactPossibleGivenRow : OpenClaim := { program := "ythjmpamcfmadiaa", sum := "d680ceb1b98b5bf4730d315be53184e3d5a04f9341953d329bf35f1524d70dab", func := "loop.example/weighedevidence/laws.FnExactPossibleGiven", spec := "fnExactPossibleGiven", unfollowed := true, recurses := true, apart := false }
def FnExactPossibleGivenSaid : Prop := fnExactPossibleGivenRow.holds Try.pinned (OpenSpec.ofChange fnExactPossibleGivenSpec)

/-- ITS FALSE NEIGHBOUR: 'it returns false'. Refute it at one input. -/
def fnExactPossibleGivenWrong : ChangeSpec := { name := "fnExactPossibleGiven", fn := fun _ => fun
  | [d1, d2, d3] => { results := [.lit (.bool false)], args := [d1, d2, d3] }
  | _ => none }
def FnExactPossibleGivenWrongFalsely : Prop := fnExactPossibleGivenRow.holds Try.pinned (OpenSpec.ofChange fnExactPossibleGivenWrong)

/-- 'laws.FnExactBelievedGiven': WHATEVER THE INPUT: true; the input reads as it did. -/
def fnExactBelievedGivenSpec : ChangeSpec := { name := "fnExactBelievedGiven", fn := fun _ => fun
  | [d1, d2, d3] => { results := [.lit (.bool true)], args := [d1, d2, d3] }
  | _ => none }
def fnExactBelievedGivenRow : OpenClaim := { program := "ythjmpamcfmadiaa", sum := "d680ceb1b98b5bf4730d315be53184e3d5a04f9341953d329bf35f1524d70dab", func := "loop.example/weighedevidence/laws.FnExactBelievedGiven", spec := "fnExactBelievedGiven", unfollowed := true, recurses := true, apart := false }
def FnExactBelievedGivenSaid : Prop := fnExactBelievedGivenRow.holds Try.pinned (OpenSpec.ofChange fnExactBelievedGivenSpec)

/-- ITS FALSE NEIGHBOUR: 'it returns false'. Refute it at one input. -/
def fnExactBelievedGivenWrong : ChangeSpec := { name := "fnExactBelievedGiven", fn := fun _ => fun
  | [d1, d2, d3] => { results := [.lit (.bool false)], args := [d1, d2, d3] }
  | _ => none }
def FnExactBelievedGivenWrongFalsely : Prop := fnExactBelievedGivenRow.holds Try.pinned (OpenSpec.ofChange fnExactBelievedGivenWrong)

/- THE SECOND FORM. 'bulk': how many values and letters a reading holds, each counted each time it is reached (what is shared counts as often as it is met; a slice's spare places count too). A statement '..UptoSaid' is the law's where the arguments, and the package variables that the reading takes, are together of bulk at most 1048576: NARROWER than '..Said'. Prove '..Said' where nothing that the law and all that it calls make is longer than what came in: it says more and counts as full. Else prove '..UptoSaid'. A law counts once. -/
mutual
def uptoBulk {H : Type} : DataW H → Nat
  | .lit (.string bytes) => bytes.length + 1
  | .lit _ => 1
  | .nil => 1
  | .ptr d => uptoBulk d + 1
  | .slice elems spare => uptoBulkAll elems + uptoBulkAll spare + 1
  | .agg parts => uptoBulkAll parts + 1
  | .iface _ d => uptoBulk d + 1
  | .map entries => uptoBulkEntries entries + 1
  | .held _ => 1
def uptoBulkAll {H : Type} : List (DataW H) → Nat
  | [] => 0
  | d :: r => uptoBulk d + uptoBulkAll r
def uptoBulkEntries {H : Type} : List (Lit × DataW H) → Nat
  | [] => 0
  | x :: r => uptoBulkEntry x + uptoBulkEntries r
def uptoBulkEntry {H : Type} : Lit × DataW H → Nat
  | (.string bytes, d) => bytes.length + uptoBulk d + 1
  | (_, d) => uptoBulk d + 1
 end
def uptoSmall : (H : Type) → List (DataW H) → Bool := fun _ ds => decide (uptoBulkAll ds ≤ 1048576)
def OpenSpec.upto (s : _root_.Go.ChangeSpec) : _root_.Go.OpenSpec := { _root_.Go.OpenSpec.ofChange s with cond := some uptoSmall }

/-- 'laws.FnExactIsMoved', WHERE WHAT IT READS IS OF BULK AT MOST 1048576: true; the input reads as it did. -/
def fnExactIsMovedUptoRow : OpenClaim := { program := "ythjmpamcfmadiaa", sum := "d680ceb1b98b5bf4730d315be53184e3d5a04f9341953d329bf35f1524d70dab", func := "loop.example/weighedevidence/laws.FnExactIsMoved", spec := "fnExactIsMoved", apart := false, narrowed := true }
def FnExactIsMovedUptoSaid : Prop := fnExactIsMovedUptoRow.holds Try.pinned (OpenSpec.upto fnExactIsMovedSpec)

/-- 'laws.FnExactMoreCommon', WHERE WHAT IT READS IS OF BULK AT MOST 1048576: true; the input reads as it did. -/
def fnExactMoreCommonUptoRow : OpenClaim := { program := "ythjmpamcfmadiaa", sum := "d680ceb1b98b5bf4730d315be53184e3d5a04f9341953d329bf35f1524d70dab", func := "loop.example/weighedevidence/laws.FnExactMoreCommon", spec := "fnExactMoreCommon", unfollowed := true, recurses := true, apart := false, narrowed := true }
def FnExactMoreCommonUptoSaid : Prop := fnExactMoreCommonUptoRow.holds Try.pinned (OpenSpec.upto fnExactMoreCommonSpec)

/-- 'laws.FnExactLeastCommitted', WHERE WHAT IT READS IS OF BULK AT MOST 1048576: true; the input reads as it did. -/
def fnExactLeastCommittedUptoRow : OpenClaim := { program := "ythjmpamcfmadiaa", sum := "d680ceb1b98b5bf4730d315be53184e3d5a04f9341953d329bf35f1524d70dab", func := "loop.example/weighedevidence/laws.FnExactLeastCommitted", spec := "fnExactLeastCommitted", unfollowed := true, recurses := true, apart := false, narrowed := true }
def FnExactLeastCommittedUptoSaid : Prop := fnExactLeastCommittedUptoRow.holds Try.pinned (OpenSpec.upto fnExactLeastCommittedSpec)

/-- 'laws.FnExactDistanceOf', WHERE WHAT IT READS IS OF BULK AT MOST 1048576: true; the input reads as it did. -/
def fnExactDistanceOfUptoRow : OpenClaim := { program := "ythjmpamcfmadiaa", sum := "d680ceb1b98b5bf4730d315be53184e3d5a04f9341953d329bf35f1524d70dab", func := "loop.example/weighedevidence/laws.FnExactDistanceOf", spec := "fnExactDistanceOf", apart := false, narrowed := true }
def FnExactDistanceOfUptoSaid : Prop := fnExactDistanceOfUptoRow.holds Try.pinned (OpenSpec.upto fnExactDistanceOfSpec)

/-- 'laws.FnExactPossibleGiven', WHERE WHAT IT READS IS OF BULK AT MOST 1048576: true; the input reads as it did. -/
def fnExactPossibleGivenUptoRow : OpenClaim := { program := "ythjmpamcfmadiaa", sum := "d680ceb1b98b5bf4730d315be53184e3d5a04f9341953d329bf35f1524d70dab", func := "loop.example/weighedevidence/laws.FnExactPossibleGiven", spec := "fnExactPossibleGiven", unfollowed := true, recurses := true, apart := false, narrowed := true }
def FnExactPossibleGivenUptoSaid : Prop := fnExactPossibleGivenUptoRow.holds Try.pinned (OpenSpec.upto fnExactPossibleGivenSpec)

/-- 'laws.FnExactBelievedGiven', WHERE WHAT IT READS IS OF BULK AT MOST 1048576: true; the input reads as it did. -/
def fnExactBelievedGivenUptoRow : OpenClaim := { program := "ythjmpamcfmadiaa", sum := "d680ceb1b98b5bf4730d315be53184e3d5a04f9341953d329bf35f1524d70dab", func := "loop.example/weighedevidence/laws.FnExactBelievedGiven", spec := "fnExactBelievedGiven", unfollowed := true, recurses := true, apart := false, narrowed := true }
def FnExactBelievedGivenUptoSaid : Prop := fnExactBelievedGivenUptoRow.holds Try.pinned (OpenSpec.upto fnExactBelievedGivenSpec)

end Rows
end Go.Proofs.Ythjmpamcfmadiaa
