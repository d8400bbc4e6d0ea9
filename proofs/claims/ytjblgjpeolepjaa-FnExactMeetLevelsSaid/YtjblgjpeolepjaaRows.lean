/-
  No cell of these rows narrows 'for every input' (looked for: loops, veiled, ifaces, maps, wideKeys, modest, calm, conditions, laid).
  DERIVED. THE GIVEN ROWS OF THIS SEAT. 6 by the template 'for every input the law returns true; each argument reads behind the call as it read before'; 0 by the template 'total and deterministic' (their statements: YtjblgjpeolepjaaTotals.lean).
  GIVEN WITH THE SEED: the statements are not yours to turn. If you find one false, say at which input.
  Laid BY PROGRAM, IN A SANDBOX (cutbox-rows.mjs): the forced cells as the released guide's own fill.sh prints them over the translation f5346288aa491247… (all of the seat's roots in one cut). By AI agents, Wed Nov 11 2026. No macro, syntax, notation, axiom, sorry.
-/
import Derived.Test.YtjblgjpeolepjaaChecked
import GoSem.Claim
import GoSem.ClaimJoined
import GoSem.ClaimMapViews
import Derived.JoinedTies
import Derived.KernelRfl
namespace Go.Proofs.Ytjblgjpeolepjaa
/- THE CELL 'sum', in the pinned program and in every row, IS THE sha256 OF THE DUMP (.gsa) THAT YtjblgjpeolepjaaProg.lean LOADS. Nothing in Lean hashes anything: it is a label: what it is worth is what the hold of that sum in a sandbox is worth. -/
noncomputable def Try.pinned : Pinned := { name := "ytjblgjpeolepjaa", sum := "f5346288aa491247a603461c6a416e40c15f6a983990e129b90d88763bb286a1", checked := Try.checked }
namespace Rows
def none {H : Type} : Left H := { results := [], args := [] }

/-- 'laws.FnExactLevelsValid': WHATEVER THE INPUT: true; the input reads as it did. -/
def fnExactLevelsValidSpec : ChangeSpec := { name := "fnExactLevelsValid", fn := fun _ => fun
  | [d] => { results := [.lit (.bool true)], args := [d] }
  | _ => none }
def fnExactLevelsValidRow : OpenClaim := { program := "ytjblgjpeolepjaa", sum := "f5346288aa491247a603461c6a416e40c15f6a983990e129b90d88763bb286a1", func := "loop.example/weighedevidence/laws.FnExactLevelsValid", spec := "fnExactLevelsValid", apart := false }
def FnExactLevelsValidSaid : Prop := fnExactLevelsValidRow.holds Try.pinned (OpenSpec.ofChange fnExactLevelsValidSpec)

/-- ITS FALSE NEIGHBOUR: 'it returns false'. Refute it at one input. -/
def fnExactLevelsValidWrong : ChangeSpec := { name := "fnExactLevelsValid", fn := fun _ => fun
  | [d] => { results := [.lit (.bool false)], args := [d] }
  | _ => none }
def FnExactLevelsValidWrongFalsely : Prop := fnExactLevelsValidRow.holds Try.pinned (OpenSpec.ofChange fnExactLevelsValidWrong)

/-- 'laws.FnExactCutLevels': WHATEVER THE INPUT: true; the input reads as it did. -/
def fnExactCutLevelsSpec : ChangeSpec := { name := "fnExactCutLevels", fn := fun _ => fun
  | [d1, d2] => { results := [.lit (.bool true)], args := [d1, d2] }
  | _ => none }
def fnExactCutLevelsRow : OpenClaim := { program := "ytjblgjpeolepjaa", sum := "f5346288aa491247a603461c6a416e40c15f6a983990e129b90d88763bb286a1", func := "loop.example/weighedevidence/laws.FnExactCutLevels", spec := "fnExactCutLevels", apart := false }
def FnExactCutLevelsSaid : Prop := fnExactCutLevelsRow.holds Try.pinned (OpenSpec.ofChange fnExactCutLevelsSpec)

/-- ITS FALSE NEIGHBOUR: 'it returns false'. Refute it at one input. -/
def fnExactCutLevelsWrong : ChangeSpec := { name := "fnExactCutLevels", fn := fun _ => fun
  | [d1, d2] => { results := [.lit (.bool false)], args := [d1, d2] }
  | _ => none }
def FnExactCutLevelsWrongFalsely : Prop := fnExactCutLevelsRow.holds Try.pinned (OpenSpec.ofChange fnExactCutLevelsWrong)

/-- 'laws.FnExactPossibleLevel': WHATEVER THE INPUT: true; the input reads as it did. -/
def fnExactPossibleLevelSpec : ChangeSpec := { name := "fnExactPossibleLevel", fn := fun _ => fun
  | [d1, d2] => { results := [.lit (.bool true)], args := [d1, d2] }
  | _ => none }
def fnExactPossibleLevelRow : OpenClaim := { program := "ytjblgjpeolepjaa", sum := "f5346288aa491247a603461c6a416e40c15f6a983990e129b90d88763bb286a1", func := "loop.example/weighedevidence/laws.FnExactPossibleLevel", spec := "fnExactPossibleLevel", apart := false }
def FnExactPossibleLevelSaid : Prop := fnExactPossibleLevelRow.holds Try.pinned (OpenSpec.ofChange fnExactPossibleLevelSpec)

/-- ITS FALSE NEIGHBOUR: 'it returns false'. Refute it at one input. -/
def fnExactPossibleLevelWrong : ChangeSpec := { name := "fnExactPossibleLevel", fn := fun _ => fun
  | [d1, d2] => { results := [.lit (.bool false)], args := [d1, d2] }
  | _ => none }
def FnExactPossibleLevelWrongFalsely : Prop := fnExactPossibleLevelRow.holds Try.pinned (OpenSpec.ofChange fnExactPossibleLevelWrong)

/-- 'laws.FnExactNecessaryLevel': WHATEVER THE INPUT: true; the input reads as it did. -/
def fnExactNecessaryLevelSpec : ChangeSpec := { name := "fnExactNecessaryLevel", fn := fun _ => fun
  | [d1, d2] => { results := [.lit (.bool true)], args := [d1, d2] }
  | _ => none }
def fnExactNecessaryLevelRow : OpenClaim := { program := "ytjblgjpeolepjaa", sum := "f5346288aa491247a603461c6a416e40c15f6a983990e129b90d88763bb286a1", func := "loop.example/weighedevidence/laws.FnExactNecessaryLevel", spec := "fnExactNecessaryLevel", apart := false }
def FnExactNecessaryLevelSaid : Prop := fnExactNecessaryLevelRow.holds Try.pinned (OpenSpec.ofChange fnExactNecessaryLevelSpec)

/-- ITS FALSE NEIGHBOUR: 'it returns false'. Refute it at one input. -/
def fnExactNecessaryLevelWrong : ChangeSpec := { name := "fnExactNecessaryLevel", fn := fun _ => fun
  | [d1, d2] => { results := [.lit (.bool false)], args := [d1, d2] }
  | _ => none }
def FnExactNecessaryLevelWrongFalsely : Prop := fnExactNecessaryLevelRow.holds Try.pinned (OpenSpec.ofChange fnExactNecessaryLevelWrong)

/-- 'laws.FnExactMeetLevels': WHATEVER THE INPUT: true; the input reads as it did. -/
def fnExactMeetLevelsSpec : ChangeSpec := { name := "fnExactMeetLevels", fn := fun _ => fun
  | [d1, d2] => { results := [.lit (.bool true)], args := [d1, d2] }
  | _ => none }
def fnExactMeetLevelsRow : OpenClaim := { program := "ytjblgjpeolepjaa", sum := "f5346288aa491247a603461c6a416e40c15f6a983990e129b90d88763bb286a1", func := "loop.example/weighedevidence/laws.FnExactMeetLevels", spec := "fnExactMeetLevels", apart := false }
def FnExactMeetLevelsSaid : Prop := fnExactMeetLevelsRow.holds Try.pinned (OpenSpec.ofChange fnExactMeetLevelsSpec)

/-- ITS FALSE NEIGHBOUR: 'it returns false'. Refute it at one input. -/
def fnExactMeetLevelsWrong : ChangeSpec := { name := "fnExactMeetLevels", fn := fun _ => fun
  | [d1, d2] => { results := [.lit (.bool false)], args := [d1, d2] }
  | _ => none }
def FnExactMeetLevelsWrongFalsely : Prop := fnExactMeetLevelsRow.holds Try.pinned (OpenSpec.ofChange fnExactMeetLevelsWrong)

/-- 'laws.FnExactMorePossible': WHATEVER THE INPUT: true; the input reads as it did. -/
def fnExactMorePossibleSpec : ChangeSpec := { name := "fnExactMorePossible", fn := fun _ => fun
  | [d1, d2] => { results := [.lit (.bool true)], args := [d1, d2] }
  | _ => none }
def fnExactMorePossibleRow : OpenClaim := { program := "ytjblgjpeolepjaa", sum := "f5346288aa491247a603461c6a416e40c15f6a983990e129b90d88763bb286a1", func := "loop.example/weighedevidence/laws.FnExactMorePossible", spec := "fnExactMorePossible", unfollowed := true, recurses := true, apart := false }
def FnExactMorePossibleSaid : Prop := fnExactMorePossibleRow.holds Try.pinned (OpenSpec.ofChange fnExactMorePossibleSpec)

/-- ITS FALSE NEIGHBOUR: 'it returns false'. Refute it at one input. -/
def fnExactMorePossibleWrong : ChangeSpec := { name := "fnExactMorePossible", fn := fun _ => fun
  | [d1, d2] => { results := [.lit (.bool false)], args := [d1, d2] }
  | _ => none }
def FnExactMorePossibleWrongFalsely : Prop := fnExactMorePossibleRow.holds Try.pinned (OpenSpec.ofChange fnExactMorePossibleWrong)

/- THE SECOND FORM. 'bulk': how many values and letters a reading holds, each counted each time it is reached (what is shared counts as often as it is met; a slice's spare places count too). A statement '..UptoSaid' is the law's where the arguments, and the package variables that the reading takes, are together of bulk at most 1048576: NARROWER than '..Said'. Prove '..Said' where nothing that the law and all that it calls make is longer than what came in: it says more and counts as full. Else prove '..UptoSaid'. A law counts once. -/
mutual
def uptoBulk {H : Type} : DataW H → Nat
  | .lit (.string bytes) => bytes.length + 1
  | .lit _ => 1
  | .nil => 1
  | .ptr d => uptoBulk d + 1
  | .slice elems spare => uptoBulkAll elems + uptoBulkAll spare + 1
  | .agg parts => uptoBulkAll parts + 1
  | .iface _ d => uptoBulk d + 1
  | .map entries => uptoBulkEntries entries + 1
  | .held _ => 1
def uptoBulkAll {H : Type} : List (DataW H) → Nat
  | [] => 0
  | d :: r => uptoBulk d + uptoBulkAll r
def uptoBulkEntries {H : Type} : List (Lit × DataW H) → Nat
  | [] => 0
  | x :: r => uptoBulkEntry x + uptoBulkEntries r
def uptoBulkEntry {H : Type} : Lit × DataW H → Nat
  | (.string bytes, d) => bytes.length + uptoBulk d + 1
  | (_, d) => uptoBulk d + 1
 end
def uptoSmall : (H : Type) → List (DataW H) → Bool := fun _ ds => decide (uptoBulkAll ds ≤ 1048576)
def OpenSpec.upto (s : _root_.Go.ChangeSpec) : _root_.Go.OpenSpec := { _root_.Go.OpenSpec.ofChange s with cond := some uptoSmall }

/-- 'laws.FnExactLevelsValid', WHERE WHAT IT READS IS OF BULK AT MOST 1048576: true; the input reads as it did. -/
def fnExactLevelsValidUptoRow : OpenClaim := { program := "ytjblgjpeolepjaa", sum := "f5346288aa491247a603461c6a416e40c15f6a983990e129b90d88763bb286a1", func := "loop.example/weighedevidence/laws.FnExactLevelsValid", spec := "fnExactLevelsValid", apart := false, narrowed := true }
def FnExactLevelsValidUptoSaid : Prop := fnExactLevelsValidUptoRow.holds Try.pinned (OpenSpec.upto fnExactLevelsValidSpec)

/-- 'laws.FnExactCutLevels', WHERE WHAT IT READS IS OF BULK AT MOST 1048576: true; the input reads as it did. -/
def fnExactCutLevelsUptoRow : OpenClaim := { program := "ytjblgjpeolepjaa", sum := "f5346288aa491247a603461c6a416e40c15f6a983990e129b90d88763bb286a1", func := "loop.example/weighedevidence/laws.FnExactCutLevels", spec := "fnExactCutLevels", apart := false, narrowed := true }
def FnExactCutLevelsUptoSaid : Prop := fnExactCutLevelsUptoRow.holds Try.pinned (OpenSpec.upto fnExactCutLevelsSpec)

/-- 'laws.FnExactPossibleLevel', WHERE WHAT IT READS IS OF BULK AT MOST 1048576: true; the input reads as it did. -/
def fnExactPossibleLevelUptoRow : OpenClaim := { program := "ytjblgjpeolepjaa", sum := "f5346288aa491247a603461c6a416e40c15f6a983990e129b90d88763bb286a1", func := "loop.example/weighedevidence/laws.FnExactPossibleLevel", spec := "fnExactPossibleLevel", apart := false, narrowed := true }
def FnExactPossibleLevelUptoSaid : Prop := fnExactPossibleLevelUptoRow.holds Try.pinned (OpenSpec.upto fnExactPossibleLevelSpec)

/-- 'laws.FnExactNecessaryLevel', WHERE WHAT IT READS IS OF BULK AT MOST 1048576: true; the input reads as it did. -/
def fnExactNecessaryLevelUptoRow : OpenClaim := { program := "ytjblgjpeolepjaa", sum := "f5346288aa491247a603461c6a416e40c15f6a983990e129b90d88763bb286a1", func := "loop.example/weighedevidence/laws.FnExactNecessaryLevel", spec := "fnExactNecessaryLevel", apart := false, narrowed := true }
def FnExactNecessaryLevelUptoSaid : Prop := fnExactNecessaryLevelUptoRow.holds Try.pinned (OpenSpec.upto fnExactNecessaryLevelSpec)

/-- 'laws.FnExactMeetLevels', WHERE WHAT IT READS IS OF BULK AT MOST 1048576: true; the input reads as it did. -/
def fnExactMeetLevelsUptoRow : OpenClaim := { program := "ytjblgjpeolepjaa", sum := "f5346288aa491247a603461c6a416e40c15f6a983990e129b90d88763bb286a1", func := "loop.example/weighedevidence/laws.FnExactMeetLevels", spec := "fnExactMeetLevels", apart := false, narrowed := true }
def FnExactMeetLevelsUptoSaid : Prop := fnExactMeetLevelsUptoRow.holds Try.pinned (OpenSpec.upto fnExactMeetLevelsSpec)

/-- 'laws.FnExactMorePossible', WHERE WHAT IT READS IS OF BULK AT MOST 1048576: true; the input reads as it did. -/
def fnExactMorePossibleUptoRow : OpenClaim := { program := "ytjblgjpeolepjaa", sum := "f5346288aa491247a603461c6a416e40c15f6a983990e129b90d88763bb286a1", func := "loop.example/weighedevidence/laws.FnExactMorePossible", spec := "fnExactMorePossible", unfollowed := true, recurses := true, apart := false, narrowed := true }
def FnExactMorePossibleUptoSaid : Prop := fnExactMorePossibleUptoRow.holds Try.pinned (OpenSpec.upto fnExactMorePossibleSpec)

end Rows
end Go.Proofs.Ytjblgjpeolepjaa
