/-
  No cell of these rows narrows 'for every input' (looked for: loops, veiled, ifaces, maps, wideKeys, modest, calm, conditions, laid).
  DERIVED. THE GIVEN ROWS OF THIS SEAT. 7 by the template 'for every input the law returns true; each argument reads behind the call as it read before'; 0 by the template 'total and deterministic' (their statements: YtmbipmdflbddbaaTotals.lean).
  GIVEN WITH THE SEED: the statements are not yours to turn. If you find one false, say at which input.
  Laid BY PROGRAM, IN A SANDBOX (cutbox-rows.mjs): the forced cells as the released guide's own fill.sh prints them over the translation 87f3e945a9622e20… (all of the seat's roots in one cut). By AI agents, Wed Nov 11 2026. No macro, syntax, notation, axiom, sorry.
-/
import Derived.Test.YtmbipmdflbddbaaChecked
import GoSem.Claim
import GoSem.ClaimJoined
import GoSem.ClaimMapViews
import Derived.JoinedTies
import Derived.KernelRfl
namespace Go.Proofs.Ytmbipmdflbddbaa
/- THE CELL 'sum', in the pinned program and in every row, IS THE sha256 OF THE DUMP (.gsa) THAT YtmbipmdflbddbaaProg.lean LOADS. Nothing in Lean hashes anything: it is a label: what it is worth is what the hold of that sum in a sandbox is worth. -/
noncomputable def Try.pinned : Pinned := { name := "ytmbipmdflbddbaa", sum := "87f3e945a9622e204510527ee71b4ab52a8656d1b0527dcc6588249d093a71d8", checked := Try.checked }
namespace Rows
def none {H : Type} : Left H := { results := [], args := [] }

/-- 'laws.FnExactMassOfLevels': WHATEVER THE INPUT: true; the input reads as it did. -/
def fnExactMassOfLevelsSpec : ChangeSpec := { name := "fnExactMassOfLevels", fn := fun _ => fun
  | [d] => { results := [.lit (.bool true)], args := [d] }
  | _ => none }
def fnExactMassOfLevelsRow : OpenClaim := { program := "ytmbipmdflbddbaa", sum := "87f3e945a9622e204510527ee71b4ab52a8656d1b0527dcc6588249d093a71d8", func := "loop.example/weighedevidence/laws.FnExactMassOfLevels", spec := "fnExactMassOfLevels", recurses := true, apart := false }
def FnExactMassOfLevelsSaid : Prop := fnExactMassOfLevelsRow.holds Try.pinned (OpenSpec.ofChange fnExactMassOfLevelsSpec)

/-- ITS FALSE NEIGHBOUR: 'it returns false'. Refute it at one input. -/
def fnExactMassOfLevelsWrong : ChangeSpec := { name := "fnExactMassOfLevels", fn := fun _ => fun
  | [d] => { results := [.lit (.bool false)], args := [d] }
  | _ => none }
def FnExactMassOfLevelsWrongFalsely : Prop := fnExactMassOfLevelsRow.holds Try.pinned (OpenSpec.ofChange fnExactMassOfLevelsWrong)

/-- 'laws.FnOuterLevels': WHATEVER THE INPUT: true; the input reads as it did. -/
def fnOuterLevelsSpec : ChangeSpec := { name := "fnOuterLevels", fn := fun _ => fun
  | [d] => { results := [.lit (.bool true)], args := [d] }
  | _ => none }
def fnOuterLevelsRow : OpenClaim := { program := "ytmbipmdflbddbaa", sum := "87f3e945a9622e204510527ee71b4ab52a8656d1b0527dcc6588249d093a71d8", func := "loop.example/weighedevidence/laws.FnOuterLevels", spec := "fnOuterLevels", unfollowed := true, recurses := true, apart := false }
def FnOuterLevelsSaid : Prop := fnOuterLevelsRow.holds Try.pinned (OpenSpec.ofChange fnOuterLevelsSpec)

/-- ITS FALSE NEIGHBOUR: 'it returns false'. Refute it at one input. -/
def fnOuterLevelsWrong : ChangeSpec := { name := "fnOuterLevels", fn := fun _ => fun
  | [d] => { results := [.lit (.bool false)], args := [d] }
  | _ => none }
def FnOuterLevelsWrongFalsely : Prop := fnOuterLevelsRow.holds Try.pinned (OpenSpec.ofChange fnOuterLevelsWrong)

/-- 'laws.FnLevelsOfChance': WHATEVER THE INPUT: true; the input reads as it did. -/
def fnLevelsOfChanceSpec : ChangeSpec := { name := "fnLevelsOfChance", fn := fun _ => fun
  | [d] => { results := [.lit (.bool true)], args := [d] }
  | _ => none }
def fnLevelsOfChanceRow : OpenClaim := { program := "ytmbipmdflbddbaa", sum := "87f3e945a9622e204510527ee71b4ab52a8656d1b0527dcc6588249d093a71d8", func := "loop.example/weighedevidence/laws.FnLevelsOfChance", spec := "fnLevelsOfChance", unfollowed := true, recurses := true, apart := false }
def FnLevelsOfChanceSaid : Prop := fnLevelsOfChanceRow.holds Try.pinned (OpenSpec.ofChange fnLevelsOfChanceSpec)

/-- ITS FALSE NEIGHBOUR: 'it returns false'. Refute it at one input. -/
def fnLevelsOfChanceWrong : ChangeSpec := { name := "fnLevelsOfChance", fn := fun _ => fun
  | [d] => { results := [.lit (.bool false)], args := [d] }
  | _ => none }
def FnLevelsOfChanceWrongFalsely : Prop := fnLevelsOfChanceRow.holds Try.pinned (OpenSpec.ofChange fnLevelsOfChanceWrong)

/-- 'laws.FnLevelsOf': WHATEVER THE INPUT: true; the input reads as it did. -/
def fnLevelsOfSpec : ChangeSpec := { name := "fnLevelsOf", fn := fun _ => fun
  | [d] => { results := [.lit (.bool true)], args := [d] }
  | _ => none }
def fnLevelsOfRow : OpenClaim := { program := "ytmbipmdflbddbaa", sum := "87f3e945a9622e204510527ee71b4ab52a8656d1b0527dcc6588249d093a71d8", func := "loop.example/weighedevidence/laws.FnLevelsOf", spec := "fnLevelsOf", unfollowed := true, recurses := true, apart := false }
def FnLevelsOfSaid : Prop := fnLevelsOfRow.holds Try.pinned (OpenSpec.ofChange fnLevelsOfSpec)

/-- ITS FALSE NEIGHBOUR: 'it returns false'. Refute it at one input. -/
def fnLevelsOfWrong : ChangeSpec := { name := "fnLevelsOf", fn := fun _ => fun
  | [d] => { results := [.lit (.bool false)], args := [d] }
  | _ => none }
def FnLevelsOfWrongFalsely : Prop := fnLevelsOfRow.holds Try.pinned (OpenSpec.ofChange fnLevelsOfWrong)

/-- 'laws.FnCutLevels': WHATEVER THE INPUT: true; the input reads as it did. -/
def fnCutLevelsSpec : ChangeSpec := { name := "fnCutLevels", fn := fun _ => fun
  | [d] => { results := [.lit (.bool true)], args := [d] }
  | _ => none }
def fnCutLevelsRow : OpenClaim := { program := "ytmbipmdflbddbaa", sum := "87f3e945a9622e204510527ee71b4ab52a8656d1b0527dcc6588249d093a71d8", func := "loop.example/weighedevidence/laws.FnCutLevels", spec := "fnCutLevels", recurses := true, apart := false }
def FnCutLevelsSaid : Prop := fnCutLevelsRow.holds Try.pinned (OpenSpec.ofChange fnCutLevelsSpec)

/-- ITS FALSE NEIGHBOUR: 'it returns false'. Refute it at one input. -/
def fnCutLevelsWrong : ChangeSpec := { name := "fnCutLevels", fn := fun _ => fun
  | [d] => { results := [.lit (.bool false)], args := [d] }
  | _ => none }
def FnCutLevelsWrongFalsely : Prop := fnCutLevelsRow.holds Try.pinned (OpenSpec.ofChange fnCutLevelsWrong)

/-- 'laws.FnPossibleLevel': WHATEVER THE INPUT: true; the input reads as it did. -/
def fnPossibleLevelSpec : ChangeSpec := { name := "fnPossibleLevel", fn := fun _ => fun
  | [d] => { results := [.lit (.bool true)], args := [d] }
  | _ => none }
def fnPossibleLevelRow : OpenClaim := { program := "ytmbipmdflbddbaa", sum := "87f3e945a9622e204510527ee71b4ab52a8656d1b0527dcc6588249d093a71d8", func := "loop.example/weighedevidence/laws.FnPossibleLevel", spec := "fnPossibleLevel", unfollowed := true, recurses := true, apart := false }
def FnPossibleLevelSaid : Prop := fnPossibleLevelRow.holds Try.pinned (OpenSpec.ofChange fnPossibleLevelSpec)

/-- ITS FALSE NEIGHBOUR: 'it returns false'. Refute it at one input. -/
def fnPossibleLevelWrong : ChangeSpec := { name := "fnPossibleLevel", fn := fun _ => fun
  | [d] => { results := [.lit (.bool false)], args := [d] }
  | _ => none }
def FnPossibleLevelWrongFalsely : Prop := fnPossibleLevelRow.holds Try.pinned (OpenSpec.ofChange fnPossibleLevelWrong)

/-- 'laws.FnMassOfLevels': WHATEVER THE INPUT: true; the input reads as it did. -/
def fnMassOfLevelsSpec : ChangeSpec := { name := "fnMassOfLevels", fn := fun _ => fun
  | [d] => { results := [.lit (.bool true)], args := [d] }
  | _ => none }
def fnMassOfLevelsRow : OpenClaim := { program := "ytmbipmdflbddbaa", sum := "87f3e945a9622e204510527ee71b4ab52a8656d1b0527dcc6588249d093a71d8", func := "loop.example/weighedevidence/laws.FnMassOfLevels", spec := "fnMassOfLevels", unfollowed := true, recurses := true, apart := false }
def FnMassOfLevelsSaid : Prop := fnMassOfLevelsRow.holds Try.pinned (OpenSpec.ofChange fnMassOfLevelsSpec)

/-- ITS FALSE NEIGHBOUR: 'it returns false'. Refute it at one input. -/
def fnMassOfLevelsWrong : ChangeSpec := { name := "fnMassOfLevels", fn := fun _ => fun
  | [d] => { results := [.lit (.bool false)], args := [d] }
  | _ => none }
def FnMassOfLevelsWrongFalsely : Prop := fnMassOfLevelsRow.holds Try.pinned (OpenSpec.ofChange fnMassOfLevelsWrong)

/- THE SECOND FORM. 'bulk': how many values and letters a reading holds, each counted each time it is reached (what is shared counts as often as it is met; a slice's spare places count too). A statement '..UptoSaid' is the law's where the arguments, and the package variables that the reading takes, are together of bulk at most 1048576: NARROWER than '..Said'. Prove '..Said' where nothing that the law and all that it calls make is longer than what came in: it says more and counts as full. Else prove '..UptoSaid'. A law counts once. -/
mutual
def uptoBulk {H : Type} : DataW H → Nat
  | .lit (.string bytes) => bytes.length + 1
  | .lit _ => 1
  | .nil => 1
  | .ptr d => uptoBulk d + 1
  | .slice elems spare => uptoBulkAll elems + uptoBulkAll spare + 1
  | .agg parts => uptoBulkAll parts + 1
  | .iface _ d => uptoBulk d + 1
  | .map entries => uptoBulkEntries entries + 1
  | .held _ => 1
def uptoBulkAll {H : Type} : List (DataW H) → Nat
  | [] => 0
  | d :: r => uptoBulk d + uptoBulkAll r
def uptoBulkEntries {H : Type} : List (Lit × DataW H) → Nat
  | [] => 0
  | x :: r => uptoBulkEntry x + uptoBulkEntries r
def uptoBulkEntry {H : Type} : Lit × DataW H → Nat
  | (.string bytes, d) => bytes.length + uptoBulk d + 1
  | (_, d) => uptoBulk d + 1
 end
def uptoSmall : (H : Type) → List (DataW H) → Bool := fun _ ds => decide (uptoBulkAll ds ≤ 1048576)
def OpenSpec.upto (s : _root_.Go.ChangeSpec) : _root_.Go.OpenSpec := { _root_.Go.OpenSpec.ofChange s with cond := some uptoSmall }

/-- 'laws.FnExactMassOfLevels', WHERE WHAT IT READS IS OF BULK AT MOST 1048576: true; the input reads as it did. -/
def fnExactMassOfLevelsUptoRow : OpenClaim := { program := "ytmbipmdflbddbaa", sum := "87f3e945a9622e204510527ee71b4ab52a8656d1b0527dcc6588249d093a71d8", func := "loop.example/weighedevidence/laws.FnExactMassOfLevels", spec := "fnExactMassOfLevels", recurses := true, apart := false, narrowed := true }
def FnExactMassOfLevelsUptoSaid : Prop := fnExactMassOfLevelsUptoRow.holds Try.pinned (OpenSpec.upto fnExactMassOfLevelsSpec)

/-- 'laws.FnOuterLevels', WHERE WHAT IT READS IS OF BULK AT MOST 1048576: true; the input reads as it did. -/
def fnOuterLevelsUptoRow : OpenClaim := { program := "ytmbipmdflbddbaa", sum := "87f3e945a9622e204510527ee71b4ab52a8656d1b0527dcc6588249d093a71d8", func := "loop.example/weighedevidence/laws.FnOuterLevels", spec := "fnOuterLevels", unfollowed := true, recurses := true, apart := false, narrowed := true }
def FnOuterLevelsUptoSaid : Prop := fnOuterLevelsUptoRow.holds Try.pinned (OpenSpec.upto fnOuterLevelsSpec)

/-- 'laws.FnLevelsOfChance', WHERE WHAT IT READS IS OF BULK AT MOST 1048576: true; the input reads as it did. -/
def fnLevelsOfChanceUptoRow : OpenClaim := { program := "ytmbipmdflbddbaa", sum := "87f3e945a9622e204510527ee71b4ab52a8656d1b0527dcc6588249d093a71d8", func := "loop.example/weighedevidence/laws.FnLevelsOfChance", spec := "fnLevelsOfChance", unfollowed := true, recurses := true, apart := false, narrowed := true }
def FnLevelsOfChanceUptoSaid : Prop := fnLevelsOfChanceUptoRow.holds Try.pinned (OpenSpec.upto fnLevelsOfChanceSpec)

/-- 'laws.FnLevelsOf', WHERE WHAT IT READS IS OF BULK AT MOST 1048576: true; the input reads as it did. -/
def fnLevelsOfUptoRow : OpenClaim := { program := "ytmbipmdflbddbaa", sum := "87f3e945a9622e204510527ee71b4ab52a8656d1b0527dcc6588249d093a71d8", func := "loop.example/weighedevidence/laws.FnLevelsOf", spec := "fnLevelsOf", unfollowed := true, recurses := true, apart := false, narrowed := true }
def FnLevelsOfUptoSaid : Prop := fnLevelsOfUptoRow.holds Try.pinned (OpenSpec.upto fnLevelsOfSpec)

/-- 'laws.FnCutLevels', WHERE WHAT IT READS IS OF BULK AT MOST 1048576: true; the input reads as it did. -/
def fnCutLevelsUptoRow : OpenClaim := { program := "ytmbipmdflbddbaa", sum := "87f3e945a9622e204510527ee71b4ab52a8656d1b0527dcc6588249d093a71d8", func := "loop.example/weighedevidence/laws.FnCutLevels", spec := "fnCutLevels", recurses := true, apart := false, narrowed := true }
def FnCutLevelsUptoSaid : Prop := fnCutLevelsUptoRow.holds Try.pinned (OpenSpec.upto fnCutLevelsSpec)

/-- 'laws.FnPossibleLevel', WHERE WHAT IT READS IS OF BULK AT MOST 1048576: true; the input reads as it did. -/
def fnPossibleLevelUptoRow : OpenClaim := { program := "ytmbipmdflbddbaa", sum := "87f3e945a9622e204510527ee71b4ab52a8656d1b0527dcc6588249d093a71d8", func := "loop.example/weighedevidence/laws.FnPossibleLevel", spec := "fnPossibleLevel", unfollowed := true, recurses := true, apart := false, narrowed := true }
def FnPossibleLevelUptoSaid : Prop := fnPossibleLevelUptoRow.holds Try.pinned (OpenSpec.upto fnPossibleLevelSpec)

/-- 'laws.FnMassOfLevels', WHERE WHAT IT READS IS OF BULK AT MOST 1048576: true; the input reads as it did. -/
def fnMassOfLevelsUptoRow : OpenClaim := { program := "ytmbipmdflbddbaa", sum := "87f3e945a9622e204510527ee71b4ab52a8656d1b0527dcc6588249d093a71d8", func := "loop.example/weighedevidence/laws.FnMassOfLevels", spec := "fnMassOfLevels", unfollowed := true, recurses := true, apart := false, narrowed := true }
def FnMassOfLevelsUptoSaid : Prop := fnMassOfLevelsUptoRow.holds Try.pinned (OpenSpec.upto fnMassOfLevelsSpec)

end Rows
end Go.Proofs.Ytmbipmdflbddbaa
