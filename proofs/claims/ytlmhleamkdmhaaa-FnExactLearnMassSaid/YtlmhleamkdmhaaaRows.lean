/-
  No cell of these rows narrows 'for every input' (looked for: loops, veiled, ifaces, maps, wideKeys, modest, calm, conditions, laid).
  DERIVED. THE GIVEN ROWS OF THIS SEAT. 6 by the template 'for every input the law returns true; each argument reads behind the call as it read before'; 0 by the template 'total and deterministic' (their statements: YtlmhleamkdmhaaaTotals.lean).
  GIVEN WITH THE SEED: the statements are not yours to turn. If you find one false, say at which input.
  Laid BY PROGRAM, IN A SANDBOX (cutbox-rows.mjs): the forced cells as the released guide's own fill.sh prints them over the translation b8ec0f10bc0d9015… (all of the seat's roots in one cut). By AI agents, Wed Nov 11 2026. No macro, syntax, notation, axiom, sorry.
-/
import Derived.Test.YtlmhleamkdmhaaaChecked
import GoSem.Claim
import GoSem.ClaimJoined
import GoSem.ClaimMapViews
import Derived.JoinedTies
import Derived.KernelRfl
namespace Go.Proofs.Ytlmhleamkdmhaaa
/- THE CELL 'sum', in the pinned program and in every row, IS THE sha256 OF THE DUMP (.gsa) THAT YtlmhleamkdmhaaaProg.lean LOADS. Nothing in Lean hashes anything: it is a label: what it is worth is what the hold of that sum in a sandbox is worth. -/
noncomputable def Try.pinned : Pinned := { name := "ytlmhleamkdmhaaa", sum := "b8ec0f10bc0d9015d18fcca5266d26e20d43c02ed37ea6efb858674eab106ba9", checked := Try.checked }
namespace Rows
def none {H : Type} : Left H := { results := [], args := [] }

/-- 'laws.FnExactFocusMass': WHATEVER THE INPUT: true; the input reads as it did. -/
def fnExactFocusMassSpec : ChangeSpec := { name := "fnExactFocusMass", fn := fun _ => fun
  | [d1, d2] => { results := [.lit (.bool true)], args := [d1, d2] }
  | _ => none }
def fnExactFocusMassRow : OpenClaim := { program := "ytlmhleamkdmhaaa", sum := "b8ec0f10bc0d9015d18fcca5266d26e20d43c02ed37ea6efb858674eab106ba9", func := "loop.example/weighedevidence/laws.FnExactFocusMass", spec := "fnExactFocusMass", apart := false }
def FnExactFocusMassSaid : Prop := fnExactFocusMassRow.holds Try.pinned (OpenSpec.ofChange fnExactFocusMassSpec)

/-- ITS FALSE NEIGHBOUR: 'it returns false'. Refute it at one input. -/
def fnExactFocusMassWrong : ChangeSpec := { name := "fnExactFocusMass", fn := fun _ => fun
  | [d1, d2] => { results := [.lit (.bool false)], args := [d1, d2] }
  | _ => none }
def FnExactFocusMassWrongFalsely : Prop := fnExactFocusMassRow.holds Try.pinned (OpenSpec.ofChange fnExactFocusMassWrong)

/-- 'laws.FnExactAllowsChance': WHATEVER THE INPUT: true; the input reads as it did. -/
def fnExactAllowsChanceSpec : ChangeSpec := { name := "fnExactAllowsChance", fn := fun _ => fun
  | [d1, d2] => { results := [.lit (.bool true)], args := [d1, d2] }
  | _ => none }
def fnExactAllowsChanceRow : OpenClaim := { program := "ytlmhleamkdmhaaa", sum := "b8ec0f10bc0d9015d18fcca5266d26e20d43c02ed37ea6efb858674eab106ba9", func := "loop.example/weighedevidence/laws.FnExactAllowsChance", spec := "fnExactAllowsChance", unfollowed := true, recurses := true, apart := false }
def FnExactAllowsChanceSaid : Prop := fnExactAllowsChanceRow.holds Try.pinned (OpenSpec.ofChange fnExactAllowsChanceSpec)

/-- ITS FALSE NEIGHBOUR: 'it returns false'. Refute it at one input. -/
def fnExactAllowsChanceWrong : ChangeSpec := { name := "fnExactAllowsChance", fn := fun _ => fun
  | [d1, d2] => { results := [.lit (.bool false)], args := [d1, d2] }
  | _ => none }
def FnExactAllowsChanceWrongFalsely : Prop := fnExactAllowsChanceRow.holds Try.pinned (OpenSpec.ofChange fnExactAllowsChanceWrong)

/-- 'laws.FnExactCutMass': WHATEVER THE INPUT: true; the input reads as it did. -/
def fnExactCutMassSpec : ChangeSpec := { name := "fnExactCutMass", fn := fun _ => fun
  | [d1, d2] => { results := [.lit (.bool true)], args := [d1, d2] }
  | _ => none }
def fnExactCutMassRow : OpenClaim := { program := "ytlmhleamkdmhaaa", sum := "b8ec0f10bc0d9015d18fcca5266d26e20d43c02ed37ea6efb858674eab106ba9", func := "loop.example/weighedevidence/laws.FnExactCutMass", spec := "fnExactCutMass", unfollowed := true, recurses := true, apart := false }
def FnExactCutMassSaid : Prop := fnExactCutMassRow.holds Try.pinned (OpenSpec.ofChange fnExactCutMassSpec)

/-- ITS FALSE NEIGHBOUR: 'it returns false'. Refute it at one input. -/
def fnExactCutMassWrong : ChangeSpec := { name := "fnExactCutMass", fn := fun _ => fun
  | [d1, d2] => { results := [.lit (.bool false)], args := [d1, d2] }
  | _ => none }
def FnExactCutMassWrongFalsely : Prop := fnExactCutMassRow.holds Try.pinned (OpenSpec.ofChange fnExactCutMassWrong)

/-- 'laws.FnExactLowestGiven': WHATEVER THE INPUT: true; the input reads as it did. -/
def fnExactLowestGivenSpec : ChangeSpec := { name := "fnExactLowestGiven", fn := fun _ => fun
  | [d1, d2, d3] => { results := [.lit (.bool true)], args := [d1, d2, d3] }
  | _ => none }
def fnExactLowestGivenRow : OpenClaim := { program := "ytlmhleamkdmhaaa", sum := "b8ec0f10bc0d9015d18fcca5266d26e20d43c02ed37ea6efb858674eab106ba9", func := "loop.example/weighedevidence/laws.FnExactLowestGiven", spec := "fnExactLowestGiven", unfollowed := true, recurses := true, apart := false }
def FnExactLowestGivenSaid : Prop := fnExactLowestGivenRow.holds Try.pinned (OpenSpec.ofChange fnExactLowestGivenSpec)

/-- ITS FALSE NEIGHBOUR: 'it returns false'. Refute it at one input. -/
def fnExactLowestGivenWrong : ChangeSpec := { name := "fnExactLowestGiven", fn := fun _ => fun
  | [d1, d2, d3] => { results := [.lit (.bool false)], args := [d1, d2, d3] }
  | _ => none }
def FnExactLowestGivenWrongFalsely : Prop := fnExactLowestGivenRow.holds Try.pinned (OpenSpec.ofChange fnExactLowestGivenWrong)

/-- 'laws.FnExactLearnMass': WHATEVER THE INPUT: true; the input reads as it did. -/
def fnExactLearnMassSpec : ChangeSpec := { name := "fnExactLearnMass", fn := fun _ => fun
  | [d1, d2] => { results := [.lit (.bool true)], args := [d1, d2] }
  | _ => none }
def fnExactLearnMassRow : OpenClaim := { program := "ytlmhleamkdmhaaa", sum := "b8ec0f10bc0d9015d18fcca5266d26e20d43c02ed37ea6efb858674eab106ba9", func := "loop.example/weighedevidence/laws.FnExactLearnMass", spec := "fnExactLearnMass", unfollowed := true, recurses := true, apart := false }
def FnExactLearnMassSaid : Prop := fnExactLearnMassRow.holds Try.pinned (OpenSpec.ofChange fnExactLearnMassSpec)

/-- ITS FALSE NEIGHBOUR: 'it returns false'. Refute it at one input. -/
def fnExactLearnMassWrong : ChangeSpec := { name := "fnExactLearnMass", fn := fun _ => fun
  | [d1, d2] => { results := [.lit (.bool false)], args := [d1, d2] }
  | _ => none }
def FnExactLearnMassWrongFalsely : Prop := fnExactLearnMassRow.holds Try.pinned (OpenSpec.ofChange fnExactLearnMassWrong)

/-- 'laws.FnExactSharedChance': WHATEVER THE INPUT: true; the input reads as it did. -/
def fnExactSharedChanceSpec : ChangeSpec := { name := "fnExactSharedChance", fn := fun _ => fun
  | [d] => { results := [.lit (.bool true)], args := [d] }
  | _ => none }
def fnExactSharedChanceRow : OpenClaim := { program := "ytlmhleamkdmhaaa", sum := "b8ec0f10bc0d9015d18fcca5266d26e20d43c02ed37ea6efb858674eab106ba9", func := "loop.example/weighedevidence/laws.FnExactSharedChance", spec := "fnExactSharedChance", apart := false }
def FnExactSharedChanceSaid : Prop := fnExactSharedChanceRow.holds Try.pinned (OpenSpec.ofChange fnExactSharedChanceSpec)

/-- ITS FALSE NEIGHBOUR: 'it returns false'. Refute it at one input. -/
def fnExactSharedChanceWrong : ChangeSpec := { name := "fnExactSharedChance", fn := fun _ => fun
  | [d] => { results := [.lit (.bool false)], args := [d] }
  | _ => none }
def FnExactSharedChanceWrongFalsely : Prop := fnExactSharedChanceRow.holds Try.pinned (OpenSpec.ofChange fnExactSharedChanceWrong)

/- THE SECOND FORM. 'bulk': how many values and letters a reading holds, each counted each time it is reached (what is shared counts as often as it is met; a slice's spare places count too). A statement '..UptoSaid' is the law's where the arguments, and the package variables that the reading takes, are together of bulk at most 1048576: NARROWER than '..Said'. Prove '..Said' where nothing that the law and all that it calls make is longer than what came in: it says more and counts as full. Else prove '..UptoSaid'. A law counts once. -/
mutual
def uptoBulk {H : Type} : DataW H → Nat
  | .lit (.string bytes) => bytes.length + 1
  | .lit _ => 1
  | .nil => 1
  | .ptr d => uptoBulk d + 1
  | .slice elems spare => uptoBulkAll elems + uptoBulkAll spare + 1
  | .agg parts => uptoBulkAll parts + 1
  | .iface _ d => uptoBulk d + 1
  | .map entries => uptoBulkEntries entries + 1
  | .held _ => 1
def uptoBulkAll {H : Type} : List (DataW H) → Nat
  | [] => 0
  | d :: r => uptoBulk d + uptoBulkAll r
def uptoBulkEntries {H : Type} : List (Lit × DataW H) → Nat
  | [] => 0
  | x :: r => uptoBulkEntry x + uptoBulkEntries r
def uptoBulkEntry {H : Type} : Lit × DataW H → Nat
  | (.string bytes, d) => bytes.length + uptoBulk d + 1
  | (_, d) => uptoBulk d + 1
 end
def uptoSmall : (H : Type) → List (DataW H) → Bool := fun _ ds => decide (uptoBulkAll ds ≤ 1048576)
def OpenSpec.upto (s : _root_.Go.ChangeSpec) : _root_.Go.OpenSpec := { _root_.Go.OpenSpec.ofChange s with cond := some uptoSmall }

/-- 'laws.FnExactFocusMass', WHERE WHAT IT READS IS OF BULK AT MOST 1048576: true; the input reads as it did. -/
def fnExactFocusMassUptoRow : OpenClaim := { program := "ytlmhleamkdmhaaa", sum := "b8ec0f10bc0d9015d18fcca5266d26e20d43c02ed37ea6efb858674eab106ba9", func := "loop.example/weighedevidence/laws.FnExactFocusMass", spec := "fnExactFocusMass", apart := false, narrowed := true }
def FnExactFocusMassUptoSaid : Prop := fnExactFocusMassUptoRow.holds Try.pinned (OpenSpec.upto fnExactFocusMassSpec)

/-- 'laws.FnExactAllowsChance', WHERE WHAT IT READS IS OF BULK AT MOST 1048576: true; the input reads as it did. -/
def fnExactAllowsChanceUptoRow : OpenClaim := { program := "ytlmhleamkdmhaaa", sum := "b8ec0f10bc0d9015d18fcca5266d26e20d43c02ed37ea6efb858674eab106ba9", func := "loop.example/weighedevidence/laws.FnExactAllowsChance", spec := "fnExactAllowsChance", unfollowed := true, recurses := true, apart := false, narrowed := true }
def FnExactAllowsChanceUptoSaid : Prop := fnExactAllowsChanceUptoRow.holds Try.pinned (OpenSpec.upto fnExactAllowsChanceSpec)

/-- 'laws.FnExactCutMass', WHERE WHAT IT READS IS OF BULK AT MOST 1048576: true; the input reads as it did. -/
def fnExactCutMassUptoRow : OpenClaim := { program := "ytlmhleamkdmhaaa", sum := "b8ec0f10bc0d9015d18fcca5266d26e20d43c02ed37ea6efb858674eab106ba9", func := "loop.example/weighedevidence/laws.FnExactCutMass", spec := "fnExactCutMass", unfollowed := true, recurses := true, apart := false, narrowed := true }
def FnExactCutMassUptoSaid : Prop := fnExactCutMassUptoRow.holds Try.pinned (OpenSpec.upto fnExactCutMassSpec)

/-- 'laws.FnExactLowestGiven', WHERE WHAT IT READS IS OF BULK AT MOST 1048576: true; the input reads as it did. -/
def fnExactLowestGivenUptoRow : OpenClaim := { program := "ytlmhleamkdmhaaa", sum := "b8ec0f10bc0d9015d18fcca5266d26e20d43c02ed37ea6efb858674eab106ba9", func := "loop.example/weighedevidence/laws.FnExactLowestGiven", spec := "fnExactLowestGiven", unfollowed := true, recurses := true, apart := false, narrowed := true }
def FnExactLowestGivenUptoSaid : Prop := fnExactLowestGivenUptoRow.holds Try.pinned (OpenSpec.upto fnExactLowestGivenSpec)

/-- 'laws.FnExactLearnMass', WHERE WHAT IT READS IS OF BULK AT MOST 1048576: true; the input reads as it did. -/
def fnExactLearnMassUptoRow : OpenClaim := { program := "ytlmhleamkdmhaaa", sum := "b8ec0f10bc0d9015d18fcca5266d26e20d43c02ed37ea6efb858674eab106ba9", func := "loop.example/weighedevidence/laws.FnExactLearnMass", spec := "fnExactLearnMass", unfollowed := true, recurses := true, apart := false, narrowed := true }
def FnExactLearnMassUptoSaid : Prop := fnExactLearnMassUptoRow.holds Try.pinned (OpenSpec.upto fnExactLearnMassSpec)

/-- 'laws.FnExactSharedChance', WHERE WHAT IT READS IS OF BULK AT MOST 1048576: true; the input reads as it did. -/
def fnExactSharedChanceUptoRow : OpenClaim := { program := "ytlmhleamkdmhaaa", sum := "b8ec0f10bc0d9015d18fcca5266d26e20d43c02ed37ea6efb858674eab106ba9", func := "loop.example/weighedevidence/laws.FnExactSharedChance", spec := "fnExactSharedChance", apart := false, narrowed := true }
def FnExactSharedChanceUptoSaid : Prop := fnExactSharedChanceUptoRow.holds Try.pinned (OpenSpec.upto fnExactSharedChanceSpec)

end Rows
end Go.Proofs.Ytlmhleamkdmhaaa
