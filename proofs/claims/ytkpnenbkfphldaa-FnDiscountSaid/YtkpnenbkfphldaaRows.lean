/-
  No cell of these rows narrows 'for every input' (looked for: loops, veiled, ifaces, maps, wideKeys, modest, calm, conditions, laid).
  DERIVED. THE GIVEN ROWS OF THIS SEAT. 8 by the template 'for every input the law returns true; each argument reads behind the call as it read before'; 0 by the template 'total and deterministic' (their statements: YtkpnenbkfphldaaTotals.lean).
  GIVEN WITH THE SEED: the statements are not yours to turn. If you find one false, say at which input.
  Laid BY PROGRAM, IN A SANDBOX (cutbox-rows.mjs): the forced cells as the released guide's own fill.sh prints them over the translation 4b3480e033477561… (all of the seat's roots in one cut). By AI agents, Wed Nov 11 2026. No macro, syntax, notation, axiom, sorry.
-/
import Derived.Test.YtkpnenbkfphldaaChecked
import GoSem.Claim
import GoSem.ClaimJoined
import GoSem.ClaimMapViews
import Derived.JoinedTies
import Derived.KernelRfl
namespace Go.Proofs.Ytkpnenbkfphldaa
/- THE CELL 'sum', in the pinned program and in every row, IS THE sha256 OF THE DUMP (.gsa) THAT YtkpnenbkfphldaaProg.lean LOADS. Nothing in Lean hashes anything: it is a label: what it is worth is what the hold of that sum in a sandbox is worth. -/
noncomputable def Try.pinned : Pinned := { name := "ytkpnenbkfphldaa", sum := "4b3480e03347756104af6d8d95b9a37fa2fc8787a687c90dd08bc507965e67f5", checked := Try.checked }
namespace Rows
def none {H : Type} : Left H := { results := [], args := [] }

/-- 'laws.FnLowestGiven': WHATEVER THE INPUT: true; the input reads as it did. -/
def fnLowestGivenSpec : ChangeSpec := { name := "fnLowestGiven", fn := fun _ => fun
  | [d] => { results := [.lit (.bool true)], args := [d] }
  | _ => none }
def fnLowestGivenRow : OpenClaim := { program := "ytkpnenbkfphldaa", sum := "4b3480e03347756104af6d8d95b9a37fa2fc8787a687c90dd08bc507965e67f5", func := "loop.example/weighedevidence/laws.FnLowestGiven", spec := "fnLowestGiven", unfollowed := true, recurses := true, apart := false }
def FnLowestGivenSaid : Prop := fnLowestGivenRow.holds Try.pinned (OpenSpec.ofChange fnLowestGivenSpec)

/-- ITS FALSE NEIGHBOUR: 'it returns false'. Refute it at one input. -/
def fnLowestGivenWrong : ChangeSpec := { name := "fnLowestGiven", fn := fun _ => fun
  | [d] => { results := [.lit (.bool false)], args := [d] }
  | _ => none }
def FnLowestGivenWrongFalsely : Prop := fnLowestGivenRow.holds Try.pinned (OpenSpec.ofChange fnLowestGivenWrong)

/-- 'laws.FnLearn': WHATEVER THE INPUT: true; the input reads as it did. -/
def fnLearnSpec : ChangeSpec := { name := "fnLearn", fn := fun _ => fun
  | [d] => { results := [.lit (.bool true)], args := [d] }
  | _ => none }
def fnLearnRow : OpenClaim := { program := "ytkpnenbkfphldaa", sum := "4b3480e03347756104af6d8d95b9a37fa2fc8787a687c90dd08bc507965e67f5", func := "loop.example/weighedevidence/laws.FnLearn", spec := "fnLearn", unfollowed := true, recurses := true, apart := false }
def FnLearnSaid : Prop := fnLearnRow.holds Try.pinned (OpenSpec.ofChange fnLearnSpec)

/-- ITS FALSE NEIGHBOUR: 'it returns false'. Refute it at one input. -/
def fnLearnWrong : ChangeSpec := { name := "fnLearn", fn := fun _ => fun
  | [d] => { results := [.lit (.bool false)], args := [d] }
  | _ => none }
def FnLearnWrongFalsely : Prop := fnLearnRow.holds Try.pinned (OpenSpec.ofChange fnLearnWrong)

/-- 'laws.FnLearnTwice': WHATEVER THE INPUT: true; the input reads as it did. -/
def fnLearnTwiceSpec : ChangeSpec := { name := "fnLearnTwice", fn := fun _ => fun
  | [d1, d2] => { results := [.lit (.bool true)], args := [d1, d2] }
  | _ => none }
def fnLearnTwiceRow : OpenClaim := { program := "ytkpnenbkfphldaa", sum := "4b3480e03347756104af6d8d95b9a37fa2fc8787a687c90dd08bc507965e67f5", func := "loop.example/weighedevidence/laws.FnLearnTwice", spec := "fnLearnTwice", unfollowed := true, recurses := true, apart := false }
def FnLearnTwiceSaid : Prop := fnLearnTwiceRow.holds Try.pinned (OpenSpec.ofChange fnLearnTwiceSpec)

/-- ITS FALSE NEIGHBOUR: 'it returns false'. Refute it at one input. -/
def fnLearnTwiceWrong : ChangeSpec := { name := "fnLearnTwice", fn := fun _ => fun
  | [d1, d2] => { results := [.lit (.bool false)], args := [d1, d2] }
  | _ => none }
def FnLearnTwiceWrongFalsely : Prop := fnLearnTwiceRow.holds Try.pinned (OpenSpec.ofChange fnLearnTwiceWrong)

/-- 'laws.FnRefine': WHATEVER THE INPUT: true; the input reads as it did. -/
def fnRefineSpec : ChangeSpec := { name := "fnRefine", fn := fun _ => fun
  | [d] => { results := [.lit (.bool true)], args := [d] }
  | _ => none }
def fnRefineRow : OpenClaim := { program := "ytkpnenbkfphldaa", sum := "4b3480e03347756104af6d8d95b9a37fa2fc8787a687c90dd08bc507965e67f5", func := "loop.example/weighedevidence/laws.FnRefine", spec := "fnRefine", unfollowed := true, recurses := true, apart := false }
def FnRefineSaid : Prop := fnRefineRow.holds Try.pinned (OpenSpec.ofChange fnRefineSpec)

/-- ITS FALSE NEIGHBOUR: 'it returns false'. Refute it at one input. -/
def fnRefineWrong : ChangeSpec := { name := "fnRefine", fn := fun _ => fun
  | [d] => { results := [.lit (.bool false)], args := [d] }
  | _ => none }
def FnRefineWrongFalsely : Prop := fnRefineRow.holds Try.pinned (OpenSpec.ofChange fnRefineWrong)

/-- 'laws.FnCoarsen': WHATEVER THE INPUT: true; the input reads as it did. -/
def fnCoarsenSpec : ChangeSpec := { name := "fnCoarsen", fn := fun _ => fun
  | [d] => { results := [.lit (.bool true)], args := [d] }
  | _ => none }
def fnCoarsenRow : OpenClaim := { program := "ytkpnenbkfphldaa", sum := "4b3480e03347756104af6d8d95b9a37fa2fc8787a687c90dd08bc507965e67f5", func := "loop.example/weighedevidence/laws.FnCoarsen", spec := "fnCoarsen", unfollowed := true, recurses := true, apart := false }
def FnCoarsenSaid : Prop := fnCoarsenRow.holds Try.pinned (OpenSpec.ofChange fnCoarsenSpec)

/-- ITS FALSE NEIGHBOUR: 'it returns false'. Refute it at one input. -/
def fnCoarsenWrong : ChangeSpec := { name := "fnCoarsen", fn := fun _ => fun
  | [d] => { results := [.lit (.bool false)], args := [d] }
  | _ => none }
def FnCoarsenWrongFalsely : Prop := fnCoarsenRow.holds Try.pinned (OpenSpec.ofChange fnCoarsenWrong)

/-- 'laws.FnDiscount': WHATEVER THE INPUT: true; the input reads as it did. -/
def fnDiscountSpec : ChangeSpec := { name := "fnDiscount", fn := fun _ => fun
  | [d1, d2] => { results := [.lit (.bool true)], args := [d1, d2] }
  | _ => none }
def fnDiscountRow : OpenClaim := { program := "ytkpnenbkfphldaa", sum := "4b3480e03347756104af6d8d95b9a37fa2fc8787a687c90dd08bc507965e67f5", func := "loop.example/weighedevidence/laws.FnDiscount", spec := "fnDiscount", apart := false }
def FnDiscountSaid : Prop := fnDiscountRow.holds Try.pinned (OpenSpec.ofChange fnDiscountSpec)

/-- ITS FALSE NEIGHBOUR: 'it returns false'. Refute it at one input. -/
def fnDiscountWrong : ChangeSpec := { name := "fnDiscount", fn := fun _ => fun
  | [d1, d2] => { results := [.lit (.bool false)], args := [d1, d2] }
  | _ => none }
def FnDiscountWrongFalsely : Prop := fnDiscountRow.holds Try.pinned (OpenSpec.ofChange fnDiscountWrong)

/-- 'laws.FnReliable': WHATEVER THE INPUT: true; the input reads as it did. -/
def fnReliableSpec : ChangeSpec := { name := "fnReliable", fn := fun _ => fun
  | [d] => { results := [.lit (.bool true)], args := [d] }
  | _ => none }
def fnReliableRow : OpenClaim := { program := "ytkpnenbkfphldaa", sum := "4b3480e03347756104af6d8d95b9a37fa2fc8787a687c90dd08bc507965e67f5", func := "loop.example/weighedevidence/laws.FnReliable", spec := "fnReliable", unfollowed := true, recurses := true, apart := false }
def FnReliableSaid : Prop := fnReliableRow.holds Try.pinned (OpenSpec.ofChange fnReliableSpec)

/-- ITS FALSE NEIGHBOUR: 'it returns false'. Refute it at one input. -/
def fnReliableWrong : ChangeSpec := { name := "fnReliable", fn := fun _ => fun
  | [d] => { results := [.lit (.bool false)], args := [d] }
  | _ => none }
def FnReliableWrongFalsely : Prop := fnReliableRow.holds Try.pinned (OpenSpec.ofChange fnReliableWrong)

/-- 'laws.FnDistance': WHATEVER THE INPUT: true; the input reads as it did. -/
def fnDistanceSpec : ChangeSpec := { name := "fnDistance", fn := fun _ => fun
  | [d1, d2] => { results := [.lit (.bool true)], args := [d1, d2] }
  | _ => none }
def fnDistanceRow : OpenClaim := { program := "ytkpnenbkfphldaa", sum := "4b3480e03347756104af6d8d95b9a37fa2fc8787a687c90dd08bc507965e67f5", func := "loop.example/weighedevidence/laws.FnDistance", spec := "fnDistance", unfollowed := true, recurses := true, apart := false }
def FnDistanceSaid : Prop := fnDistanceRow.holds Try.pinned (OpenSpec.ofChange fnDistanceSpec)

/-- ITS FALSE NEIGHBOUR: 'it returns false'. Refute it at one input. -/
def fnDistanceWrong : ChangeSpec := { name := "fnDistance", fn := fun _ => fun
  | [d1, d2] => { results := [.lit (.bool false)], args := [d1, d2] }
  | _ => none }
def FnDistanceWrongFalsely : Prop := fnDistanceRow.holds Try.pinned (OpenSpec.ofChange fnDistanceWrong)

/- THE SECOND FORM. 'bulk': how many values and letters a reading holds, each counted each time it is reached (what is shared counts as often as it is met; a slice's spare places count too). A statement '..UptoSaid' is the law's where the arguments, and the package variables that the reading takes, are together of bulk at most 1048576: NARROWER than '..Said'. Prove '..Said' where nothing that the law and all that it calls make is longer than what came in: it says more and counts as full. Else prove '..UptoSaid'. A law counts once. -/
mutual
def uptoBulk {H : Type} : DataW H → Nat
  | .lit (.string bytes) => bytes.length + 1
  | .lit _ => 1
  | .nil => 1
  | .ptr d => uptoBulk d + 1
  | .slice elems spare => uptoBulkAll elems + uptoBulkAll spare + 1
  | .agg parts => uptoBulkAll parts + 1
  | .iface _ d => uptoBulk d + 1
  | .map entries => uptoBulkEntries entries + 1
  | .held _ => 1
def uptoBulkAll {H : Type} : List (DataW H) → Nat
  | [] => 0
  | d :: r => uptoBulk d + uptoBulkAll r
def uptoBulkEntries {H : Type} : List (Lit × DataW H) → Nat
  | [] => 0
  | x :: r => uptoBulkEntry x + uptoBulkEntries r
def uptoBulkEntry {H : Type} : Lit × DataW H → Nat
  | (.string bytes, d) => bytes.length + uptoBulk d + 1
  | (_, d) => uptoBulk d + 1
 end
def uptoSmall : (H : Type) → List (DataW H) → Bool := fun _ ds => decide (uptoBulkAll ds ≤ 1048576)
def OpenSpec.upto (s : _root_.Go.ChangeSpec) : _root_.Go.OpenSpec := { _root_.Go.OpenSpec.ofChange s with cond := some uptoSmall }

/-- 'laws.FnLowestGiven', WHERE WHAT IT READS IS OF BULK AT MOST 1048576: true; the input reads as it did. -/
def fnLowestGivenUptoRow : OpenClaim := { program := "ytkpnenbkfphldaa", sum := "4b3480e03347756104af6d8d95b9a37fa2fc8787a687c90dd08bc507965e67f5", func := "loop.example/weighedevidence/laws.FnLowestGiven", spec := "fnLowestGiven", unfollowed := true, recurses := true, apart := false, narrowed := true }
def FnLowestGivenUptoSaid : Prop := fnLowestGivenUptoRow.holds Try.pinned (OpenSpec.upto fnLowestGivenSpec)

/-- 'laws.FnLearn', WHERE WHAT IT READS IS OF BULK AT MOST 1048576: true; the input reads as it did. -/
def fnLearnUptoRow : OpenClaim := { program := "ytkpnenbkfphldaa", sum := "4b3480e03347756104af6d8d95b9a37fa2fc8787a687c90dd08bc507965e67f5", func := "loop.example/weighedevidence/laws.FnLearn", spec := "fnLearn", unfollowed := true, recurses := true, apart := false, narrowed := true }
def FnLearnUptoSaid : Prop := fnLearnUptoRow.holds Try.pinned (OpenSpec.upto fnLearnSpec)

/-- 'laws.FnLearnTwice', WHERE WHAT IT READS IS OF BULK AT MOST 1048576: true; the input reads as it did. -/
def fnLearnTwiceUptoRow : OpenClaim := { program := "ytkpnenbkfphldaa", sum := "4b3480e03347756104af6d8d95b9a37fa2fc8787a687c90dd08bc507965e67f5", func := "loop.example/weighedevidence/laws.FnLearnTwice", spec := "fnLearnTwice", unfollowed := true, recurses := true, apart := false, narrowed := true }
def FnLearnTwiceUptoSaid : Prop := fnLearnTwiceUptoRow.holds Try.pinned (OpenSpec.upto fnLearnTwiceSpec)

/-- 'laws.FnRefine', WHERE WHAT IT READS IS OF BULK AT MOST 1048576: true; the input reads as it did. -/
def fnRefineUptoRow : OpenClaim := { program := "ytkpnenbkfphldaa", sum := "4b3480e03347756104af6d8d95b9a37fa2fc8787a687c90dd08bc507965e67f5", func := "loop.example/weighedevidence/laws.FnRefine", spec := "fnRefine", unfollowed := true, recurses := true, apart := false, narrowed := true }
def FnRefineUptoSaid : Prop := fnRefineUptoRow.holds Try.pinned (OpenSpec.upto fnRefineSpec)

/-- 'laws.FnCoarsen', WHERE WHAT IT READS IS OF BULK AT MOST 1048576: true; the input reads as it did. -/
def fnCoarsenUptoRow : OpenClaim := { program := "ytkpnenbkfphldaa", sum := "4b3480e03347756104af6d8d95b9a37fa2fc8787a687c90dd08bc507965e67f5", func := "loop.example/weighedevidence/laws.FnCoarsen", spec := "fnCoarsen", unfollowed := true, recurses := true, apart := false, narrowed := true }
def FnCoarsenUptoSaid : Prop := fnCoarsenUptoRow.holds Try.pinned (OpenSpec.upto fnCoarsenSpec)

/-- 'laws.FnDiscount', WHERE WHAT IT READS IS OF BULK AT MOST 1048576: true; the input reads as it did. -/
def fnDiscountUptoRow : OpenClaim := { program := "ytkpnenbkfphldaa", sum := "4b3480e03347756104af6d8d95b9a37fa2fc8787a687c90dd08bc507965e67f5", func := "loop.example/weighedevidence/laws.FnDiscount", spec := "fnDiscount", apart := false, narrowed := true }
def FnDiscountUptoSaid : Prop := fnDiscountUptoRow.holds Try.pinned (OpenSpec.upto fnDiscountSpec)

/-- 'laws.FnReliable', WHERE WHAT IT READS IS OF BULK AT MOST 1048576: true; the input reads as it did. -/
def fnReliableUptoRow : OpenClaim := { program := "ytkpnenbkfphldaa", sum := "4b3480e03347756104af6d8d95b9a37fa2fc8787a687c90dd08bc507965e67f5", func := "loop.example/weighedevidence/laws.FnReliable", spec := "fnReliable", unfollowed := true, recurses := true, apart := false, narrowed := true }
def FnReliableUptoSaid : Prop := fnReliableUptoRow.holds Try.pinned (OpenSpec.upto fnReliableSpec)

/-- 'laws.FnDistance', WHERE WHAT IT READS IS OF BULK AT MOST 1048576: true; the input reads as it did. -/
def fnDistanceUptoRow : OpenClaim := { program := "ytkpnenbkfphldaa", sum := "4b3480e03347756104af6d8d95b9a37fa2fc8787a687c90dd08bc507965e67f5", func := "loop.example/weighedevidence/laws.FnDistance", spec := "fnDistance", unfollowed := true, recurses := true, apart := false, narrowed := true }
def FnDistanceUptoSaid : Prop := fnDistanceUptoRow.holds Try.pinned (OpenSpec.upto fnDistanceSpec)

end Rows
end Go.Proofs.Ytkpnenbkfphldaa
