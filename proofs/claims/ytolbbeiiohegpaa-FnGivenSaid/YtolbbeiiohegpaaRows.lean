/-
  No cell of these rows narrows 'for every input' (looked for: loops, veiled, ifaces, maps, wideKeys, modest, calm, conditions, laid).
  DERIVED. THE GIVEN ROWS OF THIS SEAT. 6 by the template 'for every input the law returns true; each argument reads behind the call as it read before'; 0 by the template 'total and deterministic' (their statements: YtolbbeiiohegpaaTotals.lean).
  GIVEN WITH THE SEED: the statements are not yours to turn. If you find one false, say at which input.
  Laid BY PROGRAM, IN A SANDBOX (cutbox-rows.mjs): the forced cells as the released guide's own fill.sh prints them over the translation beffe047acba71e2… (all of the seat's roots in one cut). By AI agents, Wed Nov 11 2026. No macro, syntax, notation, axiom, sorry.
-/
import Derived.Test.YtolbbeiiohegpaaChecked
import GoSem.Claim
import GoSem.ClaimJoined
import GoSem.ClaimMapViews
import Derived.JoinedTies
import Derived.KernelRfl
namespace Go.Proofs.Ytolbbeiiohegpaa
/- THE CELL 'sum', in the pinned program and in every row, IS THE sha256 OF THE DUMP (.gsa) THAT YtolbbeiiohegpaaProg.lean LOADS. Nothing in Lean hashes anything: it is a label: what it is worth is what the hold of that sum in a sandbox is worth. -/
noncomputable def Try.pinned : Pinned := { name := "ytolbbeiiohegpaa", sum := "beffe047acba71e25e6593022dd93f91283757e0623f83b56a1584542fa50237", checked := Try.checked }
namespace Rows
def none {H : Type} : Left H := { results := [], args := [] }

/-- 'laws.FnMeetLevels': WHATEVER THE INPUT: true; the input reads as it did. -/
def fnMeetLevelsSpec : ChangeSpec := { name := "fnMeetLevels", fn := fun _ => fun
  | [d] => { results := [.lit (.bool true)], args := [d] }
  | _ => none }
def fnMeetLevelsRow : OpenClaim := { program := "ytolbbeiiohegpaa", sum := "beffe047acba71e25e6593022dd93f91283757e0623f83b56a1584542fa50237", func := "loop.example/weighedevidence/laws.FnMeetLevels", spec := "fnMeetLevels", apart := false }
def FnMeetLevelsSaid : Prop := fnMeetLevelsRow.holds Try.pinned (OpenSpec.ofChange fnMeetLevelsSpec)

/-- ITS FALSE NEIGHBOUR: 'it returns false'. Refute it at one input. -/
def fnMeetLevelsWrong : ChangeSpec := { name := "fnMeetLevels", fn := fun _ => fun
  | [d] => { results := [.lit (.bool false)], args := [d] }
  | _ => none }
def FnMeetLevelsWrongFalsely : Prop := fnMeetLevelsRow.holds Try.pinned (OpenSpec.ofChange fnMeetLevelsWrong)

/-- 'laws.FnDistance': WHATEVER THE INPUT: true; the input reads as it did. -/
def fnDistanceSpec : ChangeSpec := { name := "fnDistance", fn := fun _ => fun
  | [d1, d2] => { results := [.lit (.bool true)], args := [d1, d2] }
  | _ => none }
def fnDistanceRow : OpenClaim := { program := "ytolbbeiiohegpaa", sum := "beffe047acba71e25e6593022dd93f91283757e0623f83b56a1584542fa50237", func := "loop.example/weighedevidence/laws.FnDistance", spec := "fnDistance", unfollowed := true, recurses := true, apart := false }
def FnDistanceSaid : Prop := fnDistanceRow.holds Try.pinned (OpenSpec.ofChange fnDistanceSpec)

/-- ITS FALSE NEIGHBOUR: 'it returns false'. Refute it at one input. -/
def fnDistanceWrong : ChangeSpec := { name := "fnDistance", fn := fun _ => fun
  | [d1, d2] => { results := [.lit (.bool false)], args := [d1, d2] }
  | _ => none }
def FnDistanceWrongFalsely : Prop := fnDistanceRow.holds Try.pinned (OpenSpec.ofChange fnDistanceWrong)

/-- 'laws.FnFocus': WHATEVER THE INPUT: true; the input reads as it did. -/
def fnFocusSpec : ChangeSpec := { name := "fnFocus", fn := fun _ => fun
  | [d] => { results := [.lit (.bool true)], args := [d] }
  | _ => none }
def fnFocusRow : OpenClaim := { program := "ytolbbeiiohegpaa", sum := "beffe047acba71e25e6593022dd93f91283757e0623f83b56a1584542fa50237", func := "loop.example/weighedevidence/laws.FnFocus", spec := "fnFocus", unfollowed := true, recurses := true, apart := false }
def FnFocusSaid : Prop := fnFocusRow.holds Try.pinned (OpenSpec.ofChange fnFocusSpec)

/-- ITS FALSE NEIGHBOUR: 'it returns false'. Refute it at one input. -/
def fnFocusWrong : ChangeSpec := { name := "fnFocus", fn := fun _ => fun
  | [d] => { results := [.lit (.bool false)], args := [d] }
  | _ => none }
def FnFocusWrongFalsely : Prop := fnFocusRow.holds Try.pinned (OpenSpec.ofChange fnFocusWrong)

/-- 'laws.FnLowestGiven': WHATEVER THE INPUT: true; the input reads as it did. -/
def fnLowestGivenSpec : ChangeSpec := { name := "fnLowestGiven", fn := fun _ => fun
  | [d] => { results := [.lit (.bool true)], args := [d] }
  | _ => none }
def fnLowestGivenRow : OpenClaim := { program := "ytolbbeiiohegpaa", sum := "beffe047acba71e25e6593022dd93f91283757e0623f83b56a1584542fa50237", func := "loop.example/weighedevidence/laws.FnLowestGiven", spec := "fnLowestGiven", unfollowed := true, recurses := true, apart := false }
def FnLowestGivenSaid : Prop := fnLowestGivenRow.holds Try.pinned (OpenSpec.ofChange fnLowestGivenSpec)

/-- ITS FALSE NEIGHBOUR: 'it returns false'. Refute it at one input. -/
def fnLowestGivenWrong : ChangeSpec := { name := "fnLowestGiven", fn := fun _ => fun
  | [d] => { results := [.lit (.bool false)], args := [d] }
  | _ => none }
def FnLowestGivenWrongFalsely : Prop := fnLowestGivenRow.holds Try.pinned (OpenSpec.ofChange fnLowestGivenWrong)

/-- 'laws.FnGiven': WHATEVER THE INPUT: true; the input reads as it did. -/
def fnGivenSpec : ChangeSpec := { name := "fnGiven", fn := fun _ => fun
  | [d] => { results := [.lit (.bool true)], args := [d] }
  | _ => none }
def fnGivenRow : OpenClaim := { program := "ytolbbeiiohegpaa", sum := "beffe047acba71e25e6593022dd93f91283757e0623f83b56a1584542fa50237", func := "loop.example/weighedevidence/laws.FnGiven", spec := "fnGiven", unfollowed := true, recurses := true, apart := false }
def FnGivenSaid : Prop := fnGivenRow.holds Try.pinned (OpenSpec.ofChange fnGivenSpec)

/-- ITS FALSE NEIGHBOUR: 'it returns false'. Refute it at one input. -/
def fnGivenWrong : ChangeSpec := { name := "fnGiven", fn := fun _ => fun
  | [d] => { results := [.lit (.bool false)], args := [d] }
  | _ => none }
def FnGivenWrongFalsely : Prop := fnGivenRow.holds Try.pinned (OpenSpec.ofChange fnGivenWrong)

/-- 'laws.FnMorePossible': WHATEVER THE INPUT: true; the input reads as it did. -/
def fnMorePossibleSpec : ChangeSpec := { name := "fnMorePossible", fn := fun _ => fun
  | [d] => { results := [.lit (.bool true)], args := [d] }
  | _ => none }
def fnMorePossibleRow : OpenClaim := { program := "ytolbbeiiohegpaa", sum := "beffe047acba71e25e6593022dd93f91283757e0623f83b56a1584542fa50237", func := "loop.example/weighedevidence/laws.FnMorePossible", spec := "fnMorePossible", unfollowed := true, recurses := true, apart := false }
def FnMorePossibleSaid : Prop := fnMorePossibleRow.holds Try.pinned (OpenSpec.ofChange fnMorePossibleSpec)

/-- ITS FALSE NEIGHBOUR: 'it returns false'. Refute it at one input. -/
def fnMorePossibleWrong : ChangeSpec := { name := "fnMorePossible", fn := fun _ => fun
  | [d] => { results := [.lit (.bool false)], args := [d] }
  | _ => none }
def FnMorePossibleWrongFalsely : Prop := fnMorePossibleRow.holds Try.pinned (OpenSpec.ofChange fnMorePossibleWrong)

/- THE SECOND FORM. 'bulk': how many values and letters a reading holds, each counted each time it is reached (what is shared counts as often as it is met; a slice's spare places count too). A statement '..UptoSaid' is the law's where the arguments, and the package variables that the reading takes, are together of bulk at most 1048576: NARROWER than '..Said'. Prove '..Said' where nothing that the law and all that it calls make is longer than what came in: it says more and counts as full. Else prove '..UptoSaid'. A law counts once. -/
mutual
def uptoBulk {H : Type} : DataW H → Nat
  | .lit (.string bytes) => bytes.length + 1
  | .lit _ => 1
  | .nil => 1
  | .ptr d => uptoBulk d + 1
  | .slice elems spare => uptoBulkAll elems + uptoBulkAll spare + 1
  | .agg parts => uptoBulkAll parts + 1
  | .iface _ d => uptoBulk d + 1
  | .map entries => uptoBulkEntries entries + 1
  | .held _ => 1
def uptoBulkAll {H : Type} : List (DataW H) → Nat
  | [] => 0
  | d :: r => uptoBulk d + uptoBulkAll r
def uptoBulkEntries {H : Type} : List (Lit × DataW H) → Nat
  | [] => 0
  | x :: r => uptoBulkEntry x + uptoBulkEntries r
def uptoBulkEntry {H : Type} : Lit × DataW H → Nat
  | (.string bytes, d) => bytes.length + uptoBulk d + 1
  | (_, d) => uptoBulk d + 1
 end
def uptoSmall : (H : Type) → List (DataW H) → Bool := fun _ ds => decide (uptoBulkAll ds ≤ 1048576)
def OpenSpec.upto (s : _root_.Go.ChangeSpec) : _root_.Go.OpenSpec := { _root_.Go.OpenSpec.ofChange s with cond := some uptoSmall }

/-- 'laws.FnMeetLevels', WHERE WHAT IT READS IS OF BULK AT MOST 1048576: true; the input reads as it did. -/
def fnMeetLevelsUptoRow : OpenClaim := { program := "ytolbbeiiohegpaa", sum := "beffe047acba71e25e6593022dd93f91283757e0623f83b56a1584542fa50237", func := "loop.example/weighedevidence/laws.FnMeetLevels", spec := "fnMeetLevels", apart := false, narrowed := true }
def FnMeetLevelsUptoSaid : Prop := fnMeetLevelsUptoRow.holds Try.pinned (OpenSpec.upto fnMeetLevelsSpec)

/-- 'laws.FnDistance', WHERE WHAT IT READS IS OF BULK AT MOST 1048576: true; the input reads as it did. -/
def fnDistanceUptoRow : OpenClaim := { program := "ytolbbeiiohegpaa", sum := "beffe047acba71e25e6593022dd93f91283757e0623f83b56a1584542fa50237", func := "loop.example/weighedevidence/laws.FnDistance", spec := "fnDistance", unfollowed := true, recurses := true, apart := false, narrowed := true }
def FnDistanceUptoSaid : Prop := fnDistanceUptoRow.holds Try.pinned (OpenSpec.upto fnDistanceSpec)

/-- 'laws.FnFocus', WHERE WHAT IT READS IS OF BULK AT MOST 1048576: true; the input reads as it did. -/
def fnFocusUptoRow : OpenClaim := { program := "ytolbbeiiohegpaa", sum := "beffe047acba71e25e6593022dd93f91283757e0623f83b56a1584542fa50237", func := "loop.example/weighedevidence/laws.FnFocus", spec := "fnFocus", unfollowed := true, recurses := true, apart := false, narrowed := true }
def FnFocusUptoSaid : Prop := fnFocusUptoRow.holds Try.pinned (OpenSpec.upto fnFocusSpec)

/-- 'laws.FnLowestGiven', WHERE WHAT IT READS IS OF BULK AT MOST 1048576: true; the input reads as it did. -/
def fnLowestGivenUptoRow : OpenClaim := { program := "ytolbbeiiohegpaa", sum := "beffe047acba71e25e6593022dd93f91283757e0623f83b56a1584542fa50237", func := "loop.example/weighedevidence/laws.FnLowestGiven", spec := "fnLowestGiven", unfollowed := true, recurses := true, apart := false, narrowed := true }
def FnLowestGivenUptoSaid : Prop := fnLowestGivenUptoRow.holds Try.pinned (OpenSpec.upto fnLowestGivenSpec)

/-- 'laws.FnGiven', WHERE WHAT IT READS IS OF BULK AT MOST 1048576: true; the input reads as it did. -/
def fnGivenUptoRow : OpenClaim := { program := "ytolbbeiiohegpaa", sum := "beffe047acba71e25e6593022dd93f91283757e0623f83b56a1584542fa50237", func := "loop.example/weighedevidence/laws.FnGiven", spec := "fnGiven", unfollowed := true, recurses := true, apart := false, narrowed := true }
def FnGivenUptoSaid : Prop := fnGivenUptoRow.holds Try.pinned (OpenSpec.upto fnGivenSpec)

/-- 'laws.FnMorePossible', WHERE WHAT IT READS IS OF BULK AT MOST 1048576: true; the input reads as it did. -/
def fnMorePossibleUptoRow : OpenClaim := { program := "ytolbbeiiohegpaa", sum := "beffe047acba71e25e6593022dd93f91283757e0623f83b56a1584542fa50237", func := "loop.example/weighedevidence/laws.FnMorePossible", spec := "fnMorePossible", unfollowed := true, recurses := true, apart := false, narrowed := true }
def FnMorePossibleUptoSaid : Prop := fnMorePossibleUptoRow.holds Try.pinned (OpenSpec.upto fnMorePossibleSpec)

end Rows
end Go.Proofs.Ytolbbeiiohegpaa
