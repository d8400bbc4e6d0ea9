/- Masses in lowest terms: makeMass and l3Made. -/
import Derived.Test.YthjmpamcfmadiaaM3
import Derived.Deep.RegionLaw
set_option linter.unusedVariables false
set_option linter.unusedSimpArgs false
namespace Go.Proofs.Ythjmpamcfmadiaa
open Go.RowKit

/-- The quotients of numbers before k. -/
def quoTo (ps : List Int) (k : Nat) : List Int := (List.range k).map fun x => nth ps x / (gcdL ps : Int)
theorem quoTo_succ (ps : List Int) (k : Nat) : quoTo ps (k + 1) = quoTo ps k ++ [nth ps k / (gcdL ps : Int)] := by simp [quoTo, List.range_succ]
theorem quo_wrap (x : Int) (g : Nat) (h1 : 0 ≤ x) (h2 : x ≤ 4611686018427387904) (h3 : 0 < g) : IntKind.i64.wrap (x.tdiv (g : Int)) = x / (g : Int) := by
  rw [Int.tdiv_eq_ediv_of_nonneg h1]
  have h4 : 0 ≤ x / (g : Int) := Int.ediv_nonneg h1 (by omega)
  have h5 : x / (g : Int) ≤ x := Int.ediv_le_self _ h1
  exact IntWalk.i64_in _ (by omega)

theorem quoTo_len (ps : List Int) (k : Nat) : (quoTo ps k).length = k := by simp [quoTo]

/-- Parts in lowest terms make a mass. -/
def mkOk (s : Int) (ps : List Int) : Bool := !decide (gcdL ps = 0) && massB s (quoTo ps ps.length)
def mkS (s : Int) (ps : List Int) : Int := if mkOk s ps = true then s else 0
def mkL (s : Int) (ps : List Int) : List Int := if mkOk s ps = true then quoTo ps ps.length else []

theorem mkL_len (s : Int) (ps : List Int) : (mkL s ps).length ≤ ps.length := by unfold mkL; split <;> simp [quoTo_len]

end Go.Proofs.Ythjmpamcfmadiaa
