/- Two masses, opened. -/
import Derived.Test.YtjmfjgoehicgcaaDC
set_option linter.unusedVariables false
set_option linter.unusedSimpArgs false
namespace Go.Proofs.Ytjmfjgoehicgcaa
open Go.RowKit

def OutPair (w : World) (e : Ending) (w' : World) : Prop := ∃ (s : Int) (p : Option Addr) (c : Nat) (xs : List Int) (t : Int) (q : Option Addr) (d : Nat) (ys : List Int), e = .returned (.tuple #[.agg #[.int .i64 s, .slice p xs.length c], .agg #[.int .i64 t, .slice q ys.length d]]) ∧ xs.length ≤ 17 ∧ ys.length ≤ 17 ∧ Reads w' p xs ∧ Reads w' q ys ∧ Below w.heap.size w w'


end Go.Proofs.Ytjmfjgoehicgcaa
