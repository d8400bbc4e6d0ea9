/- A mass without the part of the set without answers: both packages. -/
import Derived.Test.YtjmfjgoehicgcaaL6
set_option linter.unusedVariables false
set_option linter.unusedSimpArgs false
namespace Go.Proofs.Ytjmfjgoehicgcaa
open Go.RowKit

theorem nonP_wide (xs : List Int) (h : allB 0 1000000 xs = true) : allB 0 4611686018427387904 xs = true := allB_wider h (by omega) (by omega)
theorem nmR_len (s : Int) (xs : List Int) (h : xs.length ≤ 1048576) : (gL (massB s xs) s (nonP xs)).length ≤ xs.length := by
  have := gL_len (massB s xs) s (nonP xs)
  rw [nonP_len] at this; exact this

end Go.Proofs.Ytjmfjgoehicgcaa
