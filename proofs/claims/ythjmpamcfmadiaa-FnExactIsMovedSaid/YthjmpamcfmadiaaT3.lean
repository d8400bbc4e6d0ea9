/- The laws' marks: what is written into a slice, and what it holds. -/
import Derived.Test.YthjmpamcfmadiaaT1
set_option linter.unusedVariables false
set_option linter.unusedSimpArgs false
namespace Go.Proofs.Ythjmpamcfmadiaa
open Go.RowKit

/-- The numbers from m on. -/
def marks (m : Int) (n : Nat) : List Int := (List.range n).map fun i : Nat => m + (i : Int)

theorem marks_len (m : Int) (n : Nat) : (marks m n).length = n := by simp [marks]
theorem marks_nth (m : Int) (n i : Nat) (h : i < n) : nth (marks m n) i = m + i := by
  rw [nth_eq _ _ (by rw [marks_len]; exact h)]; simp [marks]

theorem mark_step (xs : List Int) (m : Int) (k : Nat) (h : k < xs.length) :
    ((marks m k ++ xs.drop k).map (Value.int .i64)).set k (.int .i64 (m + k)) = (marks m (k + 1) ++ xs.drop (k + 1)).map (Value.int .i64) := by
  have e : marks m (k + 1) = marks m k ++ [m + k] := by simp [marks, List.range_succ]
  rw [e, ← List.map_set, List.set_append_right _ _ (by rw [marks_len]; omega), marks_len, Nat.sub_self, List.drop_eq_getElem_cons h, List.set_cons_zero]
  simp

end Go.Proofs.Ythjmpamcfmadiaa
