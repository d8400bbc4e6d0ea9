/- How parts are moved: both packages, in one form. -/
import Derived.Test.YtjmfjgoehicgcaaIL
set_option linter.unusedVariables false
set_option linter.unusedSimpArgs false
namespace Go.Proofs.Ytjmfjgoehicgcaa
open Go.RowKit

theorem mvL_len16 (s : Int) (xs : List Int) (t : Int) (ys : List Int) : (mvL s xs t ys).length ≤ 256 := by
  unfold mvL
  split
  · rename_i h
    have hb : bothB s xs t ys = true := by rw [spB, Bool.and_eq_true] at h; exact h.1
    have h16 := (two_of hb).n16
    have h2 : xs.length * xs.length ≤ 16 * 16 := Nat.mul_le_mul h16 h16
    unfold firstL
    split
    · simp; omega
    · simp
  · simp

theorem mvL_len (s : Int) (xs : List Int) (t : Int) (ys : List Int) : (mvL s xs t ys).length ≤ 1048576 := by have := mvL_len16 s xs t ys; omega

theorem sMovedParts_any (s : Int) (p : Option Addr) (c : Nat) (xs : List Int) (t : Int) (q : Option Addr) (d : Nat) (ys : List Int) (w : World) (hx : Reads w p xs) (hy : Reads w q ys) (hxm : xs.length ≤ 1048576) (hym : ys.length ≤ 1048576) :
    Calls Try.prog 34 #[.agg #[.int .i64 s, .slice p xs.length c], .agg #[.int .i64 t, .slice q ys.length d]] w fun e w' => ∃ v, e = .returned (.tuple #[v, .bool (spB s xs t ys)]) ∧ Own w.heap.size w' v (mvL s xs t ys) ∧ Below w.heap.size w w' := sMoved_any s t p q c d xs ys w hx hy hxm hym

end Go.Proofs.Ytjmfjgoehicgcaa
