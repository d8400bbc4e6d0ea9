/- Levels: the program's and the reference's functions on lists of levels. -/
import Derived.Test.YtjmfjgoehicgcaaQ1
set_option linter.unusedVariables false
set_option linter.unusedSimpArgs false
namespace Go.Proofs.Ytjmfjgoehicgcaa
open Go.RowKit

/-- The greatest number of a list, at least 0. -/
def topL (xs : List Int) : Int := xs.foldl max 0

theorem topL_snoc (xs : List Int) (x : Int) : topL (xs ++ [x]) = max (topL xs) x := by simp [topL]

theorem max_if (a b : Int) : (if a < b then b else a) = max a b := by split <;> omega

/-- Valid levels. -/
def lvB (xs : List Int) : Bool := szB xs.length && allB 0 1000000 xs && decide (0 < topL xs)

/-- The greatest number of a list that is not empty. -/
def mxL (xs : List Int) : Int := xs.foldl max (nth xs 0)

theorem foldl_max (xs : List Int) : ∀ a b : Int, xs.foldl max (max a b) = max a (xs.foldl max b) := by
  induction xs with
  | nil => intro a b; rfl
  | cons x xs ih => intro a b; simp only [List.foldl_cons]; rw [show max (max a b) x = max a (max b x) by omega]; exact ih _ _

theorem le_foldl_max (xs : List Int) : ∀ a : Int, a ≤ xs.foldl max a ∧ ∀ x ∈ xs, x ≤ xs.foldl max a := by
  induction xs with
  | nil => intro a; simp
  | cons x xs ih =>
    intro a
    simp only [List.foldl_cons]
    have h := ih (max a x)
    refine ⟨by omega, fun y hy => ?_⟩
    rcases List.mem_cons.1 hy with rfl | hy
    · omega
    · exact h.2 y hy

theorem mxL_topL (xs : List Int) (h : 0 < xs.length) (h0 : 0 ≤ nth xs 0) : mxL xs = topL xs := by
  have e := foldl_max xs (nth xs 0) 0
  have := (le_foldl_max xs 0).2 _ (mem_nth xs 0 h)
  rw [show max (nth xs 0) 0 = nth xs 0 by omega] at e
  unfold mxL topL
  rw [e]; omega

/-- The answers before x whose level is at least a number. -/
def cutTo (xs : List Int) (level : Int) (k : Nat) : Nat := (List.range k).foldl (fun s x => if level ≤ nth xs x then s ||| bit x else s) 0

theorem cutTo_succ (xs : List Int) (level : Int) (k : Nat) : cutTo xs level (k + 1) = if level ≤ nth xs k then cutTo xs level k ||| bit k else cutTo xs level k := by
  simp [cutTo, List.range_succ]

theorem cutTo_lt (xs : List Int) (level : Int) (k : Nat) : cutTo xs level k < 2 ^ k := by
  induction k with
  | zero => simp [cutTo]
  | succ k ih =>
    rw [cutTo_succ]
    split
    · exact or_lt2 _ _ ih
    · rw [Nat.pow_succ]; omega

theorem lt16_of {s k : Nat} (h : s < 2 ^ k) (hk : k ≤ 4) : s < 16 := Nat.lt_of_lt_of_le h (by have := Nat.pow_le_pow_right (n := 2) (by omega) hk; omega)

/-- The greatest level of the answers before k that a set has. -/
def posTo (xs : List Int) (a : Nat) (k : Nat) : Int := (List.range k).foldl (fun m x => if a.testBit x then max m (nth xs x) else m) 0

theorem posTo_succ (xs : List Int) (a : Nat) (k : Nat) : posTo xs a (k + 1) = if a.testBit k then max (posTo xs a k) (nth xs k) else posTo xs a k := by
  simp [posTo, List.range_succ]

end Go.Proofs.Ytjmfjgoehicgcaa


