/- Orders of masses. -/
import Derived.Test.YtkpnenbkfphldaaP4
set_option linter.unusedVariables false
set_option linter.unusedSimpArgs false
namespace Go.Proofs.Ytkpnenbkfphldaa
open Go.RowKit

/-- Each set is at most as possible by the first mass as by the second, before set k. -/
def mpTo (xs ys : List Int) (k : Nat) : Bool := (List.range k).all fun a => decide (sumTo (meetB a) xs xs.length * sumL ys ≤ sumTo (meetB a) ys ys.length * sumL xs)

theorem mpTo_succ (xs ys : List Int) (k : Nat) : mpTo xs ys (k + 1) = (mpTo xs ys k && decide (sumTo (meetB k) xs xs.length * sumL ys ≤ sumTo (meetB k) ys ys.length * sumL xs)) := by
  simp [mpTo, List.range_succ]

theorem mpTo_false (xs ys : List Int) (k n : Nat) (h : k < n) (hf : ¬ sumTo (meetB k) xs xs.length * sumL ys ≤ sumTo (meetB k) ys ys.length * sumL xs) : mpTo xs ys n = false := by
  rw [Bool.eq_false_iff]
  intro hh
  have := List.all_eq_true.1 hh k (by simp; exact h)
  simp at this
  exact hf this

theorem mul_wrap (a b A B : Int) (ha : 0 ≤ a) (hA : a ≤ A) (hb : 0 ≤ b) (hB : b ≤ B) (h : A * B ≤ 4611686018427387904) : wrap64 (a * b) = a * b := by
  have h1 : 0 ≤ a * b := Int.mul_nonneg ha hb
  have h2 : a * b ≤ A * B := Int.mul_le_mul hA hB hb (by omega)
  exact IntWalk.wrap64_in _ ⟨by omega, by omega⟩

/-- Each set is at most as possible by the first mass as by the second. -/
def mpB (s : Int) (xs : List Int) (t : Int) (ys : List Int) : Bool := bothB s xs t ys && mpTo xs ys xs.length

end Go.Proofs.Ytkpnenbkfphldaa

