/- MeetLevels of both packages. -/
import Derived.Test.YtmbipmdflbddbaaL9b
set_option linter.unusedVariables false
set_option linter.unusedSimpArgs false
namespace Go.Proofs.Ytmbipmdflbddbaa
open Go.RowKit

/-- The lesser numbers of two lists before place k. -/
def minTo (xs ys : List Int) (k : Nat) : List Int := (List.range k).map fun x => min (nth xs x) (nth ys x)

theorem minTo_succ (xs ys : List Int) (k : Nat) : minTo xs ys (k + 1) = minTo xs ys k ++ [min (nth xs k) (nth ys k)] := by simp [minTo, List.range_succ]
theorem minTo_len (xs ys : List Int) (k : Nat) : (minTo xs ys k).length = k := by simp [minTo]

theorem min_if (a b : Int) : (if b < a then b else a) = min a b := by split <;> omega

theorem minTo_all (xs ys : List Int) (h : allB 0 1000000 xs = true) (h2 : allB 0 1000000 ys = true) (hl : xs.length = ys.length) : allB 0 1000000 (minTo xs ys xs.length) = true := by
  unfold allB
  rw [List.all_eq_true]
  intro z hz
  simp only [minTo, List.mem_map, List.mem_range] at hz
  obtain ⟨k, hk, rfl⟩ := hz
  have h3 := allB_nth h k hk
  have h4 := allB_nth h2 k (by omega)
  simp [inB]; omega

/-- The greatest level is not 0. -/
def topPos (zs : List Int) : Bool := decide (0 < topL zs)

theorem topPos_test (zs : List Int) : (topL zs == 0) = !topPos zs := by
  have := (le_foldl_max zs 0).1
  unfold topPos topL
  rw [Bool.eq_iff_iff]; simp; omega

/-- The lesser levels, or nothing where all are 0. -/
def meetTo (xs ys : List Int) : List Int := if topPos (minTo xs ys xs.length) = true then minTo xs ys xs.length else []

/-- Levels can be met. -/
def meetOk (xs ys : List Int) : Bool := lvB xs && (lvB ys && (decide (xs.length = ys.length) && (decide (topL xs = topL ys) && topPos (minTo xs ys xs.length))))


/-- What MeetLevels returns. -/
def meetL (xs ys : List Int) : List Int := if meetOk xs ys = true then minTo xs ys xs.length else []

theorem meetOk_to {xs ys : List Int} (h1 : lvB xs = true) (h2 : lvB ys = true) (h3 : xs.length = ys.length) (h4 : topL xs = topL ys) : meetOk xs ys = topPos (minTo xs ys xs.length) ∧ meetL xs ys = meetTo xs ys := by
  have e : meetOk xs ys = topPos (minTo xs ys xs.length) := by simp [meetOk, h1, h2, h3, h4]
  exact ⟨e, by simp [meetL, meetTo, e]⟩

theorem meetOk_no {xs ys : List Int} (h : meetOk xs ys = false) : meetL xs ys = [] := by simp [meetL, h]

theorem meetL_len (xs ys : List Int) : (meetL xs ys).length ≤ xs.length := by
  unfold meetL; split <;> simp [minTo_len]

end Go.Proofs.Ytmbipmdflbddbaa
