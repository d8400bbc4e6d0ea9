/- How far two masses are apart: both packages. -/
import Derived.Test.YtjmfjgoehicgcaaO8
import Derived.Test.YtjmfjgoehicgcaaV7
set_option linter.unusedVariables false
set_option linter.unusedSimpArgs false
namespace Go.Proofs.Ytjmfjgoehicgcaa
open Go.RowKit

/-- By how much a part is more in the first mass than in the second. -/
def apA (xs ys : List Int) (k : Nat) : Int := nth xs k * sumL ys - nth ys k * sumL xs

def apM (xs ys : List Int) (k : Nat) : Int := if apA xs ys k < 0 then 0 else apA xs ys k

def apTo (xs ys : List Int) (k : Nat) : Int := (List.range k).foldl (fun s b => s + apM xs ys b) 0

theorem apTo_succ (xs ys : List Int) (k : Nat) : apTo xs ys (k + 1) = apTo xs ys k + apM xs ys k := by
  simp [apTo, List.range_succ]

theorem prod_bd (a b A B : Int) (ha : 0 ≤ a) (hA : a ≤ A) (hb : 0 ≤ b) (hB : b ≤ B) : 0 ≤ a * b ∧ a * b ≤ A * B :=
  ⟨Int.mul_nonneg ha hb, Int.mul_le_mul hA hB hb (by omega)⟩

theorem apA_bd {s t : Int} {xs ys : List Int} (hm : MassOk s xs) (hn : MassOk t ys) (hl : xs.length = ys.length) (k : Nat) (hk : k < xs.length) :
    (0 ≤ nth xs k * sumL ys ∧ nth xs k * sumL ys ≤ 1000000000000) ∧ (0 ≤ nth ys k * sumL xs ∧ nth ys k * sumL xs ≤ 1000000000000) ∧ 0 ≤ apM xs ys k ∧ apM xs ys k ≤ 1000000000000 := by
  have h1 := allB_nth hm.all k hk
  have h2 := allB_nth hn.all k (by omega)
  have h3 := prod_bd (nth xs k) (sumL ys) 1000000 1000000 h1.1 h1.2 (by have := hn.sum1; omega) hn.sum2
  have h4 := prod_bd (nth ys k) (sumL xs) 1000000 1000000 h2.1 h2.2 (by have := hm.sum1; omega) hm.sum2
  refine ⟨⟨h3.1, by omega⟩, ⟨h4.1, by omega⟩, ?_⟩
  unfold apM apA
  split <;> omega

theorem apTo_bd {s t : Int} {xs ys : List Int} (hm : MassOk s xs) (hn : MassOk t ys) (hl : xs.length = ys.length) (k : Nat) (hk : k ≤ xs.length) : 0 ≤ apTo xs ys k ∧ apTo xs ys k ≤ 1000000000000 * k := by
  induction k with
  | zero => simp [apTo]
  | succ k ih =>
    have h1 := ih (by omega)
    have h2 := (apA_bd hm hn hl k (by omega)).2.2
    rw [apTo_succ]
    omega

end Go.Proofs.Ytjmfjgoehicgcaa
