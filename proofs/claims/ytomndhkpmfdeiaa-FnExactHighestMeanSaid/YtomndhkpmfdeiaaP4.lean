/- Sums of the parts of some sets: what speaks for a set. -/
import Derived.Test.YtomndhkpmfdeiaaM3
set_option linter.unusedVariables false
set_option linter.unusedSimpArgs false
namespace Go.Proofs.Ytomndhkpmfdeiaa
open Go.RowKit

/-- The sum of the numbers at the places before k that p takes. -/
def sumTo (p : Nat → Bool) (xs : List Int) (k : Nat) : Int := (List.range k).foldl (fun s b => if p b then s + nth xs b else s) 0

theorem sumTo_succ (p : Nat → Bool) (xs : List Int) (k : Nat) : sumTo p xs (k + 1) = if p k then sumTo p xs k + nth xs k else sumTo p xs k := by
  simp [sumTo, List.range_succ]

theorem sumTo_bd {high : Int} (p : Nat → Bool) (xs : List Int) (h : allB 0 high xs = true) (h0 : 0 ≤ high) (k : Nat) (hk : k ≤ xs.length) : 0 ≤ sumTo p xs k ∧ sumTo p xs k ≤ high * k := by
  induction k with
  | zero => simp [sumTo]
  | succ k ih =>
    have h1 := ih (by omega)
    have h2 := allB_nth h k (by omega)
    rw [sumTo_succ]
    have : high * ((k + 1 : Nat) : Int) = high * k + high := by rw [Int.natCast_add, Int.mul_add]; simp
    split <;> omega

/-- Two sets have an answer in common. -/
def meetB (a b : Nat) : Bool := a &&& b != 0
/-- All answers of the first set are in the second. -/
def subB (a b : Nat) : Bool := a &&& b == a

theorem and_bits : ∀ a b : Fin 16, bits BinOp.and IntKind.i64 (a.val : Int) (b.val : Int) = ((a.val &&& b.val : Nat) : Int) := by decide +kernel
theorem andNot_bits : ∀ a b : Fin 16, (bits BinOp.andNot IntKind.i64 (a.val : Int) (b.val : Int) == 0) = subB a.val b.val := by decide +kernel

theorem meet_test (a b : Nat) (ha : a < 16) (hb : b < 16) : (bits BinOp.and IntKind.i64 (a : Int) (b : Int) != 0) = meetB a b := by
  have := and_bits ⟨a, ha⟩ ⟨b, hb⟩
  rw [this, meetB, Bool.eq_iff_iff]
  simp

theorem sub_test (a b : Nat) (ha : a < 16) (hb : b < 16) : (bits BinOp.andNot IntKind.i64 (a : Int) (b : Int) == 0) = subB a b := andNot_bits ⟨a, ha⟩ ⟨b, hb⟩

theorem meetB_comm (a b : Nat) : meetB a b = meetB b a := by unfold meetB; rw [Nat.and_comm]

end Go.Proofs.Ytomndhkpmfdeiaa
