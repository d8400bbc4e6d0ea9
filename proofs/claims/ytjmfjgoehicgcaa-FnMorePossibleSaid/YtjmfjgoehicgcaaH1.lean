/- Focal sets, chances: both packages. -/
import Derived.Test.YtjmfjgoehicgcaaC7
set_option linter.unusedVariables false
set_option linter.unusedSimpArgs false
namespace Go.Proofs.Ytjmfjgoehicgcaa
open Go.RowKit

/-- The number of the answers of a set. -/
def pop (a : Nat) : Nat := (a.testBit 0).toNat + (a.testBit 1).toNat + (a.testBit 2).toNat + (a.testBit 3).toNat

theorem count_bits : ∀ a : Fin 16, bits BinOp.and IntKind.i64 (a.val : Int) 1 = ((a.val % 2 : Nat) : Int) ∧ pop a.val = a.val % 2 + pop (a.val / 2) ∧ pop a.val ≤ 4 ∧ (pop a.val = 0 → a.val = 0) := by decide +kernel

theorem pop_le (a : Nat) (h : a < 16) : pop a ≤ 4 := (count_bits ⟨a, h⟩).2.2.1

def focL (xs : List Int) (k : Nat) : List Int := ((List.range k).filter fun a => nth xs a != 0).map fun a => ((a : Nat) : Int)

theorem focL_yes {xs : List Int} {k : Nat} (h : nth xs k ≠ 0) : focL xs (k + 1) = focL xs k ++ [(k : Int)] := by
  simp [focL, List.range_succ, List.filter_append, h]

theorem focL_no {xs : List Int} {k : Nat} (h : nth xs k = 0) : focL xs (k + 1) = focL xs k := by
  simp [focL, List.range_succ, List.filter_append, h]

theorem focL_len (xs : List Int) (k : Nat) : (focL xs k).length ≤ k := by
  have := List.length_filter_le (fun a => nth xs a != 0) (List.range k)
  simpa [focL] using this

theorem focL_mem {xs : List Int} {k : Nat} {x : Int} (h : x ∈ focL xs k) : ∃ a : Nat, x = a ∧ a < k ∧ nth xs a ≠ 0 := by
  simp [focL] at h
  obtain ⟨a, ⟨h1, h2⟩, rfl⟩ := h
  exact ⟨a, rfl, h1, h2⟩

theorem focL_at (xs : List Int) (k i : Nat) (h : i < (focL xs k).length) : ∃ a : Nat, nth (focL xs k) i = a ∧ a < k ∧ nth xs a ≠ 0 :=
  focL_mem (by rw [nth_eq _ _ h]; exact List.getElem_mem h)

/-- A set of one answer. -/
def single (a : Nat) : Bool := pop a == 1

theorem single_bits : ∀ a : Fin 16, a.val ≠ 0 → (bits BinOp.and IntKind.i64 (a.val : Int) ((a.val : Int) - 1) != 0) = !single a.val := by decide +kernel

def chTo (xs : List Int) (k : Nat) : Bool := (List.range k).all fun a => nth xs a == 0 || single a

theorem chTo_succ (xs : List Int) (k : Nat) : chTo xs (k + 1) = (chTo xs k && (nth xs k == 0 || single k)) := by simp [chTo, List.range_succ]

theorem chTo_false {xs : List Int} {a k : Nat} (h : a < k) (h0 : nth xs a ≠ 0) (h1 : single a = false) : chTo xs k = false := by
  cases e : chTo xs k
  · rfl
  · unfold chTo at e
    rw [List.all_eq_true] at e
    have := e a (List.mem_range.mpr h)
    simp [h0, h1] at this

theorem chTo_foc {xs : List Int} {k : Nat} (h : ∀ j, j < (focL xs k).length → single (nth (focL xs k) j).toNat = true) : chTo xs k = true := by
  unfold chTo
  rw [List.all_eq_true]
  intro a ha
  rw [List.mem_range] at ha
  by_cases h0 : nth xs a = 0
  · simp [h0]
  · have hm : (a : Int) ∈ focL xs k := by
      simp only [focL, List.mem_map, List.mem_filter, List.mem_range]
      exact ⟨a, ⟨ha, by simpa using h0⟩, rfl⟩
    obtain ⟨j, hj, e⟩ := List.getElem_of_mem hm
    have := h j hj
    rw [nth_eq _ _ hj, e] at this
    simpa [h0] using this

def chB (s : Int) (xs : List Int) : Bool := massB s xs && chTo xs xs.length

end Go.Proofs.Ytjmfjgoehicgcaa
