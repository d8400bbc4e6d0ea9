/- Sizes and sets: the small tests of both packages. -/
import Derived.Test.YtjmfjgoehicgcaaBase
set_option linter.unusedVariables false
set_option linter.unusedSimpArgs false
namespace Go.Proofs.Ytjmfjgoehicgcaa
open Go.RowKit

def inB (n low high : Int) : Bool := decide (low ≤ n ∧ n ≤ high)

theorem l1In_any (n low high : Int) (w : World) :
    Calls Try.prog 93 #[.int .i64 n, .int .i64 low, .int .i64 high] w fun e w' => e = .returned (.bool (inB n low high)) ∧ w = w' := by
  by_cases h1 : low ≤ n <;> by_cases h2 : n ≤ high
  all_goals
    go_enter Try.func93, Try.ntmps93
    go_wp2
    go_ret
    exact ⟨ret_bool (by simp [inB, h1, h2]), rfl⟩

theorem mem_nth (xs : List Int) (k : Nat) (h : k < xs.length) : nth xs k ∈ xs := by rw [nth_eq xs k h]; exact List.getElem_mem h

/-- All numbers lie in a range. -/
def allB (low high : Int) (xs : List Int) : Bool := xs.all fun x => inB x low high

theorem allB_snoc (low high : Int) (xs : List Int) (x : Int) : allB low high (xs ++ [x]) = (allB low high xs && inB x low high) := by simp [allB]

theorem allB_false (low high : Int) (xs : List Int) (k : Nat) (hk : k < xs.length) (h : inB (nth xs k) low high = false) : allB low high xs = false := by
  rw [Bool.eq_false_iff]
  intro hh
  rw [allB, List.all_eq_true] at hh
  have := hh _ (List.getElem_mem hk)
  rw [nth_eq xs k hk] at h
  rw [h] at this
  cases this

theorem allB_nth {low high : Int} {xs : List Int} (h : allB low high xs = true) (k : Nat) (hk : k < xs.length) : low ≤ nth xs k ∧ nth xs k ≤ high := by
  have := List.all_eq_true.1 h _ (mem_nth xs k hk)
  simpa [inB] using this

theorem allB_take {low high : Int} {xs : List Int} (h : allB low high xs = true) (k : Nat) : allB low high (xs.take k) = true := by
  unfold allB at *
  rw [List.all_eq_true] at *
  exact fun x hx => h x (List.mem_of_mem_take hx)

theorem allB_wider {low high low' high' : Int} {xs : List Int} (h : allB low high xs = true) (h1 : low' ≤ low) (h2 : high ≤ high') : allB low' high' xs = true := by
  unfold allB at *
  rw [List.all_eq_true] at *
  intro x hx
  have := h x hx
  simp [inB] at *
  omega

def szB (n : Int) : Bool := inB n 1 4

theorem SizeValid_any (n : Int) (w : World) :
    Calls Try.prog 101 #[.int .i64 n] w fun e w' => e = .returned (.bool (szB n)) ∧ w = w' := by
  go_enter Try.func101, Try.ntmps101
  go_wp2_with (go_at_call 93; refine (l1In_any _ _ _ _).mono ?_; rintro e w' ⟨rfl, rfl⟩)
  go_ret
  exact ⟨rfl, rfl⟩

theorem isSize_any (n : Int) (w : World) :
    Calls Try.prog 70 #[.int .i64 n] w fun e w' => e = .returned (.bool (szB n)) ∧ w = w' := by
  by_cases h1 : 1 ≤ n <;> by_cases h2 : n ≤ 4
  all_goals
    go_enter Try.func70, Try.ntmps70
    go_wp2
    go_ret
    exact ⟨ret_bool (by simp [szB, inB, h1, h2]), rfl⟩

end Go.Proofs.Ytjmfjgoehicgcaa
