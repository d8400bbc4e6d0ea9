/- Bits of sets, and whether a number is a set. -/
import Derived.Test.YtjmfjgoehicgcaaP4
set_option linter.unusedVariables false
set_option linter.unusedSimpArgs false
namespace Go.Proofs.Ytjmfjgoehicgcaa
open Go.RowKit

/-- One answer, as a set. -/
def bit (x : Nat) : Nat := 2 ^ x

theorem bit_wrap : ∀ x : Fin 4, wrap64 (2 ^ x.val) = ((bit x.val : Nat) : Int) := by
  intro x
  have : x.val = 0 ∨ x.val = 1 ∨ x.val = 2 ∨ x.val = 3 := by omega
  rcases this with h | h | h | h <;> rw [h] <;> exact IntWalk.wrap64_in _ ⟨by decide, by decide⟩
theorem bit_or : ∀ (s : Fin 16) (x : Fin 4), bits BinOp.or IntKind.i64 (s.val : Int) ((bit x.val : Nat) : Int) = ((s.val ||| bit x.val : Nat) : Int) := by decide +kernel
theorem bit_has : ∀ (s : Fin 16) (x : Fin 4), (bits BinOp.and IntKind.i64 ((s.val : Int) / 2 ^ x.val) 1 == 1) = s.val.testBit x.val := by decide +kernel
theorem or_lt : ∀ (s : Fin 16) (x : Fin 4), s.val ||| bit x.val < 16 := by decide
theorem or_lt2 : ∀ s x : Nat, s < 2 ^ x → s ||| bit x < 2 ^ (x + 1) := fun s x h =>
  Nat.or_lt_two_pow (Nat.lt_trans h (by rw [Nat.pow_succ]; have := Nat.two_pow_pos x; omega)) (by unfold bit; rw [Nat.pow_succ]; have := Nat.two_pow_pos x; omega)

theorem bit_wrap' (x : Nat) (h : x < 4) : wrap64 (2 ^ x) = ((bit x : Nat) : Int) := bit_wrap ⟨x, h⟩
theorem bit_or' (s x : Nat) (hs : s < 16) (h : x < 4) : bits BinOp.or IntKind.i64 (s : Int) ((bit x : Nat) : Int) = ((s ||| bit x : Nat) : Int) := bit_or ⟨s, hs⟩ ⟨x, h⟩
theorem bit_has' (s x : Nat) (hs : s < 16) (h : x < 4) : (bits BinOp.and IntKind.i64 ((s : Int) / 2 ^ x) 1 == 1) = s.testBit x := bit_has ⟨s, hs⟩ ⟨x, h⟩
theorem or_lt' (s x : Nat) (hs : s < 16) (h : x < 4) : s ||| bit x < 16 := or_lt ⟨s, hs⟩ ⟨x, h⟩

/-- A number is a set of so many answers. -/
def setB (s a : Int) : Bool := decide (0 ≤ a ∧ a < pow2 s)

theorem isSetOf_any (s a : Int) (w : World) (h1 : 1 ≤ s) (h4 : s ≤ 4) :
    Calls Try.prog 82 #[.int .i64 s, .int .i64 a] w fun e w' => e = .returned (.bool (setB s a)) ∧ w = w' := by
  have hpw := pow2_wrap s h1 h4
  by_cases h0 : 0 ≤ a
  · go_enter Try.func82, Try.ntmps82
    go_wp2
    go_ret
    exact ⟨ret_bool (by simp [setB, h0]), rfl⟩
  · go_enter Try.func82, Try.ntmps82
    go_wp2
    go_ret
    exact ⟨ret_bool (decide_eq_false (by omega)).symm, rfl⟩

theorem SetValid_any (s a : Int) (w : World) :
    Calls Try.prog 141 #[.int .i64 s, .int .i64 a] w fun e w' => e = .returned (.bool (szB s && setB s a)) ∧ w = w' := by
  cases hsz : szB s
  · go_enter Try.func141, Try.ntmps141
    go_wp2_with (go_at_call 101; refine (SizeValid_any _ _).mono ?_; rintro e w' ⟨rfl, rfl⟩)
    go_ret
    exact ⟨ret_bool rfl, rfl⟩
  · have hs : 1 ≤ s ∧ s ≤ 4 := by simpa [szB, inB] using hsz
    obtain ⟨hs1, hs2⟩ := hs
    have hpw := pow2_wrap s hs1 hs2
    have hbd := pow2_bd s hs1 hs2
    obtain ⟨hb1, hb2⟩ := hbd
    go_enter Try.func141, Try.ntmps141
    go_wp2_with (first | (go_at_call 101; refine (SizeValid_any _ _).mono ?_; rintro e w' ⟨rfl, rfl⟩) | (go_at_call 93; refine (l1In_any _ _ _ _).mono ?_; rintro e w' ⟨rfl, rfl⟩))
    go_ret
    exact ⟨ret_bool (by rw [Bool.true_and, inB, setB, Bool.eq_iff_iff]; simp; omega), rfl⟩

theorem setB_nat {s a : Int} (h1 : 1 ≤ s) (h4 : s ≤ 4) (h : setB s a = true) : ∃ n : Nat, a = n ∧ n < 16 ∧ (n : Int) < pow2 s := by
  have h2 : 0 ≤ a ∧ a < pow2 s := by simpa [setB] using h
  have := pow2_bd s h1 h4
  exact ⟨a.toNat, by omega, by omega, by omega⟩

end Go.Proofs.Ytjmfjgoehicgcaa
