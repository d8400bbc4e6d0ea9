/- What the program exports on fractions, what is believed and possible as fractions, other answers. -/
import Derived.Test.YtmbipmdflbddbaaE1
import Derived.Test.YtmbipmdflbddbaaL9b
set_option linter.unusedVariables false
set_option linter.unusedSimpArgs false
namespace Go.Proofs.Ytmbipmdflbddbaa
open Go.RowKit

def lessB (n d m e : Int) : Bool := fracB n d && (fracB m e && decide (n * e < m * d))
def mnN (n d : Int) : Int := if fracB n d = true then -n else 0
def mnD (n d : Int) : Int := if fracB n d = true then d else 0
def twoF (n d m e : Int) : Bool := fracB n d && fracB m e
def otR (s a : Int) : Int := if (szB s && setB s a) = true then pow2 s - 1 - a else -1

theorem frac_bd {n d : Int} (h : fracB n d = true) : -1000000000 ≤ n ∧ n ≤ 1000000000 ∧ 1 ≤ d ∧ d ≤ 1000000000 := by
  simp only [fracB, Bool.and_eq_true, decide_eq_true_eq] at h
  have h1 : -1000000000 ≤ n ∧ n ≤ 1000000000 := by simpa [inB] using h.1
  have h2 : 1 ≤ d ∧ d ≤ 1000000000 := by simpa [inB] using h.2.1
  exact ⟨h1.1, h1.2, h2.1, h2.2⟩
theorem mulF (a b : Int) (h1 : -1000000000 ≤ a) (h2 : a ≤ 1000000000) (h3 : -1000000000 ≤ b) (h4 : b ≤ 1000000000) : -1000000000000000000 ≤ a * b ∧ a * b ≤ 1000000000000000000 := by
  have h : (a * b).natAbs ≤ 1000000000 * 1000000000 := by
    rw [Int.natAbs_mul]; exact Nat.mul_le_mul (by omega) (by omega)
  omega
theorem mulF1 (a b : Int) (h1 : 1 ≤ a) (h3 : 1 ≤ b) : a * b ≠ 0 := Int.mul_ne_zero (by omega) (by omega)

theorem xorFull2 : ∀ k : Fin 5, ∀ a : Fin 16, a.val < 2 ^ k.val → bits .xor .i64 (2 ^ k.val - 1 : Int) (a.val : Int) = (2 ^ k.val : Int) - 1 - a.val := by decide +kernel

theorem xorPow2 (s : Int) (a : Nat) (h1 : 1 ≤ s) (h4 : s ≤ 4) (ha : (a : Int) < pow2 s) : bits .xor .i64 (pow2 s - 1) (a : Int) = pow2 s - 1 - a := by
  obtain ⟨k, rfl⟩ := Int.eq_ofNat_of_zero_le (show 0 ≤ s by omega)
  have e : pow2 (k : Int) = (2 ^ k : Int) := by simp [pow2]
  have hb := pow2_bd k h1 h4
  have h2 : a < 2 ^ k := by rw [e] at ha; exact_mod_cast ha
  have := xorFull2 ⟨k, by omega⟩ ⟨a, by omega⟩ h2
  rw [e]; exact this

end Go.Proofs.Ytmbipmdflbddbaa
