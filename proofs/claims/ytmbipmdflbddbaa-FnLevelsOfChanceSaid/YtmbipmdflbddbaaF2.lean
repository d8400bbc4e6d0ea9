/- Fractions of both packages: validity, and a quotient in lowest terms. -/
import Derived.Test.YtmbipmdflbddbaaM3
set_option linter.unusedVariables false
set_option linter.unusedSimpArgs false
namespace Go.Proofs.Ytmbipmdflbddbaa
open Go.RowKit

/-- A valid fraction in lowest terms. -/
def fracB (n d : Int) : Bool := inB n (-1000000000) 1000000000 && (inB d 1 1000000000 && decide (Nat.gcd n.natAbs d.natAbs = 1))

theorem reads2 (w : World) (a b : Int) (t : TypeId) : Reads (w.alloc (.cells #[.int .i64 a, .int .i64 b] t)) (some ⟨w.heap.size, 0, none⟩) [a, b] := by
  intro k hk
  refine ⟨w.heap.size, 0, rfl, by simp, ?_⟩
  rw [World.cell?_alloc_at _ _ _ _ (by simp)]
  have : k = 0 ∨ k = 1 := by simp at hk; omega
  rcases this with rfl | rfl <;> rfl

theorem gcdL_two (a b : Int) : gcdL [a, b] = Nat.gcd a.natAbs b.natAbs := by simp [gcdL]

theorem allB_two {low high a b : Int} (h1 : low ≤ a) (h2 : a ≤ high) (h3 : low ≤ b) (h4 : b ≤ high) : allB low high [a, b] = true := by
  simp [allB, inB]; omega

theorem divisor2_any (a b : Int) (w : World) (t : TypeId) (k c : Nat) (hk : k = w.heap.size) (h1 : -4611686018427387904 ≤ a) (h2 : a ≤ 4611686018427387904) (h3 : -4611686018427387904 ≤ b) (h4 : b ≤ 4611686018427387904) :
    Calls Try.prog 97 #[.slice (some ⟨k, 0, none⟩) 2 c] (w.alloc (.cells #[.int .i64 a, .int .i64 b] t)) fun e w' => e = .returned (.int .i64 (Nat.gcd a.natAbs b.natAbs : Nat)) ∧ Below w.heap.size w w' := by
  subst hk
  exact (divisorOf_any (some ⟨w.heap.size, 0, none⟩) c [a, b] _ (reads2 w a b t) (by simp) (allB_two h1 h2 h3 h4)).mono fun e w' ⟨he, n, hw⟩ => ⟨by rw [he, gcdL_two], by rw [hw]; exact below_drewN ((Below.refl _ _).alloc (Nat.le_refl _) _) _⟩

/-- The divisor with the denominator's sign. -/
def lowG (num den : Int) : Int := if den < 0 then -(Nat.gcd num.natAbs den.natAbs : Nat) else (Nat.gcd num.natAbs den.natAbs : Nat)
def lowOk (num den : Int) : Bool := fracB (num.tdiv (lowG num den)) (den.tdiv (lowG num den))
def lowN (num den : Int) : Int := if lowOk num den = true then num.tdiv (lowG num den) else 0
def lowD (num den : Int) : Int := if lowOk num den = true then den.tdiv (lowG num den) else 0

theorem gcd_bd (a b : Int) (h1 : -4611686018427387904 ≤ a) (h2 : a ≤ 4611686018427387904) (h3 : -4611686018427387904 ≤ b) (h4 : b ≤ 4611686018427387904) (h0 : b ≠ 0) :
    1 ≤ ((Nat.gcd a.natAbs b.natAbs : Nat) : Int) ∧ ((Nat.gcd a.natAbs b.natAbs : Nat) : Int) ≤ 4611686018427387904 := by
  have hb : 0 < b.natAbs := by omega
  have := Nat.gcd_pos_of_pos_right a.natAbs hb
  have := Nat.gcd_le_right a.natAbs hb
  omega

theorem tdiv_bd (a g : Int) (h1 : -4611686018427387904 ≤ a) (h2 : a ≤ 4611686018427387904) : -4611686018427387904 ≤ a.tdiv g ∧ a.tdiv g ≤ 4611686018427387904 := by
  have h : (a.tdiv g).natAbs ≤ a.natAbs := by rw [Int.natAbs_tdiv]; exact Nat.div_le_self _ _
  omega

end Go.Proofs.Ytmbipmdflbddbaa
