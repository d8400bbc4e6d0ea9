/- Normal masses, and the least chance of a set among cases of another one: both packages. -/
import Derived.Test.YtjmfjgoehicgcaaV7
import Derived.Test.YtjmfjgoehicgcaaMgZH
set_option linter.unusedVariables false
set_option linter.unusedSimpArgs false
namespace Go.Proofs.Ytjmfjgoehicgcaa
open Go.RowKit

/-- A valid mass with nothing for the empty set. -/
def normB (s : Int) (xs : List Int) : Bool := massB s xs && nth xs 0 == 0

/-- How much is implied. -/
def imS (a : Nat) (xs : List Int) : Int := sumTo (inSet a) xs xs.length

theorem imS_bd (a : Nat) {s : Int} {xs : List Int} (h : MassOk s xs) : 0 ≤ imS a xs ∧ imS a xs ≤ 16000000 := by
  have := sumTo_bd (inSet a) xs h.all (by omega) xs.length (Nat.le_refl _)
  have := h.l16
  unfold imS; omega

theorem iImpl_any (s : Int) (p : Option Addr) (c : Nat) (xs : List Int) (a : Nat) (w : World) (hx : Reads w p xs) (hxm : xs.length ≤ 16) (ha : a < 16) (hr : allB 0 1000000 xs = true) :
    Calls Try.prog 83 #[.agg #[.int .i64 s, .slice p xs.length c], .int .i64 a] w fun e w' => e = .returned (.int .i64 (imS a xs)) ∧ Below w.heap.size w w' := impliedPart_any s p c xs a w hx hxm ha hr

theorem within_bits : ∀ a b k : Fin 16, inSet a.val k.val = true → inSet (a.val &&& b.val) k.val = true ∨ meetB (dif a.val b.val) k.val = true := by decide +kernel

/-- What is implied is implied by the common part, or possible with the rest. -/
theorem low_pos (a b : Nat) (ha : a < 16) (hb : b < 16) (xs : List Int) (h : allB 0 1000000 xs = true) (hx : xs.length ≤ 16) : ∀ k, k ≤ xs.length → sumTo (inSet a) xs k ≤ sumTo (inSet (a &&& b)) xs k + sumTo (meetB (dif a b)) xs k := by
  intro k hk
  induction k with
  | zero => simp [sumTo]
  | succ k ih =>
    have h1 := ih (by omega)
    have h2 := allB_nth h k (by omega)
    have h3 := within_bits ⟨a, ha⟩ ⟨b, hb⟩ ⟨k, by omega⟩
    rw [sumTo_succ, sumTo_succ, sumTo_succ]
    cases hm : inSet a k
    · cases h4 : inSet (a &&& b) k <;> cases h5 : meetB (dif a b) k <;> simp <;> omega
    · rcases h3 hm with h4 | h4
      · cases h5 : meetB (dif a b) k <;> simp [show inSet (a &&& b) k = true from h4] <;> omega
      · cases h5 : inSet (a &&& b) k <;> simp [show meetB (dif a b) k = true from h4] <;> omega

def lgG (s : Int) (xs : List Int) (b a : Int) : Bool := normB s xs && (setB s a && (setB s b && !(imS a.toNat xs == 0)))

end Go.Proofs.Ytjmfjgoehicgcaa
