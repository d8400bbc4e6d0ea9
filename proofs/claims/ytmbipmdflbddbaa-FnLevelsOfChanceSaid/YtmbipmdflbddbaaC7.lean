/- Cutting, focusing, learning: both packages. -/
import Derived.Test.YtmbipmdflbddbaaK7
set_option linter.unusedVariables false
set_option linter.unusedSimpArgs false
namespace Go.Proofs.Ytmbipmdflbddbaa
open Go.RowKit

/-- A valid mass and a set of its answers. -/
def msB (s : Int) (xs : List Int) (a : Int) : Bool := massB s xs && setB s a

/-- What a function returns that makes a mass of parts under a test. -/
def gS (g : Bool) (s : Int) (L : List Int) : Int := if g = true then mkS s L else 0
def gOk (g : Bool) (s : Int) (L : List Int) : Bool := g && mkOk s L
def gL (g : Bool) (s : Int) (L : List Int) : List Int := if g = true then mkL s L else []
theorem gL_len (g : Bool) (s : Int) (L : List Int) : (gL g s L).length ≤ L.length := by unfold gL; split <;> simp [mkL_len]

theorem MassOk.sz {s : Int} {xs : List Int} (h : MassOk s xs) : szB s = true := by have := h.s1; have := h.s4; simp [szB, inB]; omega

theorem and_nat (a b : Nat) (ha : a < 16) (hb : b < 16) : bits BinOp.and IntKind.i64 (a : Int) (b : Int) = ((a &&& b : Nat) : Int) := and_bits ⟨a, ha⟩ ⟨b, hb⟩

/-- The parts within a set. -/
def cutP (a : Nat) (xs : List Int) : List Int := accTo (fun b => a &&& b) xs (zeros xs.length) xs.length
theorem cutP_len (a : Nat) (xs : List Int) : (cutP a xs).length = xs.length := by rw [cutP, accTo_len, zeros_len]
theorem cutP_all (a : Nat) (xs : List Int) (h : allB 0 1000000 xs = true) : allB 0 (1000000 * xs.length) (cutP a xs) = true := accTo_all _ _ _ h (by omega) (zeros_all _) _ (Nat.le_refl _)

/-- A mass, boxed, and the result's variable: the beginning of many functions. -/
theorem boxR (w : World) (s : Int) (p : Option Addr) (m c : Nat) : ∃ W : World, W = (w.alloc (.cells #[.int .i64 s, .slice p m c] 24)).alloc (.cells #[.int .i64 0, .slice none 0 0] 24) ∧
    Below w.heap.size w W ∧ W.heap.size = w.heap.size + 2 ∧ VarInv W w.heap.size s (.slice p m c) ∧ VarInv W (w.heap.size + 1) 0 (.slice none 0 0) := by
  refine ⟨_, rfl, (belowAlloc _ _).thenB (belowAlloc _ _), by simp, (VarInv.made w _ _ _).later (belowAlloc _ _), ?_⟩
  have h := VarInv.made (w.alloc (.cells #[.int .i64 s, .slice p m c] 24)) 0 (.slice none 0 0) 24
  rw [show (w.alloc (.cells #[.int .i64 s, .slice p m c] 24)).heap.size = w.heap.size + 1 by simp] at h
  exact h

theorem gNo {g : Bool} {s : Int} {L : List Int} (h : g = false) : gS g s L = 0 ∧ gOk g s L = false ∧ gL g s L = [] := by subst h; exact ⟨rfl, rfl, rfl⟩
theorem gYes {g : Bool} {s : Int} {L : List Int} (h : g = true) : gS g s L = mkS s L ∧ gOk g s L = mkOk s L ∧ gL g s L = mkL s L := by subst h; exact ⟨rfl, rfl, rfl⟩

theorem cutP_wide (a : Nat) (xs : List Int) (hl : xs.length ≤ 16) (h : allB 0 1000000 xs = true) : allB 0 4611686018427387904 (cutP a xs) = true :=
  allB_wider (cutP_all a xs h) (by omega) (by omega)

theorem cutR_len (s : Int) (xs : List Int) (a : Int) (h : xs.length ≤ 1048576) : (gL (msB s xs a) s (cutP a.toNat xs)).length ≤ 1048576 := by
  have := gL_len (msB s xs a) s (cutP a.toNat xs)
  rw [cutP_len] at this
  omega

end Go.Proofs.Ytmbipmdflbddbaa
