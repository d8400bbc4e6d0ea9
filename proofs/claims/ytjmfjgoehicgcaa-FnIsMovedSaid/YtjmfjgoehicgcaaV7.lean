/- What is possible, believed, or least, given a set: both packages. -/
import Derived.Test.YtjmfjgoehicgcaaMgK7
import Derived.Test.YtjmfjgoehicgcaaF2
set_option linter.unusedVariables false
set_option linter.unusedSimpArgs false
namespace Go.Proofs.Ytjmfjgoehicgcaa
open Go.RowKit

theorem VarInv.two {w : World} {m : Nat} {s : Int} {v : Value} (h : VarInv w m s v) (a : Int) (b : Value) : VarInv ((w.setCell ⟨m, 0, none⟩ (.int .i64 a)).setCell ⟨m, 1, none⟩ b) m a b :=
  ⟨by rw [World.cell?_setCell_other _ _ _ _ (by simp)]; exact World.cell?_setCell_same _ _ _ h.c0, World.cell?_setCell_same _ _ _ (by rw [World.cell?_setCell_other _ _ _ _ (by simp)]; exact h.c1), by rw [World.frozen?_setCell, World.frozen?_setCell]; exact h.f0, by rw [World.frozen?_setCell, World.frozen?_setCell]; exact h.f1⟩

theorem VarInv.other2 {w : World} {m : Nat} {s : Int} {v : Value} (h : VarInv w m s v) (k : Nat) (hk : k ≠ m) (x y : Value) : VarInv ((w.setCell ⟨k, 0, none⟩ x).setCell ⟨k, 1, none⟩ y) m s v :=
  (h.other ⟨k, 0, none⟩ hk x).other ⟨k, 1, none⟩ hk y

/-- What a function returns that makes a fraction under a test. -/
def fN (g : Bool) (num den : Int) : Int := if g = true then lowN num den else 0

def fD (g : Bool) (num den : Int) : Int := if g = true then lowD num den else 0

def fOk (g : Bool) (num den : Int) : Bool := g && lowOk num den

theorem fNo {g : Bool} {num den : Int} (h : g = false) : fN g num den = 0 ∧ fD g num den = 0 ∧ fOk g num den = false := by subst h; exact ⟨rfl, rfl, rfl⟩

theorem fYes {g : Bool} {num den : Int} (h : g = true) : fN g num den = lowN num den ∧ fD g num den = lowD num den ∧ fOk g num den = lowOk num den := by subst h; exact ⟨rfl, rfl, rfl⟩

theorem wrapIn (x : Int) (h1 : -4611686018427387904 ≤ x) (h2 : x ≤ 4611686018427387904) : IntKind.i64.wrap x = x := by
  rw [IntKind.wrap_i64]
  omega

/-- How possible a set is. -/
def possS (a : Nat) (xs : List Int) : Int := sumTo (meetB a) xs xs.length

def implS (a : Nat) (xs : List Int) : Int := sumTo (fun b => subB b a) xs xs.length

theorem possS_bd (a : Nat) {s : Int} {xs : List Int} (h : MassOk s xs) : 0 ≤ possS a xs ∧ possS a xs ≤ 16000000 := by
  have := sumTo_bd (meetB a) xs h.all (by omega) xs.length (Nat.le_refl _)
  have := h.l16
  unfold possS; omega

theorem implS_bd (a : Nat) {s : Int} {xs : List Int} (h : MassOk s xs) : 0 ≤ implS a xs ∧ implS a xs ≤ 16000000 := by
  have := sumTo_bd (fun b => subB b a) xs h.all (by omega) xs.length (Nat.le_refl _)
  have := h.l16
  unfold implS; omega

/-- The answers of the first set that the second has not. -/
def dif (a b : Nat) : Nat := a - (a &&& b)

theorem dif_bits : ∀ a b : Fin 16, bits BinOp.andNot IntKind.i64 (a.val : Int) (b.val : Int) = ((dif a.val b.val : Nat) : Int) := by decide +kernel

theorem dif_nat (a b : Nat) (ha : a < 16) (hb : b < 16) : bits BinOp.andNot IntKind.i64 (a : Int) (b : Int) = ((dif a b : Nat) : Int) := dif_bits ⟨a, ha⟩ ⟨b, hb⟩

theorem dif_lt (a b : Nat) (ha : a < 16) : dif a b < 16 := by unfold dif; omega

theorem and_lt16 (a b : Nat) (ha : a < 16) : a &&& b < 16 := Nat.lt_of_le_of_lt Nat.and_le_left ha

theorem iPoss_any (s : Int) (p : Option Addr) (c : Nat) (xs : List Int) (a : Nat) (w : World) (hx : Reads w p xs) (hxm : xs.length ≤ 16) (ha : a < 16) (hr : allB 0 1000000 xs = true) :
    Calls Try.prog 112 #[.agg #[.int .i64 s, .slice p xs.length c], .int .i64 a] w fun e w' => e = .returned (.int .i64 (possS a xs)) ∧ Below w.heap.size w w' := possiblePart_any s p c xs a w hx hxm ha hr

theorem sPoss_any (s : Int) (p : Option Addr) (c : Nat) (xs : List Int) (a : Nat) (w : World) (hx : Reads w p xs) (hxm : xs.length ≤ 16) (ha : a < 16) (hr : allB 0 1000000 xs = true) :
    Calls Try.prog 79 #[.agg #[.int .i64 s, .slice p xs.length c], .int .i64 a] w fun e w' => e = .returned (.int .i64 (possS a xs)) ∧ Below w.heap.size w w' := l4Possible_any s p c xs a w hx hxm ha hr

def pgG (s : Int) (xs : List Int) (b a : Int) : Bool := msB s xs a && (msB s xs b && !(possS a.toNat xs == 0))

/-- All other answers. -/
def othP (s : Int) (xs : List Int) (b : Int) : Int := if msB s xs b = true then xs.length - 1 - b else -1

theorem othNo {s : Int} {xs : List Int} {b : Int} (h : msB s xs b = false) : othP s xs b = -1 := by simp [othP, h]

theorem othYes {s : Int} {xs : List Int} {b : Int} (h : msB s xs b = true) : othP s xs b = xs.length - 1 - b := by simp [othP, h]

end Go.Proofs.Ytjmfjgoehicgcaa
