/- Cases in which a set is known: FocusMass, both packages. -/
import Derived.Test.YtjmfjgoehicgcaaC7
set_option linter.unusedVariables false
set_option linter.unusedSimpArgs false
namespace Go.Proofs.Ytjmfjgoehicgcaa
open Go.RowKit

/-- A set, not none, within another one. -/
def focT (a b : Nat) : Bool := b != 0 && subB b a

def focTo (a : Nat) (xs zs : List Int) (k : Nat) : List Int := (List.range k).foldl (fun zs b => if focT a b then zs.set b (nth xs b) else zs) zs

theorem focTo_succ (a : Nat) (xs zs : List Int) (k : Nat) : focTo a xs zs (k + 1) = if focT a k then (focTo a xs zs k).set k (nth xs k) else focTo a xs zs k := by simp [focTo, List.range_succ]

theorem focTo_yes {a : Nat} {xs zs : List Int} {k : Nat} (h : focT a k = true) : focTo a xs zs (k + 1) = (focTo a xs zs k).set k (nth xs k) := by rw [focTo_succ, h]; rfl

theorem focTo_no {a : Nat} {xs zs : List Int} {k : Nat} (h : focT a k = false) : focTo a xs zs (k + 1) = focTo a xs zs k := by rw [focTo_succ, h]; rfl

theorem focTo_one (a : Nat) (xs zs : List Int) : focTo a xs zs 1 = zs := by simp [focTo, focT]

theorem focTo_len (a : Nat) (xs zs : List Int) (k : Nat) : (focTo a xs zs k).length = zs.length := by
  induction k with
  | zero => rfl
  | succ k ih => rw [focTo_succ]; split <;> simp [ih]

theorem allB_set {low high y : Int} {zs : List Int} (k : Nat) (h : allB low high zs = true) (h1 : low ≤ y) (h2 : y ≤ high) : allB low high (zs.set k y) = true := by
  rw [allB_iff] at *
  intro j hj
  rw [List.length_set] at hj
  have := h j hj
  rw [nth_eq _ _ (by simpa using hj), List.getElem_set]
  rw [nth_eq _ _ hj] at this
  split <;> omega

theorem focTo_all (a : Nat) (xs zs : List Int) (M : Int) (hM : 0 ≤ M) (hx : allB 0 M xs = true) (hz : allB 0 0 zs = true) (k : Nat) (hk : k ≤ xs.length) : allB 0 M (focTo a xs zs k) = true := by
  induction k with
  | zero => exact allB_wider hz (by omega) hM
  | succ k ih =>
    rw [focTo_succ]
    have h1 := allB_nth hx k (by omega)
    split
    · exact allB_set k (ih (by omega)) h1.1 h1.2
    · exact ih (by omega)

def focP (a : Nat) (xs : List Int) : List Int := focTo a xs (zeros xs.length) xs.length

theorem focP_len (a : Nat) (xs : List Int) : (focP a xs).length = xs.length := by rw [focP, focTo_len, zeros_len]

theorem focP_wide (a : Nat) (xs : List Int) (h : allB 0 1000000 xs = true) : allB 0 4611686018427387904 (focP a xs) = true :=
  allB_wider (focTo_all a xs _ _ (by omega) h (zeros_all _) _ (Nat.le_refl _)) (by omega) (by omega)

theorem focR_len (s : Int) (xs : List Int) (a : Int) (h : xs.length ≤ 1048576) : (gL (msB s xs a) s (focP a.toNat xs)).length ≤ 1048576 := by
  have := gL_len (msB s xs a) s (focP a.toNat xs)
  rw [focP_len] at this
  omega

end Go.Proofs.Ytjmfjgoehicgcaa
