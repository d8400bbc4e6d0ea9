/- Levels: what each exported function of both packages returns. -/
import Derived.Test.YtjmfjgoehicgcaaL9
set_option linter.unusedVariables false
set_option linter.unusedSimpArgs false
namespace Go.Proofs.Ytjmfjgoehicgcaa
open Go.RowKit

structure LvOk (xs : List Int) : Prop where
  l1 : 1 ≤ xs.length
  l4 : xs.length ≤ 4
  all : allB 0 1000000 xs = true
  top : 0 < topL xs

theorem lvB_ok {xs : List Int} (h : lvB xs = true) : LvOk xs := by
  simp only [lvB, Bool.and_eq_true, decide_eq_true_eq] at h
  obtain ⟨⟨h1, h2⟩, h3⟩ := h
  have h1' : 1 ≤ (xs.length : Int) ∧ (xs.length : Int) ≤ 4 := by simpa [szB, inB] using h1
  exact ⟨by omega, by omega, h2, h3⟩

/-- What CutLevels returns. -/
def cutL (xs : List Int) (level : Int) : Int := if lvB xs then (cutTo xs level xs.length : Nat) else -1

/-- Valid levels and a set of their answers. -/
def lvsB (xs : List Int) (a : Int) : Bool := lvB xs && setB xs.length a

/-- What PossibleLevel returns. -/
def posL (xs : List Int) (a : Int) : Int := if lvsB xs a then posTo xs a.toNat xs.length else -1

theorem lvB_sz {xs : List Int} (h : lvB xs = true) : szB xs.length = true := by
  have := lvB_ok h
  have h1 := this.l1
  have h4 := this.l4
  simp [szB, inB]; omega

theorem fullSet_any (s : Int) (w : World) (h1 : 1 ≤ s) (h4 : s ≤ 4) :
    Calls Try.prog 85 #[.int .i64 s] w fun e w' => e = .returned (.int .i64 (pow2 s - 1)) ∧ w = w' := by
  have hpw := pow2_wrap s h1 h4
  have hbd := pow2_bd s h1 h4
  obtain ⟨hb1, hb2⟩ := hbd
  go_enter Try.func85, Try.ntmps85
  go_wp2
  go_ret
  exact ⟨rfl, rfl⟩

/-- The other answers. -/
def othB (n a : Nat) : Nat := 2 ^ n - 1 - a

theorem xor_bits : ∀ (n : Fin 5) (a : Fin 16), a.val < 2 ^ n.val → bits BinOp.xor IntKind.i64 ((2 ^ n.val - 1 : Int)) (a.val : Int) = ((othB n.val a.val : Nat) : Int) := by decide +kernel

theorem pow2_nat (n : Nat) : pow2 (n : Int) = ((2 ^ n : Nat) : Int) := by simp [pow2]

theorem xor_full (n a : Nat) (hn : n ≤ 4) (ha : a < 2 ^ n) : bits BinOp.xor IntKind.i64 (pow2 (n : Int) - 1) (a : Int) = ((othB n a : Nat) : Int) := by
  have h16 : a < 16 := lt16_of ha hn
  have := xor_bits ⟨n, by omega⟩ ⟨a, h16⟩ ha
  rw [← this, pow2_nat]
  simp

theorem sub_full (n a : Nat) (ha : a < 2 ^ n) : pow2 (n : Int) - 1 - (a : Int) = ((othB n a : Nat) : Int) := by
  rw [pow2_nat, othB]; omega

theorem othB_lt (n a : Nat) (hn : n ≤ 4) : othB n a < 16 := by
  have : 2 ^ n ≤ 2 ^ 4 := Nat.pow_le_pow_right (by omega) hn
  unfold othB; omega

/-- What NecessaryLevel returns. -/
def necL (xs : List Int) (a : Int) : Int := if lvsB xs a then topL xs - posTo xs (othB xs.length a.toNat) xs.length else -1

theorem topL_bd {xs : List Int} (h : allB 0 1000000 xs = true) : 0 ≤ topL xs ∧ topL xs ≤ 1000000 := by
  refine ⟨(le_foldl_max xs 0).1, ?_⟩
  have hall : ∀ x ∈ xs, x ≤ 1000000 := fun x hx => by have := List.all_eq_true.1 h x hx; simp [inB] at this; omega
  unfold topL
  clear h
  suffices H : ∀ (l : List Int) (m : Int), m ≤ 1000000 → (∀ x ∈ l, x ≤ 1000000) → l.foldl max m ≤ 1000000 from H xs 0 (by omega) hall
  intro l
  induction l with
  | nil => intro m hm _; exact hm
  | cons x l ih => intro m hm hl; exact ih _ (by have := hl x (by simp); omega) (fun y hy => hl y (by simp [hy]))

theorem posTo_bd {xs : List Int} (h : allB 0 1000000 xs = true) (a k : Nat) (hk : k ≤ xs.length) : 0 ≤ posTo xs a k ∧ posTo xs a k ≤ 1000000 := by
  induction k with
  | zero => simp [posTo]
  | succ k ih =>
    have h1 := ih (by omega)
    have h2 := allB_nth h k (by omega)
    rw [posTo_succ]
    split <;> omega

end Go.Proofs.Ytjmfjgoehicgcaa

