/- Levels: the program's and the reference's functions on lists of levels. -/
import Derived.Test.YtjmfjgoehicgcaaMgM3
set_option linter.unusedVariables false
set_option linter.unusedSimpArgs false
namespace Go.Proofs.Ytjmfjgoehicgcaa
open Go.RowKit

/-- The greatest number of a list, at least 0. -/
def topL (xs : List Int) : Int := xs.foldl max 0

theorem topL_snoc (xs : List Int) (x : Int) : topL (xs ++ [x]) = max (topL xs) x := by simp [topL]

theorem max_if (a b : Int) : (if a < b then b else a) = max a b := by split <;> omega

/-- Valid levels. -/
def lvB (xs : List Int) : Bool := szB xs.length && allB 0 1000000 xs && decide (0 < topL xs)

/-- The greatest number of a list that is not empty. -/
def mxL (xs : List Int) : Int := xs.foldl max (nth xs 0)

theorem foldl_max (xs : List Int) : ∀ a b : Int, xs.foldl max (max a b) = max a (xs.foldl max b) := by
  induction xs with
  | nil => intro a b; rfl
  | cons x xs ih => intro a b; simp only [List.foldl_cons]; rw [show max (max a b) x = max a (max b x) by omega]; exact ih _ _

theorem le_foldl_max (xs : List Int) : ∀ a : Int, a ≤ xs.foldl max a ∧ ∀ x ∈ xs, x ≤ xs.foldl max a := by
  induction xs with
  | nil => intro a; simp
  | cons x xs ih =>
    intro a
    simp only [List.foldl_cons]
    have h := ih (max a x)
    refine ⟨by omega, fun y hy => ?_⟩
    rcases List.mem_cons.1 hy with rfl | hy
    · omega
    · exact h.2 y hy

theorem mxL_topL (xs : List Int) (h : 0 < xs.length) (h0 : 0 ≤ nth xs 0) : mxL xs = topL xs := by
  have e := foldl_max xs (nth xs 0) 0
  have := (le_foldl_max xs 0).2 _ (mem_nth xs 0 h)
  rw [show max (nth xs 0) 0 = nth xs 0 by omega] at e
  unfold mxL topL
  rw [e]; omega

/-- The answers before x whose level is at least a number. -/
def cutTo (xs : List Int) (level : Int) (k : Nat) : Nat := (List.range k).foldl (fun s x => if level ≤ nth xs x then s ||| bit x else s) 0

theorem cutTo_succ (xs : List Int) (level : Int) (k : Nat) : cutTo xs level (k + 1) = if level ≤ nth xs k then cutTo xs level k ||| bit k else cutTo xs level k := by
  simp [cutTo, List.range_succ]

theorem cutTo_lt (xs : List Int) (level : Int) (k : Nat) : cutTo xs level k < 2 ^ k := by
  induction k with
  | zero => simp [cutTo]
  | succ k ih =>
    rw [cutTo_succ]
    split
    · exact or_lt2 _ _ ih
    · rw [Nat.pow_succ]; omega

theorem lt16_of {s k : Nat} (h : s < 2 ^ k) (hk : k ≤ 4) : s < 16 := Nat.lt_of_lt_of_le h (by have := Nat.pow_le_pow_right (n := 2) (by omega) hk; omega)

/-- The greatest level of the answers before k that a set has. -/
def posTo (xs : List Int) (a : Nat) (k : Nat) : Int := (List.range k).foldl (fun m x => if a.testBit x then max m (nth xs x) else m) 0

theorem posTo_succ (xs : List Int) (a : Nat) (k : Nat) : posTo xs a (k + 1) = if a.testBit k then max (posTo xs a k) (nth xs k) else posTo xs a k := by
  simp [posTo, List.range_succ]

end Go.Proofs.Ytjmfjgoehicgcaa



/- Levels: what each exported function of both packages returns. -/
set_option linter.unusedVariables false
set_option linter.unusedSimpArgs false
namespace Go.Proofs.Ytjmfjgoehicgcaa
open Go.RowKit

structure LvOk (xs : List Int) : Prop where
  l1 : 1 ≤ xs.length
  l4 : xs.length ≤ 4
  all : allB 0 1000000 xs = true
  top : 0 < topL xs

theorem lvB_ok {xs : List Int} (h : lvB xs = true) : LvOk xs := by
  simp only [lvB, Bool.and_eq_true, decide_eq_true_eq] at h
  obtain ⟨⟨h1, h2⟩, h3⟩ := h
  have h1' : 1 ≤ (xs.length : Int) ∧ (xs.length : Int) ≤ 4 := by simpa [szB, inB] using h1
  exact ⟨by omega, by omega, h2, h3⟩

/-- What CutLevels returns. -/
def cutL (xs : List Int) (level : Int) : Int := if lvB xs then (cutTo xs level xs.length : Nat) else -1

/-- Valid levels and a set of their answers. -/
def lvsB (xs : List Int) (a : Int) : Bool := lvB xs && setB xs.length a

/-- What PossibleLevel returns. -/
def posL (xs : List Int) (a : Int) : Int := if lvsB xs a then posTo xs a.toNat xs.length else -1

theorem lvB_sz {xs : List Int} (h : lvB xs = true) : szB xs.length = true := by
  have := lvB_ok h
  have h1 := this.l1
  have h4 := this.l4
  simp [szB, inB]; omega

theorem fullSet_any (s : Int) (w : World) (h1 : 1 ≤ s) (h4 : s ≤ 4) :
    Calls Try.prog 85 #[.int .i64 s] w fun e w' => e = .returned (.int .i64 (pow2 s - 1)) ∧ w = w' := by
  have hpw := pow2_wrap s h1 h4
  have hbd := pow2_bd s h1 h4
  obtain ⟨hb1, hb2⟩ := hbd
  go_enter Try.func85, Try.ntmps85
  go_wp2
  go_ret
  exact ⟨rfl, rfl⟩

/-- The other answers. -/
def othB (n a : Nat) : Nat := 2 ^ n - 1 - a

theorem xor_bits : ∀ (n : Fin 5) (a : Fin 16), a.val < 2 ^ n.val → bits BinOp.xor IntKind.i64 ((2 ^ n.val - 1 : Int)) (a.val : Int) = ((othB n.val a.val : Nat) : Int) := by decide +kernel

theorem pow2_nat (n : Nat) : pow2 (n : Int) = ((2 ^ n : Nat) : Int) := by simp [pow2]

theorem xor_full (n a : Nat) (hn : n ≤ 4) (ha : a < 2 ^ n) : bits BinOp.xor IntKind.i64 (pow2 (n : Int) - 1) (a : Int) = ((othB n a : Nat) : Int) := by
  have h16 : a < 16 := lt16_of ha hn
  have := xor_bits ⟨n, by omega⟩ ⟨a, h16⟩ ha
  rw [← this, pow2_nat]
  simp

theorem sub_full (n a : Nat) (ha : a < 2 ^ n) : pow2 (n : Int) - 1 - (a : Int) = ((othB n a : Nat) : Int) := by
  rw [pow2_nat, othB]; omega

theorem othB_lt (n a : Nat) (hn : n ≤ 4) : othB n a < 16 := by
  have : 2 ^ n ≤ 2 ^ 4 := Nat.pow_le_pow_right (by omega) hn
  unfold othB; omega

/-- What NecessaryLevel returns. -/
def necL (xs : List Int) (a : Int) : Int := if lvsB xs a then topL xs - posTo xs (othB xs.length a.toNat) xs.length else -1

theorem topL_bd {xs : List Int} (h : allB 0 1000000 xs = true) : 0 ≤ topL xs ∧ topL xs ≤ 1000000 := by
  refine ⟨(le_foldl_max xs 0).1, ?_⟩
  have hall : ∀ x ∈ xs, x ≤ 1000000 := fun x hx => by have := List.all_eq_true.1 h x hx; simp [inB] at this; omega
  unfold topL
  clear h
  suffices H : ∀ (l : List Int) (m : Int), m ≤ 1000000 → (∀ x ∈ l, x ≤ 1000000) → l.foldl max m ≤ 1000000 from H xs 0 (by omega) hall
  intro l
  induction l with
  | nil => intro m hm _; exact hm
  | cons x l ih => intro m hm hl; exact ih _ (by have := hl x (by simp); omega) (fun y hy => hl y (by simp [hy]))

theorem posTo_bd {xs : List Int} (h : allB 0 1000000 xs = true) (a k : Nat) (hk : k ≤ xs.length) : 0 ≤ posTo xs a k ∧ posTo xs a k ≤ 1000000 := by
  induction k with
  | zero => simp [posTo]
  | succ k ih =>
    have h1 := ih (by omega)
    have h2 := allB_nth h k (by omega)
    rw [posTo_succ]
    split <;> omega

end Go.Proofs.Ytjmfjgoehicgcaa

