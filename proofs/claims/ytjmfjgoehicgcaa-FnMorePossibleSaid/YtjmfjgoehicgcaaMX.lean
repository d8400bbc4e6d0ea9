/- Shares, and masses that are mixed: what they are. -/
import Derived.Test.YtjmfjgoehicgcaaN2
import Derived.Test.YtjmfjgoehicgcaaO8
import Derived.Test.YtjmfjgoehicgcaaF2
import Derived.Test.YtjmfjgoehicgcaaR1
set_option linter.unusedVariables false
set_option linter.unusedSimpArgs false
namespace Go.Proofs.Ytjmfjgoehicgcaa
open Go.RowKit

/-- A fraction between 0 and 1. -/
def shB (n d : Int) : Bool := fracB n d && (decide (0 ≤ n) && decide (n ≤ d))

theorem boxF (w : World) (n d : Int) : ∃ W : World, W = w.alloc (.cells #[.int .i64 n, .int .i64 d] 32) ∧
    Below w.heap.size w W ∧ W.heap.size = w.heap.size + 1 ∧ VarInv W w.heap.size n (.int .i64 d) :=
  ⟨_, rfl, belowAlloc _ _, by simp, VarInv.made _ _ _ _⟩

theorem isShare_any (n d : Int) (w : World) :
    Calls Try.prog 100 #[.agg #[.int .i64 n, .int .i64 d]] w fun e w' => e = .returned (.bool (shB n d)) ∧ Below w.heap.size w w' := by
  obtain ⟨W, hW, bW, hsz, b0⟩ := boxF w n d
  have HW := Lib.hid hW
  clear hW
  cases h1 : fracB n d
  · have hr : Hid (shB n d = false) := Lib.hid (by simp [shB, h1])
    have H1 := Lib.hid h1
    have c0 := b0.c0
    have c1 := b0.c1
    go_enter Try.func100, Try.ntmps100
    go_wp2_with fail
    rw [← HW.out]
    refine (isFraction_any _ _ _).mono ?_
    rintro e w1 ⟨rfl, hb1⟩
    rw [H1.out]
    have bb := bW.thenB hb1
    clear c0 c1
    go_wp2
    go_ret
    exact ⟨ret_bool hr.out.symm, bb⟩
  · have H1 := Lib.hid h1
    have c0 := b0.c0
    have c1 := b0.c1
    rcases (show n < 0 ∨ (0 ≤ n ∧ d < n) ∨ (0 ≤ n ∧ n ≤ d) by omega) with h | ⟨h, h2⟩ | ⟨h, h2⟩
    all_goals have hr : Hid (shB n d = (decide (0 ≤ n) && decide (n ≤ d))) := Lib.hid (by simp [shB, h1])
    all_goals clear h1
    all_goals go_enter Try.func100, Try.ntmps100
    all_goals go_wp2_with fail
    all_goals rw [← HW.out]
    all_goals refine (isFraction_any _ _ _).mono ?_
    all_goals rintro e w1 ⟨rfl, hb1⟩
    all_goals rw [H1.out]
    all_goals have bb := bW.thenB hb1
    all_goals have b1 := b0.later hb1
    all_goals clear c0 c1
    all_goals have c0 := b1.c0
    all_goals have c1 := b1.c1
    all_goals go_wp2
    all_goals go_ret
    · exact ⟨ret_bool (by rw [hr.out, show decide (0 ≤ n) = false from by simp; omega]; rfl), bb⟩
    · exact ⟨ret_bool (by rw [hr.out, show decide (n ≤ d) = false from by simp; omega]; simp), bb⟩
    · exact ⟨ret_bool (by rw [hr.out, show decide (0 ≤ n) = true from by simp; omega, show decide (n ≤ d) = true from by simp; omega]; rfl), bb⟩

theorem l3Share_any (n d : Int) (w : World) :
    Calls Try.prog 104 #[.agg #[.int .i64 n, .int .i64 d]] w fun e w' => e = .returned (.bool (shB n d)) ∧ Below w.heap.size w w' := by
  obtain ⟨W, hW, bW, hsz, b0⟩ := boxF w n d
  have HW := Lib.hid hW
  clear hW
  have c0 := b0.c0
  have c1 := b0.c1
  cases h1 : fracB n d
  · have hr : Hid (shB n d = false) := Lib.hid (by simp [shB, h1])
    have H1 := Lib.hid h1
    go_enter Try.func104, Try.ntmps104
    go_wp2_with fail
    rw [← HW.out]
    refine (FractionValid_any _ _ _).mono ?_
    rintro e w1 ⟨rfl, hb1⟩
    rw [H1.out]
    have bb := bW.thenB hb1
    clear c0 c1
    go_wp2
    go_ret
    exact ⟨ret_bool hr.out.symm, bb⟩
  · have H1 := Lib.hid h1
    have hr : Hid (shB n d = inB n 0 d) := Lib.hid (by simp [shB, h1, inB])
    clear h1
    go_enter Try.func104, Try.ntmps104
    go_wp2_with fail
    rw [← HW.out]
    refine (FractionValid_any _ _ _).mono ?_
    rintro e w1 ⟨rfl, hb1⟩
    rw [H1.out]
    have bb := bW.thenB hb1
    have b1 := b0.later hb1
    clear c0 c1
    have c0 := b1.c0
    have c1 := b1.c1
    go_wp2_with fail
    refine (l1In_any _ _ _ _).mono ?_
    rintro e w' ⟨rfl, rfl⟩
    go_wp2
    go_ret
    exact ⟨ret_bool hr.out.symm, bb⟩

theorem box4 (w : World) (s t n d : Int) (p q : Option Addr) (m l c e : Nat) : ∃ W : World, W = (((w.alloc (.cells #[.int .i64 s, .slice p m c] 27)).alloc (.cells #[.int .i64 t, .slice q l e] 27)).alloc (.cells #[.int .i64 n, .int .i64 d] 32)).alloc (.cells #[.int .i64 0, .slice none 0 0] 27) ∧
    Below w.heap.size w W ∧ W.heap.size = w.heap.size + 4 ∧ VarInv W w.heap.size s (.slice p m c) ∧ VarInv W (w.heap.size + 1) t (.slice q l e) ∧ VarInv W (w.heap.size + 2) n (.int .i64 d) ∧ VarInv W (w.heap.size + 3) 0 (.slice none 0 0) := by
  obtain ⟨W1, hW1⟩ : ∃ W, W = w.alloc (.cells #[.int .i64 s, .slice p m c] 27) := ⟨_, rfl⟩
  obtain ⟨W2, hW2⟩ : ∃ W, W = W1.alloc (.cells #[.int .i64 t, .slice q l e] 27) := ⟨_, rfl⟩
  obtain ⟨W3, hW3⟩ : ∃ W, W = W2.alloc (.cells #[.int .i64 n, .int .i64 d] 32) := ⟨_, rfl⟩
  have s1 : W1.heap.size = w.heap.size + 1 := by subst hW1; simp
  have s2 : W2.heap.size = w.heap.size + 2 := by subst hW2; simp [s1]
  have s3 : W3.heap.size = w.heap.size + 3 := by subst hW3; simp [s2]
  have b1 : Below w.heap.size w W1 := by subst hW1; exact belowAlloc _ _
  have b2 : Below W1.heap.size W1 W2 := by subst hW2; exact belowAlloc _ _
  have b3 : Below W2.heap.size W2 W3 := by subst hW3; exact belowAlloc _ _
  have v1 : VarInv W1 w.heap.size s (.slice p m c) := by subst hW1; exact VarInv.made _ _ _ _
  have v2 : VarInv W2 W1.heap.size t (.slice q l e) := by subst hW2; exact VarInv.made _ _ _ _
  have v3 : VarInv W3 W2.heap.size n (.int .i64 d) := by subst hW3; exact VarInv.made _ _ _ _
  have b4 := belowAlloc W3 (.cells #[.int .i64 0, .slice none 0 0] 27)
  have v4 := VarInv.made W3 0 (.slice none 0 0) 27
  refine ⟨W3.alloc (.cells #[.int .i64 0, .slice none 0 0] 27), by rw [hW3, hW2, hW1], ((b1.thenB b2).thenB b3).thenB b4, by simp [s3], ((v1.later b2).later b3).later b4, ?_, ?_, ?_⟩
  · rw [← s1]; exact (v2.later b3).later b4
  · rw [← s2]; exact v3.later b4
  · rw [← s3]; exact v4

def mixN (xs ys : List Int) (n d : Int) (b : Nat) : Int := n * nth xs b * sumL ys + (d - n) * nth ys b * sumL xs
/-- The parts of a mixed mass: n of d parts of the first. -/
def mixP (xs ys : List Int) (n d : Int) : List Int := (List.range xs.length).map (mixN xs ys n d)
def mixG (s : Int) (xs : List Int) (t : Int) (ys : List Int) (n d : Int) : Bool := bothB s xs t ys && (shB n d && decide (d ≤ 1000))

theorem mixP_len (xs ys : List Int) (n d : Int) : (mixP xs ys n d).length = xs.length := by simp [mixP]
theorem mixP_nth (xs ys : List Int) (n d : Int) (b : Nat) (hb : b < xs.length) : nth (mixP xs ys n d) b = mixN xs ys n d b := by
  rw [nth_eq _ _ (by rw [mixP_len]; exact hb)]; simp [mixP]

theorem shB_ok {n d : Int} (h : shB n d = true) : 0 ≤ n ∧ n ≤ d ∧ 1 ≤ d := by
  simp only [shB, fracB, Bool.and_eq_true, decide_eq_true_eq] at h
  have := yes_inB h.1.2.1
  exact ⟨h.2.1, h.2.2, this.1⟩

/-- The steps of a mixed part: none leaves the ints. -/
structure MixIn (n d x y X Y : Int) : Prop where
  a1 : IntKind.i64.wrap (n * x) = n * x
  a2 : IntKind.i64.wrap (n * x * Y) = n * x * Y
  b0 : IntKind.i64.wrap (d - n) = d - n
  b1 : IntKind.i64.wrap ((d - n) * y) = (d - n) * y
  b2 : IntKind.i64.wrap ((d - n) * y * X) = (d - n) * y * X
  c : IntKind.i64.wrap (n * x * Y + (d - n) * y * X) = n * x * Y + (d - n) * y * X
  s1 : IntKind.i64.wrap (x * Y) = x * Y
  s2 : IntKind.i64.wrap (x * Y * n) = x * Y * n
  t1 : IntKind.i64.wrap (y * X) = y * X
  t2 : IntKind.i64.wrap (y * X * (d - n)) = y * X * (d - n)
  e : x * Y * n + y * X * (d - n) = n * x * Y + (d - n) * y * X
  lo : 0 ≤ n * x * Y + (d - n) * y * X
  hi : n * x * Y + (d - n) * y * X ≤ 2000000000000000

theorem mixIn {n d x y X Y : Int} (hn : 0 ≤ n) (hd : n ≤ d) (h1000 : d ≤ 1000) (x0 : 0 ≤ x) (x1 : x ≤ 1000000) (y0 : 0 ≤ y) (y1 : y ≤ 1000000) (X0 : 0 ≤ X) (X1 : X ≤ 1000000) (Y0 : 0 ≤ Y) (Y1 : Y ≤ 1000000) : MixIn n d x y X Y := by
  have p1 : 0 ≤ n * x := Int.mul_nonneg hn x0
  have p2 : n * x ≤ 1000 * 1000000 := Int.mul_le_mul (by omega) x1 x0 (by omega)
  have p3 : 0 ≤ n * x * Y := Int.mul_nonneg p1 Y0
  have p4 : n * x * Y ≤ 1000 * 1000000 * 1000000 := Int.mul_le_mul p2 Y1 Y0 (by omega)
  have q1 : 0 ≤ (d - n) * y := Int.mul_nonneg (by omega) y0
  have q2 : (d - n) * y ≤ 1000 * 1000000 := Int.mul_le_mul (by omega) y1 y0 (by omega)
  have q3 : 0 ≤ (d - n) * y * X := Int.mul_nonneg q1 X0
  have q4 : (d - n) * y * X ≤ 1000 * 1000000 * 1000000 := Int.mul_le_mul q2 X1 X0 (by omega)
  have r1 : 0 ≤ x * Y := Int.mul_nonneg x0 Y0
  have r2 : x * Y ≤ 1000000 * 1000000 := Int.mul_le_mul x1 Y1 Y0 (by omega)
  have r3 : 0 ≤ y * X := Int.mul_nonneg y0 X0
  have r4 : y * X ≤ 1000000 * 1000000 := Int.mul_le_mul y1 X1 X0 (by omega)
  have e1 : x * Y * n = n * x * Y := by ac_rfl
  have e2 : y * X * (d - n) = (d - n) * y * X := by ac_rfl
  refine ⟨IntWalk.i64_in _ (by omega), IntWalk.i64_in _ (by omega), IntWalk.i64_in _ (by omega), IntWalk.i64_in _ (by omega), IntWalk.i64_in _ (by omega), IntWalk.i64_in _ (by omega), IntWalk.i64_in _ (by omega), ?_, IntWalk.i64_in _ (by omega), ?_, by rw [e1, e2], by omega, by omega⟩
  · rw [e1]; exact IntWalk.i64_in _ (by omega)
  · rw [e2]; exact IntWalk.i64_in _ (by omega)

theorem mixP_wide {xs ys : List Int} {n d : Int} (hn : 0 ≤ n) (hd : n ≤ d) (h1000 : d ≤ 1000) (hx : allB 0 1000000 xs = true) (hy : allB 0 1000000 ys = true) (hl : ys.length = xs.length) (hX : 0 ≤ sumL xs ∧ sumL xs ≤ 1000000) (hY : 0 ≤ sumL ys ∧ sumL ys ≤ 1000000) : allB 0 4611686018427387904 (mixP xs ys n d) = true := by
  rw [allB_iff]
  intro k hk
  rw [mixP_len] at hk
  have h1 := allB_nth hx k hk
  have h2 := allB_nth hy k (by omega)
  have m := mixIn hn hd h1000 h1.1 h1.2 h2.1 h2.2 hX.1 hX.2 hY.1 hY.2
  rw [mixP_nth _ _ _ _ _ hk, mixN]
  exact ⟨m.lo, by have := m.hi; omega⟩

end Go.Proofs.Ytjmfjgoehicgcaa
