/- What the program exports on fractions, what is believed and possible as fractions, other answers. -/
import Derived.Test.YtjmfjgoehicgcaaMgT5
import Derived.Test.YtjmfjgoehicgcaaMgL9
set_option linter.unusedVariables false
set_option linter.unusedSimpArgs false
namespace Go.Proofs.Ytjmfjgoehicgcaa
open Go.RowKit

def lessB (n d m e : Int) : Bool := fracB n d && (fracB m e && decide (n * e < m * d))
def mnN (n d : Int) : Int := if fracB n d = true then -n else 0
def mnD (n d : Int) : Int := if fracB n d = true then d else 0
def twoF (n d m e : Int) : Bool := fracB n d && fracB m e
def otR (s a : Int) : Int := if (szB s && setB s a) = true then pow2 s - 1 - a else -1

theorem frac_bd {n d : Int} (h : fracB n d = true) : -1000000000 ≤ n ∧ n ≤ 1000000000 ∧ 1 ≤ d ∧ d ≤ 1000000000 := by
  simp only [fracB, Bool.and_eq_true, decide_eq_true_eq] at h
  have h1 : -1000000000 ≤ n ∧ n ≤ 1000000000 := by simpa [inB] using h.1
  have h2 : 1 ≤ d ∧ d ≤ 1000000000 := by simpa [inB] using h.2.1
  exact ⟨h1.1, h1.2, h2.1, h2.2⟩
theorem mulF (a b : Int) (h1 : -1000000000 ≤ a) (h2 : a ≤ 1000000000) (h3 : -1000000000 ≤ b) (h4 : b ≤ 1000000000) : -1000000000000000000 ≤ a * b ∧ a * b ≤ 1000000000000000000 := by
  have h : (a * b).natAbs ≤ 1000000000 * 1000000000 := by
    rw [Int.natAbs_mul]; exact Nat.mul_le_mul (by omega) (by omega)
  omega
theorem mulF1 (a b : Int) (h1 : 1 ≤ a) (h3 : 1 ≤ b) : a * b ≠ 0 := Int.mul_ne_zero (by omega) (by omega)

set_option maxHeartbeats 1000000 in
theorem iLess_any (n d m k : Int) (w : World) :
    Calls Try.prog 44 #[.agg #[.int .i64 n, .int .i64 d], .agg #[.int .i64 m, .int .i64 k]] w fun e w' => e = .returned (.bool (lessB n d m k)) ∧ Below w.heap.size w w' := by
  obtain ⟨W, hW⟩ : ∃ W : World, W = ((w.alloc (.cells #[.int .i64 n, .int .i64 d] 32)).alloc (.cells #[.int .i64 m, .int .i64 k] 32)) := ⟨_, rfl⟩
  have bW : Below w.heap.size w W := by subst hW; exact ((belowAlloc _ _).thenB (belowAlloc _ _))
  have hsz : W.heap.size = w.heap.size + 2 := by subst hW; simp
  have b0 : VarInv W (w.heap.size) (n) (.int .i64 d) := by
    subst hW
    have h := VarInv.made w (n) (.int .i64 d) 32
    exact (h.later (belowAlloc _ _))
  have b1 : VarInv W (w.heap.size + 1) (m) (.int .i64 k) := by
    subst hW
    have h := VarInv.made (w.alloc (.cells #[.int .i64 n, .int .i64 d] 32)) (m) (.int .i64 k) 32
    rw [show (w.alloc (.cells #[.int .i64 n, .int .i64 d] 32)).heap.size = w.heap.size + 1 by simp] at h
    exact h
  have HWW := Lib.hid hW
  have HSZ := Lib.hid hsz
  clear hW hsz
  cases h1 : fracB n d
  · have hr : Hid (lessB n d m k = false) := Lib.hid (by simp [lessB, h1])
    go_enter Try.func44, Try.ntmps44
    go_wp2_with fail
    rw [← HWW.out]
    refine (isFraction_any _ _ _).mono ?_
    rintro e w1 ⟨rfl, hb⟩
    replace b0 := b0.later hb
    have b0_0 := b0.c0
    have b0_1 := b0.c1
    replace b1 := b1.later hb
    have b1_0 := b1.c0
    have b1_1 := b1.c1
    replace bW := bW.thenB hb
    have z1 := hb.size
    clear hb
    go_wp2
    go_ret
    exact ⟨ret_bool hr.out.symm, bW⟩
  · cases h2 : fracB m k
    · have hr : Hid (lessB n d m k = false) := Lib.hid (by simp [lessB, h2])
      go_enter Try.func44, Try.ntmps44
      go_wp2_with fail
      rw [← HWW.out]
      refine (isFraction_any _ _ _).mono ?_
      rintro e w1 ⟨rfl, hb⟩
      replace b0 := b0.later hb
      have b0_0 := b0.c0
      have b0_1 := b0.c1
      replace b1 := b1.later hb
      have b1_0 := b1.c0
      have b1_1 := b1.c1
      replace bW := bW.thenB hb
      have z1 := hb.size
      clear hb
      go_wp2_with fail
      refine (isFraction_any _ _ _).mono ?_
      rintro e w2 ⟨rfl, hb⟩
      clear b0_0 b0_1 b1_0 b1_1
      replace b0 := b0.later hb
      have b0_0 := b0.c0
      have b0_1 := b0.c1
      replace b1 := b1.later hb
      have b1_0 := b1.c0
      have b1_1 := b1.c1
      replace bW := bW.thenB hb
      have z2 := hb.size
      clear hb
      go_wp2
      go_ret
      exact ⟨ret_bool hr.out.symm, bW⟩
    · have hr : Hid (lessB n d m k = decide (n * k < m * d)) := Lib.hid (by simp [lessB, h1, h2])
      obtain ⟨u1, u2, u3, u4⟩ := frac_bd h1
      obtain ⟨v1, v2, v3, v4⟩ := frac_bd h2
      obtain ⟨x1, x2⟩ := mulF n k u1 u2 (by omega) v4
      obtain ⟨y1, y2⟩ := mulF m d v1 v2 (by omega) u4
      have hw1 : wrap64 (n * k) = n * k := IntWalk.wrap64_in _ ⟨by omega, by omega⟩
      have hw2 : wrap64 (m * d) = m * d := IntWalk.wrap64_in _ ⟨by omega, by omega⟩
      go_enter Try.func44, Try.ntmps44
      go_wp2_with fail
      rw [← HWW.out]
      refine (isFraction_any _ _ _).mono ?_
      rintro e w1 ⟨rfl, hb⟩
      replace b0 := b0.later hb
      have b0_0 := b0.c0
      have b0_1 := b0.c1
      replace b1 := b1.later hb
      have b1_0 := b1.c0
      have b1_1 := b1.c1
      replace bW := bW.thenB hb
      have z1 := hb.size
      clear hb
      go_wp2_with fail
      refine (isFraction_any _ _ _).mono ?_
      rintro e w2 ⟨rfl, hb⟩
      clear b0_0 b0_1 b1_0 b1_1
      replace b0 := b0.later hb
      have b0_0 := b0.c0
      have b0_1 := b0.c1
      replace b1 := b1.later hb
      have b1_0 := b1.c0
      have b1_1 := b1.c1
      replace bW := bW.thenB hb
      have z2 := hb.size
      clear hb
      go_wp2
      go_ret
      exact ⟨ret_bool hr.out.symm, bW⟩

set_option maxHeartbeats 1000000 in
theorem iMinus_any (n d : Int) (w : World) :
    Calls Try.prog 20 #[.agg #[.int .i64 n, .int .i64 d]] w fun e w' => e = .returned (.tuple #[.agg #[.int .i64 (mnN n d), .int .i64 (mnD n d)], .bool (fracB n d)]) ∧ Below w.heap.size w w' := by
  obtain ⟨W, hW⟩ : ∃ W : World, W = ((w.alloc (.cells #[.int .i64 n, .int .i64 d] 32)).alloc (.cells #[.int .i64 0, .int .i64 0] 32)) := ⟨_, rfl⟩
  have bW : Below w.heap.size w W := by subst hW; exact ((belowAlloc _ _).thenB (belowAlloc _ _))
  have hsz : W.heap.size = w.heap.size + 2 := by subst hW; simp
  have b0 : VarInv W (w.heap.size) (n) (.int .i64 d) := by
    subst hW
    have h := VarInv.made w (n) (.int .i64 d) 32
    exact (h.later (belowAlloc _ _))
  have bR : VarInv W (w.heap.size + 1) (0) (.int .i64 0) := by
    subst hW
    have h := VarInv.made (w.alloc (.cells #[.int .i64 n, .int .i64 d] 32)) (0) (.int .i64 0) 32
    rw [show (w.alloc (.cells #[.int .i64 n, .int .i64 d] 32)).heap.size = w.heap.size + 1 by simp] at h
    exact h
  have HWW := Lib.hid hW
  have HSZ := Lib.hid hsz
  clear hW hsz
  cases h1 : fracB n d
  · have eN : Hid (mnN n d = 0) := Lib.hid (by simp [mnN, h1])
    have eD : Hid (mnD n d = 0) := Lib.hid (by simp [mnD, h1])
    go_enter Try.func20, Try.ntmps20
    go_wp2_with fail
    rw [← HWW.out]
    refine (isFraction_any _ _ _).mono ?_
    rintro e w1 ⟨rfl, hb⟩
    replace b0 := b0.later hb
    have b0_0 := b0.c0
    have b0_1 := b0.c1
    replace bR := bR.later hb
    have bR_0 := bR.c0
    have bR_1 := bR.c1
    replace bW := bW.thenB hb
    have z1 := hb.size
    clear hb
    have s0 := bR.c0
    have s1 := bR.c1
    have s2 := bR.f0
    have s3 := bR.f1
    go_wp2
    refine bodyPost_ret (v := .tuple #[.agg #[.int .i64 (0), .int .i64 (0)], .bool (false)]) (by simp [results, Try.results20, go_sem, s0, s1, s2, s3]) rfl ⟨by rw [eN.out, eD.out], ?_⟩
    exact ((bW).setCell (by show _ ≤ w.heap.size + 1; omega) _).setCell (by show _ ≤ w.heap.size + 1; omega) _
  · have eN : Hid (mnN n d = -n) := Lib.hid (by simp [mnN, h1])
    have eD : Hid (mnD n d = d) := Lib.hid (by simp [mnD, h1])
    obtain ⟨u1, u2, u3, u4⟩ := frac_bd h1
    go_enter Try.func20, Try.ntmps20
    go_wp2_with fail
    rw [← HWW.out]
    refine (isFraction_any _ _ _).mono ?_
    rintro e w1 ⟨rfl, hb⟩
    replace b0 := b0.later hb
    have b0_0 := b0.c0
    have b0_1 := b0.c1
    replace bR := bR.later hb
    have bR_0 := bR.c0
    have bR_1 := bR.c1
    replace bW := bW.thenB hb
    have z1 := hb.size
    clear hb
    have s0 := bR.c0
    have s1 := bR.c1
    have s2 := bR.f0
    have s3 := bR.f1
    go_wp2
    refine bodyPost_ret (v := .tuple #[.agg #[.int .i64 (-n), .int .i64 (d)], .bool (true)]) (by simp [results, Try.results20, go_sem, s0, s1, s2, s3]) rfl ⟨by rw [eN.out, eD.out], ?_⟩
    exact ((bW).setCell (by show _ ≤ w.heap.size + 1; omega) _).setCell (by show _ ≤ w.heap.size + 1; omega) _

set_option maxHeartbeats 1000000 in
theorem iAdd_any (n d m k : Int) (w : World) :
    Calls Try.prog 21 #[.agg #[.int .i64 n, .int .i64 d], .agg #[.int .i64 m, .int .i64 k]] w fun e w' => e = .returned (.tuple #[.agg #[.int .i64 (fN (twoF n d m k) (n * k + m * d) (d * k)), .int .i64 (fD (twoF n d m k) (n * k + m * d) (d * k))], .bool (fOk (twoF n d m k) (n * k + m * d) (d * k))]) ∧ Below w.heap.size w w' := by
  obtain ⟨W, hW⟩ : ∃ W : World, W = (((w.alloc (.cells #[.int .i64 n, .int .i64 d] 32)).alloc (.cells #[.int .i64 m, .int .i64 k] 32)).alloc (.cells #[.int .i64 0, .int .i64 0] 32)) := ⟨_, rfl⟩
  have bW : Below w.heap.size w W := by subst hW; exact (((belowAlloc _ _).thenB (belowAlloc _ _)).thenB (belowAlloc _ _))
  have hsz : W.heap.size = w.heap.size + 3 := by subst hW; simp
  have b0 : VarInv W (w.heap.size) (n) (.int .i64 d) := by
    subst hW
    have h := VarInv.made w (n) (.int .i64 d) 32
    exact ((h.later (belowAlloc _ _)).later (belowAlloc _ _))
  have b1 : VarInv W (w.heap.size + 1) (m) (.int .i64 k) := by
    subst hW
    have h := VarInv.made (w.alloc (.cells #[.int .i64 n, .int .i64 d] 32)) (m) (.int .i64 k) 32
    rw [show (w.alloc (.cells #[.int .i64 n, .int .i64 d] 32)).heap.size = w.heap.size + 1 by simp] at h
    exact (h.later (belowAlloc _ _))
  have bR : VarInv W (w.heap.size + 2) (0) (.int .i64 0) := by
    subst hW
    have h := VarInv.made ((w.alloc (.cells #[.int .i64 n, .int .i64 d] 32)).alloc (.cells #[.int .i64 m, .int .i64 k] 32)) (0) (.int .i64 0) 32
    rw [show ((w.alloc (.cells #[.int .i64 n, .int .i64 d] 32)).alloc (.cells #[.int .i64 m, .int .i64 k] 32)).heap.size = w.heap.size + 2 by simp] at h
    exact h
  have HWW := Lib.hid hW
  have HSZ := Lib.hid hsz
  clear hW hsz
  cases h1 : fracB n d
  · skip
    obtain ⟨eN, eD, eO⟩ := fNo (num := n * k + m * d) (den := d * k) (g := twoF n d m k) (by simp [twoF, h1])
    have eN := Lib.hid eN
    have eD := Lib.hid eD
    have eO := Lib.hid eO
    go_enter Try.func21, Try.ntmps21
    go_wp2_with fail
    rw [← HWW.out]
    refine (isFraction_any _ _ _).mono ?_
    rintro e w1 ⟨rfl, hb⟩
    replace b0 := b0.later hb
    have b0_0 := b0.c0
    have b0_1 := b0.c1
    replace b1 := b1.later hb
    have b1_0 := b1.c0
    have b1_1 := b1.c1
    replace bR := bR.later hb
    have bR_0 := bR.c0
    have bR_1 := bR.c1
    replace bW := bW.thenB hb
    have z1 := hb.size
    clear hb
    have s0 := bR.c0
    have s1 := bR.c1
    have s2 := bR.f0
    have s3 := bR.f1
    go_wp2
    refine bodyPost_ret (v := .tuple #[.agg #[.int .i64 (0), .int .i64 (0)], .bool (false)]) (by simp [results, Try.results21, go_sem, s0, s1, s2, s3]) rfl ⟨by rw [eN.out, eD.out, eO.out], ?_⟩
    exact ((bW).setCell (by show _ ≤ w.heap.size + 2; omega) _).setCell (by show _ ≤ w.heap.size + 2; omega) _
  · cases h2 : fracB m k
    · skip
      obtain ⟨eN, eD, eO⟩ := fNo (num := n * k + m * d) (den := d * k) (g := twoF n d m k) (by simp [twoF, h2])
      have eN := Lib.hid eN
      have eD := Lib.hid eD
      have eO := Lib.hid eO
      go_enter Try.func21, Try.ntmps21
      go_wp2_with fail
      rw [← HWW.out]
      refine (isFraction_any _ _ _).mono ?_
      rintro e w1 ⟨rfl, hb⟩
      replace b0 := b0.later hb
      have b0_0 := b0.c0
      have b0_1 := b0.c1
      replace b1 := b1.later hb
      have b1_0 := b1.c0
      have b1_1 := b1.c1
      replace bR := bR.later hb
      have bR_0 := bR.c0
      have bR_1 := bR.c1
      replace bW := bW.thenB hb
      have z1 := hb.size
      clear hb
      go_wp2_with fail
      refine (isFraction_any _ _ _).mono ?_
      rintro e w2 ⟨rfl, hb⟩
      clear b0_0 b0_1 b1_0 b1_1 bR_0 bR_1
      replace b0 := b0.later hb
      have b0_0 := b0.c0
      have b0_1 := b0.c1
      replace b1 := b1.later hb
      have b1_0 := b1.c0
      have b1_1 := b1.c1
      replace bR := bR.later hb
      have bR_0 := bR.c0
      have bR_1 := bR.c1
      replace bW := bW.thenB hb
      have z2 := hb.size
      clear hb
      have s0 := bR.c0
      have s1 := bR.c1
      have s2 := bR.f0
      have s3 := bR.f1
      go_wp2
      refine bodyPost_ret (v := .tuple #[.agg #[.int .i64 (0), .int .i64 (0)], .bool (false)]) (by simp [results, Try.results21, go_sem, s0, s1, s2, s3]) rfl ⟨by rw [eN.out, eD.out, eO.out], ?_⟩
      exact ((bW).setCell (by show _ ≤ w.heap.size + 2; omega) _).setCell (by show _ ≤ w.heap.size + 2; omega) _
    · skip
      obtain ⟨eN, eD, eO⟩ := fYes (num := n * k + m * d) (den := d * k) (g := twoF n d m k) (by simp [twoF, h1, h2])
      have eN := Lib.hid eN
      have eD := Lib.hid eD
      have eO := Lib.hid eO
      obtain ⟨u1, u2, u3, u4⟩ := frac_bd h1
      obtain ⟨v1, v2, v3, v4⟩ := frac_bd h2
      obtain ⟨x1, x2⟩ := mulF n k u1 u2 (by omega) v4
      obtain ⟨y1, y2⟩ := mulF m d v1 v2 (by omega) u4
      obtain ⟨t1, t2⟩ := mulF d k (by omega) u4 (by omega) v4
      obtain ⟨q1, q2⟩ := mulF n m u1 u2 v1 v2
      have hd0 := mulF1 d k u3 v3
      have hw1 : wrap64 (n * k) = n * k := IntWalk.wrap64_in _ ⟨by omega, by omega⟩
      have hw2 : wrap64 (m * d) = m * d := IntWalk.wrap64_in _ ⟨by omega, by omega⟩
      have hw3 : wrap64 (d * k) = d * k := IntWalk.wrap64_in _ ⟨by omega, by omega⟩
      have hw4 : wrap64 (n * k + m * d) = n * k + m * d := IntWalk.wrap64_in _ ⟨by omega, by omega⟩
      have hw5 : wrap64 (n * m) = n * m := IntWalk.wrap64_in _ ⟨by omega, by omega⟩
      go_enter Try.func21, Try.ntmps21
      go_wp2_with fail
      rw [← HWW.out]
      refine (isFraction_any _ _ _).mono ?_
      rintro e w1 ⟨rfl, hb⟩
      replace b0 := b0.later hb
      have b0_0 := b0.c0
      have b0_1 := b0.c1
      replace b1 := b1.later hb
      have b1_0 := b1.c0
      have b1_1 := b1.c1
      replace bR := bR.later hb
      have bR_0 := bR.c0
      have bR_1 := bR.c1
      replace bW := bW.thenB hb
      have z1 := hb.size
      clear hb
      go_wp2_with fail
      refine (isFraction_any _ _ _).mono ?_
      rintro e w2 ⟨rfl, hb⟩
      clear b0_0 b0_1 b1_0 b1_1 bR_0 bR_1
      replace b0 := b0.later hb
      have b0_0 := b0.c0
      have b0_1 := b0.c1
      replace b1 := b1.later hb
      have b1_0 := b1.c0
      have b1_1 := b1.c1
      replace bR := bR.later hb
      have bR_0 := bR.c0
      have bR_1 := bR.c1
      replace bW := bW.thenB hb
      have z2 := hb.size
      clear hb
      go_wp2_with fail
      refine (lowest_any (n * k + m * d) (d * k) _ (by omega) (by omega) (by omega) (by omega) hd0).mono ?_
      rintro e w3 ⟨rfl, hb⟩
      clear b0_0 b0_1 b1_0 b1_1 bR_0 bR_1
      replace b0 := b0.later hb
      have b0_0 := b0.c0
      have b0_1 := b0.c1
      replace b1 := b1.later hb
      have b1_0 := b1.c0
      have b1_1 := b1.c1
      replace bR := bR.later hb
      have bR_0 := bR.c0
      have bR_1 := bR.c1
      replace bW := bW.thenB hb
      have z3 := hb.size
      clear hb
      have s0 := bR.c0
      have s1 := bR.c1
      have s2 := bR.f0
      have s3 := bR.f1
      go_wp2
      refine bodyPost_ret (v := .tuple #[.agg #[.int .i64 (lowN (n * k + m * d) (d * k)), .int .i64 (lowD (n * k + m * d) (d * k))], .bool (lowOk (n * k + m * d) (d * k))]) (by simp [results, Try.results21, go_sem, s0, s1, s2, s3]) rfl ⟨by rw [eN.out, eD.out, eO.out], ?_⟩
      exact ((bW).setCell (by show _ ≤ w.heap.size + 2; omega) _).setCell (by show _ ≤ w.heap.size + 2; omega) _

theorem xorFull2 : ∀ k : Fin 5, ∀ a : Fin 16, a.val < 2 ^ k.val → bits .xor .i64 (2 ^ k.val - 1 : Int) (a.val : Int) = (2 ^ k.val : Int) - 1 - a.val := by decide +kernel

theorem xorPow2 (s : Int) (a : Nat) (h1 : 1 ≤ s) (h4 : s ≤ 4) (ha : (a : Int) < pow2 s) : bits .xor .i64 (pow2 s - 1) (a : Int) = pow2 s - 1 - a := by
  obtain ⟨k, rfl⟩ := Int.eq_ofNat_of_zero_le (show 0 ≤ s by omega)
  have e : pow2 (k : Int) = (2 ^ k : Int) := by simp [pow2]
  have hb := pow2_bd k h1 h4
  have h2 : a < 2 ^ k := by rw [e] at ha; exact_mod_cast ha
  have := xorFull2 ⟨k, by omega⟩ ⟨a, by omega⟩ h2
  rw [e]; exact this

end Go.Proofs.Ytjmfjgoehicgcaa
