/- The exact law on MovedParts: what it computes. -/
import Derived.Test.YtjmfjgoehicgcaaT2
import Derived.Test.YtjmfjgoehicgcaaIM
set_option linter.unusedVariables false
set_option linter.unusedSimpArgs false
namespace Go.Proofs.Ytjmfjgoehicgcaa
open Go.RowKit

set_option maxHeartbeats 4000000 in
theorem FnExactMovedParts_walk (w : World) (s0 : Int) (a0 : Option Addr) (c0 : Nat) (x0 : List Int) (ws0 : (Lit.int .i64 s0).wf = true) (m0 : x0.length ≤ maxLen) (rd0 : Reads w a0 x0) (wf0 : ∀ n ∈ x0, (Lit.int .i64 n).wf = true) (s1 : Int) (a1 : Option Addr) (c1 : Nat) (x1 : List Int) (ws1 : (Lit.int .i64 s1).wf = true) (m1 : x1.length ≤ maxLen) (rd1 : Reads w a1 x1) (wf1 : ∀ n ∈ x1, (Lit.int .i64 n).wf = true) :
    Calls Try.prog 6 #[.agg #[.int .i64 s0, .slice a0 x0.length c0], .agg #[.int .i64 s1, .slice a1 x1.length c1]] w fun e w' => e = .returned (.bool true) ∧ Below w.heap.size w w' := by
  unfold maxLen at m0 m1
  clear wf0 wf1 ws0 ws1
  obtain ⟨W, hW, bW, hsz, q0, q1, q2, q3⟩ := box2L w s0 s1 a0 a1 x0.length x1.length c0 c1
  have HW := Lib.hid hW
  have HZ := Lib.hid hsz
  clear hW hsz
  by_cases hm0 : (1048576 : Int) < x0.length
  · go_enter Try.func6, Try.ntmps6
    go_wp2_with fail
    rw [← HW.out]
    refine (szMass_no _ _ _ _ _ _ (by unfold maxLen; omega) (by omega) (by omega) (by omega)).mono ?_
    rintro e v0 ⟨rfl, b1⟩
    replace bW := bW.thenB b1
    clear b1
    go_wp2
    go_ret
    exact ⟨rfl, bW⟩
  by_cases hm1 : (1048576 - x0.length : Int) < x1.length
  · go_enter Try.func6, Try.ntmps6
    go_wp2_with fail
    rw [← HW.out]
    refine (szMass_yes _ _ _ _ _ _ (by unfold maxLen; omega) (by omega) (by omega) (by omega)).mono ?_
    rintro e v0 ⟨rfl, b1⟩
    replace bW := bW.thenB b1
    replace q0 := cellKeep b1 q0
    replace q1 := cellKeep b1 q1
    replace q2 := cellKeep b1 q2
    replace q3 := cellKeep b1 q3
    clear b1
    go_wp2_with fail
    refine (szMass_no _ _ _ _ _ _ (by unfold maxLen; omega) (by omega) (by omega) (by omega)).mono ?_
    rintro e v1 ⟨rfl, b1⟩
    replace bW := bW.thenB b1
    clear b1
    go_wp2
    go_ret
    exact ⟨rfl, bW⟩
  have hl0 : x0.length ≤ 1048576 := by omega
  have hl1 : x1.length ≤ 1048576 := by omega
  have hq : (spB s0 x0 s1 x1 != spB s0 x0 s1 x1) = false := by simp
  have hL : (mvL s0 x0 s1 x1).length ≤ 1048576 := mvL_len _ _ _ _
  go_enter Try.func6, Try.ntmps6
  go_wp2_with fail
  rw [← HW.out]
  refine (szMass_yes _ _ _ _ _ _ (by unfold maxLen; omega) (by omega) (by omega) (by omega)).mono ?_
  rintro e w1 ⟨rfl, b1⟩
  have z1 : W.heap.size ≤ w1.heap.size := by have := b1.size; first | (simpa using this) | (simp at this; omega)
  replace q0 := cellKeep b1 q0
  replace q1 := cellKeep b1 q1
  replace q2 := cellKeep b1 q2
  replace q3 := cellKeep b1 q3
  replace bW := bW.thenB b1
  clear b1
  go_wp2_with fail
  refine (szMass_yes _ _ _ _ _ _ (by unfold maxLen; omega) (by omega) (by omega) (by omega)).mono ?_
  rintro e w2 ⟨rfl, b1⟩
  have z2 : w1.heap.size ≤ w2.heap.size := by have := b1.size; first | (simpa using this) | (simp at this; omega)
  replace q0 := cellKeep b1 q0
  replace q1 := cellKeep b1 q1
  replace q2 := cellKeep b1 q2
  replace q3 := cellKeep b1 q3
  replace bW := bW.thenB b1
  clear b1
  go_wp2_with fail
  replace q0 := cellDrew q0
  replace q1 := cellDrew q1
  replace q2 := cellDrew q2
  replace q3 := cellDrew q3
  replace bW := drewAll bW
  have tok8_0 : True := trivial
  have tok8_1 : True := trivial
  have tok8_2 : True := trivial
  go_region_held3 (fun w' => w'.cell? ⟨w.heap.size, 0, none⟩ = some (.int .i64 s0) ∧ w'.cell? ⟨w.heap.size, 1, none⟩ = some (.slice a0 x0.length c0) ∧ w'.cell? ⟨w.heap.size + 1, 0, none⟩ = some (.int .i64 s1) ∧ w'.cell? ⟨w.heap.size + 1, 1, none⟩ = some (.slice a1 x1.length c1))
    (exact ⟨q0, q1, q2, q3⟩)
    (first
      | (go_at_call 13; have _t := tok8_0; (with_reducible refine (toMass_any _ _ _ _ _ (rd0.below bW) hl0).mono ?_); rintro e w3 ⟨vs0_, rfl, os0_, b1⟩; (have z3 : w2.heap.size ≤ w3.heap.size := by have := b1.size; first | (simpa using this) | (simp at this; omega)); (replace q0 := cellKeep b1 q0); (replace q1 := cellKeep b1 q1); (replace q2 := cellKeep b1 q2); (replace q3 := cellKeep b1 q3); (replace bW := bW.thenB b1); obtain ⟨ps0_, ks0_, rfl, _hr⟩ := os0_.shape; (have gs0_ : ∀ k, (Value.slice ps0_ x0.length ks0_).ownBlock = some k → w2.heap.size ≤ k ∧ k < w3.heap.size := fun k hk => by have := os0_.blockLt k hk; first | (simpa using this) | (simp at this; omega)); clear b1 _hr; clear tok8_0 _t)
      | (go_at_call 13; have _t := tok8_1; (with_reducible refine (toMass_any _ _ _ _ _ (rd1.below bW) hl1).mono ?_); rintro e w4 ⟨vs1_, rfl, os1_, b1⟩; (have z4 : w3.heap.size ≤ w4.heap.size := by have := b1.size; first | (simpa using this) | (simp at this; omega)); (replace q0 := cellKeep b1 q0); (replace q1 := cellKeep b1 q1); (replace q2 := cellKeep b1 q2); (replace q3 := cellKeep b1 q3); (replace os0_ := os0_.later b1); (replace bW := bW.thenB b1); obtain ⟨ps1_, ks1_, rfl, _hr⟩ := os1_.shape; (have gs1_ : ∀ k, (Value.slice ps1_ x1.length ks1_).ownBlock = some k → w3.heap.size ≤ k ∧ k < w4.heap.size := fun k hk => by have := os1_.blockLt k hk; first | (simpa using this) | (simp at this; omega)); clear b1 _hr; clear tok8_1 _t)
      | (go_at_call 34; have _t := tok8_2; (with_reducible refine (sMovedParts_any _ _ _ _ _ _ _ _ _ os0_.reads os1_.reads hl0 hl1).mono ?_); rintro e w5 ⟨vW0, rfl, oW0, b1⟩; (have z5 : w4.heap.size ≤ w5.heap.size := by have := b1.size; first | (simpa using this) | (simp at this; omega)); (replace q0 := cellKeep b1 q0); (replace q1 := cellKeep b1 q1); (replace q2 := cellKeep b1 q2); (replace q3 := cellKeep b1 q3); (replace os0_ := os0_.later b1); (replace os1_ := os1_.later b1); (replace bW := bW.thenB b1); obtain ⟨pW0, kW0, rfl, _hr⟩ := oW0.shape; (have gW0 : ∀ k, (Value.slice pW0 (mvL s0 x0 s1 x1).length kW0).ownBlock = some k → w4.heap.size ≤ k ∧ k < w5.heap.size := fun k hk => by have := oW0.blockLt k hk; first | (simpa using this) | (simp at this; omega)); clear b1 _hr; clear tok8_2 _t))
  skip
  clear os0_ gs0_ os1_ gs1_
  go_wp2_with fail
  refine (toMass_any _ _ _ _ _ (rd0.below bW) hl0).mono ?_
  rintro e w6 ⟨vX0_, rfl, oX0_, b1⟩
  have z6 : w5.heap.size ≤ w6.heap.size := by have := b1.size; first | (simpa using this) | (simp at this; omega)
  replace q0 := cellKeep b1 q0
  replace q1 := cellKeep b1 q1
  replace q2 := cellKeep b1 q2
  replace q3 := cellKeep b1 q3
  replace oW0 := oW0.later b1
  replace bW := bW.thenB b1
  obtain ⟨pX0_, kX0_, rfl, _hr⟩ := oX0_.shape
  have gX0_ : ∀ k, (Value.slice pX0_ x0.length kX0_).ownBlock = some k → w5.heap.size ≤ k ∧ k < w6.heap.size := fun k hk => by have := oX0_.blockLt k hk; first | (simpa using this) | (simp at this; omega)
  clear b1 _hr
  have lt0 : w.heap.size < w6.heap.size := World.block_lt_of_cell? _ _ q0
  have lt1 : w.heap.size + 1 < w6.heap.size := World.block_lt_of_cell? _ _ q2
  go_wp2_with fail
  clear lt0 lt1
  have b1 := belowAlloc w6 (.cells #[.int .i64 s0, .slice pX0_ x0.length kX0_] 27)
  replace q0 := cellKeep b1 q0
  replace q1 := cellKeep b1 q1
  replace q2 := cellKeep b1 q2
  replace q3 := cellKeep b1 q3
  replace oW0 := oW0.later b1
  replace oX0_ := oX0_.later b1
  replace bW := bW.thenB b1
  have eX0_a := newCell0 w6 (.int .i64 s0) (.slice pX0_ x0.length kX0_) 27
  have eX0_b := newCell1 w6 (.int .i64 s0) (.slice pX0_ x0.length kX0_) 27
  clear b1
  refine (toMass_any _ _ _ _ _ (rd1.below bW) hl1).mono ?_
  rintro e w7 ⟨vX1_, rfl, oX1_, b1⟩
  have z7 : w6.heap.size + 1 ≤ w7.heap.size := by have := b1.size; first | (simpa using this) | (simp at this; omega)
  replace q0 := cellKeep b1 q0
  replace q1 := cellKeep b1 q1
  replace q2 := cellKeep b1 q2
  replace q3 := cellKeep b1 q3
  replace eX0_a := cellKeep b1 eX0_a
  replace eX0_b := cellKeep b1 eX0_b
  replace oW0 := oW0.later b1
  replace oX0_ := oX0_.later b1
  replace bW := bW.thenB b1
  obtain ⟨pX1_, kX1_, rfl, _hr⟩ := oX1_.shape
  have gX1_ : ∀ k, (Value.slice pX1_ x1.length kX1_).ownBlock = some k → w6.heap.size + 1 ≤ k ∧ k < w7.heap.size := fun k hk => by have := oX1_.blockLt k hk; first | (simpa using this) | (simp at this; omega)
  clear b1 _hr
  have lt0 : w.heap.size < w7.heap.size := World.block_lt_of_cell? _ _ q0
  have lt1 : w.heap.size + 1 < w7.heap.size := World.block_lt_of_cell? _ _ q2
  have lt2 : w6.heap.size < w7.heap.size := World.block_lt_of_cell? _ _ eX0_a
  go_wp2_with fail
  clear lt0 lt1 lt2
  have b1 := belowAlloc w7 (.cells #[.int .i64 s1, .slice pX1_ x1.length kX1_] 27)
  replace q0 := cellKeep b1 q0
  replace q1 := cellKeep b1 q1
  replace q2 := cellKeep b1 q2
  replace q3 := cellKeep b1 q3
  replace eX0_a := cellKeep b1 eX0_a
  replace eX0_b := cellKeep b1 eX0_b
  replace oW0 := oW0.later b1
  replace oX0_ := oX0_.later b1
  replace oX1_ := oX1_.later b1
  replace bW := bW.thenB b1
  have eX1_a := newCell0 w7 (.int .i64 s1) (.slice pX1_ x1.length kX1_) 27
  have eX1_b := newCell1 w7 (.int .i64 s1) (.slice pX1_ x1.length kX1_) 27
  clear b1
  refine (iMovedParts_any _ _ _ _ _ _ _ _ _ oX0_.reads oX1_.reads hl0 hl1).mono ?_
  rintro e w8 ⟨vG0, rfl, oG0, b1⟩
  have z8 : w7.heap.size + 1 ≤ w8.heap.size := by have := b1.size; first | (simpa using this) | (simp at this; omega)
  replace q0 := cellKeep b1 q0
  replace q1 := cellKeep b1 q1
  replace q2 := cellKeep b1 q2
  replace q3 := cellKeep b1 q3
  replace eX0_a := cellKeep b1 eX0_a
  replace eX0_b := cellKeep b1 eX0_b
  replace eX1_a := cellKeep b1 eX1_a
  replace eX1_b := cellKeep b1 eX1_b
  replace oW0 := oW0.later b1
  replace oX0_ := oX0_.later b1
  replace oX1_ := oX1_.later b1
  replace bW := bW.thenB b1
  obtain ⟨pG0, kG0, rfl, _hr⟩ := oG0.shape
  have gG0 : ∀ k, (Value.slice pG0 (mvL s0 x0 s1 x1).length kG0).ownBlock = some k → w7.heap.size + 1 ≤ k ∧ k < w8.heap.size := fun k hk => by have := oG0.blockLt k hk; first | (simpa using this) | (simp at this; omega)
  clear b1 _hr
  go_wp2_with fail
  refine (eqIntS_same _ _ _ _ _ _ oG0.reads oW0.reads hL).mono ?_
  rintro e w9 ⟨rfl, b1⟩
  have z9 : w8.heap.size ≤ w9.heap.size := by have := b1.size; first | (simpa using this) | (simp at this; omega)
  replace q0 := cellKeep b1 q0
  replace q1 := cellKeep b1 q1
  replace q2 := cellKeep b1 q2
  replace q3 := cellKeep b1 q3
  replace eX0_a := cellKeep b1 eX0_a
  replace eX0_b := cellKeep b1 eX0_b
  replace eX1_a := cellKeep b1 eX1_a
  replace eX1_b := cellKeep b1 eX1_b
  replace oW0 := oW0.later b1
  replace oX0_ := oX0_.later b1
  replace oX1_ := oX1_.later b1
  replace oG0 := oG0.later b1
  replace bW := bW.thenB b1
  clear b1
  go_wp2_with fail
  replace q0 := cellDrew q0
  replace q1 := cellDrew q1
  replace q2 := cellDrew q2
  replace q3 := cellDrew q3
  replace eX0_a := cellDrew eX0_a
  replace eX0_b := cellDrew eX0_b
  replace eX1_a := cellDrew eX1_a
  replace eX1_b := cellDrew eX1_b
  replace oW0 := oW0.drew
  replace oX0_ := oX0_.drew
  replace oX1_ := oX1_.drew
  replace oG0 := oG0.drew
  replace bW := drewAll bW
  have tok14_0 : True := trivial
  have tok14_1 : True := trivial
  go_region_held3 (fun w' => w'.cell? ⟨w.heap.size, 0, none⟩ = some (.int .i64 s0) ∧ w'.cell? ⟨w.heap.size, 1, none⟩ = some (.slice a0 x0.length c0) ∧ w'.cell? ⟨w.heap.size + 1, 0, none⟩ = some (.int .i64 s1) ∧ w'.cell? ⟨w.heap.size + 1, 1, none⟩ = some (.slice a1 x1.length c1) ∧ w'.cell? ⟨w6.heap.size, 0, none⟩ = some (.int .i64 s0) ∧ w'.cell? ⟨w6.heap.size, 1, none⟩ = some (.slice pX0_ x0.length kX0_) ∧ w'.cell? ⟨w7.heap.size, 0, none⟩ = some (.int .i64 s1) ∧ w'.cell? ⟨w7.heap.size, 1, none⟩ = some (.slice pX1_ x1.length kX1_))
    (exact ⟨q0, q1, q2, q3, eX0_a, eX0_b, eX1_a, eX1_b⟩)
    (first
      | (go_at_call 13; have _t := tok14_0; (with_reducible refine (toMass_any _ _ _ _ _ (rd0.below bW) hl0).mono ?_); rintro e w10 ⟨vY0_, rfl, oY0_, b1⟩; (have z10 : w9.heap.size ≤ w10.heap.size := by have := b1.size; first | (simpa using this) | (simp at this; omega)); (replace q0 := cellKeep b1 q0); (replace q1 := cellKeep b1 q1); (replace q2 := cellKeep b1 q2); (replace q3 := cellKeep b1 q3); (replace eX0_a := cellKeep b1 eX0_a); (replace eX0_b := cellKeep b1 eX0_b); (replace eX1_a := cellKeep b1 eX1_a); (replace eX1_b := cellKeep b1 eX1_b); (replace oW0 := oW0.later b1); (replace oX0_ := oX0_.later b1); (replace oX1_ := oX1_.later b1); (replace oG0 := oG0.later b1); (replace bW := bW.thenB b1); obtain ⟨pY0_, kY0_, rfl, _hr⟩ := oY0_.shape; (have gY0_ : ∀ k, (Value.slice pY0_ x0.length kY0_).ownBlock = some k → w9.heap.size ≤ k ∧ k < w10.heap.size := fun k hk => by have := oY0_.blockLt k hk; first | (simpa using this) | (simp at this; omega)); clear b1 _hr; clear tok14_0 _t)
      | (go_at_call 15; have _t := tok14_1; (with_reducible refine (eqMass_same _ _ _ _ _ _ _ oX0_.reads oY0_.reads hl0).mono ?_); rintro e w11 ⟨rfl, b1⟩; (have z11 : w10.heap.size ≤ w11.heap.size := by have := b1.size; first | (simpa using this) | (simp at this; omega)); (replace q0 := cellKeep b1 q0); (replace q1 := cellKeep b1 q1); (replace q2 := cellKeep b1 q2); (replace q3 := cellKeep b1 q3); (replace eX0_a := cellKeep b1 eX0_a); (replace eX0_b := cellKeep b1 eX0_b); (replace eX1_a := cellKeep b1 eX1_a); (replace eX1_b := cellKeep b1 eX1_b); (replace oW0 := oW0.later b1); (replace oX0_ := oX0_.later b1); (replace oX1_ := oX1_.later b1); (replace oG0 := oG0.later b1); (replace oY0_ := oY0_.later b1); (replace bW := bW.thenB b1); clear b1; clear tok14_1 _t))
  skip
  clear oY0_ gY0_
  go_wp2_with fail
  replace q0 := cellDrew q0
  replace q1 := cellDrew q1
  replace q2 := cellDrew q2
  replace q3 := cellDrew q3
  replace eX0_a := cellDrew eX0_a
  replace eX0_b := cellDrew eX0_b
  replace eX1_a := cellDrew eX1_a
  replace eX1_b := cellDrew eX1_b
  replace oW0 := oW0.drew
  replace oX0_ := oX0_.drew
  replace oX1_ := oX1_.drew
  replace oG0 := oG0.drew
  replace bW := drewAll bW
  have tok16_0 : True := trivial
  have tok16_1 : True := trivial
  go_region_held3 (fun w' => w'.cell? ⟨w.heap.size, 0, none⟩ = some (.int .i64 s0) ∧ w'.cell? ⟨w.heap.size, 1, none⟩ = some (.slice a0 x0.length c0) ∧ w'.cell? ⟨w.heap.size + 1, 0, none⟩ = some (.int .i64 s1) ∧ w'.cell? ⟨w.heap.size + 1, 1, none⟩ = some (.slice a1 x1.length c1) ∧ w'.cell? ⟨w6.heap.size, 0, none⟩ = some (.int .i64 s0) ∧ w'.cell? ⟨w6.heap.size, 1, none⟩ = some (.slice pX0_ x0.length kX0_) ∧ w'.cell? ⟨w7.heap.size, 0, none⟩ = some (.int .i64 s1) ∧ w'.cell? ⟨w7.heap.size, 1, none⟩ = some (.slice pX1_ x1.length kX1_))
    (exact ⟨q0, q1, q2, q3, eX0_a, eX0_b, eX1_a, eX1_b⟩)
    (first
      | (go_at_call 13; have _t := tok16_0; (with_reducible refine (toMass_any _ _ _ _ _ (rd1.below bW) hl1).mono ?_); rintro e w12 ⟨vY1_, rfl, oY1_, b1⟩; (have z12 : w11.heap.size ≤ w12.heap.size := by have := b1.size; first | (simpa using this) | (simp at this; omega)); (replace q0 := cellKeep b1 q0); (replace q1 := cellKeep b1 q1); (replace q2 := cellKeep b1 q2); (replace q3 := cellKeep b1 q3); (replace eX0_a := cellKeep b1 eX0_a); (replace eX0_b := cellKeep b1 eX0_b); (replace eX1_a := cellKeep b1 eX1_a); (replace eX1_b := cellKeep b1 eX1_b); (replace oW0 := oW0.later b1); (replace oX0_ := oX0_.later b1); (replace oX1_ := oX1_.later b1); (replace oG0 := oG0.later b1); (replace bW := bW.thenB b1); obtain ⟨pY1_, kY1_, rfl, _hr⟩ := oY1_.shape; (have gY1_ : ∀ k, (Value.slice pY1_ x1.length kY1_).ownBlock = some k → w11.heap.size ≤ k ∧ k < w12.heap.size := fun k hk => by have := oY1_.blockLt k hk; first | (simpa using this) | (simp at this; omega)); clear b1 _hr; clear tok16_0 _t)
      | (go_at_call 15; have _t := tok16_1; (with_reducible refine (eqMass_same _ _ _ _ _ _ _ oX1_.reads oY1_.reads hl1).mono ?_); rintro e w13 ⟨rfl, b1⟩; (have z13 : w12.heap.size ≤ w13.heap.size := by have := b1.size; first | (simpa using this) | (simp at this; omega)); (replace q0 := cellKeep b1 q0); (replace q1 := cellKeep b1 q1); (replace q2 := cellKeep b1 q2); (replace q3 := cellKeep b1 q3); (replace eX0_a := cellKeep b1 eX0_a); (replace eX0_b := cellKeep b1 eX0_b); (replace eX1_a := cellKeep b1 eX1_a); (replace eX1_b := cellKeep b1 eX1_b); (replace oW0 := oW0.later b1); (replace oX0_ := oX0_.later b1); (replace oX1_ := oX1_.later b1); (replace oG0 := oG0.later b1); (replace oY1_ := oY1_.later b1); (replace bW := bW.thenB b1); clear b1; clear tok16_1 _t))
  skip
  clear oY1_ gY1_
  go_wp2_with fail
  refine (markMass_any _ _ _ _ _ _ oX0_ (by omega) (by omega) (by omega) (by first | omega | (simp; omega))).mono ?_
  rintro e w14 ⟨rfl, om, hg⟩
  have z14 : w13.heap.size ≤ w14.heap.size := by have := hg.size; simpa using this
  replace q0 := cellGrown hg q0 (fun k h => by have := gX0_ k h; have := HZ.out; first | omega | (simp; omega))
  replace q1 := cellGrown hg q1 (fun k h => by have := gX0_ k h; have := HZ.out; first | omega | (simp; omega))
  replace q2 := cellGrown hg q2 (fun k h => by have := gX0_ k h; have := HZ.out; first | omega | (simp; omega))
  replace q3 := cellGrown hg q3 (fun k h => by have := gX0_ k h; have := HZ.out; first | omega | (simp; omega))
  replace eX0_a := cellGrown hg eX0_a (fun k h => by have := gX0_ k h; have := HZ.out; first | omega | (simp; omega))
  replace eX0_b := cellGrown hg eX0_b (fun k h => by have := gX0_ k h; have := HZ.out; first | omega | (simp; omega))
  replace eX1_a := cellGrown hg eX1_a (fun k h => by have := gX0_ k h; have := HZ.out; first | omega | (simp; omega))
  replace eX1_b := cellGrown hg eX1_b (fun k h => by have := gX0_ k h; have := HZ.out; first | omega | (simp; omega))
  replace oW0 := oW0.grown hg (fun k h h2 => by have := gX0_ k h; have := gW0 k h2; have := HZ.out; omega)
  replace oX1_ := oX1_.grown hg (fun k h h2 => by have := gX0_ k h; have := gX1_ k h2; have := HZ.out; omega)
  replace oG0 := oG0.grown hg (fun k h h2 => by have := gX0_ k h; have := gG0 k h2; have := HZ.out; omega)
  replace bW := bW.trans (belowGrown hg (bW.size) (fun k h => by have := gX0_ k h; have := HZ.out; omega))
  replace oX0_ := om
  clear om hg
  go_wp2_with fail
  refine (markMass_any _ _ _ _ _ _ oX1_ (by omega) (by omega) (by omega) (by first | omega | (simp; omega))).mono ?_
  rintro e w15 ⟨rfl, om, hg⟩
  have z15 : w14.heap.size ≤ w15.heap.size := by have := hg.size; simpa using this
  replace q0 := cellGrown hg q0 (fun k h => by have := gX1_ k h; have := HZ.out; first | omega | (simp; omega))
  replace q1 := cellGrown hg q1 (fun k h => by have := gX1_ k h; have := HZ.out; first | omega | (simp; omega))
  replace q2 := cellGrown hg q2 (fun k h => by have := gX1_ k h; have := HZ.out; first | omega | (simp; omega))
  replace q3 := cellGrown hg q3 (fun k h => by have := gX1_ k h; have := HZ.out; first | omega | (simp; omega))
  replace eX0_a := cellGrown hg eX0_a (fun k h => by have := gX1_ k h; have := HZ.out; first | omega | (simp; omega))
  replace eX0_b := cellGrown hg eX0_b (fun k h => by have := gX1_ k h; have := HZ.out; first | omega | (simp; omega))
  replace eX1_a := cellGrown hg eX1_a (fun k h => by have := gX1_ k h; have := HZ.out; first | omega | (simp; omega))
  replace eX1_b := cellGrown hg eX1_b (fun k h => by have := gX1_ k h; have := HZ.out; first | omega | (simp; omega))
  replace oW0 := oW0.grown hg (fun k h h2 => by have := gX1_ k h; have := gW0 k h2; have := HZ.out; omega)
  replace oX0_ := oX0_.grown hg (fun k h h2 => by have := gX1_ k h; have := gX0_ k h2; have := HZ.out; omega)
  replace oG0 := oG0.grown hg (fun k h h2 => by have := gX1_ k h; have := gG0 k h2; have := HZ.out; omega)
  replace bW := bW.trans (belowGrown hg (bW.size) (fun k h => by have := gX1_ k h; have := HZ.out; omega))
  replace oX1_ := om
  clear om hg
  go_wp2_with fail
  refine (eqIntS_same _ _ _ _ _ _ oG0.reads oW0.reads hL).mono ?_
  rintro e w16 ⟨rfl, b1⟩
  have z16 : w15.heap.size ≤ w16.heap.size := by have := b1.size; first | (simpa using this) | (simp at this; omega)
  replace q0 := cellKeep b1 q0
  replace q1 := cellKeep b1 q1
  replace q2 := cellKeep b1 q2
  replace q3 := cellKeep b1 q3
  replace eX0_a := cellKeep b1 eX0_a
  replace eX0_b := cellKeep b1 eX0_b
  replace eX1_a := cellKeep b1 eX1_a
  replace eX1_b := cellKeep b1 eX1_b
  replace oW0 := oW0.later b1
  replace oX0_ := oX0_.later b1
  replace oX1_ := oX1_.later b1
  replace oG0 := oG0.later b1
  replace bW := bW.thenB b1
  clear b1
  go_wp2_with fail
  refine (markIntS_any _ _ _ _ _ oG0 (by omega) (by omega) (by omega)).mono ?_
  rintro e w17 ⟨rfl, om, hg⟩
  have z17 : w16.heap.size ≤ w17.heap.size := by have := hg.size; simpa using this
  replace q0 := cellGrown hg q0 (fun k h => by have := gG0 k h; have := HZ.out; first | omega | (simp; omega))
  replace q1 := cellGrown hg q1 (fun k h => by have := gG0 k h; have := HZ.out; first | omega | (simp; omega))
  replace q2 := cellGrown hg q2 (fun k h => by have := gG0 k h; have := HZ.out; first | omega | (simp; omega))
  replace q3 := cellGrown hg q3 (fun k h => by have := gG0 k h; have := HZ.out; first | omega | (simp; omega))
  replace eX0_a := cellGrown hg eX0_a (fun k h => by have := gG0 k h; have := HZ.out; first | omega | (simp; omega))
  replace eX0_b := cellGrown hg eX0_b (fun k h => by have := gG0 k h; have := HZ.out; first | omega | (simp; omega))
  replace eX1_a := cellGrown hg eX1_a (fun k h => by have := gG0 k h; have := HZ.out; first | omega | (simp; omega))
  replace eX1_b := cellGrown hg eX1_b (fun k h => by have := gG0 k h; have := HZ.out; first | omega | (simp; omega))
  replace oW0 := oW0.grown hg (fun k h h2 => by have := gG0 k h; have := gW0 k h2; have := HZ.out; omega)
  replace oX0_ := oX0_.grown hg (fun k h h2 => by have := gG0 k h; have := gX0_ k h2; have := HZ.out; omega)
  replace oX1_ := oX1_.grown hg (fun k h h2 => by have := gG0 k h; have := gX1_ k h2; have := HZ.out; omega)
  replace bW := bW.trans (belowGrown hg (bW.size) (fun k h => by have := gG0 k h; have := HZ.out; omega))
  replace oG0 := om
  clear om hg
  go_wp2_with fail
  refine (heldIntS_any _ _ _ _ _ oG0.reads hL (by omega) (by omega)).mono ?_
  rintro e _w ⟨rfl, rfl⟩
  go_wp2_with fail
  replace q0 := cellDrew q0
  replace q1 := cellDrew q1
  replace q2 := cellDrew q2
  replace q3 := cellDrew q3
  replace eX0_a := cellDrew eX0_a
  replace eX0_b := cellDrew eX0_b
  replace eX1_a := cellDrew eX1_a
  replace eX1_b := cellDrew eX1_b
  replace oW0 := oW0.drew
  replace oX0_ := oX0_.drew
  replace oX1_ := oX1_.drew
  replace oG0 := oG0.drew
  replace bW := drewAll bW
  have tok31_0 : True := trivial
  have tok31_1 : True := trivial
  have tok31_2 : True := trivial
  go_region_held3 (fun w' => w'.cell? ⟨w.heap.size, 0, none⟩ = some (.int .i64 s0) ∧ w'.cell? ⟨w.heap.size, 1, none⟩ = some (.slice a0 x0.length c0) ∧ w'.cell? ⟨w.heap.size + 1, 0, none⟩ = some (.int .i64 s1) ∧ w'.cell? ⟨w.heap.size + 1, 1, none⟩ = some (.slice a1 x1.length c1) ∧ w'.cell? ⟨w6.heap.size, 0, none⟩ = some (.int .i64 s0) ∧ w'.cell? ⟨w6.heap.size, 1, none⟩ = some (.slice pX0_ x0.length kX0_) ∧ w'.cell? ⟨w7.heap.size, 0, none⟩ = some (.int .i64 s1) ∧ w'.cell? ⟨w7.heap.size, 1, none⟩ = some (.slice pX1_ x1.length kX1_))
    (exact ⟨q0, q1, q2, q3, eX0_a, eX0_b, eX1_a, eX1_b⟩)
    (first
      | (go_at_call 13; have _t := tok31_0; (with_reducible refine (toMass_any _ _ _ _ _ (rd0.below bW) hl0).mono ?_); rintro e w18 ⟨vZ0_, rfl, oZ0_, b1⟩; (have z18 : w17.heap.size ≤ w18.heap.size := by have := b1.size; first | (simpa using this) | (simp at this; omega)); (replace q0 := cellKeep b1 q0); (replace q1 := cellKeep b1 q1); (replace q2 := cellKeep b1 q2); (replace q3 := cellKeep b1 q3); (replace eX0_a := cellKeep b1 eX0_a); (replace eX0_b := cellKeep b1 eX0_b); (replace eX1_a := cellKeep b1 eX1_a); (replace eX1_b := cellKeep b1 eX1_b); (replace oW0 := oW0.later b1); (replace oX0_ := oX0_.later b1); (replace oX1_ := oX1_.later b1); (replace oG0 := oG0.later b1); (replace bW := bW.thenB b1); obtain ⟨pZ0_, kZ0_, rfl, _hr⟩ := oZ0_.shape; (have gZ0_ : ∀ k, (Value.slice pZ0_ x0.length kZ0_).ownBlock = some k → w17.heap.size ≤ k ∧ k < w18.heap.size := fun k hk => by have := oZ0_.blockLt k hk; first | (simpa using this) | (simp at this; omega)); clear b1 _hr; clear tok31_0 _t)
      | (go_at_call 13; have _t := tok31_1; (with_reducible refine (toMass_any _ _ _ _ _ (rd1.below bW) hl1).mono ?_); rintro e w19 ⟨vZ1_, rfl, oZ1_, b1⟩; (have z19 : w18.heap.size ≤ w19.heap.size := by have := b1.size; first | (simpa using this) | (simp at this; omega)); (replace q0 := cellKeep b1 q0); (replace q1 := cellKeep b1 q1); (replace q2 := cellKeep b1 q2); (replace q3 := cellKeep b1 q3); (replace eX0_a := cellKeep b1 eX0_a); (replace eX0_b := cellKeep b1 eX0_b); (replace eX1_a := cellKeep b1 eX1_a); (replace eX1_b := cellKeep b1 eX1_b); (replace oW0 := oW0.later b1); (replace oX0_ := oX0_.later b1); (replace oX1_ := oX1_.later b1); (replace oG0 := oG0.later b1); (replace oZ0_ := oZ0_.later b1); (replace bW := bW.thenB b1); obtain ⟨pZ1_, kZ1_, rfl, _hr⟩ := oZ1_.shape; (have gZ1_ : ∀ k, (Value.slice pZ1_ x1.length kZ1_).ownBlock = some k → w18.heap.size ≤ k ∧ k < w19.heap.size := fun k hk => by have := oZ1_.blockLt k hk; first | (simpa using this) | (simp at this; omega)); clear b1 _hr; clear tok31_1 _t)
      | (go_at_call 35; have _t := tok31_2; (with_reducible refine (iMovedParts_any _ _ _ _ _ _ _ _ _ oZ0_.reads oZ1_.reads hl0 hl1).mono ?_); rintro e w20 ⟨vH0, rfl, oH0, b1⟩; (have z20 : w19.heap.size ≤ w20.heap.size := by have := b1.size; first | (simpa using this) | (simp at this; omega)); (replace q0 := cellKeep b1 q0); (replace q1 := cellKeep b1 q1); (replace q2 := cellKeep b1 q2); (replace q3 := cellKeep b1 q3); (replace eX0_a := cellKeep b1 eX0_a); (replace eX0_b := cellKeep b1 eX0_b); (replace eX1_a := cellKeep b1 eX1_a); (replace eX1_b := cellKeep b1 eX1_b); (replace oW0 := oW0.later b1); (replace oX0_ := oX0_.later b1); (replace oX1_ := oX1_.later b1); (replace oG0 := oG0.later b1); (replace oZ0_ := oZ0_.later b1); (replace oZ1_ := oZ1_.later b1); (replace bW := bW.thenB b1); obtain ⟨pH0, kH0, rfl, _hr⟩ := oH0.shape; (have gH0 : ∀ k, (Value.slice pH0 (mvL s0 x0 s1 x1).length kH0).ownBlock = some k → w19.heap.size ≤ k ∧ k < w20.heap.size := fun k hk => by have := oH0.blockLt k hk; first | (simpa using this) | (simp at this; omega)); clear b1 _hr; clear tok31_2 _t))
  skip
  clear oZ0_ gZ0_ oZ1_ gZ1_
  go_wp2_with fail
  refine (eqIntS_same _ _ _ _ _ _ oH0.reads oW0.reads hL).mono ?_
  rintro e w21 ⟨rfl, b1⟩
  have z21 : w20.heap.size ≤ w21.heap.size := by have := b1.size; first | (simpa using this) | (simp at this; omega)
  replace q0 := cellKeep b1 q0
  replace q1 := cellKeep b1 q1
  replace q2 := cellKeep b1 q2
  replace q3 := cellKeep b1 q3
  replace eX0_a := cellKeep b1 eX0_a
  replace eX0_b := cellKeep b1 eX0_b
  replace eX1_a := cellKeep b1 eX1_a
  replace eX1_b := cellKeep b1 eX1_b
  replace oW0 := oW0.later b1
  replace oX0_ := oX0_.later b1
  replace oX1_ := oX1_.later b1
  replace oG0 := oG0.later b1
  replace oH0 := oH0.later b1
  replace bW := bW.thenB b1
  clear b1
  go_wp2_with fail
  refine (heldIntS_any _ _ _ _ _ oG0.reads hL (by omega) (by omega)).mono ?_
  rintro e _w ⟨rfl, rfl⟩
  go_wp2
  go_ret
  exact ⟨rfl, bW⟩

end Go.Proofs.Ytjmfjgoehicgcaa
