/- The exact law on MeetLevels: what it computes. -/
import Derived.Test.YtjblgjpeolepjaaT2
import Derived.Test.YtjblgjpeolepjaaL9c
set_option linter.unusedVariables false
set_option linter.unusedSimpArgs false
namespace Go.Proofs.Ytjblgjpeolepjaa
open Go.RowKit

set_option maxHeartbeats 4000000 in
theorem FnExactMeetLevels_walk (w : World) (a0 : Option Addr) (c0 : Nat) (x0 : List Int) (m0 : x0.length ≤ maxLen) (rd0 : Reads w a0 x0) (wf0 : ∀ n ∈ x0, (Lit.int .i64 n).wf = true) (a1 : Option Addr) (c1 : Nat) (x1 : List Int) (m1 : x1.length ≤ maxLen) (rd1 : Reads w a1 x1) (wf1 : ∀ n ∈ x1, (Lit.int .i64 n).wf = true) :
    Calls Try.prog 7 #[.slice a0 x0.length c0, .slice a1 x1.length c1] w fun e w' => e = .returned (.bool true) ∧ Below w.heap.size w w' := by
  unfold maxLen at m0 m1
  clear wf0 wf1
  have bW : Below w.heap.size w w := Below.refl _ _
  have HZ := Lib.hid (rfl : w.heap.size = w.heap.size)
  by_cases hl0 : x0.length ≤ 1048576
  rotate_left
  · go_enter Try.func7, Try.ntmps7
    go_wp2
    go_ret
    exact ⟨rfl, bW⟩
  by_cases hl1 : x1.length ≤ 1048576
  rotate_left
  · go_enter Try.func7, Try.ntmps7
    go_wp2
    go_ret
    exact ⟨rfl, bW⟩
  have hq : (meetOk x0 x1 != meetOk x0 x1) = false := by simp
  have hL : (meetL x0 x1).length ≤ 1048576 := Nat.le_trans (meetL_len x0 x1) hl0
  go_enter Try.func7, Try.ntmps7
  go_wp2_with fail
  refine (toIntS_any _ _ _ _ (rd0.below bW) hl0).mono ?_
  rintro e w1 ⟨vs0_, rfl, os0_, b1⟩
  have z1 : w.heap.size ≤ w1.heap.size := by have := b1.size; simpa using this
  replace bW := bW.thenB b1
  obtain ⟨ps0_, ks0_, rfl, _hr⟩ := os0_.shape
  have gs0_ : ∀ k, (Value.slice ps0_ x0.length ks0_).ownBlock = some k → w.heap.size ≤ k ∧ k < w1.heap.size := fun k hk => by have := os0_.blockLt k hk; simpa using this
  clear b1 _hr
  go_wp2_with fail
  refine (toIntS_any _ _ _ _ (rd1.below bW) hl1).mono ?_
  rintro e w2 ⟨vs1_, rfl, os1_, b1⟩
  have z2 : w1.heap.size ≤ w2.heap.size := by have := b1.size; simpa using this
  replace os0_ := os0_.later b1
  replace bW := bW.thenB b1
  obtain ⟨ps1_, ks1_, rfl, _hr⟩ := os1_.shape
  have gs1_ : ∀ k, (Value.slice ps1_ x1.length ks1_).ownBlock = some k → w1.heap.size ≤ k ∧ k < w2.heap.size := fun k hk => by have := os1_.blockLt k hk; simpa using this
  clear b1 _hr
  go_wp2_with fail
  refine (sMeetLevels_any _ _ _ _ _ _ _ os0_.reads os1_.reads hl0 hl1).mono ?_
  rintro e w3 ⟨vW0, rfl, oW0, b1⟩
  have z3 : w2.heap.size ≤ w3.heap.size := by have := b1.size; simpa using this
  replace os0_ := os0_.later b1
  replace os1_ := os1_.later b1
  replace bW := bW.thenB b1
  obtain ⟨pW0, kW0, rfl, _hr⟩ := oW0.shape
  have gW0 : ∀ k, (Value.slice pW0 (meetL x0 x1).length kW0).ownBlock = some k → w2.heap.size ≤ k ∧ k < w3.heap.size := fun k hk => by have := oW0.blockLt k hk; simpa using this
  clear b1 _hr
  clear os0_ gs0_ os1_ gs1_
  go_wp2_with fail
  refine (toIntS_any _ _ _ _ (rd0.below bW) hl0).mono ?_
  rintro e w4 ⟨vX0_, rfl, oX0_, b1⟩
  have z4 : w3.heap.size ≤ w4.heap.size := by have := b1.size; simpa using this
  replace oW0 := oW0.later b1
  replace bW := bW.thenB b1
  obtain ⟨pX0_, kX0_, rfl, _hr⟩ := oX0_.shape
  have gX0_ : ∀ k, (Value.slice pX0_ x0.length kX0_).ownBlock = some k → w3.heap.size ≤ k ∧ k < w4.heap.size := fun k hk => by have := oX0_.blockLt k hk; simpa using this
  clear b1 _hr
  go_wp2_with fail
  refine (toIntS_any _ _ _ _ (rd1.below bW) hl1).mono ?_
  rintro e w5 ⟨vX1_, rfl, oX1_, b1⟩
  have z5 : w4.heap.size ≤ w5.heap.size := by have := b1.size; simpa using this
  replace oW0 := oW0.later b1
  replace oX0_ := oX0_.later b1
  replace bW := bW.thenB b1
  obtain ⟨pX1_, kX1_, rfl, _hr⟩ := oX1_.shape
  have gX1_ : ∀ k, (Value.slice pX1_ x1.length kX1_).ownBlock = some k → w4.heap.size ≤ k ∧ k < w5.heap.size := fun k hk => by have := oX1_.blockLt k hk; simpa using this
  clear b1 _hr
  go_wp2_with fail
  refine (iMeetLevels_any _ _ _ _ _ _ _ oX0_.reads oX1_.reads hl0 hl1).mono ?_
  rintro e w6 ⟨vG0, rfl, oG0, b1⟩
  have z6 : w5.heap.size ≤ w6.heap.size := by have := b1.size; simpa using this
  replace oW0 := oW0.later b1
  replace oX0_ := oX0_.later b1
  replace oX1_ := oX1_.later b1
  replace bW := bW.thenB b1
  obtain ⟨pG0, kG0, rfl, _hr⟩ := oG0.shape
  have gG0 : ∀ k, (Value.slice pG0 (meetL x0 x1).length kG0).ownBlock = some k → w5.heap.size ≤ k ∧ k < w6.heap.size := fun k hk => by have := oG0.blockLt k hk; simpa using this
  clear b1 _hr
  go_wp2_with fail
  refine (eqIntS_same _ _ _ _ _ _ oG0.reads oW0.reads hL).mono ?_
  rintro e w7 ⟨rfl, b1⟩
  have z7 : w6.heap.size ≤ w7.heap.size := by have := b1.size; simpa using this
  replace oW0 := oW0.later b1
  replace oX0_ := oX0_.later b1
  replace oX1_ := oX1_.later b1
  replace oG0 := oG0.later b1
  replace bW := bW.thenB b1
  clear b1
  go_wp2_with fail
  refine (toIntS_any _ _ _ _ (rd0.below bW) hl0).mono ?_
  rintro e w8 ⟨vY0_, rfl, oY0_, b1⟩
  have z8 : w7.heap.size ≤ w8.heap.size := by have := b1.size; simpa using this
  replace oW0 := oW0.later b1
  replace oX0_ := oX0_.later b1
  replace oX1_ := oX1_.later b1
  replace oG0 := oG0.later b1
  replace bW := bW.thenB b1
  obtain ⟨pY0_, kY0_, rfl, _hr⟩ := oY0_.shape
  have gY0_ : ∀ k, (Value.slice pY0_ x0.length kY0_).ownBlock = some k → w7.heap.size ≤ k ∧ k < w8.heap.size := fun k hk => by have := oY0_.blockLt k hk; simpa using this
  clear b1 _hr
  go_wp2_with fail
  refine (eqIntS_same _ _ _ _ _ _ oX0_.reads oY0_.reads hl0).mono ?_
  rintro e w9 ⟨rfl, b1⟩
  have z9 : w8.heap.size ≤ w9.heap.size := by have := b1.size; simpa using this
  replace oW0 := oW0.later b1
  replace oX0_ := oX0_.later b1
  replace oX1_ := oX1_.later b1
  replace oG0 := oG0.later b1
  replace oY0_ := oY0_.later b1
  replace bW := bW.thenB b1
  clear b1
  clear oY0_ gY0_
  go_wp2_with fail
  refine (toIntS_any _ _ _ _ (rd1.below bW) hl1).mono ?_
  rintro e w10 ⟨vY1_, rfl, oY1_, b1⟩
  have z10 : w9.heap.size ≤ w10.heap.size := by have := b1.size; simpa using this
  replace oW0 := oW0.later b1
  replace oX0_ := oX0_.later b1
  replace oX1_ := oX1_.later b1
  replace oG0 := oG0.later b1
  replace bW := bW.thenB b1
  obtain ⟨pY1_, kY1_, rfl, _hr⟩ := oY1_.shape
  have gY1_ : ∀ k, (Value.slice pY1_ x1.length kY1_).ownBlock = some k → w9.heap.size ≤ k ∧ k < w10.heap.size := fun k hk => by have := oY1_.blockLt k hk; simpa using this
  clear b1 _hr
  go_wp2_with fail
  refine (eqIntS_same _ _ _ _ _ _ oX1_.reads oY1_.reads hl1).mono ?_
  rintro e w11 ⟨rfl, b1⟩
  have z11 : w10.heap.size ≤ w11.heap.size := by have := b1.size; simpa using this
  replace oW0 := oW0.later b1
  replace oX0_ := oX0_.later b1
  replace oX1_ := oX1_.later b1
  replace oG0 := oG0.later b1
  replace oY1_ := oY1_.later b1
  replace bW := bW.thenB b1
  clear b1
  clear oY1_ gY1_
  go_wp2_with fail
  refine (markIntS_any _ _ _ _ _ oX0_ (by omega) (by omega) (by omega)).mono ?_
  rintro e w12 ⟨rfl, om, hg⟩
  have z12 : w11.heap.size ≤ w12.heap.size := by have := hg.size; simpa using this
  replace oW0 := oW0.grown hg (fun k h h2 => by have := gX0_ k h; have := gW0 k h2; have := HZ.out; omega)
  replace oX1_ := oX1_.grown hg (fun k h h2 => by have := gX0_ k h; have := gX1_ k h2; have := HZ.out; omega)
  replace oG0 := oG0.grown hg (fun k h h2 => by have := gX0_ k h; have := gG0 k h2; have := HZ.out; omega)
  replace bW := bW.trans (belowGrown hg (bW.size) (fun k h => by have := gX0_ k h; have := HZ.out; omega))
  replace oX0_ := om
  clear om hg
  go_wp2_with fail
  refine (markIntS_any _ _ _ _ _ oX1_ (by omega) (by omega) (by omega)).mono ?_
  rintro e w13 ⟨rfl, om, hg⟩
  have z13 : w12.heap.size ≤ w13.heap.size := by have := hg.size; simpa using this
  replace oW0 := oW0.grown hg (fun k h h2 => by have := gX1_ k h; have := gW0 k h2; have := HZ.out; omega)
  replace oX0_ := oX0_.grown hg (fun k h h2 => by have := gX1_ k h; have := gX0_ k h2; have := HZ.out; omega)
  replace oG0 := oG0.grown hg (fun k h h2 => by have := gX1_ k h; have := gG0 k h2; have := HZ.out; omega)
  replace bW := bW.trans (belowGrown hg (bW.size) (fun k h => by have := gX1_ k h; have := HZ.out; omega))
  replace oX1_ := om
  clear om hg
  go_wp2_with fail
  refine (eqIntS_same _ _ _ _ _ _ oG0.reads oW0.reads hL).mono ?_
  rintro e w14 ⟨rfl, b1⟩
  have z14 : w13.heap.size ≤ w14.heap.size := by have := b1.size; simpa using this
  replace oW0 := oW0.later b1
  replace oX0_ := oX0_.later b1
  replace oX1_ := oX1_.later b1
  replace oG0 := oG0.later b1
  replace bW := bW.thenB b1
  clear b1
  go_wp2_with fail
  refine (markIntS_any _ _ _ _ _ oG0 (by omega) (by omega) (by omega)).mono ?_
  rintro e w15 ⟨rfl, om, hg⟩
  have z15 : w14.heap.size ≤ w15.heap.size := by have := hg.size; simpa using this
  replace oW0 := oW0.grown hg (fun k h h2 => by have := gG0 k h; have := gW0 k h2; have := HZ.out; omega)
  replace oX0_ := oX0_.grown hg (fun k h h2 => by have := gG0 k h; have := gX0_ k h2; have := HZ.out; omega)
  replace oX1_ := oX1_.grown hg (fun k h h2 => by have := gG0 k h; have := gX1_ k h2; have := HZ.out; omega)
  replace bW := bW.trans (belowGrown hg (bW.size) (fun k h => by have := gG0 k h; have := HZ.out; omega))
  replace oG0 := om
  clear om hg
  go_wp2_with fail
  refine (heldIntS_any _ _ _ _ _ oG0.reads hL (by omega) (by omega)).mono ?_
  rintro e _w ⟨rfl, rfl⟩
  go_wp2_with fail
  refine (toIntS_any _ _ _ _ (rd0.below bW) hl0).mono ?_
  rintro e w16 ⟨vZ0_, rfl, oZ0_, b1⟩
  have z16 : w15.heap.size ≤ w16.heap.size := by have := b1.size; simpa using this
  replace oW0 := oW0.later b1
  replace oX0_ := oX0_.later b1
  replace oX1_ := oX1_.later b1
  replace oG0 := oG0.later b1
  replace bW := bW.thenB b1
  obtain ⟨pZ0_, kZ0_, rfl, _hr⟩ := oZ0_.shape
  have gZ0_ : ∀ k, (Value.slice pZ0_ x0.length kZ0_).ownBlock = some k → w15.heap.size ≤ k ∧ k < w16.heap.size := fun k hk => by have := oZ0_.blockLt k hk; simpa using this
  clear b1 _hr
  go_wp2_with fail
  refine (toIntS_any _ _ _ _ (rd1.below bW) hl1).mono ?_
  rintro e w17 ⟨vZ1_, rfl, oZ1_, b1⟩
  have z17 : w16.heap.size ≤ w17.heap.size := by have := b1.size; simpa using this
  replace oW0 := oW0.later b1
  replace oX0_ := oX0_.later b1
  replace oX1_ := oX1_.later b1
  replace oG0 := oG0.later b1
  replace oZ0_ := oZ0_.later b1
  replace bW := bW.thenB b1
  obtain ⟨pZ1_, kZ1_, rfl, _hr⟩ := oZ1_.shape
  have gZ1_ : ∀ k, (Value.slice pZ1_ x1.length kZ1_).ownBlock = some k → w16.heap.size ≤ k ∧ k < w17.heap.size := fun k hk => by have := oZ1_.blockLt k hk; simpa using this
  clear b1 _hr
  go_wp2_with fail
  refine (iMeetLevels_any _ _ _ _ _ _ _ oZ0_.reads oZ1_.reads hl0 hl1).mono ?_
  rintro e w18 ⟨vH0, rfl, oH0, b1⟩
  have z18 : w17.heap.size ≤ w18.heap.size := by have := b1.size; simpa using this
  replace oW0 := oW0.later b1
  replace oX0_ := oX0_.later b1
  replace oX1_ := oX1_.later b1
  replace oG0 := oG0.later b1
  replace oZ0_ := oZ0_.later b1
  replace oZ1_ := oZ1_.later b1
  replace bW := bW.thenB b1
  obtain ⟨pH0, kH0, rfl, _hr⟩ := oH0.shape
  have gH0 : ∀ k, (Value.slice pH0 (meetL x0 x1).length kH0).ownBlock = some k → w17.heap.size ≤ k ∧ k < w18.heap.size := fun k hk => by have := oH0.blockLt k hk; simpa using this
  clear b1 _hr
  clear oZ0_ gZ0_ oZ1_ gZ1_
  go_wp2_with fail
  refine (eqIntS_same _ _ _ _ _ _ oH0.reads oW0.reads hL).mono ?_
  rintro e w19 ⟨rfl, b1⟩
  have z19 : w18.heap.size ≤ w19.heap.size := by have := b1.size; simpa using this
  replace oW0 := oW0.later b1
  replace oX0_ := oX0_.later b1
  replace oX1_ := oX1_.later b1
  replace oG0 := oG0.later b1
  replace oH0 := oH0.later b1
  replace bW := bW.thenB b1
  clear b1
  go_wp2_with fail
  refine (heldIntS_any _ _ _ _ _ oG0.reads hL (by omega) (by omega)).mono ?_
  rintro e _w ⟨rfl, rfl⟩
  go_wp2
  go_ret
  exact ⟨rfl, bW⟩

end Go.Proofs.Ytjblgjpeolepjaa
