/- The exact law on MassOfLevels: what it computes. -/
import Derived.Test.YtmbipmdflbddbaaT2
import Derived.Test.YtmbipmdflbddbaaM6
set_option linter.unusedVariables false
set_option linter.unusedSimpArgs false
namespace Go.Proofs.Ytmbipmdflbddbaa
open Go.RowKit

set_option maxHeartbeats 4000000 in
theorem FnExactMassOfLevels_walk (w : World) (a0 : Option Addr) (c0 : Nat) (x0 : List Int) (m0 : x0.length ≤ maxLen) (rd0 : Reads w a0 x0) (wf0 : ∀ n ∈ x0, (Lit.int .i64 n).wf = true) :
    Calls Try.prog 3 #[.slice a0 x0.length c0] w fun e w' => e = .returned (.bool true) ∧ Below w.heap.size w w' := by
  unfold maxLen at m0
  clear wf0
  have bW : Below w.heap.size w w := Below.refl _ _
  have HZ := Lib.hid (rfl : w.heap.size = w.heap.size)
  by_cases hl0 : x0.length ≤ 1048576
  rotate_left
  · go_enter Try.func3, Try.ntmps3
    go_wp2
    go_ret
    exact ⟨rfl, bW⟩
  have hq : ((gOk (lvB x0) x0.length (lvP x0)) != (gOk (lvB x0) x0.length (lvP x0))) = false := by simp
  have hL : ((gL (lvB x0) x0.length (lvP x0))).length ≤ 1048576 := lvR_len x0
  go_enter Try.func3, Try.ntmps3
  go_wp2_with fail
  refine (toIntS_any _ _ _ _ (rd0.below bW) hl0).mono ?_
  rintro e w1 ⟨vs0_, rfl, os0_, b1⟩
  have z1 : w.heap.size ≤ w1.heap.size := by have := b1.size; first | (simpa using this) | (simp at this; omega)
  replace bW := bW.thenB b1
  obtain ⟨ps0_, ks0_, rfl, _hr⟩ := os0_.shape
  have gs0_ : ∀ k, (Value.slice ps0_ x0.length ks0_).ownBlock = some k → w.heap.size ≤ k ∧ k < w1.heap.size := fun k hk => by have := os0_.blockLt k hk; first | (simpa using this) | (simp at this; omega)
  clear b1 _hr
  go_wp2_with fail
  refine (sMassOfLevels_any _ _ _ _ os0_.reads hl0).mono ?_
  rintro e w2 ⟨vW0, rfl, oW0, b1⟩
  have z2 : w1.heap.size ≤ w2.heap.size := by have := b1.size; first | (simpa using this) | (simp at this; omega)
  replace os0_ := os0_.later b1
  replace bW := bW.thenB b1
  obtain ⟨pW0, kW0, rfl, _hr⟩ := oW0.shape
  have gW0 : ∀ k, (Value.slice pW0 ((gL (lvB x0) x0.length (lvP x0))).length kW0).ownBlock = some k → w1.heap.size ≤ k ∧ k < w2.heap.size := fun k hk => by have := oW0.blockLt k hk; first | (simpa using this) | (simp at this; omega)
  clear b1 _hr
  clear os0_ gs0_
  go_wp2_with fail
  have b1 := belowAlloc w2 (.cells #[.int .i64 (gS (lvB x0) x0.length (lvP x0)), .slice pW0 ((gL (lvB x0) x0.length (lvP x0))).length kW0] 24)
  replace oW0 := oW0.later b1
  replace bW := bW.thenB b1
  have eW0a := newCell0 w2 (.int .i64 (gS (lvB x0) x0.length (lvP x0))) (.slice pW0 ((gL (lvB x0) x0.length (lvP x0))).length kW0) 24
  have eW0b := newCell1 w2 (.int .i64 (gS (lvB x0) x0.length (lvP x0))) (.slice pW0 ((gL (lvB x0) x0.length (lvP x0))).length kW0) 24
  clear b1
  refine (toIntS_any _ _ _ _ (rd0.below bW) hl0).mono ?_
  rintro e w3 ⟨vX0_, rfl, oX0_, b1⟩
  have z3 : w2.heap.size + 1 ≤ w3.heap.size := by have := b1.size; first | (simpa using this) | (simp at this; omega)
  replace eW0a := cellKeep b1 eW0a
  replace eW0b := cellKeep b1 eW0b
  replace oW0 := oW0.later b1
  replace bW := bW.thenB b1
  obtain ⟨pX0_, kX0_, rfl, _hr⟩ := oX0_.shape
  have gX0_ : ∀ k, (Value.slice pX0_ x0.length kX0_).ownBlock = some k → w2.heap.size + 1 ≤ k ∧ k < w3.heap.size := fun k hk => by have := oX0_.blockLt k hk; first | (simpa using this) | (simp at this; omega)
  clear b1 _hr
  go_wp2_with fail
  refine (iMassOfLevels_any _ _ _ _ oX0_.reads hl0).mono ?_
  rintro e w4 ⟨vG0, rfl, oG0, b1⟩
  have z4 : w3.heap.size ≤ w4.heap.size := by have := b1.size; first | (simpa using this) | (simp at this; omega)
  replace eW0a := cellKeep b1 eW0a
  replace eW0b := cellKeep b1 eW0b
  replace oW0 := oW0.later b1
  replace oX0_ := oX0_.later b1
  replace bW := bW.thenB b1
  obtain ⟨pG0, kG0, rfl, _hr⟩ := oG0.shape
  have gG0 : ∀ k, (Value.slice pG0 ((gL (lvB x0) x0.length (lvP x0))).length kG0).ownBlock = some k → w3.heap.size ≤ k ∧ k < w4.heap.size := fun k hk => by have := oG0.blockLt k hk; first | (simpa using this) | (simp at this; omega)
  clear b1 _hr
  have lt0 : w2.heap.size < w4.heap.size := World.block_lt_of_cell? _ _ eW0a
  go_wp2_with fail
  clear lt0
  have b1 := belowAlloc w4 (.cells #[.int .i64 (gS (lvB x0) x0.length (lvP x0)), .slice pG0 ((gL (lvB x0) x0.length (lvP x0))).length kG0] 24)
  replace eW0a := cellKeep b1 eW0a
  replace eW0b := cellKeep b1 eW0b
  replace oW0 := oW0.later b1
  replace oX0_ := oX0_.later b1
  replace oG0 := oG0.later b1
  replace bW := bW.thenB b1
  have eG0a := newCell0 w4 (.int .i64 (gS (lvB x0) x0.length (lvP x0))) (.slice pG0 ((gL (lvB x0) x0.length (lvP x0))).length kG0) 24
  have eG0b := newCell1 w4 (.int .i64 (gS (lvB x0) x0.length (lvP x0))) (.slice pG0 ((gL (lvB x0) x0.length (lvP x0))).length kG0) 24
  clear b1
  refine (eqMass_same _ _ _ _ _ _ _ oG0.reads oW0.reads hL).mono ?_
  rintro e w5 ⟨rfl, b1⟩
  have z5 : w4.heap.size + 1 ≤ w5.heap.size := by have := b1.size; first | (simpa using this) | (simp at this; omega)
  replace eW0a := cellKeep b1 eW0a
  replace eW0b := cellKeep b1 eW0b
  replace eG0a := cellKeep b1 eG0a
  replace eG0b := cellKeep b1 eG0b
  replace oW0 := oW0.later b1
  replace oX0_ := oX0_.later b1
  replace oG0 := oG0.later b1
  replace bW := bW.thenB b1
  clear b1
  go_wp2_with fail
  refine (toIntS_any _ _ _ _ (rd0.below bW) hl0).mono ?_
  rintro e w6 ⟨vY0_, rfl, oY0_, b1⟩
  have z6 : w5.heap.size ≤ w6.heap.size := by have := b1.size; first | (simpa using this) | (simp at this; omega)
  replace eW0a := cellKeep b1 eW0a
  replace eW0b := cellKeep b1 eW0b
  replace eG0a := cellKeep b1 eG0a
  replace eG0b := cellKeep b1 eG0b
  replace oW0 := oW0.later b1
  replace oX0_ := oX0_.later b1
  replace oG0 := oG0.later b1
  replace bW := bW.thenB b1
  obtain ⟨pY0_, kY0_, rfl, _hr⟩ := oY0_.shape
  have gY0_ : ∀ k, (Value.slice pY0_ x0.length kY0_).ownBlock = some k → w5.heap.size ≤ k ∧ k < w6.heap.size := fun k hk => by have := oY0_.blockLt k hk; first | (simpa using this) | (simp at this; omega)
  clear b1 _hr
  go_wp2_with fail
  refine (eqIntS_same _ _ _ _ _ _ oX0_.reads oY0_.reads hl0).mono ?_
  rintro e w7 ⟨rfl, b1⟩
  have z7 : w6.heap.size ≤ w7.heap.size := by have := b1.size; first | (simpa using this) | (simp at this; omega)
  replace eW0a := cellKeep b1 eW0a
  replace eW0b := cellKeep b1 eW0b
  replace eG0a := cellKeep b1 eG0a
  replace eG0b := cellKeep b1 eG0b
  replace oW0 := oW0.later b1
  replace oX0_ := oX0_.later b1
  replace oG0 := oG0.later b1
  replace oY0_ := oY0_.later b1
  replace bW := bW.thenB b1
  clear b1
  clear oY0_ gY0_
  go_wp2_with fail
  refine (markIntS_any _ _ _ _ _ oX0_ (by omega) (by omega) (by omega)).mono ?_
  rintro e w8 ⟨rfl, om, hg⟩
  have z8 : w7.heap.size ≤ w8.heap.size := by have := hg.size; simpa using this
  replace eW0a := cellGrown hg eW0a (fun k h => by have := gX0_ k h; have := HZ.out; first | omega | (simp; omega))
  replace eW0b := cellGrown hg eW0b (fun k h => by have := gX0_ k h; have := HZ.out; first | omega | (simp; omega))
  replace eG0a := cellGrown hg eG0a (fun k h => by have := gX0_ k h; have := HZ.out; first | omega | (simp; omega))
  replace eG0b := cellGrown hg eG0b (fun k h => by have := gX0_ k h; have := HZ.out; first | omega | (simp; omega))
  replace oW0 := oW0.grown hg (fun k h h2 => by have := gX0_ k h; have := gW0 k h2; have := HZ.out; omega)
  replace oG0 := oG0.grown hg (fun k h h2 => by have := gX0_ k h; have := gG0 k h2; have := HZ.out; omega)
  replace bW := bW.trans (belowGrown hg (bW.size) (fun k h => by have := gX0_ k h; have := HZ.out; omega))
  replace oX0_ := om
  clear om hg
  go_wp2_with fail
  refine (eqMass_same _ _ _ _ _ _ _ oG0.reads oW0.reads hL).mono ?_
  rintro e w9 ⟨rfl, b1⟩
  have z9 : w8.heap.size ≤ w9.heap.size := by have := b1.size; first | (simpa using this) | (simp at this; omega)
  replace eW0a := cellKeep b1 eW0a
  replace eW0b := cellKeep b1 eW0b
  replace eG0a := cellKeep b1 eG0a
  replace eG0b := cellKeep b1 eG0b
  replace oW0 := oW0.later b1
  replace oX0_ := oX0_.later b1
  replace oG0 := oG0.later b1
  replace bW := bW.thenB b1
  clear b1
  go_wp2_with fail
  refine (markMass_any _ _ _ _ _ _ oG0 (by omega) (by omega) (by omega) (by first | omega | (simp; omega))).mono ?_
  rintro e w10 ⟨rfl, om, hg⟩
  have z10 : w9.heap.size ≤ w10.heap.size := by have := hg.size; simpa using this
  replace eW0a := cellGrown hg eW0a (fun k h => by have := gG0 k h; have := HZ.out; first | omega | (simp; omega))
  replace eW0b := cellGrown hg eW0b (fun k h => by have := gG0 k h; have := HZ.out; first | omega | (simp; omega))
  replace eG0a := cellGrown hg eG0a (fun k h => by have := gG0 k h; have := HZ.out; first | omega | (simp; omega))
  replace eG0b := cellGrown hg eG0b (fun k h => by have := gG0 k h; have := HZ.out; first | omega | (simp; omega))
  replace oW0 := oW0.grown hg (fun k h h2 => by have := gG0 k h; have := gW0 k h2; have := HZ.out; omega)
  replace oX0_ := oX0_.grown hg (fun k h h2 => by have := gG0 k h; have := gX0_ k h2; have := HZ.out; omega)
  replace bW := bW.trans (belowGrown hg (bW.size) (fun k h => by have := gG0 k h; have := HZ.out; omega))
  replace oG0 := om
  clear om hg
  go_wp2_with fail
  refine (heldMass_any _ _ _ _ _ _ oG0.reads hL (by omega) (by omega)).mono ?_
  rintro e w11 ⟨rfl, b1⟩
  have z11 : w10.heap.size ≤ w11.heap.size := by have := b1.size; first | (simpa using this) | (simp at this; omega)
  replace eW0a := cellKeep b1 eW0a
  replace eW0b := cellKeep b1 eW0b
  replace eG0a := cellKeep b1 eG0a
  replace eG0b := cellKeep b1 eG0b
  replace oW0 := oW0.later b1
  replace oX0_ := oX0_.later b1
  replace oG0 := oG0.later b1
  replace bW := bW.thenB b1
  clear b1
  go_wp2_with fail
  refine (toIntS_any _ _ _ _ (rd0.below bW) hl0).mono ?_
  rintro e w12 ⟨vZ0_, rfl, oZ0_, b1⟩
  have z12 : w11.heap.size ≤ w12.heap.size := by have := b1.size; first | (simpa using this) | (simp at this; omega)
  replace eW0a := cellKeep b1 eW0a
  replace eW0b := cellKeep b1 eW0b
  replace eG0a := cellKeep b1 eG0a
  replace eG0b := cellKeep b1 eG0b
  replace oW0 := oW0.later b1
  replace oX0_ := oX0_.later b1
  replace oG0 := oG0.later b1
  replace bW := bW.thenB b1
  obtain ⟨pZ0_, kZ0_, rfl, _hr⟩ := oZ0_.shape
  have gZ0_ : ∀ k, (Value.slice pZ0_ x0.length kZ0_).ownBlock = some k → w11.heap.size ≤ k ∧ k < w12.heap.size := fun k hk => by have := oZ0_.blockLt k hk; first | (simpa using this) | (simp at this; omega)
  clear b1 _hr
  go_wp2_with fail
  refine (iMassOfLevels_any _ _ _ _ oZ0_.reads hl0).mono ?_
  rintro e w13 ⟨vH0, rfl, oH0, b1⟩
  have z13 : w12.heap.size ≤ w13.heap.size := by have := b1.size; first | (simpa using this) | (simp at this; omega)
  replace eW0a := cellKeep b1 eW0a
  replace eW0b := cellKeep b1 eW0b
  replace eG0a := cellKeep b1 eG0a
  replace eG0b := cellKeep b1 eG0b
  replace oW0 := oW0.later b1
  replace oX0_ := oX0_.later b1
  replace oG0 := oG0.later b1
  replace oZ0_ := oZ0_.later b1
  replace bW := bW.thenB b1
  obtain ⟨pH0, kH0, rfl, _hr⟩ := oH0.shape
  have gH0 : ∀ k, (Value.slice pH0 ((gL (lvB x0) x0.length (lvP x0))).length kH0).ownBlock = some k → w12.heap.size ≤ k ∧ k < w13.heap.size := fun k hk => by have := oH0.blockLt k hk; first | (simpa using this) | (simp at this; omega)
  clear b1 _hr
  clear oZ0_ gZ0_
  have lt0 : w2.heap.size < w13.heap.size := World.block_lt_of_cell? _ _ eW0a
  have lt1 : w4.heap.size < w13.heap.size := World.block_lt_of_cell? _ _ eG0a
  go_wp2_with fail
  clear lt0 lt1
  have b1 := belowAlloc w13 (.cells #[.int .i64 (gS (lvB x0) x0.length (lvP x0)), .slice pH0 ((gL (lvB x0) x0.length (lvP x0))).length kH0] 24)
  replace eW0a := cellKeep b1 eW0a
  replace eW0b := cellKeep b1 eW0b
  replace eG0a := cellKeep b1 eG0a
  replace eG0b := cellKeep b1 eG0b
  replace oW0 := oW0.later b1
  replace oX0_ := oX0_.later b1
  replace oG0 := oG0.later b1
  replace oH0 := oH0.later b1
  replace bW := bW.thenB b1
  have eH0a := newCell0 w13 (.int .i64 (gS (lvB x0) x0.length (lvP x0))) (.slice pH0 ((gL (lvB x0) x0.length (lvP x0))).length kH0) 24
  have eH0b := newCell1 w13 (.int .i64 (gS (lvB x0) x0.length (lvP x0))) (.slice pH0 ((gL (lvB x0) x0.length (lvP x0))).length kH0) 24
  clear b1
  refine (eqMass_same _ _ _ _ _ _ _ oH0.reads oW0.reads hL).mono ?_
  rintro e w14 ⟨rfl, b1⟩
  have z14 : w13.heap.size + 1 ≤ w14.heap.size := by have := b1.size; first | (simpa using this) | (simp at this; omega)
  replace eW0a := cellKeep b1 eW0a
  replace eW0b := cellKeep b1 eW0b
  replace eG0a := cellKeep b1 eG0a
  replace eG0b := cellKeep b1 eG0b
  replace eH0a := cellKeep b1 eH0a
  replace eH0b := cellKeep b1 eH0b
  replace oW0 := oW0.later b1
  replace oX0_ := oX0_.later b1
  replace oG0 := oG0.later b1
  replace oH0 := oH0.later b1
  replace bW := bW.thenB b1
  clear b1
  go_wp2_with fail
  refine (heldMass_any _ _ _ _ _ _ oG0.reads hL (by omega) (by omega)).mono ?_
  rintro e w15 ⟨rfl, b1⟩
  have z15 : w14.heap.size ≤ w15.heap.size := by have := b1.size; first | (simpa using this) | (simp at this; omega)
  replace eW0a := cellKeep b1 eW0a
  replace eW0b := cellKeep b1 eW0b
  replace eG0a := cellKeep b1 eG0a
  replace eG0b := cellKeep b1 eG0b
  replace eH0a := cellKeep b1 eH0a
  replace eH0b := cellKeep b1 eH0b
  replace oW0 := oW0.later b1
  replace oX0_ := oX0_.later b1
  replace oG0 := oG0.later b1
  replace oH0 := oH0.later b1
  replace bW := bW.thenB b1
  clear b1
  go_wp2
  go_ret
  exact ⟨rfl, bW⟩

end Go.Proofs.Ytmbipmdflbddbaa
