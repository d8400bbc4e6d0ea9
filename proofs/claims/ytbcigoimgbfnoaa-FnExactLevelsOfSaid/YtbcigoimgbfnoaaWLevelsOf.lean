/- The exact law on LevelsOf: what it computes. -/
import Derived.Test.YtbcigoimgbfnoaaT2
import Derived.Test.YtbcigoimgbfnoaaN9
set_option linter.unusedVariables false
set_option linter.unusedSimpArgs false
namespace Go.Proofs.Ytbcigoimgbfnoaa
open Go.RowKit

set_option maxHeartbeats 4000000 in
theorem FnExactLevelsOf_walk (w : World) (s0 : Int) (a0 : Option Addr) (c0 : Nat) (x0 : List Int) (ws0 : (Lit.int .i64 s0).wf = true) (m0 : x0.length ≤ maxLen) (rd0 : Reads w a0 x0) (wf0 : ∀ n ∈ x0, (Lit.int .i64 n).wf = true) :
    Calls Try.prog 5 #[.agg #[.int .i64 s0, .slice a0 x0.length c0]] w fun e w' => e = .returned (.bool true) ∧ Below w.heap.size w w' := by
  unfold maxLen at m0
  clear wf0 ws0
  obtain ⟨W, hW, bW, hsz, q0, q1⟩ := box1L w s0 a0 x0.length c0
  have HW := Lib.hid hW
  have HZ := Lib.hid hsz
  clear hW hsz
  by_cases hm0 : (1048576 : Int) < x0.length
  · go_enter Try.func5, Try.ntmps5
    go_wp2_with fail
    rw [← HW.out]
    refine (szMass_no _ _ _ _ _ _ (by unfold maxLen; omega) (by omega) (by omega) (by omega)).mono ?_
    rintro e v0 ⟨rfl, b1⟩
    replace bW := bW.thenB b1
    clear b1
    go_wp2
    go_ret
    exact ⟨rfl, bW⟩
  have hl0 : x0.length ≤ 1048576 := by omega
  have hq : ((loG s0 x0) != (loG s0 x0)) = false := by simp
  have hL : ((loL s0 x0)).length ≤ 1048576 := (loL_len s0 x0)
  go_enter Try.func5, Try.ntmps5
  go_wp2_with fail
  rw [← HW.out]
  refine (szMass_yes _ _ _ _ _ _ (by unfold maxLen; omega) (by omega) (by omega) (by omega)).mono ?_
  rintro e w1 ⟨rfl, b1⟩
  have z1 : W.heap.size ≤ w1.heap.size := by have := b1.size; first | (simpa using this) | (simp at this; omega)
  replace q0 := cellKeep b1 q0
  replace q1 := cellKeep b1 q1
  replace bW := bW.thenB b1
  clear b1
  go_wp2_with fail
  refine (toMass_any _ _ _ _ _ (rd0.below bW) hl0).mono ?_
  rintro e w2 ⟨vs0_, rfl, os0_, b1⟩
  have z2 : w1.heap.size ≤ w2.heap.size := by have := b1.size; first | (simpa using this) | (simp at this; omega)
  replace q0 := cellKeep b1 q0
  replace q1 := cellKeep b1 q1
  replace bW := bW.thenB b1
  obtain ⟨ps0_, ks0_, rfl, _hr⟩ := os0_.shape
  have gs0_ : ∀ k, (Value.slice ps0_ x0.length ks0_).ownBlock = some k → w1.heap.size ≤ k ∧ k < w2.heap.size := fun k hk => by have := os0_.blockLt k hk; first | (simpa using this) | (simp at this; omega)
  clear b1 _hr
  go_wp2_with fail
  refine (sLevelsOf_any _ _ _ _ _ os0_.reads hl0).mono ?_
  rintro e w3 ⟨vW0, rfl, oW0, b1⟩
  have z3 : w2.heap.size ≤ w3.heap.size := by have := b1.size; first | (simpa using this) | (simp at this; omega)
  replace q0 := cellKeep b1 q0
  replace q1 := cellKeep b1 q1
  replace os0_ := os0_.later b1
  replace bW := bW.thenB b1
  obtain ⟨pW0, kW0, rfl, _hr⟩ := oW0.shape
  have gW0 : ∀ k, (Value.slice pW0 ((loL s0 x0)).length kW0).ownBlock = some k → w2.heap.size ≤ k ∧ k < w3.heap.size := fun k hk => by have := oW0.blockLt k hk; first | (simpa using this) | (simp at this; omega)
  clear b1 _hr
  clear os0_ gs0_
  go_wp2_with fail
  refine (toMass_any _ _ _ _ _ (rd0.below bW) hl0).mono ?_
  rintro e w4 ⟨vX0_, rfl, oX0_, b1⟩
  have z4 : w3.heap.size ≤ w4.heap.size := by have := b1.size; first | (simpa using this) | (simp at this; omega)
  replace q0 := cellKeep b1 q0
  replace q1 := cellKeep b1 q1
  replace oW0 := oW0.later b1
  replace bW := bW.thenB b1
  obtain ⟨pX0_, kX0_, rfl, _hr⟩ := oX0_.shape
  have gX0_ : ∀ k, (Value.slice pX0_ x0.length kX0_).ownBlock = some k → w3.heap.size ≤ k ∧ k < w4.heap.size := fun k hk => by have := oX0_.blockLt k hk; first | (simpa using this) | (simp at this; omega)
  clear b1 _hr
  have lt0 : w.heap.size < w4.heap.size := World.block_lt_of_cell? _ _ q0
  go_wp2_with fail
  clear lt0
  have b1 := belowAlloc w4 (.cells #[.int .i64 s0, .slice pX0_ x0.length kX0_] 28)
  replace q0 := cellKeep b1 q0
  replace q1 := cellKeep b1 q1
  replace oW0 := oW0.later b1
  replace oX0_ := oX0_.later b1
  replace bW := bW.thenB b1
  have eX0_a := newCell0 w4 (.int .i64 s0) (.slice pX0_ x0.length kX0_) 28
  have eX0_b := newCell1 w4 (.int .i64 s0) (.slice pX0_ x0.length kX0_) 28
  clear b1
  refine (iLevelsOf_any _ _ _ _ _ oX0_.reads hl0).mono ?_
  rintro e w5 ⟨vG0, rfl, oG0, b1⟩
  have z5 : w4.heap.size + 1 ≤ w5.heap.size := by have := b1.size; first | (simpa using this) | (simp at this; omega)
  replace q0 := cellKeep b1 q0
  replace q1 := cellKeep b1 q1
  replace eX0_a := cellKeep b1 eX0_a
  replace eX0_b := cellKeep b1 eX0_b
  replace oW0 := oW0.later b1
  replace oX0_ := oX0_.later b1
  replace bW := bW.thenB b1
  obtain ⟨pG0, kG0, rfl, _hr⟩ := oG0.shape
  have gG0 : ∀ k, (Value.slice pG0 ((loL s0 x0)).length kG0).ownBlock = some k → w4.heap.size + 1 ≤ k ∧ k < w5.heap.size := fun k hk => by have := oG0.blockLt k hk; first | (simpa using this) | (simp at this; omega)
  clear b1 _hr
  go_wp2_with fail
  refine (eqIntS_same _ _ _ _ _ _ oG0.reads oW0.reads hL).mono ?_
  rintro e w6 ⟨rfl, b1⟩
  have z6 : w5.heap.size ≤ w6.heap.size := by have := b1.size; first | (simpa using this) | (simp at this; omega)
  replace q0 := cellKeep b1 q0
  replace q1 := cellKeep b1 q1
  replace eX0_a := cellKeep b1 eX0_a
  replace eX0_b := cellKeep b1 eX0_b
  replace oW0 := oW0.later b1
  replace oX0_ := oX0_.later b1
  replace oG0 := oG0.later b1
  replace bW := bW.thenB b1
  clear b1
  go_wp2_with fail
  replace q0 := cellDrew q0
  replace q1 := cellDrew q1
  replace eX0_a := cellDrew eX0_a
  replace eX0_b := cellDrew eX0_b
  replace oW0 := oW0.drew
  replace oX0_ := oX0_.drew
  replace oG0 := oG0.drew
  replace bW := drewAll bW
  have tok10_0 : True := trivial
  have tok10_1 : True := trivial
  go_region_held3 (fun w' => w'.cell? ⟨w.heap.size, 0, none⟩ = some (.int .i64 s0) ∧ w'.cell? ⟨w.heap.size, 1, none⟩ = some (.slice a0 x0.length c0) ∧ w'.cell? ⟨w4.heap.size, 0, none⟩ = some (.int .i64 s0) ∧ w'.cell? ⟨w4.heap.size, 1, none⟩ = some (.slice pX0_ x0.length kX0_))
    (exact ⟨q0, q1, eX0_a, eX0_b⟩)
    (first
      | (go_at_call 11; have _t := tok10_0; (with_reducible refine (toMass_any _ _ _ _ _ (rd0.below bW) hl0).mono ?_); rintro e w7 ⟨vY0_, rfl, oY0_, b1⟩; (have z7 : w6.heap.size ≤ w7.heap.size := by have := b1.size; first | (simpa using this) | (simp at this; omega)); (replace q0 := cellKeep b1 q0); (replace q1 := cellKeep b1 q1); (replace eX0_a := cellKeep b1 eX0_a); (replace eX0_b := cellKeep b1 eX0_b); (replace oW0 := oW0.later b1); (replace oX0_ := oX0_.later b1); (replace oG0 := oG0.later b1); (replace bW := bW.thenB b1); obtain ⟨pY0_, kY0_, rfl, _hr⟩ := oY0_.shape; (have gY0_ : ∀ k, (Value.slice pY0_ x0.length kY0_).ownBlock = some k → w6.heap.size ≤ k ∧ k < w7.heap.size := fun k hk => by have := oY0_.blockLt k hk; first | (simpa using this) | (simp at this; omega)); clear b1 _hr; clear tok10_0 _t)
      | (go_at_call 15; have _t := tok10_1; (with_reducible refine (eqMass_same _ _ _ _ _ _ _ oX0_.reads oY0_.reads hl0).mono ?_); rintro e w8 ⟨rfl, b1⟩; (have z8 : w7.heap.size ≤ w8.heap.size := by have := b1.size; first | (simpa using this) | (simp at this; omega)); (replace q0 := cellKeep b1 q0); (replace q1 := cellKeep b1 q1); (replace eX0_a := cellKeep b1 eX0_a); (replace eX0_b := cellKeep b1 eX0_b); (replace oW0 := oW0.later b1); (replace oX0_ := oX0_.later b1); (replace oG0 := oG0.later b1); (replace oY0_ := oY0_.later b1); (replace bW := bW.thenB b1); clear b1; clear tok10_1 _t))
  skip
  clear oY0_ gY0_
  go_wp2_with fail
  refine (markMass_any _ _ _ _ _ _ oX0_ (by omega) (by omega) (by omega) (by first | omega | (simp; omega))).mono ?_
  rintro e w9 ⟨rfl, om, hg⟩
  have z9 : w8.heap.size ≤ w9.heap.size := by have := hg.size; simpa using this
  replace q0 := cellGrown hg q0 (fun k h => by have := gX0_ k h; have := HZ.out; first | omega | (simp; omega))
  replace q1 := cellGrown hg q1 (fun k h => by have := gX0_ k h; have := HZ.out; first | omega | (simp; omega))
  replace eX0_a := cellGrown hg eX0_a (fun k h => by have := gX0_ k h; have := HZ.out; first | omega | (simp; omega))
  replace eX0_b := cellGrown hg eX0_b (fun k h => by have := gX0_ k h; have := HZ.out; first | omega | (simp; omega))
  replace oW0 := oW0.grown hg (fun k h h2 => by have := gX0_ k h; have := gW0 k h2; have := HZ.out; omega)
  replace oG0 := oG0.grown hg (fun k h h2 => by have := gX0_ k h; have := gG0 k h2; have := HZ.out; omega)
  replace bW := bW.trans (belowGrown hg (bW.size) (fun k h => by have := gX0_ k h; have := HZ.out; omega))
  replace oX0_ := om
  clear om hg
  go_wp2_with fail
  refine (eqIntS_same _ _ _ _ _ _ oG0.reads oW0.reads hL).mono ?_
  rintro e w10 ⟨rfl, b1⟩
  have z10 : w9.heap.size ≤ w10.heap.size := by have := b1.size; first | (simpa using this) | (simp at this; omega)
  replace q0 := cellKeep b1 q0
  replace q1 := cellKeep b1 q1
  replace eX0_a := cellKeep b1 eX0_a
  replace eX0_b := cellKeep b1 eX0_b
  replace oW0 := oW0.later b1
  replace oX0_ := oX0_.later b1
  replace oG0 := oG0.later b1
  replace bW := bW.thenB b1
  clear b1
  go_wp2_with fail
  refine (markIntS_any _ _ _ _ _ oG0 (by omega) (by omega) (by omega)).mono ?_
  rintro e w11 ⟨rfl, om, hg⟩
  have z11 : w10.heap.size ≤ w11.heap.size := by have := hg.size; simpa using this
  replace q0 := cellGrown hg q0 (fun k h => by have := gG0 k h; have := HZ.out; first | omega | (simp; omega))
  replace q1 := cellGrown hg q1 (fun k h => by have := gG0 k h; have := HZ.out; first | omega | (simp; omega))
  replace eX0_a := cellGrown hg eX0_a (fun k h => by have := gG0 k h; have := HZ.out; first | omega | (simp; omega))
  replace eX0_b := cellGrown hg eX0_b (fun k h => by have := gG0 k h; have := HZ.out; first | omega | (simp; omega))
  replace oW0 := oW0.grown hg (fun k h h2 => by have := gG0 k h; have := gW0 k h2; have := HZ.out; omega)
  replace oX0_ := oX0_.grown hg (fun k h h2 => by have := gG0 k h; have := gX0_ k h2; have := HZ.out; omega)
  replace bW := bW.trans (belowGrown hg (bW.size) (fun k h => by have := gG0 k h; have := HZ.out; omega))
  replace oG0 := om
  clear om hg
  go_wp2_with fail
  refine (heldIntS_any _ _ _ _ _ oG0.reads hL (by omega) (by omega)).mono ?_
  rintro e _w ⟨rfl, rfl⟩
  go_wp2_with fail
  refine (toMass_any _ _ _ _ _ (rd0.below bW) hl0).mono ?_
  rintro e w12 ⟨vZ0_, rfl, oZ0_, b1⟩
  have z12 : w11.heap.size ≤ w12.heap.size := by have := b1.size; first | (simpa using this) | (simp at this; omega)
  replace q0 := cellKeep b1 q0
  replace q1 := cellKeep b1 q1
  replace eX0_a := cellKeep b1 eX0_a
  replace eX0_b := cellKeep b1 eX0_b
  replace oW0 := oW0.later b1
  replace oX0_ := oX0_.later b1
  replace oG0 := oG0.later b1
  replace bW := bW.thenB b1
  obtain ⟨pZ0_, kZ0_, rfl, _hr⟩ := oZ0_.shape
  have gZ0_ : ∀ k, (Value.slice pZ0_ x0.length kZ0_).ownBlock = some k → w11.heap.size ≤ k ∧ k < w12.heap.size := fun k hk => by have := oZ0_.blockLt k hk; first | (simpa using this) | (simp at this; omega)
  clear b1 _hr
  go_wp2_with fail
  refine (iLevelsOf_any _ _ _ _ _ oZ0_.reads hl0).mono ?_
  rintro e w13 ⟨vH0, rfl, oH0, b1⟩
  have z13 : w12.heap.size ≤ w13.heap.size := by have := b1.size; first | (simpa using this) | (simp at this; omega)
  replace q0 := cellKeep b1 q0
  replace q1 := cellKeep b1 q1
  replace eX0_a := cellKeep b1 eX0_a
  replace eX0_b := cellKeep b1 eX0_b
  replace oW0 := oW0.later b1
  replace oX0_ := oX0_.later b1
  replace oG0 := oG0.later b1
  replace oZ0_ := oZ0_.later b1
  replace bW := bW.thenB b1
  obtain ⟨pH0, kH0, rfl, _hr⟩ := oH0.shape
  have gH0 : ∀ k, (Value.slice pH0 ((loL s0 x0)).length kH0).ownBlock = some k → w12.heap.size ≤ k ∧ k < w13.heap.size := fun k hk => by have := oH0.blockLt k hk; first | (simpa using this) | (simp at this; omega)
  clear b1 _hr
  clear oZ0_ gZ0_
  go_wp2_with fail
  refine (eqIntS_same _ _ _ _ _ _ oH0.reads oW0.reads hL).mono ?_
  rintro e w14 ⟨rfl, b1⟩
  have z14 : w13.heap.size ≤ w14.heap.size := by have := b1.size; first | (simpa using this) | (simp at this; omega)
  replace q0 := cellKeep b1 q0
  replace q1 := cellKeep b1 q1
  replace eX0_a := cellKeep b1 eX0_a
  replace eX0_b := cellKeep b1 eX0_b
  replace oW0 := oW0.later b1
  replace oX0_ := oX0_.later b1
  replace oG0 := oG0.later b1
  replace oH0 := oH0.later b1
  replace bW := bW.thenB b1
  clear b1
  go_wp2_with fail
  refine (heldIntS_any _ _ _ _ _ oG0.reads hL (by omega) (by omega)).mono ?_
  rintro e _w ⟨rfl, rfl⟩
  go_wp2
  go_ret
  exact ⟨rfl, bW⟩

end Go.Proofs.Ytbcigoimgbfnoaa
