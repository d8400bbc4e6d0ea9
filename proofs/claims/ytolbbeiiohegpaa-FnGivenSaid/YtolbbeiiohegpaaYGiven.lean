/- The law on what is given: what it computes. -/
import Derived.Test.YtolbbeiiohegpaaD5
import Derived.Test.YtolbbeiiohegpaaZG
import Derived.Test.YtolbbeiiohegpaaV8b
set_option linter.unusedVariables false
set_option linter.unusedSimpArgs false
namespace Go.Proofs.Ytolbbeiiohegpaa
open Go.RowKit

set_option maxHeartbeats 4000000 in
theorem FnGiven_walk (w : World) (a0 : Option Addr) (c0 : Nat) (x0 : List Int) (m0 : x0.length ≤ maxLen) (rd0 : ReadsK .u8 w a0 x0) (wf0 : ∀ n ∈ x0, (Lit.int .u8 n).wf = true) (cp0 : x0.length ≤ c0) :
    Calls Try.prog 7 #[.slice a0 x0.length c0] w fun e w' => e = .returned (.bool true) ∧ Below w.heap.size w w' := by
  by_cases hbig0 : 1048576 < x0.length
  · unfold maxLen at m0
    clear rd0 wf0 cp0
    go_enter Try.func7, Try.ntmps7
    go_wp2
    go_ret
    exact ⟨rfl, Below.refl _ _⟩
  have HD := Lib.hid (DrawBelievedGiven_any a0 c0 x0 w rd0 wf0 m0 cp0)
  unfold maxLen at m0
  clear rd0 wf0 cp0
  go_enter Try.func7, Try.ntmps7
  go_wp2_with fail
  refine HD.out.mono ?_
  rintro e w1 ⟨s, p, c, xs, b, a, rfl, hxl, rx, bW⟩
  clear HD
  have ho := given_oks s xs b a
  have hyes : pgG s xs b a = true → _ := given_law (s := s) (xs := xs) (b := b) (a := a)
  have hB1 := fun (w : World) (hx : Reads w p xs) => iBelievedGiven_any s p c xs b a w hx (by omega)
  have hB2 := fun (w : World) (hx : Reads w p xs) => sBelievedGiven_any s p c xs b a w hx (by omega)
  have hP1 := fun (w : World) (hx : Reads w p xs) => iPossibleGiven_any s p c xs b a w hx (by omega)
  have hP2 := fun (w : World) (hx : Reads w p xs) => sPossibleGiven_any s p c xs b a w hx (by omega)
  rw [ho.1] at hB1 hB2
  rw [ho.2] at hP1 hP2
  obtain ⟨N1, hN1⟩ : ∃ N, N = fN (pgG s xs b a) (possS a.toNat xs - possS (dif a.toNat b.toNat) xs) (possS a.toNat xs) := ⟨_, rfl⟩
  obtain ⟨D1, hD1⟩ : ∃ N, N = fD (pgG s xs b a) (possS a.toNat xs - possS (dif a.toNat b.toNat) xs) (possS a.toNat xs) := ⟨_, rfl⟩
  obtain ⟨N2, hN2⟩ : ∃ N, N = fN (pgG s xs b a) (possS (a.toNat &&& b.toNat) xs) (possS a.toNat xs) := ⟨_, rfl⟩
  obtain ⟨D2, hD2⟩ : ∃ N, N = fD (pgG s xs b a) (possS (a.toNat &&& b.toNat) xs) (possS a.toNat xs) := ⟨_, rfl⟩
  obtain ⟨G, hG⟩ : ∃ G, G = pgG s xs b a := ⟨_, rfl⟩
  simp only [← hN1, ← hD1, ← hN2, ← hD2] at hB1 hB2 hP1 hP2 hyes
  rw [← hG] at hB1 hB2 hP1 hP2 hyes
  have HB1 := Lib.hid hB1
  have HB2 := Lib.hid hB2
  have HP1 := Lib.hid hP1
  have HP2 := Lib.hid hP2
  have HYES := Lib.hid hyes
  clear hB1 hB2 hP1 hP2 ho hyes hN1 hD1 hN2 hD2 hG
  have hq1 : (G != G) = false := by cases G <;> rfl
  have hq2 : (G == G) = true := by cases G <;> rfl
  go_wp2_with fail
  have hb := belowAlloc w1 (.cells #[.int .i64 s, .slice p xs.length c] 33)
  replace rx := rx.below hb
  replace bW := bW.thenB hb
  clear hb
  have bm := VarInv.made w1 (s) (.slice p xs.length c) 33
  have z2 := bm.lt
  generalize hu2 : w1.alloc (.cells #[.int .i64 s, .slice p xs.length c] 33) = w2 at *
  clear hu2
  have bm_0 := bm.c0
  have bm_1 := bm.c1
  refine (HB1.out _ rx).mono ?_
  rintro e w3 ⟨rfl, hb⟩
  clear bm_0 bm_1
  replace bm := bm.later hb
  replace rx := rx.below hb
  replace bW := bW.thenB hb
  have z3 := hb.size
  clear hb
  have bm_0 := bm.c0
  have bm_1 := bm.c1
  have lt_bm := bm.lt
  go_wp2_with fail
  clear lt_bm
  have hb := belowAlloc w3 (.cells #[.int .i64 N1, .int .i64 D1] 37)
  clear bm_0 bm_1
  replace bm := bm.later hb
  replace rx := rx.below hb
  replace bW := bW.thenB hb
  clear hb
  have f1 := VarInv.made w3 (N1) (.int .i64 D1) 37
  have z4 := f1.lt
  generalize hu4 : w3.alloc (.cells #[.int .i64 N1, .int .i64 D1] 37) = w4 at *
  clear hu4
  have bm_0 := bm.c0
  have bm_1 := bm.c1
  have f1_0 := f1.c0
  have f1_1 := f1.c1
  refine (HB2.out _ rx).mono ?_
  rintro e w5 ⟨rfl, hb⟩
  clear bm_0 bm_1 f1_0 f1_1
  replace bm := bm.later hb
  replace f1 := f1.later hb
  replace rx := rx.below hb
  replace bW := bW.thenB hb
  have z5 := hb.size
  clear hb
  have bm_0 := bm.c0
  have bm_1 := bm.c1
  have f1_0 := f1.c0
  have f1_1 := f1.c1
  have lt_bm := bm.lt
  have lt_f1 := f1.lt
  go_wp2_with fail
  clear lt_bm lt_f1
  have hb := belowAlloc w5 (.cells #[.int .i64 N1, .int .i64 D1] 37)
  clear bm_0 bm_1 f1_0 f1_1
  replace bm := bm.later hb
  replace f1 := f1.later hb
  replace rx := rx.below hb
  replace bW := bW.thenB hb
  clear hb
  have f2 := VarInv.made w5 (N1) (.int .i64 D1) 37
  have z6 := f2.lt
  generalize hu6 : w5.alloc (.cells #[.int .i64 N1, .int .i64 D1] 37) = w6 at *
  clear hu6
  have bm_0 := bm.c0
  have bm_1 := bm.c1
  have f1_0 := f1.c0
  have f1_1 := f1.c1
  have f2_0 := f2.c0
  have f2_1 := f2.c1
  refine (HP1.out _ rx).mono ?_
  rintro e w7 ⟨rfl, hb⟩
  clear bm_0 bm_1 f1_0 f1_1 f2_0 f2_1
  replace bm := bm.later hb
  replace f1 := f1.later hb
  replace f2 := f2.later hb
  replace rx := rx.below hb
  replace bW := bW.thenB hb
  have z7 := hb.size
  clear hb
  have bm_0 := bm.c0
  have bm_1 := bm.c1
  have f1_0 := f1.c0
  have f1_1 := f1.c1
  have f2_0 := f2.c0
  have f2_1 := f2.c1
  have lt_bm := bm.lt
  have lt_f1 := f1.lt
  have lt_f2 := f2.lt
  go_wp2_with fail
  clear lt_bm lt_f1 lt_f2
  have hb := belowAlloc w7 (.cells #[.int .i64 N2, .int .i64 D2] 37)
  clear bm_0 bm_1 f1_0 f1_1 f2_0 f2_1
  replace bm := bm.later hb
  replace f1 := f1.later hb
  replace f2 := f2.later hb
  replace rx := rx.below hb
  replace bW := bW.thenB hb
  clear hb
  have f3 := VarInv.made w7 (N2) (.int .i64 D2) 37
  have z8 := f3.lt
  generalize hu8 : w7.alloc (.cells #[.int .i64 N2, .int .i64 D2] 37) = w8 at *
  clear hu8
  have bm_0 := bm.c0
  have bm_1 := bm.c1
  have f1_0 := f1.c0
  have f1_1 := f1.c1
  have f2_0 := f2.c0
  have f2_1 := f2.c1
  have f3_0 := f3.c0
  have f3_1 := f3.c1
  refine (HP2.out _ rx).mono ?_
  rintro e w9 ⟨rfl, hb⟩
  clear bm_0 bm_1 f1_0 f1_1 f2_0 f2_1 f3_0 f3_1
  replace bm := bm.later hb
  replace f1 := f1.later hb
  replace f2 := f2.later hb
  replace f3 := f3.later hb
  replace rx := rx.below hb
  replace bW := bW.thenB hb
  have z9 := hb.size
  clear hb
  have bm_0 := bm.c0
  have bm_1 := bm.c1
  have f1_0 := f1.c0
  have f1_1 := f1.c1
  have f2_0 := f2.c0
  have f2_1 := f2.c1
  have f3_0 := f3.c0
  have f3_1 := f3.c1
  cases hok : G
  · subst hok
    have lt_bm := bm.lt
    have lt_f1 := f1.lt
    have lt_f2 := f2.lt
    have lt_f3 := f3.lt
    go_wp2
    clear lt_bm lt_f1 lt_f2 lt_f3
    have hb := belowAlloc w9 (.cells #[.int .i64 N2, .int .i64 D2] 37)
    clear bm_0 bm_1 f1_0 f1_1 f2_0 f2_1 f3_0 f3_1
    replace bm := bm.later hb
    replace f1 := f1.later hb
    replace f2 := f2.later hb
    replace f3 := f3.later hb
    replace rx := rx.below hb
    replace bW := bW.thenB hb
    clear hb
    have f4 := VarInv.made w9 (N2) (.int .i64 D2) 37
    have z10 := f4.lt
    generalize hu10 : w9.alloc (.cells #[.int .i64 N2, .int .i64 D2] 37) = w10 at *
    clear hu10
    have bm_0 := bm.c0
    have bm_1 := bm.c1
    have f1_0 := f1.c0
    have f1_1 := f1.c1
    have f2_0 := f2.c0
    have f2_1 := f2.c1
    have f3_0 := f3.c0
    have f3_1 := f3.c1
    have f4_0 := f4.c0
    have f4_1 := f4.c1
    go_ret
    exact ⟨rfl, bW⟩
  · subst hok
    obtain ⟨n, m, K, rfl, rfl, gv⟩ := HYES.out rfl
    clear HB1 HB2 HP1 HP2 HYES
    have hKl : K.length ≤ 17 := by rw [gv.learned.len]; omega
    have hL := fun (w : World) (hx : Reads w p xs) => iLearnMass_any s p c xs (n : Int) w hx (by omega)
    simp only [gv.learned.ok, gv.learned.val, gv.learned.size] at hL
    have hbe := fun (w : World) (q : Option Addr) (d : Nat) (hx : Reads w q K) => iBeliefOf_any s q d K (m : Int) w hx (by omega)
    simp only [gv.bel.1, gv.bel.2] at hbe
    have hpo := fun (w : World) (q : Option Addr) (d : Nat) (hx : Reads w q K) => iPossibilityOf_any s q d K (m : Int) w hx (by omega)
    simp only [gv.pos.1, gv.pos.2] at hpo
    have HL := Lib.hid hL
    have HBE := Lib.hid hbe
    have HPO := Lib.hid hpo
    have HLE := Lib.hid gv.less
    clear hL hbe hpo gv
    have lt_bm := bm.lt
    have lt_f1 := f1.lt
    have lt_f2 := f2.lt
    have lt_f3 := f3.lt
    go_wp2_with fail
    clear lt_bm lt_f1 lt_f2 lt_f3
    have hb := belowAlloc w9 (.cells #[.int .i64 N2, .int .i64 D2] 37)
    clear bm_0 bm_1 f1_0 f1_1 f2_0 f2_1 f3_0 f3_1
    replace bm := bm.later hb
    replace f1 := f1.later hb
    replace f2 := f2.later hb
    replace f3 := f3.later hb
    replace rx := rx.below hb
    replace bW := bW.thenB hb
    clear hb
    have f4 := VarInv.made w9 (N2) (.int .i64 D2) 37
    have z10 := f4.lt
    generalize hu10 : w9.alloc (.cells #[.int .i64 N2, .int .i64 D2] 37) = w10 at *
    clear hu10
    have bm_0 := bm.c0
    have bm_1 := bm.c1
    have f1_0 := f1.c0
    have f1_1 := f1.c1
    have f2_0 := f2.c0
    have f2_1 := f2.c1
    have f3_0 := f3.c0
    have f3_1 := f3.c1
    have f4_0 := f4.c0
    have f4_1 := f4.c1
    refine (HL.out _ rx).mono ?_
    rintro e w11 ⟨v, rfl, o, hb⟩
    clear bm_0 bm_1 f1_0 f1_1 f2_0 f2_1 f3_0 f3_1 f4_0 f4_1
    replace bm := bm.later hb
    replace f1 := f1.later hb
    replace f2 := f2.later hb
    replace f3 := f3.later hb
    replace f4 := f4.later hb
    replace rx := rx.below hb
    replace bW := bW.thenB hb
    have z11 := hb.size
    obtain ⟨p5, k5, rfl, r5⟩ := o.shape
    clear o
    clear hb
    have bm_0 := bm.c0
    have bm_1 := bm.c1
    have f1_0 := f1.c0
    have f1_1 := f1.c1
    have f2_0 := f2.c0
    have f2_1 := f2.c1
    have f3_0 := f3.c0
    have f3_1 := f3.c1
    have f4_0 := f4.c0
    have f4_1 := f4.c1
    have lt_bm := bm.lt
    have lt_f1 := f1.lt
    have lt_f2 := f2.lt
    have lt_f3 := f3.lt
    have lt_f4 := f4.lt
    go_wp2_with fail
    clear lt_bm lt_f1 lt_f2 lt_f3 lt_f4
    have hb := belowAlloc w11 (.cells #[.int .i64 s, .slice p5 K.length k5] 33)
    clear bm_0 bm_1 f1_0 f1_1 f2_0 f2_1 f3_0 f3_1 f4_0 f4_1
    replace bm := bm.later hb
    replace f1 := f1.later hb
    replace f2 := f2.later hb
    replace f3 := f3.later hb
    replace f4 := f4.later hb
    replace rx := rx.below hb
    replace r5 := r5.below hb
    replace bW := bW.thenB hb
    clear hb
    have b5 := VarInv.made w11 (s) (.slice p5 K.length k5) 33
    have z12 := b5.lt
    generalize hu12 : w11.alloc (.cells #[.int .i64 s, .slice p5 K.length k5] 33) = w12 at *
    clear hu12
    have bm_0 := bm.c0
    have bm_1 := bm.c1
    have f1_0 := f1.c0
    have f1_1 := f1.c1
    have f2_0 := f2.c0
    have f2_1 := f2.c1
    have f3_0 := f3.c0
    have f3_1 := f3.c1
    have f4_0 := f4.c0
    have f4_1 := f4.c1
    have b5_0 := b5.c0
    have b5_1 := b5.c1
    refine (HBE.out _ _ _ r5).mono ?_
    rintro e w13 ⟨rfl, hb⟩
    clear bm_0 bm_1 f1_0 f1_1 f2_0 f2_1 f3_0 f3_1 f4_0 f4_1 b5_0 b5_1
    replace bm := bm.later hb
    replace f1 := f1.later hb
    replace f2 := f2.later hb
    replace f3 := f3.later hb
    replace f4 := f4.later hb
    replace b5 := b5.later hb
    replace rx := rx.below hb
    replace r5 := r5.below hb
    replace bW := bW.thenB hb
    have z13 := hb.size
    clear hb
    have bm_0 := bm.c0
    have bm_1 := bm.c1
    have f1_0 := f1.c0
    have f1_1 := f1.c1
    have f2_0 := f2.c0
    have f2_1 := f2.c1
    have f3_0 := f3.c0
    have f3_1 := f3.c1
    have f4_0 := f4.c0
    have f4_1 := f4.c1
    have b5_0 := b5.c0
    have b5_1 := b5.c1
    have lt_bm := bm.lt
    have lt_f1 := f1.lt
    have lt_f2 := f2.lt
    have lt_f3 := f3.lt
    have lt_f4 := f4.lt
    have lt_b5 := b5.lt
    go_wp2_with fail
    clear lt_bm lt_f1 lt_f2 lt_f3 lt_f4 lt_b5
    have hb := belowAlloc w13 (.cells #[.int .i64 N1, .int .i64 D1] 37)
    clear bm_0 bm_1 f1_0 f1_1 f2_0 f2_1 f3_0 f3_1 f4_0 f4_1 b5_0 b5_1
    replace bm := bm.later hb
    replace f1 := f1.later hb
    replace f2 := f2.later hb
    replace f3 := f3.later hb
    replace f4 := f4.later hb
    replace b5 := b5.later hb
    replace rx := rx.below hb
    replace r5 := r5.below hb
    replace bW := bW.thenB hb
    clear hb
    have f5 := VarInv.made w13 (N1) (.int .i64 D1) 37
    have z14 := f5.lt
    generalize hu14 : w13.alloc (.cells #[.int .i64 N1, .int .i64 D1] 37) = w14 at *
    clear hu14
    have bm_0 := bm.c0
    have bm_1 := bm.c1
    have f1_0 := f1.c0
    have f1_1 := f1.c1
    have f2_0 := f2.c0
    have f2_1 := f2.c1
    have f3_0 := f3.c0
    have f3_1 := f3.c1
    have f4_0 := f4.c0
    have f4_1 := f4.c1
    have b5_0 := b5.c0
    have b5_1 := b5.c1
    have f5_0 := f5.c0
    have f5_1 := f5.c1
    refine (HPO.out _ _ _ r5).mono ?_
    rintro e w15 ⟨rfl, hb⟩
    clear bm_0 bm_1 f1_0 f1_1 f2_0 f2_1 f3_0 f3_1 f4_0 f4_1 b5_0 b5_1 f5_0 f5_1
    replace bm := bm.later hb
    replace f1 := f1.later hb
    replace f2 := f2.later hb
    replace f3 := f3.later hb
    replace f4 := f4.later hb
    replace b5 := b5.later hb
    replace f5 := f5.later hb
    replace rx := rx.below hb
    replace r5 := r5.below hb
    replace bW := bW.thenB hb
    have z15 := hb.size
    clear hb
    have bm_0 := bm.c0
    have bm_1 := bm.c1
    have f1_0 := f1.c0
    have f1_1 := f1.c1
    have f2_0 := f2.c0
    have f2_1 := f2.c1
    have f3_0 := f3.c0
    have f3_1 := f3.c1
    have f4_0 := f4.c0
    have f4_1 := f4.c1
    have b5_0 := b5.c0
    have b5_1 := b5.c1
    have f5_0 := f5.c0
    have f5_1 := f5.c1
    have lt_bm := bm.lt
    have lt_f1 := f1.lt
    have lt_f2 := f2.lt
    have lt_f3 := f3.lt
    have lt_f4 := f4.lt
    have lt_b5 := b5.lt
    have lt_f5 := f5.lt
    go_wp2_with fail
    clear lt_bm lt_f1 lt_f2 lt_f3 lt_f4 lt_b5 lt_f5
    have hb := belowAlloc w15 (.cells #[.int .i64 N2, .int .i64 D2] 37)
    clear bm_0 bm_1 f1_0 f1_1 f2_0 f2_1 f3_0 f3_1 f4_0 f4_1 b5_0 b5_1 f5_0 f5_1
    replace bm := bm.later hb
    replace f1 := f1.later hb
    replace f2 := f2.later hb
    replace f3 := f3.later hb
    replace f4 := f4.later hb
    replace b5 := b5.later hb
    replace f5 := f5.later hb
    replace rx := rx.below hb
    replace r5 := r5.below hb
    replace bW := bW.thenB hb
    clear hb
    have f6 := VarInv.made w15 (N2) (.int .i64 D2) 37
    have z16 := f6.lt
    generalize hu16 : w15.alloc (.cells #[.int .i64 N2, .int .i64 D2] 37) = w16 at *
    clear hu16
    have bm_0 := bm.c0
    have bm_1 := bm.c1
    have f1_0 := f1.c0
    have f1_1 := f1.c1
    have f2_0 := f2.c0
    have f2_1 := f2.c1
    have f3_0 := f3.c0
    have f3_1 := f3.c1
    have f4_0 := f4.c0
    have f4_1 := f4.c1
    have b5_0 := b5.c0
    have b5_1 := b5.c1
    have f5_0 := f5.c0
    have f5_1 := f5.c1
    have f6_0 := f6.c0
    have f6_1 := f6.c1
    refine (iLess_any N2 D2 N1 D1 _).mono ?_
    rintro e w17 ⟨rfl, hb⟩
    clear bm_0 bm_1 f1_0 f1_1 f2_0 f2_1 f3_0 f3_1 f4_0 f4_1 b5_0 b5_1 f5_0 f5_1 f6_0 f6_1
    replace bm := bm.later hb
    replace f1 := f1.later hb
    replace f2 := f2.later hb
    replace f3 := f3.later hb
    replace f4 := f4.later hb
    replace b5 := b5.later hb
    replace f5 := f5.later hb
    replace f6 := f6.later hb
    replace rx := rx.below hb
    replace r5 := r5.below hb
    replace bW := bW.thenB hb
    have z17 := hb.size
    clear hb
    have bm_0 := bm.c0
    have bm_1 := bm.c1
    have f1_0 := f1.c0
    have f1_1 := f1.c1
    have f2_0 := f2.c0
    have f2_1 := f2.c1
    have f3_0 := f3.c0
    have f3_1 := f3.c1
    have f4_0 := f4.c0
    have f4_1 := f4.c1
    have b5_0 := b5.c0
    have b5_1 := b5.c1
    have f5_0 := f5.c0
    have f5_1 := f5.c1
    have f6_0 := f6.c0
    have f6_1 := f6.c1
    rw [HLE.out]
    go_wp2
    go_ret
    exact ⟨rfl, bW⟩

end Go.Proofs.Ytolbbeiiohegpaa
