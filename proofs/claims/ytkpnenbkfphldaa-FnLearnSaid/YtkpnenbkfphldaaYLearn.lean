/- The law on learning: what it computes. -/
import Derived.Test.YtkpnenbkfphldaaD5
import Derived.Test.YtkpnenbkfphldaaZW
import Derived.Test.YtkpnenbkfphldaaE1
set_option linter.unusedVariables false
set_option linter.unusedSimpArgs false
namespace Go.Proofs.Ytkpnenbkfphldaa
open Go.RowKit

set_option maxHeartbeats 4000000 in
set_option maxRecDepth 100000 in
theorem FnLearn_walk (w : World) (a0 : Option Addr) (c0 : Nat) (x0 : List Int) (m0 : x0.length ≤ maxLen) (rd0 : ReadsK .u8 w a0 x0) (wf0 : ∀ n ∈ x0, (Lit.int .u8 n).wf = true) (cp0 : x0.length ≤ c0) :
    Calls Try.prog 4 #[.slice a0 x0.length c0] w fun e w' => e = .returned (.bool true) ∧ Below w.heap.size w w' := by
  by_cases hbig0 : 1048576 < x0.length
  · unfold maxLen at m0
    clear rd0 wf0 cp0
    go_enter Try.func4, Try.ntmps4
    go_wp2
    go_ret
    exact ⟨rfl, Below.refl _ _⟩
  have HD := Lib.hid (DrawLearnMass_any a0 c0 x0 w rd0 wf0 m0 cp0)
  unfold maxLen at m0
  clear rd0 wf0 cp0
  go_enter Try.func4, Try.ntmps4
  go_wp2_with fail
  refine HD.out.mono ?_
  rintro e w1 ⟨s, p, c, xs, a, rfl, hxl, rx, bW⟩
  clear HD
  obtain ⟨S, hS⟩ : ∃ S, S = gS (msB s xs a) s (lnP a.toNat xs) := ⟨_, rfl⟩
  obtain ⟨OK, hOK⟩ : ∃ OK, OK = gOk (msB s xs a) s (lnP a.toNat xs) := ⟨_, rfl⟩
  obtain ⟨K, hK⟩ : ∃ K, K = gL (msB s xs a) s (lnP a.toNat xs) := ⟨_, rfl⟩
  obtain ⟨T, hT⟩ : ∃ T, T = gS (msB s xs a) s (cutP a.toNat xs) := ⟨_, rfl⟩
  obtain ⟨C, hC⟩ : ∃ C, C = gL (msB s xs a) s (cutP a.toNat xs) := ⟨_, rfl⟩
  obtain ⟨G, hG⟩ : ∃ G, G = msB s xs a := ⟨_, rfl⟩
  have hKl : K.length ≤ 17 := by rw [hK]; exact Nat.le_trans (gL_le _ _ _ _ (lnP_len _ _)) hxl
  have hCl : C.length ≤ 17 := by rw [hC]; exact Nat.le_trans (gL_le _ _ _ _ (cutP_len _ _)) hxl
  have hno : G = false → OK = false := fun h => by rw [hOK, ← hG, h]; rfl
  have hyes : G = true → ∃ n : Nat, a = (n : Int) ∧ LearnLaw s xs C K n OK S ∧ T = s := fun h => by
    obtain ⟨n, C', rfl, law⟩ := learn_law (hG.symm.trans h)
    refine ⟨n, rfl, ?_, by rw [hT, law.cutS]⟩
    rw [hC, hK, hOK, hS, law.cutL]; exact law
  have hL1 := fun (w : World) (hx : Reads w p xs) => iLearnMass_any s p c xs a w hx (by omega)
  have hL2 := fun (w : World) (hx : Reads w p xs) => sLearnMass_any s p c xs a w hx (by omega)
  have hC1 := fun (w : World) (hx : Reads w p xs) => iCutMass_any s p c xs a w hx (by omega)
  have hC2 := fun (w : World) (hx : Reads w p xs) => sCutMass_any s p c xs a w hx (by omega)
  simp only [← hS, ← hOK, ← hK] at hL1 hL2
  simp only [cut_fine, ← hT, ← hC] at hC1 hC2
  rw [← hG] at hC1 hC2
  have HL1 := Lib.hid hL1
  have HL2 := Lib.hid hL2
  have HC1 := Lib.hid hC1
  have HC2 := Lib.hid hC2
  have HNO := Lib.hid hno
  have HYES := Lib.hid hyes
  clear hL1 hL2 hC1 hC2 hno hyes hS hOK hK hT hC hG
  have hq1 : (OK != OK) = false := by cases OK <;> rfl
  have hq2 : (OK == OK) = true := by cases OK <;> rfl
  have hq3 : (G != G) = false := by cases G <;> rfl
  have hq4 : (G == G) = true := by cases G <;> rfl
  go_wp2_with fail
  have hb := belowAlloc w1 (.cells #[.int .i64 s, .slice p xs.length c] 25)
  replace rx := rx.below hb
  replace bW := bW.thenB hb
  clear hb
  have bm := VarInv.made w1 (s) (.slice p xs.length c) 25
  have z2 := bm.lt
  generalize hu2 : w1.alloc (.cells #[.int .i64 s, .slice p xs.length c] 25) = w2 at *
  clear hu2
  have bm_0 := bm.c0
  have bm_1 := bm.c1
  refine (HL1.out _ rx).mono ?_
  rintro e w3 ⟨v, rfl, o, hb⟩
  clear bm_0 bm_1
  replace bm := bm.later hb
  replace rx := rx.below hb
  replace bW := bW.thenB hb
  have z3 := hb.size
  obtain ⟨p1, k1, rfl, r1⟩ := o.shape
  clear o
  clear hb
  have bm_0 := bm.c0
  have bm_1 := bm.c1
  have lt_bm := bm.lt
  go_wp2_with fail
  clear lt_bm
  have hb := belowAlloc w3 (.cells #[.int .i64 S, .slice p1 K.length k1] 25)
  clear bm_0 bm_1
  replace bm := bm.later hb
  replace rx := rx.below hb
  replace r1 := r1.below hb
  replace bW := bW.thenB hb
  clear hb
  have b1 := VarInv.made w3 (S) (.slice p1 K.length k1) 25
  have z4 := b1.lt
  generalize hu4 : w3.alloc (.cells #[.int .i64 S, .slice p1 K.length k1] 25) = w4 at *
  clear hu4
  have bm_0 := bm.c0
  have bm_1 := bm.c1
  have b1_0 := b1.c0
  have b1_1 := b1.c1
  refine (HL2.out _ rx).mono ?_
  rintro e w5 ⟨v, rfl, o, hb⟩
  clear bm_0 bm_1 b1_0 b1_1
  replace bm := bm.later hb
  replace b1 := b1.later hb
  replace rx := rx.below hb
  replace r1 := r1.below hb
  replace bW := bW.thenB hb
  have z5 := hb.size
  obtain ⟨p2, k2, rfl, r2⟩ := o.shape
  clear o
  clear hb
  have bm_0 := bm.c0
  have bm_1 := bm.c1
  have b1_0 := b1.c0
  have b1_1 := b1.c1
  have lt_bm := bm.lt
  have lt_b1 := b1.lt
  go_wp2_with fail
  clear lt_bm lt_b1
  have hb := belowAlloc w5 (.cells #[.int .i64 S, .slice p2 K.length k2] 25)
  clear bm_0 bm_1 b1_0 b1_1
  replace bm := bm.later hb
  replace b1 := b1.later hb
  replace rx := rx.below hb
  replace r1 := r1.below hb
  replace r2 := r2.below hb
  replace bW := bW.thenB hb
  clear hb
  have b2 := VarInv.made w5 (S) (.slice p2 K.length k2) 25
  have z6 := b2.lt
  generalize hu6 : w5.alloc (.cells #[.int .i64 S, .slice p2 K.length k2] 25) = w6 at *
  clear hu6
  have bm_0 := bm.c0
  have bm_1 := bm.c1
  have b1_0 := b1.c0
  have b1_1 := b1.c1
  have b2_0 := b2.c0
  have b2_1 := b2.c1
  refine (HC1.out _ rx).mono ?_
  rintro e w7 ⟨v, rfl, o, hb⟩
  clear bm_0 bm_1 b1_0 b1_1 b2_0 b2_1
  replace bm := bm.later hb
  replace b1 := b1.later hb
  replace b2 := b2.later hb
  replace rx := rx.below hb
  replace r1 := r1.below hb
  replace r2 := r2.below hb
  replace bW := bW.thenB hb
  have z7 := hb.size
  obtain ⟨p3, k3, rfl, r3⟩ := o.shape
  clear o
  clear hb
  have bm_0 := bm.c0
  have bm_1 := bm.c1
  have b1_0 := b1.c0
  have b1_1 := b1.c1
  have b2_0 := b2.c0
  have b2_1 := b2.c1
  have lt_bm := bm.lt
  have lt_b1 := b1.lt
  have lt_b2 := b2.lt
  go_wp2_with fail
  clear lt_bm lt_b1 lt_b2
  have hb := belowAlloc w7 (.cells #[.int .i64 T, .slice p3 C.length k3] 25)
  clear bm_0 bm_1 b1_0 b1_1 b2_0 b2_1
  replace bm := bm.later hb
  replace b1 := b1.later hb
  replace b2 := b2.later hb
  replace rx := rx.below hb
  replace r1 := r1.below hb
  replace r2 := r2.below hb
  replace r3 := r3.below hb
  replace bW := bW.thenB hb
  clear hb
  have b3 := VarInv.made w7 (T) (.slice p3 C.length k3) 25
  have z8 := b3.lt
  generalize hu8 : w7.alloc (.cells #[.int .i64 T, .slice p3 C.length k3] 25) = w8 at *
  clear hu8
  have bm_0 := bm.c0
  have bm_1 := bm.c1
  have b1_0 := b1.c0
  have b1_1 := b1.c1
  have b2_0 := b2.c0
  have b2_1 := b2.c1
  have b3_0 := b3.c0
  have b3_1 := b3.c1
  refine (HC2.out _ rx).mono ?_
  rintro e w9 ⟨v, rfl, o, hb⟩
  clear bm_0 bm_1 b1_0 b1_1 b2_0 b2_1 b3_0 b3_1
  replace bm := bm.later hb
  replace b1 := b1.later hb
  replace b2 := b2.later hb
  replace b3 := b3.later hb
  replace rx := rx.below hb
  replace r1 := r1.below hb
  replace r2 := r2.below hb
  replace r3 := r3.below hb
  replace bW := bW.thenB hb
  have z9 := hb.size
  obtain ⟨p4, k4, rfl, r4⟩ := o.shape
  clear o
  clear hb
  have bm_0 := bm.c0
  have bm_1 := bm.c1
  have b1_0 := b1.c0
  have b1_1 := b1.c1
  have b2_0 := b2.c0
  have b2_1 := b2.c1
  have b3_0 := b3.c0
  have b3_1 := b3.c1
  have lt_bm := bm.lt
  have lt_b1 := b1.lt
  have lt_b2 := b2.lt
  have lt_b3 := b3.lt
  go_wp2_with fail
  clear lt_bm lt_b1 lt_b2 lt_b3
  have hb := belowAlloc w9 (.cells #[.int .i64 T, .slice p4 C.length k4] 25)
  clear bm_0 bm_1 b1_0 b1_1 b2_0 b2_1 b3_0 b3_1
  replace bm := bm.later hb
  replace b1 := b1.later hb
  replace b2 := b2.later hb
  replace b3 := b3.later hb
  replace rx := rx.below hb
  replace r1 := r1.below hb
  replace r2 := r2.below hb
  replace r3 := r3.below hb
  replace r4 := r4.below hb
  replace bW := bW.thenB hb
  clear hb
  have b4 := VarInv.made w9 (T) (.slice p4 C.length k4) 25
  have z10 := b4.lt
  generalize hu10 : w9.alloc (.cells #[.int .i64 T, .slice p4 C.length k4] 25) = w10 at *
  clear hu10
  have bm_0 := bm.c0
  have bm_1 := bm.c1
  have b1_0 := b1.c0
  have b1_1 := b1.c1
  have b2_0 := b2.c0
  have b2_1 := b2.c1
  have b3_0 := b3.c0
  have b3_1 := b3.c1
  have b4_0 := b4.c0
  have b4_1 := b4.c1
  refine (weEqual_same _ _ _ _ _ _ _ _ _ _ (rfl) (rfl) (rfl) (rfl) _ r1 r2 (by omega)).mono ?_
  rintro e w11 ⟨rfl, hb⟩
  clear bm_0 bm_1 b1_0 b1_1 b2_0 b2_1 b3_0 b3_1 b4_0 b4_1
  replace bm := bm.later hb
  replace b1 := b1.later hb
  replace b2 := b2.later hb
  replace b3 := b3.later hb
  replace b4 := b4.later hb
  replace rx := rx.below hb
  replace r1 := r1.below hb
  replace r2 := r2.below hb
  replace r3 := r3.below hb
  replace r4 := r4.below hb
  replace bW := bW.thenB hb
  have z11 := hb.size
  clear hb
  have bm_0 := bm.c0
  have bm_1 := bm.c1
  have b1_0 := b1.c0
  have b1_1 := b1.c1
  have b2_0 := b2.c0
  have b2_1 := b2.c1
  have b3_0 := b3.c0
  have b3_1 := b3.c1
  have b4_0 := b4.c0
  have b4_1 := b4.c1
  go_wp2_with fail
  refine (weEqual_same _ _ _ _ _ _ _ _ _ _ (rfl) (rfl) (rfl) (rfl) _ r3 r4 (by omega)).mono ?_
  rintro e w12 ⟨rfl, hb⟩
  clear bm_0 bm_1 b1_0 b1_1 b2_0 b2_1 b3_0 b3_1 b4_0 b4_1
  replace bm := bm.later hb
  replace b1 := b1.later hb
  replace b2 := b2.later hb
  replace b3 := b3.later hb
  replace b4 := b4.later hb
  replace rx := rx.below hb
  replace r1 := r1.below hb
  replace r2 := r2.below hb
  replace r3 := r3.below hb
  replace r4 := r4.below hb
  replace bW := bW.thenB hb
  have z12 := hb.size
  clear hb
  have bm_0 := bm.c0
  have bm_1 := bm.c1
  have b1_0 := b1.c0
  have b1_1 := b1.c1
  have b2_0 := b2.c0
  have b2_1 := b2.c1
  have b3_0 := b3.c0
  have b3_1 := b3.c1
  have b4_0 := b4.c0
  have b4_1 := b4.c1
  cases hok : G
  · subst hok
    have hko := HNO.out rfl
    subst hko
    go_wp2_with fail
    refine (weEqual_same _ _ _ _ _ _ _ _ _ _ (rfl) (rfl) (rfl) (rfl) _ r1 r2 (by omega)).mono ?_
    rintro e w13 ⟨rfl, hb⟩
    clear bm_0 bm_1 b1_0 b1_1 b2_0 b2_1 b3_0 b3_1 b4_0 b4_1
    replace bm := bm.later hb
    replace b1 := b1.later hb
    replace b2 := b2.later hb
    replace b3 := b3.later hb
    replace b4 := b4.later hb
    replace rx := rx.below hb
    replace r1 := r1.below hb
    replace r2 := r2.below hb
    replace r3 := r3.below hb
    replace r4 := r4.below hb
    replace bW := bW.thenB hb
    have z13 := hb.size
    clear hb
    have bm_0 := bm.c0
    have bm_1 := bm.c1
    have b1_0 := b1.c0
    have b1_1 := b1.c1
    have b2_0 := b2.c0
    have b2_1 := b2.c1
    have b3_0 := b3.c0
    have b3_1 := b3.c1
    have b4_0 := b4.c0
    have b4_1 := b4.c1
    go_wp2_with fail
    refine (weEqual_same _ _ _ _ _ _ _ _ _ _ (rfl) (rfl) (rfl) (rfl) _ r3 r4 (by omega)).mono ?_
    rintro e w14 ⟨rfl, hb⟩
    clear bm_0 bm_1 b1_0 b1_1 b2_0 b2_1 b3_0 b3_1 b4_0 b4_1
    replace bm := bm.later hb
    replace b1 := b1.later hb
    replace b2 := b2.later hb
    replace b3 := b3.later hb
    replace b4 := b4.later hb
    replace rx := rx.below hb
    replace r1 := r1.below hb
    replace r2 := r2.below hb
    replace r3 := r3.below hb
    replace r4 := r4.below hb
    replace bW := bW.thenB hb
    have z14 := hb.size
    clear hb
    have bm_0 := bm.c0
    have bm_1 := bm.c1
    have b1_0 := b1.c0
    have b1_1 := b1.c1
    have b2_0 := b2.c0
    have b2_1 := b2.c1
    have b3_0 := b3.c0
    have b3_1 := b3.c1
    have b4_0 := b4.c0
    have b4_1 := b4.c1
    go_wp2
    go_ret
    exact ⟨rfl, bW⟩
  · subst hok
    obtain ⟨n, rfl, law, rfl⟩ := HYES.out rfl
    clear HL1 HL2 HC1 HC2 HNO HYES
    have hx16 := law.lenx
    have hx1 := law.one
    have hCx := law.len
    have hSU := fun (w : World) => iSureMass_any T (n : Int) w
    simp only [law.sure.1, law.sure.2.1, law.sure.2.2] at hSU
    obtain ⟨E, hE⟩ : ∃ E, E = sureL xs.length n := ⟨_, rfl⟩
    have hEl : E.length = xs.length := by rw [hE]; exact sureL_len _ _
    have hCJ := fun (w : World) (q : Option Addr) (d : Nat) (hx : Reads w p xs) (hy : Reads w q E) => iConjoin_any T p c xs T q d E w hx hy (by omega) (by omega)
    have hJN := fun (w : World) (q : Option Addr) (d : Nat) (hx : Reads w p xs) (hy : Reads w q E) => iJoin_any T p c xs T q d E w hx hy (by omega) (by omega)
    have hNM := fun (w : World) (q : Option Addr) (d : Nat) (hx : Reads w q C) => iNormalMass_any T q d C w hx (by omega)
    have c1 := law.conj
    have c2 := law.join
    rw [← hE] at c1 c2
    simp only [← hE] at hSU
    simp only [c1.1, c1.2.1, c1.2.2] at hCJ
    simp only [c2.1, c2.2.1, c2.2.2] at hJN
    simp only [law.norm.1, law.norm.2.1, law.norm.2.2] at hNM
    have hPS := fun (w : World) (hx : Reads w p xs) => iPossiblePart_any T p c xs (n : Int) w hx (by omega)
    have hpo := law.poss
    obtain ⟨PS, hPSe⟩ : ∃ PS, PS = psR T xs (n : Int) := ⟨_, rfl⟩
    simp only [← hPSe] at hPS hpo
    have HSU := Lib.hid hSU
    have HCJ := Lib.hid hCJ
    have HJN := Lib.hid hJN
    have HNM := Lib.hid hNM
    have HPS := Lib.hid hPS
    have HPO := Lib.hid hpo
    have HEL := Lib.hid hEl
    have HCX := Lib.hid hCx
    clear hSU hCJ hJN hNM hPS hpo c1 c2 hE hPSe law hCx hEl
    clear b2_0 b2_1
    clear b2
    clear r2
    clear b4_0 b4_1
    clear b4
    clear r4
    go_wp2_with fail
    refine (HSU.out _).mono ?_
    rintro e w13 ⟨v, rfl, o, hb⟩
    clear bm_0 bm_1 b1_0 b1_1 b3_0 b3_1
    replace bm := bm.later hb
    replace b1 := b1.later hb
    replace b3 := b3.later hb
    replace rx := rx.below hb
    replace r1 := r1.below hb
    replace r3 := r3.below hb
    replace bW := bW.thenB hb
    have z13 := hb.size
    obtain ⟨p5, k5, rfl, r5⟩ := o.shape
    clear o
    clear hb
    have bm_0 := bm.c0
    have bm_1 := bm.c1
    have b1_0 := b1.c0
    have b1_1 := b1.c1
    have b3_0 := b3.c0
    have b3_1 := b3.c1
    have lt_bm := bm.lt
    have lt_b1 := b1.lt
    have lt_b3 := b3.lt
    go_wp2_with fail
    clear lt_bm lt_b1 lt_b3
    have hb := belowAlloc w13 (.cells #[.int .i64 T, .slice p5 E.length k5] 25)
    clear bm_0 bm_1 b1_0 b1_1 b3_0 b3_1
    replace bm := bm.later hb
    replace b1 := b1.later hb
    replace b3 := b3.later hb
    replace rx := rx.below hb
    replace r1 := r1.below hb
    replace r3 := r3.below hb
    replace r5 := r5.below hb
    replace bW := bW.thenB hb
    clear hb
    have b5 := VarInv.made w13 (T) (.slice p5 E.length k5) 25
    have z14 := b5.lt
    generalize hu14 : w13.alloc (.cells #[.int .i64 T, .slice p5 E.length k5] 25) = w14 at *
    clear hu14
    have bm_0 := bm.c0
    have bm_1 := bm.c1
    have b1_0 := b1.c0
    have b1_1 := b1.c1
    have b3_0 := b3.c0
    have b3_1 := b3.c1
    have b5_0 := b5.c0
    have b5_1 := b5.c1
    refine (HCJ.out _ _ _ rx r5).mono ?_
    rintro e w15 ⟨v, rfl, o, hb⟩
    clear bm_0 bm_1 b1_0 b1_1 b3_0 b3_1 b5_0 b5_1
    replace bm := bm.later hb
    replace b1 := b1.later hb
    replace b3 := b3.later hb
    replace b5 := b5.later hb
    replace rx := rx.below hb
    replace r1 := r1.below hb
    replace r3 := r3.below hb
    replace r5 := r5.below hb
    replace bW := bW.thenB hb
    have z15 := hb.size
    obtain ⟨p6, k6, rfl, r6⟩ := o.shape
    clear o
    clear hb
    have bm_0 := bm.c0
    have bm_1 := bm.c1
    have b1_0 := b1.c0
    have b1_1 := b1.c1
    have b3_0 := b3.c0
    have b3_1 := b3.c1
    have b5_0 := b5.c0
    have b5_1 := b5.c1
    have lt_bm := bm.lt
    have lt_b1 := b1.lt
    have lt_b3 := b3.lt
    have lt_b5 := b5.lt
    go_wp2_with fail
    clear lt_bm lt_b1 lt_b3 lt_b5
    have hb := belowAlloc w15 (.cells #[.int .i64 T, .slice p6 C.length k6] 25)
    clear bm_0 bm_1 b1_0 b1_1 b3_0 b3_1 b5_0 b5_1
    replace bm := bm.later hb
    replace b1 := b1.later hb
    replace b3 := b3.later hb
    replace b5 := b5.later hb
    replace rx := rx.below hb
    replace r1 := r1.below hb
    replace r3 := r3.below hb
    replace r5 := r5.below hb
    replace r6 := r6.below hb
    replace bW := bW.thenB hb
    clear hb
    have b6 := VarInv.made w15 (T) (.slice p6 C.length k6) 25
    have z16 := b6.lt
    generalize hu16 : w15.alloc (.cells #[.int .i64 T, .slice p6 C.length k6] 25) = w16 at *
    clear hu16
    have bm_0 := bm.c0
    have bm_1 := bm.c1
    have b1_0 := b1.c0
    have b1_1 := b1.c1
    have b3_0 := b3.c0
    have b3_1 := b3.c1
    have b5_0 := b5.c0
    have b5_1 := b5.c1
    have b6_0 := b6.c0
    have b6_1 := b6.c1
    refine (HJN.out _ _ _ rx r5).mono ?_
    rintro e w17 ⟨v, rfl, o, hb⟩
    clear bm_0 bm_1 b1_0 b1_1 b3_0 b3_1 b5_0 b5_1 b6_0 b6_1
    replace bm := bm.later hb
    replace b1 := b1.later hb
    replace b3 := b3.later hb
    replace b5 := b5.later hb
    replace b6 := b6.later hb
    replace rx := rx.below hb
    replace r1 := r1.below hb
    replace r3 := r3.below hb
    replace r5 := r5.below hb
    replace r6 := r6.below hb
    replace bW := bW.thenB hb
    have z17 := hb.size
    obtain ⟨p7, k7, rfl, r7⟩ := o.shape
    clear o
    clear hb
    have bm_0 := bm.c0
    have bm_1 := bm.c1
    have b1_0 := b1.c0
    have b1_1 := b1.c1
    have b3_0 := b3.c0
    have b3_1 := b3.c1
    have b5_0 := b5.c0
    have b5_1 := b5.c1
    have b6_0 := b6.c0
    have b6_1 := b6.c1
    have lt_bm := bm.lt
    have lt_b1 := b1.lt
    have lt_b3 := b3.lt
    have lt_b5 := b5.lt
    have lt_b6 := b6.lt
    go_wp2_with fail
    clear lt_bm lt_b1 lt_b3 lt_b5 lt_b6
    have hb := belowAlloc w17 (.cells #[.int .i64 S, .slice p7 K.length k7] 25)
    clear bm_0 bm_1 b1_0 b1_1 b3_0 b3_1 b5_0 b5_1 b6_0 b6_1
    replace bm := bm.later hb
    replace b1 := b1.later hb
    replace b3 := b3.later hb
    replace b5 := b5.later hb
    replace b6 := b6.later hb
    replace rx := rx.below hb
    replace r1 := r1.below hb
    replace r3 := r3.below hb
    replace r5 := r5.below hb
    replace r6 := r6.below hb
    replace r7 := r7.below hb
    replace bW := bW.thenB hb
    clear hb
    have b7 := VarInv.made w17 (S) (.slice p7 K.length k7) 25
    have z18 := b7.lt
    generalize hu18 : w17.alloc (.cells #[.int .i64 S, .slice p7 K.length k7] 25) = w18 at *
    clear hu18
    have bm_0 := bm.c0
    have bm_1 := bm.c1
    have b1_0 := b1.c0
    have b1_1 := b1.c1
    have b3_0 := b3.c0
    have b3_1 := b3.c1
    have b5_0 := b5.c0
    have b5_1 := b5.c1
    have b6_0 := b6.c0
    have b6_1 := b6.c1
    have b7_0 := b7.c0
    have b7_1 := b7.c1
    refine (HNM.out _ _ _ r3).mono ?_
    rintro e w19 ⟨v, rfl, o, hb⟩
    clear bm_0 bm_1 b1_0 b1_1 b3_0 b3_1 b5_0 b5_1 b6_0 b6_1 b7_0 b7_1
    replace bm := bm.later hb
    replace b1 := b1.later hb
    replace b3 := b3.later hb
    replace b5 := b5.later hb
    replace b6 := b6.later hb
    replace b7 := b7.later hb
    replace rx := rx.below hb
    replace r1 := r1.below hb
    replace r3 := r3.below hb
    replace r5 := r5.below hb
    replace r6 := r6.below hb
    replace r7 := r7.below hb
    replace bW := bW.thenB hb
    have z19 := hb.size
    obtain ⟨p8, k8, rfl, r8⟩ := o.shape
    clear o
    clear hb
    have bm_0 := bm.c0
    have bm_1 := bm.c1
    have b1_0 := b1.c0
    have b1_1 := b1.c1
    have b3_0 := b3.c0
    have b3_1 := b3.c1
    have b5_0 := b5.c0
    have b5_1 := b5.c1
    have b6_0 := b6.c0
    have b6_1 := b6.c1
    have b7_0 := b7.c0
    have b7_1 := b7.c1
    have lt_bm := bm.lt
    have lt_b1 := b1.lt
    have lt_b3 := b3.lt
    have lt_b5 := b5.lt
    have lt_b6 := b6.lt
    have lt_b7 := b7.lt
    go_wp2_with fail
    clear lt_bm lt_b1 lt_b3 lt_b5 lt_b6 lt_b7
    have hb := belowAlloc w19 (.cells #[.int .i64 S, .slice p8 K.length k8] 25)
    clear bm_0 bm_1 b1_0 b1_1 b3_0 b3_1 b5_0 b5_1 b6_0 b6_1 b7_0 b7_1
    replace bm := bm.later hb
    replace b1 := b1.later hb
    replace b3 := b3.later hb
    replace b5 := b5.later hb
    replace b6 := b6.later hb
    replace b7 := b7.later hb
    replace rx := rx.below hb
    replace r1 := r1.below hb
    replace r3 := r3.below hb
    replace r5 := r5.below hb
    replace r6 := r6.below hb
    replace r7 := r7.below hb
    replace r8 := r8.below hb
    replace bW := bW.thenB hb
    clear hb
    have b8 := VarInv.made w19 (S) (.slice p8 K.length k8) 25
    have z20 := b8.lt
    generalize hu20 : w19.alloc (.cells #[.int .i64 S, .slice p8 K.length k8] 25) = w20 at *
    clear hu20
    have bm_0 := bm.c0
    have bm_1 := bm.c1
    have b1_0 := b1.c0
    have b1_1 := b1.c1
    have b3_0 := b3.c0
    have b3_1 := b3.c1
    have b5_0 := b5.c0
    have b5_1 := b5.c1
    have b6_0 := b6.c0
    have b6_1 := b6.c1
    have b7_0 := b7.c0
    have b7_1 := b7.c1
    have b8_0 := b8.c0
    have b8_1 := b8.c1
    refine (weEqual_same _ _ _ _ _ _ _ _ _ _ (rfl) (rfl) (rfl) (rfl) _ r6 r3 (by omega)).mono ?_
    rintro e w21 ⟨rfl, hb⟩
    clear bm_0 bm_1 b1_0 b1_1 b3_0 b3_1 b5_0 b5_1 b6_0 b6_1 b7_0 b7_1 b8_0 b8_1
    replace bm := bm.later hb
    replace b1 := b1.later hb
    replace b3 := b3.later hb
    replace b5 := b5.later hb
    replace b6 := b6.later hb
    replace b7 := b7.later hb
    replace b8 := b8.later hb
    replace rx := rx.below hb
    replace r1 := r1.below hb
    replace r3 := r3.below hb
    replace r5 := r5.below hb
    replace r6 := r6.below hb
    replace r7 := r7.below hb
    replace r8 := r8.below hb
    replace bW := bW.thenB hb
    have z21 := hb.size
    clear hb
    have bm_0 := bm.c0
    have bm_1 := bm.c1
    have b1_0 := b1.c0
    have b1_1 := b1.c1
    have b3_0 := b3.c0
    have b3_1 := b3.c1
    have b5_0 := b5.c0
    have b5_1 := b5.c1
    have b6_0 := b6.c0
    have b6_1 := b6.c1
    have b7_0 := b7.c0
    have b7_1 := b7.c1
    have b8_0 := b8.c0
    have b8_1 := b8.c1
    go_wp2_with fail
    refine (weEqual_same _ _ _ _ _ _ _ _ _ _ (rfl) (rfl) (rfl) (rfl) _ r7 r1 (by omega)).mono ?_
    rintro e w22 ⟨rfl, hb⟩
    clear bm_0 bm_1 b1_0 b1_1 b3_0 b3_1 b5_0 b5_1 b6_0 b6_1 b7_0 b7_1 b8_0 b8_1
    replace bm := bm.later hb
    replace b1 := b1.later hb
    replace b3 := b3.later hb
    replace b5 := b5.later hb
    replace b6 := b6.later hb
    replace b7 := b7.later hb
    replace b8 := b8.later hb
    replace rx := rx.below hb
    replace r1 := r1.below hb
    replace r3 := r3.below hb
    replace r5 := r5.below hb
    replace r6 := r6.below hb
    replace r7 := r7.below hb
    replace r8 := r8.below hb
    replace bW := bW.thenB hb
    have z22 := hb.size
    clear hb
    have bm_0 := bm.c0
    have bm_1 := bm.c1
    have b1_0 := b1.c0
    have b1_1 := b1.c1
    have b3_0 := b3.c0
    have b3_1 := b3.c1
    have b5_0 := b5.c0
    have b5_1 := b5.c1
    have b6_0 := b6.c0
    have b6_1 := b6.c1
    have b7_0 := b7.c0
    have b7_1 := b7.c1
    have b8_0 := b8.c0
    have b8_1 := b8.c1
    go_wp2_with fail
    refine (weEqual_same _ _ _ _ _ _ _ _ _ _ (rfl) (rfl) (rfl) (rfl) _ r8 r1 (by omega)).mono ?_
    rintro e w23 ⟨rfl, hb⟩
    clear bm_0 bm_1 b1_0 b1_1 b3_0 b3_1 b5_0 b5_1 b6_0 b6_1 b7_0 b7_1 b8_0 b8_1
    replace bm := bm.later hb
    replace b1 := b1.later hb
    replace b3 := b3.later hb
    replace b5 := b5.later hb
    replace b6 := b6.later hb
    replace b7 := b7.later hb
    replace b8 := b8.later hb
    replace rx := rx.below hb
    replace r1 := r1.below hb
    replace r3 := r3.below hb
    replace r5 := r5.below hb
    replace r6 := r6.below hb
    replace r7 := r7.below hb
    replace r8 := r8.below hb
    replace bW := bW.thenB hb
    have z23 := hb.size
    clear hb
    have bm_0 := bm.c0
    have bm_1 := bm.c1
    have b1_0 := b1.c0
    have b1_1 := b1.c1
    have b3_0 := b3.c0
    have b3_1 := b3.c1
    have b5_0 := b5.c0
    have b5_1 := b5.c1
    have b6_0 := b6.c0
    have b6_1 := b6.c1
    have b7_0 := b7.c0
    have b7_1 := b7.c1
    have b8_0 := b8.c0
    have b8_1 := b8.c1
    go_wp2_with fail
    refine (HPS.out _ rx).mono ?_
    rintro e w24 ⟨rfl, hb⟩
    clear bm_0 bm_1 b1_0 b1_1 b3_0 b3_1 b5_0 b5_1 b6_0 b6_1 b7_0 b7_1 b8_0 b8_1
    replace bm := bm.later hb
    replace b1 := b1.later hb
    replace b3 := b3.later hb
    replace b5 := b5.later hb
    replace b6 := b6.later hb
    replace b7 := b7.later hb
    replace b8 := b8.later hb
    replace rx := rx.below hb
    replace r1 := r1.below hb
    replace r3 := r3.below hb
    replace r5 := r5.below hb
    replace r6 := r6.below hb
    replace r7 := r7.below hb
    replace r8 := r8.below hb
    replace bW := bW.thenB hb
    have z24 := hb.size
    clear hb
    have bm_0 := bm.c0
    have bm_1 := bm.c1
    have b1_0 := b1.c0
    have b1_1 := b1.c1
    have b3_0 := b3.c0
    have b3_1 := b3.c1
    have b5_0 := b5.c0
    have b5_1 := b5.c1
    have b6_0 := b6.c0
    have b6_1 := b6.c1
    have b7_0 := b7.c0
    have b7_1 := b7.c1
    have b8_0 := b8.c0
    have b8_1 := b8.c1
    by_cases hp : 0 < PS
    · have hoe : OK = true := by rw [HPO.out]; simp [hp]
      subst hoe
      have hpd : decide (0 < PS) = true := by simp; omega
      go_wp2
      go_ret
      exact ⟨rfl, bW⟩
    · have hoe : OK = false := by rw [HPO.out]; simp; omega
      subst hoe
      have hpd : decide (0 < PS) = false := by simp; omega
      go_wp2
      go_ret
      exact ⟨rfl, bW⟩

end Go.Proofs.Ytkpnenbkfphldaa
