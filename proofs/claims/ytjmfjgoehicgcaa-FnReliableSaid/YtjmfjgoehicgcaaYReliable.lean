/- The law on sources that are right or wrong in part: what it computes. -/
import Derived.Test.YtjmfjgoehicgcaaDG
import Derived.Test.YtjmfjgoehicgcaaZU
import Derived.Test.YtjmfjgoehicgcaaE1
import Derived.Test.YtjmfjgoehicgcaaI8
set_option linter.unusedVariables false
set_option linter.unusedSimpArgs false
namespace Go.Proofs.Ytjmfjgoehicgcaa
open Go.RowKit

set_option maxHeartbeats 4000000 in
set_option maxRecDepth 100000 in
theorem FnReliable_walk (w : World) (a0 : Option Addr) (c0 : Nat) (x0 : List Int) (m0 : x0.length ≤ maxLen) (rd0 : ReadsK .u8 w a0 x0) (wf0 : ∀ n ∈ x0, (Lit.int .u8 n).wf = true) (cp0 : x0.length ≤ c0) :
    Calls Try.prog 4 #[.slice a0 x0.length c0] w fun e w' => e = .returned (.bool true) ∧ Below w.heap.size w w' := by
  by_cases hbig0 : 1048576 < x0.length
  · unfold maxLen at m0
    clear rd0 wf0 cp0
    go_enter Try.func4, Try.ntmps4
    go_wp2
    go_ret
    exact ⟨rfl, Below.refl _ _⟩
  have HD := Lib.hid (DrawReliableMass_any a0 c0 x0 w rd0 wf0 m0 cp0)
  unfold maxLen at m0
  clear rd0 wf0 cp0
  go_enter Try.func4, Try.ntmps4
  go_wp2_with fail
  refine HD.out.mono ?_
  rintro e w1 ⟨s, p, c, xs, n, d, rfl, hxl, ox, bW⟩
  clear HD
  have rx := ox.reads
  clear ox
  obtain ⟨S, hS⟩ : ∃ S, S = gS (mixG s xs s (rvL xs) n d) s (mixP xs (rvL xs) n d) := ⟨_, rfl⟩
  obtain ⟨OK, hOK⟩ : ∃ OK, OK = gOk (mixG s xs s (rvL xs) n d) s (mixP xs (rvL xs) n d) := ⟨_, rfl⟩
  obtain ⟨K, hK⟩ : ∃ K, K = gL (mixG s xs s (rvL xs) n d) s (mixP xs (rvL xs) n d) := ⟨_, rfl⟩
  have hKl : K.length ≤ 1048576 := by rw [hK]; have := gL_len (mixG s xs s (rvL xs) n d) s (mixP xs (rvL xs) n d); rw [mixP_len] at this; omega
  have hF1 := fun (w : World) (hx : Reads w p xs) => iRel_any s p c xs n d w hx (by omega)
  have hF2 := fun (w : World) (hx : Reads w p xs) => sRel_any s p c xs n d w hx (by omega)
  simp only [← hS, ← hOK, ← hK] at hF1 hF2
  have HF1 := Lib.hid hF1
  have HF2 := Lib.hid hF2
  have hyes : OK = true → S = s ∧ RelLaw s xs n d K := fun h => by
    obtain ⟨e, law⟩ := rel_law (hOK.symm.trans h)
    exact ⟨by rw [hS]; exact e, by rw [hK]; exact law⟩
  have HYES := Lib.hid hyes
  clear hF1 hF2 hyes hS hOK hK
  have hq1 : (OK != OK) = false := by cases OK <;> rfl
  have hq2 : (OK == OK) = true := by cases OK <;> rfl
  go_wp2_with fail
  have hb := belowAlloc w1 (.cells #[.int .i64 s, .slice p xs.length c] 27)
  replace rx := rx.below hb
  replace bW := bW.thenB hb
  clear hb
  have bm := VarInv.made w1 (s) (.slice p xs.length c) 27
  have z2 := bm.lt
  have hsj : (w1.alloc (.cells #[.int .i64 s, .slice p xs.length c] 27)).heap.size = w1.heap.size + 1 := by simp
  generalize hu2 : w1.alloc (.cells #[.int .i64 s, .slice p xs.length c] 27) = w2 at *
  clear hu2
  have hb := belowAlloc w2 (.cells #[.int .i64 n, .int .i64 d] 32)
  replace bm := bm.later hb
  replace rx := rx.below hb
  replace bW := bW.thenB hb
  clear hb
  have bf := VarInv.made w2 (n) (.int .i64 d) 32
  rw [hsj] at bf
  clear hsj
  have z3 := bf.lt
  generalize hu3 : w2.alloc (.cells #[.int .i64 n, .int .i64 d] 32) = w3 at *
  clear hu3
  have bm_0 := bm.c0
  have bm_1 := bm.c1
  have bf_0 := bf.c0
  have bf_1 := bf.c1
  refine (HF1.out _ rx).mono ?_
  rintro e w4 ⟨v, rfl, o, hb⟩
  clear bm_0 bm_1 bf_0 bf_1
  replace bm := bm.later hb
  replace bf := bf.later hb
  replace rx := rx.below hb
  replace bW := bW.thenB hb
  have z4 := hb.size
  obtain ⟨p1, k1, rfl, r1⟩ := o.shape
  clear o
  clear hb
  have bm_0 := bm.c0
  have bm_1 := bm.c1
  have bf_0 := bf.c0
  have bf_1 := bf.c1
  have lt_bm := bm.lt
  have lt_bf := bf.lt
  go_wp2_with fail
  clear lt_bm lt_bf
  have hb := belowAlloc w4 (.cells #[.int .i64 S, .slice p1 K.length k1] 27)
  clear bm_0 bm_1 bf_0 bf_1
  replace bm := bm.later hb
  replace bf := bf.later hb
  replace rx := rx.below hb
  replace r1 := r1.below hb
  replace bW := bW.thenB hb
  clear hb
  have b1 := VarInv.made w4 (S) (.slice p1 K.length k1) 27
  have z5 := b1.lt
  generalize hu5 : w4.alloc (.cells #[.int .i64 S, .slice p1 K.length k1] 27) = w5 at *
  clear hu5
  have bm_0 := bm.c0
  have bm_1 := bm.c1
  have bf_0 := bf.c0
  have bf_1 := bf.c1
  have b1_0 := b1.c0
  have b1_1 := b1.c1
  refine (HF2.out _ rx).mono ?_
  rintro e w6 ⟨v, rfl, o, hb⟩
  clear bm_0 bm_1 bf_0 bf_1 b1_0 b1_1
  replace bm := bm.later hb
  replace bf := bf.later hb
  replace b1 := b1.later hb
  replace rx := rx.below hb
  replace r1 := r1.below hb
  replace bW := bW.thenB hb
  have z6 := hb.size
  obtain ⟨p2, k2, rfl, r2⟩ := o.shape
  clear o
  clear hb
  have bm_0 := bm.c0
  have bm_1 := bm.c1
  have bf_0 := bf.c0
  have bf_1 := bf.c1
  have b1_0 := b1.c0
  have b1_1 := b1.c1
  have lt_bm := bm.lt
  have lt_bf := bf.lt
  have lt_b1 := b1.lt
  go_wp2_with fail
  clear lt_bm lt_bf lt_b1
  have hb := belowAlloc w6 (.cells #[.int .i64 S, .slice p2 K.length k2] 27)
  clear bm_0 bm_1 bf_0 bf_1 b1_0 b1_1
  replace bm := bm.later hb
  replace bf := bf.later hb
  replace b1 := b1.later hb
  replace rx := rx.below hb
  replace r1 := r1.below hb
  replace r2 := r2.below hb
  replace bW := bW.thenB hb
  clear hb
  have b2 := VarInv.made w6 (S) (.slice p2 K.length k2) 27
  have z7 := b2.lt
  generalize hu7 : w6.alloc (.cells #[.int .i64 S, .slice p2 K.length k2] 27) = w7 at *
  clear hu7
  have bm_0 := bm.c0
  have bm_1 := bm.c1
  have bf_0 := bf.c0
  have bf_1 := bf.c1
  have b1_0 := b1.c0
  have b1_1 := b1.c1
  have b2_0 := b2.c0
  have b2_1 := b2.c1
  refine (weEqual_same _ _ _ _ _ _ _ _ _ _ (rfl) (rfl) (rfl) (rfl) _ r1 r2 (by omega)).mono ?_
  rintro e w8 ⟨rfl, hb⟩
  clear bm_0 bm_1 bf_0 bf_1 b1_0 b1_1 b2_0 b2_1
  replace bm := bm.later hb
  replace bf := bf.later hb
  replace b1 := b1.later hb
  replace b2 := b2.later hb
  replace rx := rx.below hb
  replace r1 := r1.below hb
  replace r2 := r2.below hb
  replace bW := bW.thenB hb
  have z8 := hb.size
  clear hb
  have bm_0 := bm.c0
  have bm_1 := bm.c1
  have bf_0 := bf.c0
  have bf_1 := bf.c1
  have b1_0 := b1.c0
  have b1_1 := b1.c1
  have b2_0 := b2.c0
  have b2_1 := b2.c1
  cases hok : OK
  · subst hok
    go_wp2_with fail
    refine (weEqual_same _ _ _ _ _ _ _ _ _ _ (rfl) (rfl) (rfl) (rfl) _ r1 r2 (by omega)).mono ?_
    rintro e w9 ⟨rfl, hb⟩
    clear bm_0 bm_1 bf_0 bf_1 b1_0 b1_1 b2_0 b2_1
    replace bm := bm.later hb
    replace bf := bf.later hb
    replace b1 := b1.later hb
    replace b2 := b2.later hb
    replace rx := rx.below hb
    replace r1 := r1.below hb
    replace r2 := r2.below hb
    replace bW := bW.thenB hb
    have z9 := hb.size
    clear hb
    have bm_0 := bm.c0
    have bm_1 := bm.c1
    have bf_0 := bf.c0
    have bf_1 := bf.c1
    have b1_0 := b1.c0
    have b1_1 := b1.c1
    have b2_0 := b2.c0
    have b2_1 := b2.c1
    go_wp2
    go_ret
    exact ⟨rfl, bW⟩
  · subst hok
    obtain ⟨rfl, law⟩ := HYES.out rfl
    have HLAW := Lib.hid law
    have hx16 := law.l16
    have hk := massB_ok law.mass
    have hx2 : 2 ≤ xs.length := by have := hk.len; have := pow2_bd S hk.s1 hk.s4; omega
    have hKx := Lib.hid law.len
    have hK16 : K.length ≤ 16 := by have := law.len; omega
    have hmn := fun (w : World) => iMinus_any n d w
    rw [law.mn, law.md] at hmn
    have had := fun (w : World) => iAdd_any 1 1 (-n) d w
    obtain ⟨O3, hO3⟩ : ∃ x, x = fracB n d := ⟨_, rfl⟩
    obtain ⟨O4, hO4⟩ : ∃ x, x = fOk (twoF 1 1 (-n) d) (1 * d + -n * 1) (1 * d) := ⟨_, rfl⟩
    rw [show fN (twoF 1 1 (-n) d) (1 * d + -n * 1) (1 * d) = d - n from law.an, show fD (twoF 1 1 (-n) d) (1 * d + -n * 1) (1 * d) = d from law.ad, ← hO4] at had
    rw [← hO3] at hmn
    obtain ⟨R, hR⟩ : ∃ R, R = d - n := ⟨_, rfl⟩
    obtain ⟨V, hV⟩ : ∃ V, V = rvL K := ⟨_, rfl⟩
    have hVl : V.length ≤ 16 := by rw [hV, rvL_len]; omega
    have hF3 := fun (w : World) (hx : Reads w p xs) => iRel_any S p c xs (d - n) d w hx (by omega)
    simp only [law.other.1, law.other.2.1, law.other.2.2, ← hV] at hF3
    rw [← hR] at hF3 had
    have hNG := fun (w : World) (q : Option Addr) (k : Nat) (hx : Reads w q K) => iNegate_any S q k K w hx (by omega) law.massK
    simp only [← hV] at hNG
    obtain ⟨SL, hSL⟩ : ∃ SL, SL = srcL xs.length n d := ⟨_, rfl⟩
    have hSLl : SL.length = xs.length := by rw [hSL, srcL_len]
    have hMM := fun (w : World) (q : Option Addr) (hx : Reads w q SL) => iMakeMass_any S q xs.length SL w hx (by omega)
    have hsr := law.src
    have hbo := law.both
    have hdf := law.differ
    rw [← hSL] at hsr hbo hdf
    simp only [hsr.1, hsr.2.1, hsr.2.2, hSLl] at hMM
    have hDF := fun (w : World) (q : Option Addr) (k : Nat) (hx : Reads w p xs) (hy : Reads w q SL) => iDiffer_any S p c xs S q k SL w hx hy (by omega) (by omega) hbo
    simp only [hdf.1, hdf.2.1, hdf.2.2] at hDF
    have hn0 := (shB_ok law.share).1
    have hnd := (shB_ok law.share).2.1
    have hd1 := law.d1000
    have hwR : IntKind.i64.wrap (d - n) = R := by rw [hR]; exact IntWalk.i64_in _ (by omega)
    have HWR := Lib.hid hwR
    have HN := Lib.hid hmn
    have HA := Lib.hid had
    have HF3 := Lib.hid hF3
    have HNG := Lib.hid hNG
    have HMM := Lib.hid hMM
    have HDF := Lib.hid hDF
    have HR := Lib.hid hR
    have HSL := Lib.hid hSL
    have HSLl := Lib.hid hSLl
    clear law HF1 HF2 HYES hk hmn had hF3 hNG hMM hDF hsr hbo hdf hO3 hO4 hR hV hSL hwR hSLl
    clear b2_0 b2_1
    clear b2
    clear r2
    go_wp2_with fail
    refine (HN.out _).mono ?_
    rintro e w9 ⟨rfl, hb⟩
    clear bm_0 bm_1 bf_0 bf_1 b1_0 b1_1
    replace bm := bm.later hb
    replace bf := bf.later hb
    replace b1 := b1.later hb
    replace rx := rx.below hb
    replace r1 := r1.below hb
    replace bW := bW.thenB hb
    have z9 := hb.size
    clear hb
    have bm_0 := bm.c0
    have bm_1 := bm.c1
    have bf_0 := bf.c0
    have bf_1 := bf.c1
    have b1_0 := b1.c0
    have b1_1 := b1.c1
    have lt_bm := bm.lt
    have lt_bf := bf.lt
    have lt_b1 := b1.lt
    go_wp2_with fail
    clear lt_bm lt_bf lt_b1
    have hb := belowAlloc w9 (.cells #[.int .i64 (-n), .int .i64 d] 32)
    clear bm_0 bm_1 bf_0 bf_1 b1_0 b1_1
    replace bm := bm.later hb
    replace bf := bf.later hb
    replace b1 := b1.later hb
    replace rx := rx.below hb
    replace r1 := r1.below hb
    replace bW := bW.thenB hb
    clear hb
    have f3 := VarInv.made w9 ((-n)) (.int .i64 d) 32
    have z10 := f3.lt
    generalize hu10 : w9.alloc (.cells #[.int .i64 (-n), .int .i64 d] 32) = w10 at *
    clear hu10
    have bm_0 := bm.c0
    have bm_1 := bm.c1
    have bf_0 := bf.c0
    have bf_1 := bf.c1
    have b1_0 := b1.c0
    have b1_1 := b1.c1
    have f3_0 := f3.c0
    have f3_1 := f3.c1
    refine (HA.out _).mono ?_
    rintro e w11 ⟨rfl, hb⟩
    clear bm_0 bm_1 bf_0 bf_1 b1_0 b1_1 f3_0 f3_1
    replace bm := bm.later hb
    replace bf := bf.later hb
    replace b1 := b1.later hb
    replace f3 := f3.later hb
    replace rx := rx.below hb
    replace r1 := r1.below hb
    replace bW := bW.thenB hb
    have z11 := hb.size
    clear hb
    have bm_0 := bm.c0
    have bm_1 := bm.c1
    have bf_0 := bf.c0
    have bf_1 := bf.c1
    have b1_0 := b1.c0
    have b1_1 := b1.c1
    have f3_0 := f3.c0
    have f3_1 := f3.c1
    have lt_bm := bm.lt
    have lt_bf := bf.lt
    have lt_b1 := b1.lt
    have lt_f3 := f3.lt
    go_wp2_with fail
    clear lt_bm lt_bf lt_b1 lt_f3
    have hb := belowAlloc w11 (.cells #[.int .i64 R, .int .i64 d] 32)
    clear bm_0 bm_1 bf_0 bf_1 b1_0 b1_1 f3_0 f3_1
    replace bm := bm.later hb
    replace bf := bf.later hb
    replace b1 := b1.later hb
    replace f3 := f3.later hb
    replace rx := rx.below hb
    replace r1 := r1.below hb
    replace bW := bW.thenB hb
    clear hb
    have f4 := VarInv.made w11 (R) (.int .i64 d) 32
    have z12 := f4.lt
    generalize hu12 : w11.alloc (.cells #[.int .i64 R, .int .i64 d] 32) = w12 at *
    clear hu12
    have bm_0 := bm.c0
    have bm_1 := bm.c1
    have bf_0 := bf.c0
    have bf_1 := bf.c1
    have b1_0 := b1.c0
    have b1_1 := b1.c1
    have f3_0 := f3.c0
    have f3_1 := f3.c1
    have f4_0 := f4.c0
    have f4_1 := f4.c1
    refine (HF3.out _ rx).mono ?_
    rintro e w13 ⟨v, rfl, o, hb⟩
    clear bm_0 bm_1 bf_0 bf_1 b1_0 b1_1 f3_0 f3_1 f4_0 f4_1
    replace bm := bm.later hb
    replace bf := bf.later hb
    replace b1 := b1.later hb
    replace f3 := f3.later hb
    replace f4 := f4.later hb
    replace rx := rx.below hb
    replace r1 := r1.below hb
    replace bW := bW.thenB hb
    have z13 := hb.size
    obtain ⟨p5, k5, rfl, r5⟩ := o.shape
    clear o
    clear hb
    have bm_0 := bm.c0
    have bm_1 := bm.c1
    have bf_0 := bf.c0
    have bf_1 := bf.c1
    have b1_0 := b1.c0
    have b1_1 := b1.c1
    have f3_0 := f3.c0
    have f3_1 := f3.c1
    have f4_0 := f4.c0
    have f4_1 := f4.c1
    have lt_bm := bm.lt
    have lt_bf := bf.lt
    have lt_b1 := b1.lt
    have lt_f3 := f3.lt
    have lt_f4 := f4.lt
    go_wp2_with fail
    clear lt_bm lt_bf lt_b1 lt_f3 lt_f4
    have hb := belowAlloc w13 (.cells #[.int .i64 S, .slice p5 V.length k5] 27)
    clear bm_0 bm_1 bf_0 bf_1 b1_0 b1_1 f3_0 f3_1 f4_0 f4_1
    replace bm := bm.later hb
    replace bf := bf.later hb
    replace b1 := b1.later hb
    replace f3 := f3.later hb
    replace f4 := f4.later hb
    replace rx := rx.below hb
    replace r1 := r1.below hb
    replace r5 := r5.below hb
    replace bW := bW.thenB hb
    clear hb
    have b5 := VarInv.made w13 (S) (.slice p5 V.length k5) 27
    have z14 := b5.lt
    generalize hu14 : w13.alloc (.cells #[.int .i64 S, .slice p5 V.length k5] 27) = w14 at *
    clear hu14
    have bm_0 := bm.c0
    have bm_1 := bm.c1
    have bf_0 := bf.c0
    have bf_1 := bf.c1
    have b1_0 := b1.c0
    have b1_1 := b1.c1
    have f3_0 := f3.c0
    have f3_1 := f3.c1
    have f4_0 := f4.c0
    have f4_1 := f4.c1
    have b5_0 := b5.c0
    have b5_1 := b5.c1
    refine (HNG.out _ _ _ r1).mono ?_
    rintro e w15 ⟨v, rfl, o, hb⟩
    clear bm_0 bm_1 bf_0 bf_1 b1_0 b1_1 f3_0 f3_1 f4_0 f4_1 b5_0 b5_1
    replace bm := bm.later hb
    replace bf := bf.later hb
    replace b1 := b1.later hb
    replace f3 := f3.later hb
    replace f4 := f4.later hb
    replace b5 := b5.later hb
    replace rx := rx.below hb
    replace r1 := r1.below hb
    replace r5 := r5.below hb
    replace bW := bW.thenB hb
    have z15 := hb.size
    obtain ⟨p6, k6, rfl, r6⟩ := o.shape
    clear o
    clear hb
    have bm_0 := bm.c0
    have bm_1 := bm.c1
    have bf_0 := bf.c0
    have bf_1 := bf.c1
    have b1_0 := b1.c0
    have b1_1 := b1.c1
    have f3_0 := f3.c0
    have f3_1 := f3.c1
    have f4_0 := f4.c0
    have f4_1 := f4.c1
    have b5_0 := b5.c0
    have b5_1 := b5.c1
    have lt_bm := bm.lt
    have lt_bf := bf.lt
    have lt_b1 := b1.lt
    have lt_f3 := f3.lt
    have lt_f4 := f4.lt
    have lt_b5 := b5.lt
    go_wp2_with fail
    clear lt_bm lt_bf lt_b1 lt_f3 lt_f4 lt_b5
    have hb := belowAlloc w15 (.cells #[.int .i64 S, .slice p6 V.length k6] 27)
    clear bm_0 bm_1 bf_0 bf_1 b1_0 b1_1 f3_0 f3_1 f4_0 f4_1 b5_0 b5_1
    replace bm := bm.later hb
    replace bf := bf.later hb
    replace b1 := b1.later hb
    replace f3 := f3.later hb
    replace f4 := f4.later hb
    replace b5 := b5.later hb
    replace rx := rx.below hb
    replace r1 := r1.below hb
    replace r5 := r5.below hb
    replace r6 := r6.below hb
    replace bW := bW.thenB hb
    clear hb
    have b6 := VarInv.made w15 (S) (.slice p6 V.length k6) 27
    have z16 := b6.lt
    generalize hu16 : w15.alloc (.cells #[.int .i64 S, .slice p6 V.length k6] 27) = w16 at *
    clear hu16
    have bm_0 := bm.c0
    have bm_1 := bm.c1
    have bf_0 := bf.c0
    have bf_1 := bf.c1
    have b1_0 := b1.c0
    have b1_1 := b1.c1
    have f3_0 := f3.c0
    have f3_1 := f3.c1
    have f4_0 := f4.c0
    have f4_1 := f4.c1
    have b5_0 := b5.c0
    have b5_1 := b5.c1
    have b6_0 := b6.c0
    have b6_1 := b6.c1
    clear f3_0 f3_1
    clear f3
    clear f4_0 f4_1
    clear f4
    obtain ⟨mf, hmf⟩ := makeFn xs.length (by omega)
    have hrun := fun w => (hmf w).1
    have HMF := Lib.hid hmf
    clear hmf
    have lt_bm := bm.lt
    obtain ⟨-, hoA, hbA, hlA⟩ := HMF.out w16.drew
    replace hbA := undrew hbA
    replace hlA : w16.heap.size < (mf w16.drew).heap.size := hlA
    have bmA := bm.later hbA
    have bmA_0 := bmA.c0
    have bmA_1 := bmA.c1
    have lt_bmA := bmA.lt
    obtain ⟨-, hoB, hbB, hlB⟩ := HMF.out (w16.alloc (.cells #[.int .i64 0, .slice none 0 0] 27)).drew
    have hbB0 := (belowAlloc w16 (.cells #[.int .i64 0, .slice none 0 0] 27)).drew.thenB hbB
    have bmB := bm.later hbB0
    have bmB_0 := bmB.c0
    have bmB_1 := bmB.c1
    have bnB := ((VarInv.made w16 0 (.slice none 0 0) 27).drew).later hbB
    have bnB_2 := bnB.f0
    have bnB_3 := bnB.f1
    have bnB_0 := bnB.c0
    have bnB_1 := bnB.c1
    have HA := Lib.hid (And.intro hoA hbA)
    have HB := Lib.hid (And.intro hoB (And.intro hbB0 bnB))
    clear hoA hbA hoB hbB hbB0 bmA bmB bnB
    obtain ⟨m, hm⟩ : ∃ m : Nat, (xs.length : Int) - 1 = (m : Int) := ⟨xs.length - 1, by omega⟩
    have hmx : m < xs.length := by omega
    have HMX : Hid (m = xs.length - 1) := Lib.hid (by omega)
    have hm0 : (0 : Int) < (xs.length : Int) := by omega
    go_region
    · skip
      obtain ⟨hoA, hbA⟩ := HA.out
      obtain ⟨T, hT⟩ : ∃ T, T = (mf w16.drew).heap.size := ⟨_, rfl⟩
      obtain ⟨G, hG⟩ : ∃ G, G = w16.heap.size := ⟨_, rfl⟩
      obtain ⟨wN, hwN⟩ : ∃ W, W = (mf w16.drew).alloc (.cells #[.int .i64 S, .slice (some ⟨w16.heap.size, 0, none⟩) xs.length xs.length] 27) := ⟨_, rfl⟩
      have ho : Own w16.heap.size wN (.slice (some ⟨G, 0, none⟩) xs.length xs.length) (zeros xs.length) := by rw [hwN, hG]; exact (hoA _ (Nat.le_refl _)).later (belowAlloc _ _)
      have bs : VarInv wN T S (.slice (some ⟨G, 0, none⟩) xs.length xs.length) := by rw [hwN, hT, hG]; exact VarInv.made _ _ _ _
      have bQ : Below w16.heap.size w16 wN := by rw [hwN]; exact hbA.thenB (belowAlloc _ _)
      have hTG : T ≠ G := by omega
      have hGl : w16.heap.size ≤ G := by omega
      have hTl : w16.heap.size ≤ T := by omega
      rw [← hwN, ← hG, ← hT]
      clear HA HB HMF hrun hwN hT hG bmA_0 bmA_1 lt_bmA hlA hlB bmB_0 bmB_1 bnB_0 bnB_1 bnB_2 bnB_3 lt_bm hoA hbA
      clear bm_0 bm_1 bf_0 bf_1 b1_0 b1_1 b5_0 b5_1 b6_0 b6_1
      have xm := bm.later bQ
      have xf := bf.later bQ
      have xm0 := xm.c0
      have xm1 := xm.c1
      have xf0 := xf.c0
      have xf1 := xf.c1
      have lt_m := xm.lt
      have lt_f := xf.lt
      have hmT : w1.heap.size ≠ G := by have := bm.lt; omega
      have hfT : w1.heap.size + 1 ≠ G := by have := bf.lt; omega
      have ys := bs.other ⟨G, m, none⟩ hTG.symm (.int .i64 (d - n))
      have ym := xm.other ⟨G, m, none⟩ hmT.symm (.int .i64 (d - n))
      have yf := xf.other ⟨G, m, none⟩ hfT.symm (.int .i64 (d - n))
      have bs1 := bs.c1
      obtain ⟨q1, q2⟩ := ho.cellAt (zeros_len _) m hmx
      have ho2 := ho.storedAt (zeros_len _) m (d - n)
      obtain ⟨q3, q4⟩ := ho2.cellAt (by rw [List.length_set, zeros_len]) 0 (by omega)
      have ho3 := ho2.storedAt (by rw [List.length_set, zeros_len]) 0 n
      have ys1 := ys.c1
      have yf0 := yf.c0
      have zs := ys.other ⟨G, 0, none⟩ hTG.symm (.int .i64 n)
      have bQ2 := (bQ.setCell (p := ⟨G, m, none⟩) hGl (.int .i64 (d - n))).setCell (p := ⟨G, 0, none⟩) hGl (.int .i64 n)
      have zm := ym.other ⟨G, 0, none⟩ hmT.symm (.int .i64 n)
      have zs1 := zs.c1
      have zm0 := zm.c0
      rw [show ((zeros xs.length).set m (d - n)).set 0 n = SL by rw [HSL.out, srcL, HMX.out]] at ho3
      have r7 := ho3.reads
      have zN := bQ2.size
      have HH := Lib.hid (And.intro bQ2 (And.intro zs zm))
      clear xm xf ys ym yf ho ho2 ho3 bQ bQ2 zs zm bs
      go_wp2_with fail
      clear xm0 xm1 xf0 xf1 lt_m lt_f bs1 q1 q2 q3 q4 ys1 yf0 zs1 zm0
      obtain ⟨hb, bs, -⟩ := HH.out
      generalize (wN.setCell ⟨G, m, none⟩ (.int .i64 (d - n))).setCell ⟨G, 0, none⟩ (.int .i64 n) = wS at *
      clear HH
      replace bm := bm.later hb
      replace bf := bf.later hb
      replace b1 := b1.later hb
      replace b5 := b5.later hb
      replace b6 := b6.later hb
      replace rx := rx.below hb
      replace r1 := r1.below hb
      replace r5 := r5.below hb
      replace r6 := r6.below hb
      replace bW := bW.thenB hb
      clear hb
      have bm_0 := bm.c0
      have bm_1 := bm.c1
      have bf_0 := bf.c0
      have bf_1 := bf.c1
      have b1_0 := b1.c0
      have b1_1 := b1.c1
      have b5_0 := b5.c0
      have b5_1 := b5.c1
      have b6_0 := b6.c0
      have b6_1 := b6.c1
      have bs_0 := bs.c0
      have bs_1 := bs.c1
      refine (HMM.out _ _ r7).mono ?_
      rintro e w17 ⟨v, rfl, o, hb⟩
      clear bm_0 bm_1 bf_0 bf_1 b1_0 b1_1 b5_0 b5_1 b6_0 b6_1 bs_0 bs_1
      replace bm := bm.later hb
      replace bf := bf.later hb
      replace b1 := b1.later hb
      replace b5 := b5.later hb
      replace b6 := b6.later hb
      replace bs := bs.later hb
      replace rx := rx.below hb
      replace r1 := r1.below hb
      replace r5 := r5.below hb
      replace r6 := r6.below hb
      replace r7 := r7.below hb
      replace bW := bW.thenB hb
      have z17 := hb.size
      obtain ⟨p9, k9, rfl, r9⟩ := o.shape
      clear o
      clear hb
      have bm_0 := bm.c0
      have bm_1 := bm.c1
      have bf_0 := bf.c0
      have bf_1 := bf.c1
      have b1_0 := b1.c0
      have b1_1 := b1.c1
      have b5_0 := b5.c0
      have b5_1 := b5.c1
      have b6_0 := b6.c0
      have b6_1 := b6.c1
      have bs_0 := bs.c0
      have bs_1 := bs.c1
      have lt_bm := bm.lt
      have lt_bf := bf.lt
      have lt_b1 := b1.lt
      have lt_b5 := b5.lt
      have lt_b6 := b6.lt
      have lt_bs := bs.lt
      go_wp2_with fail
      clear lt_bm lt_bf lt_b1 lt_b5 lt_b6 lt_bs
      have hb := belowAlloc w17 (.cells #[.int .i64 S, .slice p9 SL.length k9] 27)
      clear bm_0 bm_1 bf_0 bf_1 b1_0 b1_1 b5_0 b5_1 b6_0 b6_1 bs_0 bs_1
      replace bm := bm.later hb
      replace bf := bf.later hb
      replace b1 := b1.later hb
      replace b5 := b5.later hb
      replace b6 := b6.later hb
      replace bs := bs.later hb
      replace rx := rx.below hb
      replace r1 := r1.below hb
      replace r5 := r5.below hb
      replace r6 := r6.below hb
      replace r7 := r7.below hb
      replace r9 := r9.below hb
      replace bW := bW.thenB hb
      clear hb
      have b9 := VarInv.made w17 (S) (.slice p9 SL.length k9) 27
      have z18 := b9.lt
      generalize hu18 : w17.alloc (.cells #[.int .i64 S, .slice p9 SL.length k9] 27) = w18 at *
      clear hu18
      have bm_0 := bm.c0
      have bm_1 := bm.c1
      have bf_0 := bf.c0
      have bf_1 := bf.c1
      have b1_0 := b1.c0
      have b1_1 := b1.c1
      have b5_0 := b5.c0
      have b5_1 := b5.c1
      have b6_0 := b6.c0
      have b6_1 := b6.c1
      have bs_0 := bs.c0
      have bs_1 := bs.c1
      have b9_0 := b9.c0
      have b9_1 := b9.c1
      refine (HDF.out _ _ _ rx r9).mono ?_
      rintro e w19 ⟨v, rfl, o, hb⟩
      clear bm_0 bm_1 bf_0 bf_1 b1_0 b1_1 b5_0 b5_1 b6_0 b6_1 bs_0 bs_1 b9_0 b9_1
      replace bm := bm.later hb
      replace bf := bf.later hb
      replace b1 := b1.later hb
      replace b5 := b5.later hb
      replace b6 := b6.later hb
      replace bs := bs.later hb
      replace b9 := b9.later hb
      replace rx := rx.below hb
      replace r1 := r1.below hb
      replace r5 := r5.below hb
      replace r6 := r6.below hb
      replace r7 := r7.below hb
      replace r9 := r9.below hb
      replace bW := bW.thenB hb
      have z19 := hb.size
      obtain ⟨p8, k8, rfl, r8⟩ := o.shape
      clear o
      clear hb
      have bm_0 := bm.c0
      have bm_1 := bm.c1
      have bf_0 := bf.c0
      have bf_1 := bf.c1
      have b1_0 := b1.c0
      have b1_1 := b1.c1
      have b5_0 := b5.c0
      have b5_1 := b5.c1
      have b6_0 := b6.c0
      have b6_1 := b6.c1
      have bs_0 := bs.c0
      have bs_1 := bs.c1
      have b9_0 := b9.c0
      have b9_1 := b9.c1
      have lt_bm := bm.lt
      have lt_bf := bf.lt
      have lt_b1 := b1.lt
      have lt_b5 := b5.lt
      have lt_b6 := b6.lt
      have lt_bs := bs.lt
      have lt_b9 := b9.lt
      go_wp2_with fail
      clear lt_bm lt_bf lt_b1 lt_b5 lt_b6 lt_bs lt_b9
      have hb := belowAlloc w19 (.cells #[.int .i64 S, .slice p8 K.length k8] 27)
      clear bm_0 bm_1 bf_0 bf_1 b1_0 b1_1 b5_0 b5_1 b6_0 b6_1 bs_0 bs_1 b9_0 b9_1
      replace bm := bm.later hb
      replace bf := bf.later hb
      replace b1 := b1.later hb
      replace b5 := b5.later hb
      replace b6 := b6.later hb
      replace bs := bs.later hb
      replace b9 := b9.later hb
      replace rx := rx.below hb
      replace r1 := r1.below hb
      replace r5 := r5.below hb
      replace r6 := r6.below hb
      replace r7 := r7.below hb
      replace r9 := r9.below hb
      replace r8 := r8.below hb
      replace bW := bW.thenB hb
      clear hb
      have b8 := VarInv.made w19 (S) (.slice p8 K.length k8) 27
      have z20 := b8.lt
      generalize hu20 : w19.alloc (.cells #[.int .i64 S, .slice p8 K.length k8] 27) = w20 at *
      clear hu20
      have bm_0 := bm.c0
      have bm_1 := bm.c1
      have bf_0 := bf.c0
      have bf_1 := bf.c1
      have b1_0 := b1.c0
      have b1_1 := b1.c1
      have b5_0 := b5.c0
      have b5_1 := b5.c1
      have b6_0 := b6.c0
      have b6_1 := b6.c1
      have bs_0 := bs.c0
      have bs_1 := bs.c1
      have b9_0 := b9.c0
      have b9_1 := b9.c1
      have b8_0 := b8.c0
      have b8_1 := b8.c1
      refine (weEqual_same _ _ _ _ _ _ _ _ _ _ (rfl) (rfl) (rfl) (rfl) _ r5 r6 (by omega)).mono ?_
      rintro e w21 ⟨rfl, hb⟩
      clear bm_0 bm_1 bf_0 bf_1 b1_0 b1_1 b5_0 b5_1 b6_0 b6_1 bs_0 bs_1 b9_0 b9_1 b8_0 b8_1
      replace bm := bm.later hb
      replace bf := bf.later hb
      replace b1 := b1.later hb
      replace b5 := b5.later hb
      replace b6 := b6.later hb
      replace bs := bs.later hb
      replace b9 := b9.later hb
      replace b8 := b8.later hb
      replace rx := rx.below hb
      replace r1 := r1.below hb
      replace r5 := r5.below hb
      replace r6 := r6.below hb
      replace r7 := r7.below hb
      replace r9 := r9.below hb
      replace r8 := r8.below hb
      replace bW := bW.thenB hb
      have z21 := hb.size
      clear hb
      have bm_0 := bm.c0
      have bm_1 := bm.c1
      have bf_0 := bf.c0
      have bf_1 := bf.c1
      have b1_0 := b1.c0
      have b1_1 := b1.c1
      have b5_0 := b5.c0
      have b5_1 := b5.c1
      have b6_0 := b6.c0
      have b6_1 := b6.c1
      have bs_0 := bs.c0
      have bs_1 := bs.c1
      have b9_0 := b9.c0
      have b9_1 := b9.c1
      have b8_0 := b8.c0
      have b8_1 := b8.c1
      go_wp2_with fail
      refine (weEqual_same _ _ _ _ _ _ _ _ _ _ (rfl) (rfl) (rfl) (rfl) _ r8 r1 (by omega)).mono ?_
      rintro e w22 ⟨rfl, hb⟩
      clear bm_0 bm_1 bf_0 bf_1 b1_0 b1_1 b5_0 b5_1 b6_0 b6_1 bs_0 bs_1 b9_0 b9_1 b8_0 b8_1
      replace bm := bm.later hb
      replace bf := bf.later hb
      replace b1 := b1.later hb
      replace b5 := b5.later hb
      replace b6 := b6.later hb
      replace bs := bs.later hb
      replace b9 := b9.later hb
      replace b8 := b8.later hb
      replace rx := rx.below hb
      replace r1 := r1.below hb
      replace r5 := r5.below hb
      replace r6 := r6.below hb
      replace r7 := r7.below hb
      replace r9 := r9.below hb
      replace r8 := r8.below hb
      replace bW := bW.thenB hb
      have z22 := hb.size
      clear hb
      have bm_0 := bm.c0
      have bm_1 := bm.c1
      have bf_0 := bf.c0
      have bf_1 := bf.c1
      have b1_0 := b1.c0
      have b1_1 := b1.c1
      have b5_0 := b5.c0
      have b5_1 := b5.c1
      have b6_0 := b6.c0
      have b6_1 := b6.c1
      have bs_0 := bs.c0
      have bs_1 := bs.c1
      have b9_0 := b9.c0
      have b9_1 := b9.c1
      have b8_0 := b8.c0
      have b8_1 := b8.c1
      go_wp2
      go_ret
      exact ⟨rfl, bW⟩
    · skip
      obtain ⟨hoB, hbB, bnB⟩ := HB.out
      obtain ⟨T, hT⟩ : ∃ T, T = w16.heap.size := ⟨_, rfl⟩
      obtain ⟨G, hG⟩ : ∃ G, G = w16.heap.size + 1 := ⟨_, rfl⟩
      have hzA : ((w16.alloc (.cells #[.int .i64 0, .slice none 0 0] 27)).drew).heap.size = w16.heap.size + 1 := by simp
      rw [hzA] at hoB
      obtain ⟨wM, hwM⟩ : ∃ W, W = mf (w16.alloc (.cells #[.int .i64 0, .slice none 0 0] 27)).drew := ⟨_, rfl⟩
      rw [← hwM] at hoB hbB bnB
      obtain ⟨wN, hwN⟩ : ∃ W, W = ((mf (w16.alloc (.cells #[.int .i64 0, .slice none 0 0] 27)).drew).setCell ⟨w16.heap.size, 0, none⟩ (.int .i64 S)).setCell ⟨w16.heap.size, 1, none⟩ (.slice (some ⟨w16.heap.size + 1, 0, none⟩) xs.length xs.length) := ⟨_, rfl⟩
      have ho : Own w16.heap.size wN (.slice (some ⟨G, 0, none⟩) xs.length xs.length) (zeros xs.length) := by
        rw [hwN, hG, ← hwM]
        exact (((hoB (w16.heap.size + 1) (by simp)).setBelow (by show w16.heap.size < _; omega) _).setBelow (by show w16.heap.size < _; omega) _).mono (by omega)
      have bs : VarInv wN T S (.slice (some ⟨G, 0, none⟩) xs.length xs.length) := by rw [hwN, hT, hG, ← hwM]; exact bnB.two _ _
      have bQ : Below w16.heap.size w16 wN := by rw [hwN, ← hwM]; exact (hbB.setCell (by show _ ≤ w16.heap.size; omega) _).setCell (by show _ ≤ w16.heap.size; omega) _
      have hTG : T ≠ G := by omega
      have hGl : w16.heap.size ≤ G := by omega
      have hTl : w16.heap.size ≤ T := by omega
      rw [← hwN, ← hG, ← hT]
      clear hzA hwM hoB hbB bnB
      clear HA HB HMF hrun hwN hT hG bmA_0 bmA_1 lt_bmA hlA hlB bmB_0 bmB_1 bnB_0 bnB_1 bnB_2 bnB_3 lt_bm
      clear bm_0 bm_1 bf_0 bf_1 b1_0 b1_1 b5_0 b5_1 b6_0 b6_1
      have xm := bm.later bQ
      have xf := bf.later bQ
      have xm0 := xm.c0
      have xm1 := xm.c1
      have xf0 := xf.c0
      have xf1 := xf.c1
      have lt_m := xm.lt
      have lt_f := xf.lt
      have hmT : w1.heap.size ≠ G := by have := bm.lt; omega
      have hfT : w1.heap.size + 1 ≠ G := by have := bf.lt; omega
      have ys := bs.other ⟨G, m, none⟩ hTG.symm (.int .i64 (d - n))
      have ym := xm.other ⟨G, m, none⟩ hmT.symm (.int .i64 (d - n))
      have yf := xf.other ⟨G, m, none⟩ hfT.symm (.int .i64 (d - n))
      have bs1 := bs.c1
      obtain ⟨q1, q2⟩ := ho.cellAt (zeros_len _) m hmx
      have ho2 := ho.storedAt (zeros_len _) m (d - n)
      obtain ⟨q3, q4⟩ := ho2.cellAt (by rw [List.length_set, zeros_len]) 0 (by omega)
      have ho3 := ho2.storedAt (by rw [List.length_set, zeros_len]) 0 n
      have ys1 := ys.c1
      have yf0 := yf.c0
      have zs := ys.other ⟨G, 0, none⟩ hTG.symm (.int .i64 n)
      have bQ2 := (bQ.setCell (p := ⟨G, m, none⟩) hGl (.int .i64 (d - n))).setCell (p := ⟨G, 0, none⟩) hGl (.int .i64 n)
      have zm := ym.other ⟨G, 0, none⟩ hmT.symm (.int .i64 n)
      have zs1 := zs.c1
      have zm0 := zm.c0
      rw [show ((zeros xs.length).set m (d - n)).set 0 n = SL by rw [HSL.out, srcL, HMX.out]] at ho3
      have r7 := ho3.reads
      have zN := bQ2.size
      have HH := Lib.hid (And.intro bQ2 (And.intro zs zm))
      clear xm xf ys ym yf ho ho2 ho3 bQ bQ2 zs zm bs
      go_wp2_with fail
      clear xm0 xm1 xf0 xf1 lt_m lt_f bs1 q1 q2 q3 q4 ys1 yf0 zs1 zm0
      obtain ⟨hb, bs, -⟩ := HH.out
      generalize (wN.setCell ⟨G, m, none⟩ (.int .i64 (d - n))).setCell ⟨G, 0, none⟩ (.int .i64 n) = wS at *
      clear HH
      replace bm := bm.later hb
      replace bf := bf.later hb
      replace b1 := b1.later hb
      replace b5 := b5.later hb
      replace b6 := b6.later hb
      replace rx := rx.below hb
      replace r1 := r1.below hb
      replace r5 := r5.below hb
      replace r6 := r6.below hb
      replace bW := bW.thenB hb
      clear hb
      have bm_0 := bm.c0
      have bm_1 := bm.c1
      have bf_0 := bf.c0
      have bf_1 := bf.c1
      have b1_0 := b1.c0
      have b1_1 := b1.c1
      have b5_0 := b5.c0
      have b5_1 := b5.c1
      have b6_0 := b6.c0
      have b6_1 := b6.c1
      have bs_0 := bs.c0
      have bs_1 := bs.c1
      refine (HMM.out _ _ r7).mono ?_
      rintro e w27 ⟨v, rfl, o, hb⟩
      clear bm_0 bm_1 bf_0 bf_1 b1_0 b1_1 b5_0 b5_1 b6_0 b6_1 bs_0 bs_1
      replace bm := bm.later hb
      replace bf := bf.later hb
      replace b1 := b1.later hb
      replace b5 := b5.later hb
      replace b6 := b6.later hb
      replace bs := bs.later hb
      replace rx := rx.below hb
      replace r1 := r1.below hb
      replace r5 := r5.below hb
      replace r6 := r6.below hb
      replace r7 := r7.below hb
      replace bW := bW.thenB hb
      have z27 := hb.size
      obtain ⟨p9, k9, rfl, r9⟩ := o.shape
      clear o
      clear hb
      have bm_0 := bm.c0
      have bm_1 := bm.c1
      have bf_0 := bf.c0
      have bf_1 := bf.c1
      have b1_0 := b1.c0
      have b1_1 := b1.c1
      have b5_0 := b5.c0
      have b5_1 := b5.c1
      have b6_0 := b6.c0
      have b6_1 := b6.c1
      have bs_0 := bs.c0
      have bs_1 := bs.c1
      have lt_bm := bm.lt
      have lt_bf := bf.lt
      have lt_b1 := b1.lt
      have lt_b5 := b5.lt
      have lt_b6 := b6.lt
      have lt_bs := bs.lt
      go_wp2_with fail
      clear lt_bm lt_bf lt_b1 lt_b5 lt_b6 lt_bs
      have hb := belowAlloc w27 (.cells #[.int .i64 S, .slice p9 SL.length k9] 27)
      clear bm_0 bm_1 bf_0 bf_1 b1_0 b1_1 b5_0 b5_1 b6_0 b6_1 bs_0 bs_1
      replace bm := bm.later hb
      replace bf := bf.later hb
      replace b1 := b1.later hb
      replace b5 := b5.later hb
      replace b6 := b6.later hb
      replace bs := bs.later hb
      replace rx := rx.below hb
      replace r1 := r1.below hb
      replace r5 := r5.below hb
      replace r6 := r6.below hb
      replace r7 := r7.below hb
      replace r9 := r9.below hb
      replace bW := bW.thenB hb
      clear hb
      have b9 := VarInv.made w27 (S) (.slice p9 SL.length k9) 27
      have z28 := b9.lt
      generalize hu28 : w27.alloc (.cells #[.int .i64 S, .slice p9 SL.length k9] 27) = w28 at *
      clear hu28
      have bm_0 := bm.c0
      have bm_1 := bm.c1
      have bf_0 := bf.c0
      have bf_1 := bf.c1
      have b1_0 := b1.c0
      have b1_1 := b1.c1
      have b5_0 := b5.c0
      have b5_1 := b5.c1
      have b6_0 := b6.c0
      have b6_1 := b6.c1
      have bs_0 := bs.c0
      have bs_1 := bs.c1
      have b9_0 := b9.c0
      have b9_1 := b9.c1
      refine (HDF.out _ _ _ rx r9).mono ?_
      rintro e w29 ⟨v, rfl, o, hb⟩
      clear bm_0 bm_1 bf_0 bf_1 b1_0 b1_1 b5_0 b5_1 b6_0 b6_1 bs_0 bs_1 b9_0 b9_1
      replace bm := bm.later hb
      replace bf := bf.later hb
      replace b1 := b1.later hb
      replace b5 := b5.later hb
      replace b6 := b6.later hb
      replace bs := bs.later hb
      replace b9 := b9.later hb
      replace rx := rx.below hb
      replace r1 := r1.below hb
      replace r5 := r5.below hb
      replace r6 := r6.below hb
      replace r7 := r7.below hb
      replace r9 := r9.below hb
      replace bW := bW.thenB hb
      have z29 := hb.size
      obtain ⟨p8, k8, rfl, r8⟩ := o.shape
      clear o
      clear hb
      have bm_0 := bm.c0
      have bm_1 := bm.c1
      have bf_0 := bf.c0
      have bf_1 := bf.c1
      have b1_0 := b1.c0
      have b1_1 := b1.c1
      have b5_0 := b5.c0
      have b5_1 := b5.c1
      have b6_0 := b6.c0
      have b6_1 := b6.c1
      have bs_0 := bs.c0
      have bs_1 := bs.c1
      have b9_0 := b9.c0
      have b9_1 := b9.c1
      have lt_bm := bm.lt
      have lt_bf := bf.lt
      have lt_b1 := b1.lt
      have lt_b5 := b5.lt
      have lt_b6 := b6.lt
      have lt_bs := bs.lt
      have lt_b9 := b9.lt
      go_wp2_with fail
      clear lt_bm lt_bf lt_b1 lt_b5 lt_b6 lt_bs lt_b9
      have hb := belowAlloc w29 (.cells #[.int .i64 S, .slice p8 K.length k8] 27)
      clear bm_0 bm_1 bf_0 bf_1 b1_0 b1_1 b5_0 b5_1 b6_0 b6_1 bs_0 bs_1 b9_0 b9_1
      replace bm := bm.later hb
      replace bf := bf.later hb
      replace b1 := b1.later hb
      replace b5 := b5.later hb
      replace b6 := b6.later hb
      replace bs := bs.later hb
      replace b9 := b9.later hb
      replace rx := rx.below hb
      replace r1 := r1.below hb
      replace r5 := r5.below hb
      replace r6 := r6.below hb
      replace r7 := r7.below hb
      replace r9 := r9.below hb
      replace r8 := r8.below hb
      replace bW := bW.thenB hb
      clear hb
      have b8 := VarInv.made w29 (S) (.slice p8 K.length k8) 27
      have z30 := b8.lt
      generalize hu30 : w29.alloc (.cells #[.int .i64 S, .slice p8 K.length k8] 27) = w30 at *
      clear hu30
      have bm_0 := bm.c0
      have bm_1 := bm.c1
      have bf_0 := bf.c0
      have bf_1 := bf.c1
      have b1_0 := b1.c0
      have b1_1 := b1.c1
      have b5_0 := b5.c0
      have b5_1 := b5.c1
      have b6_0 := b6.c0
      have b6_1 := b6.c1
      have bs_0 := bs.c0
      have bs_1 := bs.c1
      have b9_0 := b9.c0
      have b9_1 := b9.c1
      have b8_0 := b8.c0
      have b8_1 := b8.c1
      refine (weEqual_same _ _ _ _ _ _ _ _ _ _ (rfl) (rfl) (rfl) (rfl) _ r5 r6 (by omega)).mono ?_
      rintro e w31 ⟨rfl, hb⟩
      clear bm_0 bm_1 bf_0 bf_1 b1_0 b1_1 b5_0 b5_1 b6_0 b6_1 bs_0 bs_1 b9_0 b9_1 b8_0 b8_1
      replace bm := bm.later hb
      replace bf := bf.later hb
      replace b1 := b1.later hb
      replace b5 := b5.later hb
      replace b6 := b6.later hb
      replace bs := bs.later hb
      replace b9 := b9.later hb
      replace b8 := b8.later hb
      replace rx := rx.below hb
      replace r1 := r1.below hb
      replace r5 := r5.below hb
      replace r6 := r6.below hb
      replace r7 := r7.below hb
      replace r9 := r9.below hb
      replace r8 := r8.below hb
      replace bW := bW.thenB hb
      have z31 := hb.size
      clear hb
      have bm_0 := bm.c0
      have bm_1 := bm.c1
      have bf_0 := bf.c0
      have bf_1 := bf.c1
      have b1_0 := b1.c0
      have b1_1 := b1.c1
      have b5_0 := b5.c0
      have b5_1 := b5.c1
      have b6_0 := b6.c0
      have b6_1 := b6.c1
      have bs_0 := bs.c0
      have bs_1 := bs.c1
      have b9_0 := b9.c0
      have b9_1 := b9.c1
      have b8_0 := b8.c0
      have b8_1 := b8.c1
      go_wp2_with fail
      refine (weEqual_same _ _ _ _ _ _ _ _ _ _ (rfl) (rfl) (rfl) (rfl) _ r8 r1 (by omega)).mono ?_
      rintro e w32 ⟨rfl, hb⟩
      clear bm_0 bm_1 bf_0 bf_1 b1_0 b1_1 b5_0 b5_1 b6_0 b6_1 bs_0 bs_1 b9_0 b9_1 b8_0 b8_1
      replace bm := bm.later hb
      replace bf := bf.later hb
      replace b1 := b1.later hb
      replace b5 := b5.later hb
      replace b6 := b6.later hb
      replace bs := bs.later hb
      replace b9 := b9.later hb
      replace b8 := b8.later hb
      replace rx := rx.below hb
      replace r1 := r1.below hb
      replace r5 := r5.below hb
      replace r6 := r6.below hb
      replace r7 := r7.below hb
      replace r9 := r9.below hb
      replace r8 := r8.below hb
      replace bW := bW.thenB hb
      have z32 := hb.size
      clear hb
      have bm_0 := bm.c0
      have bm_1 := bm.c1
      have bf_0 := bf.c0
      have bf_1 := bf.c1
      have b1_0 := b1.c0
      have b1_1 := b1.c1
      have b5_0 := b5.c0
      have b5_1 := b5.c1
      have b6_0 := b6.c0
      have b6_1 := b6.c1
      have bs_0 := bs.c0
      have bs_1 := bs.c1
      have b9_0 := b9.c0
      have b9_1 := b9.c1
      have b8_0 := b8.c0
      have b8_1 := b8.c1
      go_wp2
      go_ret
      exact ⟨rfl, bW⟩

end Go.Proofs.Ytjmfjgoehicgcaa
