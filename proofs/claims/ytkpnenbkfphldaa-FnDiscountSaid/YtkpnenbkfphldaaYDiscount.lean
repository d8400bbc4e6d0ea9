/- The law on masses that are discounted: what it computes. -/
import Derived.Test.YtkpnenbkfphldaaDG
import Derived.Test.YtkpnenbkfphldaaZT
import Derived.Test.YtkpnenbkfphldaaE1
set_option linter.unusedVariables false
set_option linter.unusedSimpArgs false
namespace Go.Proofs.Ytkpnenbkfphldaa
open Go.RowKit

set_option maxHeartbeats 4000000 in
set_option maxRecDepth 100000 in
theorem FnDiscount_walk (w : World) (a0 : Option Addr) (c0 : Nat) (x0 : List Int) (m0 : x0.length ≤ maxLen) (rd0 : ReadsK .u8 w a0 x0) (wf0 : ∀ n ∈ x0, (Lit.int .u8 n).wf = true) (cp0 : x0.length ≤ c0) (a1 : Option Addr) (c1 : Nat) (x1 : List Int) (m1 : x1.length ≤ maxLen) (rd1 : ReadsK .u8 w a1 x1) (wf1 : ∀ n ∈ x1, (Lit.int .u8 n).wf = true) (cp1 : x1.length ≤ c1) :
    Calls Try.prog 8 #[.slice a0 x0.length c0, .slice a1 x1.length c1] w fun e w' => e = .returned (.bool true) ∧ Below w.heap.size w w' := by
  by_cases hbig0 : 1048576 < x0.length
  · unfold maxLen at m0 m1
    clear rd0 wf0 cp0 rd1 wf1 cp1
    go_enter Try.func8, Try.ntmps8
    go_wp2
    go_ret
    exact ⟨rfl, Below.refl _ _⟩
  by_cases hbig1 : 1048576 < x1.length
  · unfold maxLen at m0 m1
    clear rd0 wf0 cp0 rd1 wf1 cp1
    go_enter Try.func8, Try.ntmps8
    go_wp2
    go_ret
    exact ⟨rfl, Below.refl _ _⟩
  have HD := Lib.hid (DrawDiscountMass_any a0 c0 x0 w rd0 wf0 m0 cp0)
  have HWF1 := Lib.hid wf1
  have HM1 := Lib.hid m1
  have HCP1 := Lib.hid cp1
  unfold maxLen at m0 m1
  clear rd0 wf0 cp0 wf1 cp1
  go_enter Try.func8, Try.ntmps8
  go_wp2_with fail
  refine HD.out.mono ?_
  rintro e w1 ⟨s, p, c, xs, n, d, rfl, hxl, ox, bW⟩
  clear HD
  replace rd1 := rd1.below bW
  have rx := ox.reads
  clear ox
  obtain ⟨S, hS⟩ : ∃ S, S = gS (mixG s xs s (fuL xs) n d) s (mixP xs (fuL xs) n d) := ⟨_, rfl⟩
  obtain ⟨OK, hOK⟩ : ∃ OK, OK = gOk (mixG s xs s (fuL xs) n d) s (mixP xs (fuL xs) n d) := ⟨_, rfl⟩
  obtain ⟨K, hK⟩ : ∃ K, K = gL (mixG s xs s (fuL xs) n d) s (mixP xs (fuL xs) n d) := ⟨_, rfl⟩
  have hKl : K.length ≤ 1048576 := by rw [hK]; have := gL_len (mixG s xs s (fuL xs) n d) s (mixP xs (fuL xs) n d); rw [mixP_len] at this; omega
  have hF1 := fun (w : World) (hx : Reads w p xs) => iDisc_any s p c xs n d w hx (by omega)
  have hF2 := fun (w : World) (hx : Reads w p xs) => sDisc_any s p c xs n d w hx (by omega)
  simp only [← hS, ← hOK, ← hK] at hF1 hF2
  have HF1 := Lib.hid hF1
  have HF2 := Lib.hid hF2
  have hyes : OK = true → S = s ∧ DiscLaw s xs n d K := fun h => by
    obtain ⟨e, law⟩ := disc_law (hOK.symm.trans h)
    exact ⟨by rw [hS]; exact e, by rw [hK]; exact law⟩
  have HYES := Lib.hid hyes
  clear hF1 hF2 hyes hS hOK hK
  have hq1 : (OK != OK) = false := by cases OK <;> rfl
  have hq2 : (OK == OK) = true := by cases OK <;> rfl
  go_wp2_with fail
  have hb := belowAlloc w1 (.cells #[.int .i64 s, .slice p xs.length c] 25)
  replace rd1 := rd1.below hb
  replace rx := rx.below hb
  replace bW := bW.thenB hb
  clear hb
  have bm := VarInv.made w1 (s) (.slice p xs.length c) 25
  have z2 := bm.lt
  have hsj : (w1.alloc (.cells #[.int .i64 s, .slice p xs.length c] 25)).heap.size = w1.heap.size + 1 := by simp
  generalize hu2 : w1.alloc (.cells #[.int .i64 s, .slice p xs.length c] 25) = w2 at *
  clear hu2
  have hb := belowAlloc w2 (.cells #[.int .i64 n, .int .i64 d] 29)
  replace bm := bm.later hb
  replace rd1 := rd1.below hb
  replace rx := rx.below hb
  replace bW := bW.thenB hb
  clear hb
  have bf := VarInv.made w2 (n) (.int .i64 d) 29
  rw [hsj] at bf
  clear hsj
  have z3 := bf.lt
  generalize hu3 : w2.alloc (.cells #[.int .i64 n, .int .i64 d] 29) = w3 at *
  clear hu3
  have bm_0 := bm.c0
  have bm_1 := bm.c1
  have bf_0 := bf.c0
  have bf_1 := bf.c1
  refine (HF1.out _ rx).mono ?_
  rintro e w4 ⟨v, rfl, o, hb⟩
  clear bm_0 bm_1 bf_0 bf_1
  replace bm := bm.later hb
  replace bf := bf.later hb
  replace rd1 := rd1.below hb
  replace rx := rx.below hb
  replace bW := bW.thenB hb
  have z4 := hb.size
  obtain ⟨p1, k1, rfl, r1⟩ := o.shape
  clear o
  clear hb
  have bm_0 := bm.c0
  have bm_1 := bm.c1
  have bf_0 := bf.c0
  have bf_1 := bf.c1
  have lt_bm := bm.lt
  have lt_bf := bf.lt
  go_wp2_with fail
  clear lt_bm lt_bf
  have hb := belowAlloc w4 (.cells #[.int .i64 S, .slice p1 K.length k1] 25)
  clear bm_0 bm_1 bf_0 bf_1
  replace bm := bm.later hb
  replace bf := bf.later hb
  replace rd1 := rd1.below hb
  replace rx := rx.below hb
  replace r1 := r1.below hb
  replace bW := bW.thenB hb
  clear hb
  have b1 := VarInv.made w4 (S) (.slice p1 K.length k1) 25
  have z5 := b1.lt
  generalize hu5 : w4.alloc (.cells #[.int .i64 S, .slice p1 K.length k1] 25) = w5 at *
  clear hu5
  have bm_0 := bm.c0
  have bm_1 := bm.c1
  have bf_0 := bf.c0
  have bf_1 := bf.c1
  have b1_0 := b1.c0
  have b1_1 := b1.c1
  refine (HF2.out _ rx).mono ?_
  rintro e w6 ⟨v, rfl, o, hb⟩
  clear bm_0 bm_1 bf_0 bf_1 b1_0 b1_1
  replace bm := bm.later hb
  replace bf := bf.later hb
  replace b1 := b1.later hb
  replace rd1 := rd1.below hb
  replace rx := rx.below hb
  replace r1 := r1.below hb
  replace bW := bW.thenB hb
  have z6 := hb.size
  obtain ⟨p2, k2, rfl, r2⟩ := o.shape
  clear o
  clear hb
  have bm_0 := bm.c0
  have bm_1 := bm.c1
  have bf_0 := bf.c0
  have bf_1 := bf.c1
  have b1_0 := b1.c0
  have b1_1 := b1.c1
  have lt_bm := bm.lt
  have lt_bf := bf.lt
  have lt_b1 := b1.lt
  go_wp2_with fail
  clear lt_bm lt_bf lt_b1
  have hb := belowAlloc w6 (.cells #[.int .i64 S, .slice p2 K.length k2] 25)
  clear bm_0 bm_1 bf_0 bf_1 b1_0 b1_1
  replace bm := bm.later hb
  replace bf := bf.later hb
  replace b1 := b1.later hb
  replace rd1 := rd1.below hb
  replace rx := rx.below hb
  replace r1 := r1.below hb
  replace r2 := r2.below hb
  replace bW := bW.thenB hb
  clear hb
  have b2 := VarInv.made w6 (S) (.slice p2 K.length k2) 25
  have z7 := b2.lt
  generalize hu7 : w6.alloc (.cells #[.int .i64 S, .slice p2 K.length k2] 25) = w7 at *
  clear hu7
  have bm_0 := bm.c0
  have bm_1 := bm.c1
  have bf_0 := bf.c0
  have bf_1 := bf.c1
  have b1_0 := b1.c0
  have b1_1 := b1.c1
  have b2_0 := b2.c0
  have b2_1 := b2.c1
  refine (weEqual_same _ _ _ _ _ _ _ _ _ _ (rfl) (rfl) (rfl) (rfl) _ r1 r2 (by omega)).mono ?_
  rintro e w8 ⟨rfl, hb⟩
  clear bm_0 bm_1 bf_0 bf_1 b1_0 b1_1 b2_0 b2_1
  replace bm := bm.later hb
  replace bf := bf.later hb
  replace b1 := b1.later hb
  replace b2 := b2.later hb
  replace rd1 := rd1.below hb
  replace rx := rx.below hb
  replace r1 := r1.below hb
  replace r2 := r2.below hb
  replace bW := bW.thenB hb
  have z8 := hb.size
  clear hb
  have bm_0 := bm.c0
  have bm_1 := bm.c1
  have bf_0 := bf.c0
  have bf_1 := bf.c1
  have b1_0 := b1.c0
  have b1_1 := b1.c1
  have b2_0 := b2.c0
  have b2_1 := b2.c1
  cases hok : OK
  · subst hok
    go_wp2_with fail
    refine (weEqual_same _ _ _ _ _ _ _ _ _ _ (rfl) (rfl) (rfl) (rfl) _ r1 r2 (by omega)).mono ?_
    rintro e w9 ⟨rfl, hb⟩
    clear bm_0 bm_1 bf_0 bf_1 b1_0 b1_1 b2_0 b2_1
    replace bm := bm.later hb
    replace bf := bf.later hb
    replace b1 := b1.later hb
    replace b2 := b2.later hb
    replace rd1 := rd1.below hb
    replace rx := rx.below hb
    replace r1 := r1.below hb
    replace r2 := r2.below hb
    replace bW := bW.thenB hb
    have z9 := hb.size
    clear hb
    have bm_0 := bm.c0
    have bm_1 := bm.c1
    have bf_0 := bf.c0
    have bf_1 := bf.c1
    have b1_0 := b1.c0
    have b1_1 := b1.c1
    have b2_0 := b2.c0
    have b2_1 := b2.c1
    go_wp2
    go_ret
    exact ⟨rfl, bW⟩
  · subst hok
    obtain ⟨rfl, law⟩ := HYES.out rfl
    have HLAW := Lib.hid law
    have hx16 := law.l16
    have hKx := Lib.hid law.len
    have hK16 : K.length ≤ 16 := by have := law.len; omega
    clear law HF1 HF2 HYES
    clear b2_0 b2_1
    clear b2
    clear r2
    go_wp2_with fail
    refine (DrawDiscountMass_any _ c1 x1 _ rd1 HWF1.out HM1.out HCP1.out).mono ?_
    rintro e w9 ⟨t, q, k, zs, n2, d2, rfl, hzl, oz, hb⟩
    clear bm_0 bm_1 bf_0 bf_1 b1_0 b1_1
    replace bm := bm.later hb
    replace bf := bf.later hb
    replace b1 := b1.later hb
    replace rd1 := rd1.below hb
    replace rx := rx.below hb
    replace r1 := r1.below hb
    replace bW := bW.thenB hb
    have z9 := hb.size
    clear hb oz
    have bm_0 := bm.c0
    have bm_1 := bm.c1
    have bf_0 := bf.c0
    have bf_1 := bf.c1
    have b1_0 := b1.c0
    have b1_1 := b1.c1
    clear rd1
    obtain ⟨S2, hS2⟩ : ∃ x, x = gS (mixG S K S (fuL K) n2 d2) S (mixP K (fuL K) n2 d2) := ⟨_, rfl⟩
    obtain ⟨O2, hO2⟩ : ∃ x, x = gOk (mixG S K S (fuL K) n2 d2) S (mixP K (fuL K) n2 d2) := ⟨_, rfl⟩
    obtain ⟨K2, hK2⟩ : ∃ x, x = gL (mixG S K S (fuL K) n2 d2) S (mixP K (fuL K) n2 d2) := ⟨_, rfl⟩
    obtain ⟨N3, hN3⟩ : ∃ x, x = fN (twoF n d n2 d2) (n * n2) (d * d2) := ⟨_, rfl⟩
    obtain ⟨D3, hD3⟩ : ∃ x, x = fD (twoF n d n2 d2) (n * n2) (d * d2) := ⟨_, rfl⟩
    obtain ⟨O3, hO3⟩ : ∃ x, x = fOk (twoF n d n2 d2) (n * n2) (d * d2) := ⟨_, rfl⟩
    have htwo := HLAW.out.two n2 d2
    rw [← hS2, ← hO2, ← hK2, ← hN3, ← hD3, ← hO3] at htwo
    obtain ⟨S4, hS4⟩ : ∃ x, x = gS (mixG S xs S (fuL xs) N3 D3) S (mixP xs (fuL xs) N3 D3) := ⟨_, rfl⟩
    obtain ⟨O4, hO4⟩ : ∃ x, x = gOk (mixG S xs S (fuL xs) N3 D3) S (mixP xs (fuL xs) N3 D3) := ⟨_, rfl⟩
    obtain ⟨K4, hK4⟩ : ∃ x, x = gL (mixG S xs S (fuL xs) N3 D3) S (mixP xs (fuL xs) N3 D3) := ⟨_, rfl⟩
    rw [← hS4, ← hO4, ← hK4] at htwo
    have hH2 := fun (w : World) (a : Option Addr) (k : Nat) (hx : Reads w a K) => iDisc_any S a k K n2 d2 w hx (by omega)
    simp only [← hS2, ← hO2, ← hK2] at hH2
    have hH3 := fun (w : World) => iTimes_any n d n2 d2 w
    simp only [← hN3, ← hD3, ← hO3] at hH3
    have hH4 := fun (w : World) (hx : Reads w p xs) => iDisc_any S p c xs N3 D3 w hx (by omega)
    simp only [← hS4, ← hO4, ← hK4] at hH4
    have hl2 : K2.length ≤ 16 := by rw [hK2]; have := gL_len (mixG S K S (fuL K) n2 d2) S (mixP K (fuL K) n2 d2); rw [mixP_len] at this; omega
    have HTWO := Lib.hid htwo
    have HH2 := Lib.hid hH2
    have HH3 := Lib.hid hH3
    have HH4 := Lib.hid hH4
    clear htwo hH2 hH3 hH4 hS2 hO2 hK2 hN3 hD3 hO3 hS4 hO4 hK4
    have lt_bm := bm.lt
    have lt_bf := bf.lt
    have lt_b1 := b1.lt
    go_wp2_with fail
    clear lt_bm lt_bf lt_b1
    have hb := belowAlloc w9 (.cells #[.int .i64 t, .slice q zs.length k] 25)
    clear bm_0 bm_1 bf_0 bf_1 b1_0 b1_1
    replace bm := bm.later hb
    replace bf := bf.later hb
    replace b1 := b1.later hb
    replace rx := rx.below hb
    replace r1 := r1.below hb
    replace bW := bW.thenB hb
    clear hb
    have bz := VarInv.made w9 (t) (.slice q zs.length k) 25
    have z10 := bz.lt
    have hsj : (w9.alloc (.cells #[.int .i64 t, .slice q zs.length k] 25)).heap.size = w9.heap.size + 1 := by simp
    generalize hu10 : w9.alloc (.cells #[.int .i64 t, .slice q zs.length k] 25) = w10 at *
    clear hu10
    have hb := belowAlloc w10 (.cells #[.int .i64 n2, .int .i64 d2] 29)
    replace bm := bm.later hb
    replace bf := bf.later hb
    replace b1 := b1.later hb
    replace bz := bz.later hb
    replace rx := rx.below hb
    replace r1 := r1.below hb
    replace bW := bW.thenB hb
    clear hb
    have bg := VarInv.made w10 (n2) (.int .i64 d2) 29
    rw [hsj] at bg
    clear hsj
    have z11 := bg.lt
    generalize hu11 : w10.alloc (.cells #[.int .i64 n2, .int .i64 d2] 29) = w11 at *
    clear hu11
    have bm_0 := bm.c0
    have bm_1 := bm.c1
    have bf_0 := bf.c0
    have bf_1 := bf.c1
    have b1_0 := b1.c0
    have b1_1 := b1.c1
    have bz_0 := bz.c0
    have bz_1 := bz.c1
    have bg_0 := bg.c0
    have bg_1 := bg.c1
    refine (HH2.out _ _ _ r1).mono ?_
    rintro e w12 ⟨v, rfl, o, hb⟩
    clear bm_0 bm_1 bf_0 bf_1 b1_0 b1_1 bz_0 bz_1 bg_0 bg_1
    replace bm := bm.later hb
    replace bf := bf.later hb
    replace b1 := b1.later hb
    replace bz := bz.later hb
    replace bg := bg.later hb
    replace rx := rx.below hb
    replace r1 := r1.below hb
    replace bW := bW.thenB hb
    have z12 := hb.size
    obtain ⟨p3, k3, rfl, r3⟩ := o.shape
    clear o
    clear hb
    have bm_0 := bm.c0
    have bm_1 := bm.c1
    have bf_0 := bf.c0
    have bf_1 := bf.c1
    have b1_0 := b1.c0
    have b1_1 := b1.c1
    have bz_0 := bz.c0
    have bz_1 := bz.c1
    have bg_0 := bg.c0
    have bg_1 := bg.c1
    have lt_bm := bm.lt
    have lt_bf := bf.lt
    have lt_b1 := b1.lt
    have lt_bz := bz.lt
    have lt_bg := bg.lt
    go_wp2_with fail
    clear lt_bm lt_bf lt_b1 lt_bz lt_bg
    have hb := belowAlloc w12 (.cells #[.int .i64 S2, .slice p3 K2.length k3] 25)
    clear bm_0 bm_1 bf_0 bf_1 b1_0 b1_1 bz_0 bz_1 bg_0 bg_1
    replace bm := bm.later hb
    replace bf := bf.later hb
    replace b1 := b1.later hb
    replace bz := bz.later hb
    replace bg := bg.later hb
    replace rx := rx.below hb
    replace r1 := r1.below hb
    replace r3 := r3.below hb
    replace bW := bW.thenB hb
    clear hb
    have b3 := VarInv.made w12 (S2) (.slice p3 K2.length k3) 25
    have z13 := b3.lt
    generalize hu13 : w12.alloc (.cells #[.int .i64 S2, .slice p3 K2.length k3] 25) = w13 at *
    clear hu13
    have bm_0 := bm.c0
    have bm_1 := bm.c1
    have bf_0 := bf.c0
    have bf_1 := bf.c1
    have b1_0 := b1.c0
    have b1_1 := b1.c1
    have bz_0 := bz.c0
    have bz_1 := bz.c1
    have bg_0 := bg.c0
    have bg_1 := bg.c1
    have b3_0 := b3.c0
    have b3_1 := b3.c1
    refine (HH3.out _).mono ?_
    rintro e w14 ⟨rfl, hb⟩
    clear bm_0 bm_1 bf_0 bf_1 b1_0 b1_1 bz_0 bz_1 bg_0 bg_1 b3_0 b3_1
    replace bm := bm.later hb
    replace bf := bf.later hb
    replace b1 := b1.later hb
    replace bz := bz.later hb
    replace bg := bg.later hb
    replace b3 := b3.later hb
    replace rx := rx.below hb
    replace r1 := r1.below hb
    replace r3 := r3.below hb
    replace bW := bW.thenB hb
    have z14 := hb.size
    clear hb
    have bm_0 := bm.c0
    have bm_1 := bm.c1
    have bf_0 := bf.c0
    have bf_1 := bf.c1
    have b1_0 := b1.c0
    have b1_1 := b1.c1
    have bz_0 := bz.c0
    have bz_1 := bz.c1
    have bg_0 := bg.c0
    have bg_1 := bg.c1
    have b3_0 := b3.c0
    have b3_1 := b3.c1
    have lt_bm := bm.lt
    have lt_bf := bf.lt
    have lt_b1 := b1.lt
    have lt_bz := bz.lt
    have lt_bg := bg.lt
    have lt_b3 := b3.lt
    go_wp2_with fail
    clear lt_bm lt_bf lt_b1 lt_bz lt_bg lt_b3
    have hb := belowAlloc w14 (.cells #[.int .i64 N3, .int .i64 D3] 29)
    clear bm_0 bm_1 bf_0 bf_1 b1_0 b1_1 bz_0 bz_1 bg_0 bg_1 b3_0 b3_1
    replace bm := bm.later hb
    replace bf := bf.later hb
    replace b1 := b1.later hb
    replace bz := bz.later hb
    replace bg := bg.later hb
    replace b3 := b3.later hb
    replace rx := rx.below hb
    replace r1 := r1.below hb
    replace r3 := r3.below hb
    replace bW := bW.thenB hb
    clear hb
    have f3 := VarInv.made w14 (N3) (.int .i64 D3) 29
    have z15 := f3.lt
    generalize hu15 : w14.alloc (.cells #[.int .i64 N3, .int .i64 D3] 29) = w15 at *
    clear hu15
    have bm_0 := bm.c0
    have bm_1 := bm.c1
    have bf_0 := bf.c0
    have bf_1 := bf.c1
    have b1_0 := b1.c0
    have b1_1 := b1.c1
    have bz_0 := bz.c0
    have bz_1 := bz.c1
    have bg_0 := bg.c0
    have bg_1 := bg.c1
    have b3_0 := b3.c0
    have b3_1 := b3.c1
    have f3_0 := f3.c0
    have f3_1 := f3.c1
    refine (HH4.out _ rx).mono ?_
    rintro e w16 ⟨v, rfl, o, hb⟩
    clear bm_0 bm_1 bf_0 bf_1 b1_0 b1_1 bz_0 bz_1 bg_0 bg_1 b3_0 b3_1 f3_0 f3_1
    replace bm := bm.later hb
    replace bf := bf.later hb
    replace b1 := b1.later hb
    replace bz := bz.later hb
    replace bg := bg.later hb
    replace b3 := b3.later hb
    replace f3 := f3.later hb
    replace rx := rx.below hb
    replace r1 := r1.below hb
    replace r3 := r3.below hb
    replace bW := bW.thenB hb
    have z16 := hb.size
    obtain ⟨p4, k4, rfl, r4⟩ := o.shape
    clear o
    clear hb
    have bm_0 := bm.c0
    have bm_1 := bm.c1
    have bf_0 := bf.c0
    have bf_1 := bf.c1
    have b1_0 := b1.c0
    have b1_1 := b1.c1
    have bz_0 := bz.c0
    have bz_1 := bz.c1
    have bg_0 := bg.c0
    have bg_1 := bg.c1
    have b3_0 := b3.c0
    have b3_1 := b3.c1
    have f3_0 := f3.c0
    have f3_1 := f3.c1
    have hx2 : 2 ≤ xs.length := by have hk := massB_ok HLAW.out.mass; have := hk.len; have := pow2_bd S hk.s1 hk.s4; omega
    obtain ⟨m, hm⟩ : ∃ m : Nat, (xs.length : Int) - 1 = (m : Int) := ⟨xs.length - 1, by omega⟩
    have hmw : IntKind.i64.wrap ((xs.length : Int) - 1) = (m : Int) := by rw [IntWalk.i64_in _ (by omega)]; exact hm
    have lt_bm := bm.lt
    have lt_bf := bf.lt
    have lt_b1 := b1.lt
    have lt_bz := bz.lt
    have lt_bg := bg.lt
    have lt_b3 := b3.lt
    have lt_f3 := f3.lt
    go_wp2
    clear lt_bm lt_bf lt_b1 lt_bz lt_bg lt_b3 lt_f3
    have hb := belowAlloc w16 (.cells #[.int .i64 S4, .slice p4 K4.length k4] 25)
    clear bm_0 bm_1 bf_0 bf_1 b1_0 b1_1 bz_0 bz_1 bg_0 bg_1 b3_0 b3_1 f3_0 f3_1
    replace bm := bm.later hb
    replace bf := bf.later hb
    replace b1 := b1.later hb
    replace bz := bz.later hb
    replace bg := bg.later hb
    replace b3 := b3.later hb
    replace f3 := f3.later hb
    replace rx := rx.below hb
    replace r1 := r1.below hb
    replace r3 := r3.below hb
    replace r4 := r4.below hb
    replace bW := bW.thenB hb
    clear hb
    have b4 := VarInv.made w16 (S4) (.slice p4 K4.length k4) 25
    have z17 := b4.lt
    generalize hu17 : w16.alloc (.cells #[.int .i64 S4, .slice p4 K4.length k4] 25) = w17 at *
    clear hu17
    have bm_0 := bm.c0
    have bm_1 := bm.c1
    have bf_0 := bf.c0
    have bf_1 := bf.c1
    have b1_0 := b1.c0
    have b1_1 := b1.c1
    have bz_0 := bz.c0
    have bz_1 := bz.c1
    have bg_0 := bg.c0
    have bg_1 := bg.c1
    have b3_0 := b3.c0
    have b3_1 := b3.c1
    have f3_0 := f3.c0
    have f3_1 := f3.c1
    have b4_0 := b4.c0
    have b4_1 := b4.c1
    go_loopw [19] (fun i wz => ∃ b : Nat, b ≤ m ∧ i = .int .i64 b ∧ Below w17.heap.size w17 wz) (fun i _ => m - (intOf i).toNat)
    case atStart => exact ⟨0, Nat.zero_le _, rfl, Below.refl _ _⟩
    case round =>
      obtain ⟨b, hb, rfl, hbb⟩ := hrel
      clear bm_0 bm_1 bf_0 bf_1 b1_0 b1_1 bz_0 bz_1 bg_0 bg_1 b3_0 b3_1 f3_0 f3_1 b4_0 b4_1
      replace bm := bm.later hbb
      replace bf := bf.later hbb
      replace b1 := b1.later hbb
      replace bz := bz.later hbb
      replace bg := bg.later hbb
      replace b3 := b3.later hbb
      replace f3 := f3.later hbb
      replace b4 := b4.later hbb
      replace rx := rx.below hbb
      replace r1 := r1.below hbb
      replace r3 := r3.below hbb
      replace r4 := r4.below hbb
      replace bW := bW.thenB hbb
      have z18 := hbb.size
      have bm_0 := bm.c0
      have bm_1 := bm.c1
      have bf_0 := bf.c0
      have bf_1 := bf.c1
      have b1_0 := b1.c0
      have b1_1 := b1.c1
      have bz_0 := bz.c0
      have bz_1 := bz.c1
      have bg_0 := bg.c0
      have bg_1 := bg.c1
      have b3_0 := b3.c0
      have b3_1 := b3.c1
      have f3_0 := f3.c0
      have f3_1 := f3.c1
      have b4_0 := b4.c0
      have b4_1 := b4.c1
      by_cases hltb : b < m
      · skip
        obtain ⟨N5, hN5⟩ : ∃ x, x = fN (msB S xs (b : Int)) (nth xs b) (sumL xs) := ⟨_, rfl⟩
        obtain ⟨D5, hD5⟩ : ∃ x, x = fD (msB S xs (b : Int)) (nth xs b) (sumL xs) := ⟨_, rfl⟩
        obtain ⟨N6, hN6⟩ : ∃ x, x = fN (msB S K (b : Int)) (nth K b) (sumL K) := ⟨_, rfl⟩
        obtain ⟨D6, hD6⟩ : ∃ x, x = fD (msB S K (b : Int)) (nth K b) (sumL K) := ⟨_, rfl⟩
        obtain ⟨N7, hN7⟩ : ∃ x, x = fN (twoF N5 D5 n d) (N5 * n) (D5 * d) := ⟨_, rfl⟩
        obtain ⟨D7, hD7⟩ : ∃ x, x = fD (twoF N5 D5 n d) (N5 * n) (D5 * d) := ⟨_, rfl⟩
        obtain ⟨O7, hO7⟩ : ∃ x, x = fOk (twoF N5 D5 n d) (N5 * n) (D5 * d) := ⟨_, rfl⟩
        have hpt := HLAW.out.part b (by omega) N5 D5 hN5 hD5
        rw [← hN6, ← hD6, ← hN7, ← hD7, ← hO7] at hpt
        have hs1 := fun (w : World) (hx : Reads w p xs) => iShareOf_any S p c xs (b : Int) w hx (by omega)
        have hs2 := fun (w : World) (a : Option Addr) (k : Nat) (hx : Reads w a K) => iShareOf_any S a k K (b : Int) w hx (by omega)
        have hs3 := fun (w : World) => iTimes_any N5 D5 n d w
        simp only [Int.toNat_natCast, ← hN5, ← hD5] at hs1
        simp only [Int.toNat_natCast, ← hN6, ← hD6] at hs2
        simp only [← hN7, ← hD7, ← hO7] at hs3
        have HPT := Lib.hid hpt
        have HS1 := Lib.hid hs1
        have HS2 := Lib.hid hs2
        have HS3 := Lib.hid hs3
        clear hpt hs1 hs2 hs3 hN5 hD5 hN6 hD6 hN7 hD7 hO7
        go_wp2_with fail
        refine (HS1.out _ rx).mono ?_
        rintro e w19 ⟨rfl, hb⟩
        clear bm_0 bm_1 bf_0 bf_1 b1_0 b1_1 bz_0 bz_1 bg_0 bg_1 b3_0 b3_1 f3_0 f3_1 b4_0 b4_1
        replace bm := bm.later hb
        replace bf := bf.later hb
        replace b1 := b1.later hb
        replace bz := bz.later hb
        replace bg := bg.later hb
        replace b3 := b3.later hb
        replace f3 := f3.later hb
        replace b4 := b4.later hb
        replace rx := rx.below hb
        replace r1 := r1.below hb
        replace r3 := r3.below hb
        replace r4 := r4.below hb
        replace bW := bW.thenB hb
        replace hbb := hbb.thenB hb
        have z19 := hb.size
        clear hb
        have bm_0 := bm.c0
        have bm_1 := bm.c1
        have bf_0 := bf.c0
        have bf_1 := bf.c1
        have b1_0 := b1.c0
        have b1_1 := b1.c1
        have bz_0 := bz.c0
        have bz_1 := bz.c1
        have bg_0 := bg.c0
        have bg_1 := bg.c1
        have b3_0 := b3.c0
        have b3_1 := b3.c1
        have f3_0 := f3.c0
        have f3_1 := f3.c1
        have b4_0 := b4.c0
        have b4_1 := b4.c1
        have lt_bm := bm.lt
        have lt_bf := bf.lt
        have lt_b1 := b1.lt
        have lt_bz := bz.lt
        have lt_bg := bg.lt
        have lt_b3 := b3.lt
        have lt_f3 := f3.lt
        have lt_b4 := b4.lt
        go_wp2_with fail
        clear lt_bm lt_bf lt_b1 lt_bz lt_bg lt_b3 lt_f3 lt_b4
        have hb := belowAlloc w19 (.cells #[.int .i64 N5, .int .i64 D5] 29)
        clear bm_0 bm_1 bf_0 bf_1 b1_0 b1_1 bz_0 bz_1 bg_0 bg_1 b3_0 b3_1 f3_0 f3_1 b4_0 b4_1
        replace bm := bm.later hb
        replace bf := bf.later hb
        replace b1 := b1.later hb
        replace bz := bz.later hb
        replace bg := bg.later hb
        replace b3 := b3.later hb
        replace f3 := f3.later hb
        replace b4 := b4.later hb
        replace rx := rx.below hb
        replace r1 := r1.below hb
        replace r3 := r3.below hb
        replace r4 := r4.below hb
        replace bW := bW.thenB hb
        replace hbb := hbb.thenB hb
        clear hb
        have f5 := VarInv.made w19 (N5) (.int .i64 D5) 29
        have z20 := f5.lt
        generalize hu20 : w19.alloc (.cells #[.int .i64 N5, .int .i64 D5] 29) = w20 at *
        clear hu20
        have bm_0 := bm.c0
        have bm_1 := bm.c1
        have bf_0 := bf.c0
        have bf_1 := bf.c1
        have b1_0 := b1.c0
        have b1_1 := b1.c1
        have bz_0 := bz.c0
        have bz_1 := bz.c1
        have bg_0 := bg.c0
        have bg_1 := bg.c1
        have b3_0 := b3.c0
        have b3_1 := b3.c1
        have f3_0 := f3.c0
        have f3_1 := f3.c1
        have b4_0 := b4.c0
        have b4_1 := b4.c1
        have f5_0 := f5.c0
        have f5_1 := f5.c1
        refine (HS2.out _ _ _ r1).mono ?_
        rintro e w21 ⟨rfl, hb⟩
        clear bm_0 bm_1 bf_0 bf_1 b1_0 b1_1 bz_0 bz_1 bg_0 bg_1 b3_0 b3_1 f3_0 f3_1 b4_0 b4_1 f5_0 f5_1
        replace bm := bm.later hb
        replace bf := bf.later hb
        replace b1 := b1.later hb
        replace bz := bz.later hb
        replace bg := bg.later hb
        replace b3 := b3.later hb
        replace f3 := f3.later hb
        replace b4 := b4.later hb
        replace f5 := f5.later hb
        replace rx := rx.below hb
        replace r1 := r1.below hb
        replace r3 := r3.below hb
        replace r4 := r4.below hb
        replace bW := bW.thenB hb
        replace hbb := hbb.thenB hb
        have z21 := hb.size
        clear hb
        have bm_0 := bm.c0
        have bm_1 := bm.c1
        have bf_0 := bf.c0
        have bf_1 := bf.c1
        have b1_0 := b1.c0
        have b1_1 := b1.c1
        have bz_0 := bz.c0
        have bz_1 := bz.c1
        have bg_0 := bg.c0
        have bg_1 := bg.c1
        have b3_0 := b3.c0
        have b3_1 := b3.c1
        have f3_0 := f3.c0
        have f3_1 := f3.c1
        have b4_0 := b4.c0
        have b4_1 := b4.c1
        have f5_0 := f5.c0
        have f5_1 := f5.c1
        have lt_bm := bm.lt
        have lt_bf := bf.lt
        have lt_b1 := b1.lt
        have lt_bz := bz.lt
        have lt_bg := bg.lt
        have lt_b3 := b3.lt
        have lt_f3 := f3.lt
        have lt_b4 := b4.lt
        have lt_f5 := f5.lt
        go_wp2_with fail
        clear lt_bm lt_bf lt_b1 lt_bz lt_bg lt_b3 lt_f3 lt_b4 lt_f5
        have hb := belowAlloc w21 (.cells #[.int .i64 N6, .int .i64 D6] 29)
        clear bm_0 bm_1 bf_0 bf_1 b1_0 b1_1 bz_0 bz_1 bg_0 bg_1 b3_0 b3_1 f3_0 f3_1 b4_0 b4_1 f5_0 f5_1
        replace bm := bm.later hb
        replace bf := bf.later hb
        replace b1 := b1.later hb
        replace bz := bz.later hb
        replace bg := bg.later hb
        replace b3 := b3.later hb
        replace f3 := f3.later hb
        replace b4 := b4.later hb
        replace f5 := f5.later hb
        replace rx := rx.below hb
        replace r1 := r1.below hb
        replace r3 := r3.below hb
        replace r4 := r4.below hb
        replace bW := bW.thenB hb
        replace hbb := hbb.thenB hb
        clear hb
        have f6 := VarInv.made w21 (N6) (.int .i64 D6) 29
        have z22 := f6.lt
        generalize hu22 : w21.alloc (.cells #[.int .i64 N6, .int .i64 D6] 29) = w22 at *
        clear hu22
        have bm_0 := bm.c0
        have bm_1 := bm.c1
        have bf_0 := bf.c0
        have bf_1 := bf.c1
        have b1_0 := b1.c0
        have b1_1 := b1.c1
        have bz_0 := bz.c0
        have bz_1 := bz.c1
        have bg_0 := bg.c0
        have bg_1 := bg.c1
        have b3_0 := b3.c0
        have b3_1 := b3.c1
        have f3_0 := f3.c0
        have f3_1 := f3.c1
        have b4_0 := b4.c0
        have b4_1 := b4.c1
        have f5_0 := f5.c0
        have f5_1 := f5.c1
        have f6_0 := f6.c0
        have f6_1 := f6.c1
        refine (HS3.out _).mono ?_
        rintro e w23 ⟨rfl, hb⟩
        clear bm_0 bm_1 bf_0 bf_1 b1_0 b1_1 bz_0 bz_1 bg_0 bg_1 b3_0 b3_1 f3_0 f3_1 b4_0 b4_1 f5_0 f5_1 f6_0 f6_1
        replace bm := bm.later hb
        replace bf := bf.later hb
        replace b1 := b1.later hb
        replace bz := bz.later hb
        replace bg := bg.later hb
        replace b3 := b3.later hb
        replace f3 := f3.later hb
        replace b4 := b4.later hb
        replace f5 := f5.later hb
        replace f6 := f6.later hb
        replace rx := rx.below hb
        replace r1 := r1.below hb
        replace r3 := r3.below hb
        replace r4 := r4.below hb
        replace bW := bW.thenB hb
        replace hbb := hbb.thenB hb
        have z23 := hb.size
        clear hb
        have bm_0 := bm.c0
        have bm_1 := bm.c1
        have bf_0 := bf.c0
        have bf_1 := bf.c1
        have b1_0 := b1.c0
        have b1_1 := b1.c1
        have bz_0 := bz.c0
        have bz_1 := bz.c1
        have bg_0 := bg.c0
        have bg_1 := bg.c1
        have b3_0 := b3.c0
        have b3_1 := b3.c1
        have f3_0 := f3.c0
        have f3_1 := f3.c1
        have b4_0 := b4.c0
        have b4_1 := b4.c1
        have f5_0 := f5.c0
        have f5_1 := f5.c1
        have f6_0 := f6.c0
        have f6_1 := f6.c1
        cases hO7 : O7
        · subst hO7
          have lt_bm := bm.lt
          have lt_bf := bf.lt
          have lt_b1 := b1.lt
          have lt_bz := bz.lt
          have lt_bg := bg.lt
          have lt_b3 := b3.lt
          have lt_f3 := f3.lt
          have lt_b4 := b4.lt
          have lt_f5 := f5.lt
          have lt_f6 := f6.lt
          go_wp2
          clear lt_bm lt_bf lt_b1 lt_bz lt_bg lt_b3 lt_f3 lt_b4 lt_f5 lt_f6
          have hb := belowAlloc w23 (.cells #[.int .i64 N7, .int .i64 D7] 29)
          clear bm_0 bm_1 bf_0 bf_1 b1_0 b1_1 bz_0 bz_1 bg_0 bg_1 b3_0 b3_1 f3_0 f3_1 b4_0 b4_1 f5_0 f5_1 f6_0 f6_1
          replace bm := bm.later hb
          replace bf := bf.later hb
          replace b1 := b1.later hb
          replace bz := bz.later hb
          replace bg := bg.later hb
          replace b3 := b3.later hb
          replace f3 := f3.later hb
          replace b4 := b4.later hb
          replace f5 := f5.later hb
          replace f6 := f6.later hb
          replace rx := rx.below hb
          replace r1 := r1.below hb
          replace r3 := r3.below hb
          replace r4 := r4.below hb
          replace bW := bW.thenB hb
          replace hbb := hbb.thenB hb
          clear hb
          have f7 := VarInv.made w23 (N7) (.int .i64 D7) 29
          have z24 := f7.lt
          generalize hu24 : w23.alloc (.cells #[.int .i64 N7, .int .i64 D7] 29) = w24 at *
          clear hu24
          have bm_0 := bm.c0
          have bm_1 := bm.c1
          have bf_0 := bf.c0
          have bf_1 := bf.c1
          have b1_0 := b1.c0
          have b1_1 := b1.c1
          have bz_0 := bz.c0
          have bz_1 := bz.c1
          have bg_0 := bg.c0
          have bg_1 := bg.c1
          have b3_0 := b3.c0
          have b3_1 := b3.c1
          have f3_0 := f3.c0
          have f3_1 := f3.c1
          have b4_0 := b4.c0
          have b4_1 := b4.c1
          have f5_0 := f5.c0
          have f5_1 := f5.c1
          have f6_0 := f6.c0
          have f6_1 := f6.c1
          have f7_0 := f7.c0
          have f7_1 := f7.c1
          exact ⟨⟨b + 1, by omega, by go_num, hbb⟩, by simp [intOf]; omega⟩
        · obtain ⟨e1, e2⟩ := HPT.out hO7
          have e3 := e1.symm
          have e4 := e2.symm
          clear e1 e2
          subst hO7 e3 e4
          have lt_bm := bm.lt
          have lt_bf := bf.lt
          have lt_b1 := b1.lt
          have lt_bz := bz.lt
          have lt_bg := bg.lt
          have lt_b3 := b3.lt
          have lt_f3 := f3.lt
          have lt_b4 := b4.lt
          have lt_f5 := f5.lt
          have lt_f6 := f6.lt
          go_wp2
          clear lt_bm lt_bf lt_b1 lt_bz lt_bg lt_b3 lt_f3 lt_b4 lt_f5 lt_f6
          have hb := belowAlloc w23 (.cells #[.int .i64 N7, .int .i64 D7] 29)
          clear bm_0 bm_1 bf_0 bf_1 b1_0 b1_1 bz_0 bz_1 bg_0 bg_1 b3_0 b3_1 f3_0 f3_1 b4_0 b4_1 f5_0 f5_1 f6_0 f6_1
          replace bm := bm.later hb
          replace bf := bf.later hb
          replace b1 := b1.later hb
          replace bz := bz.later hb
          replace bg := bg.later hb
          replace b3 := b3.later hb
          replace f3 := f3.later hb
          replace b4 := b4.later hb
          replace f5 := f5.later hb
          replace f6 := f6.later hb
          replace rx := rx.below hb
          replace r1 := r1.below hb
          replace r3 := r3.below hb
          replace r4 := r4.below hb
          replace bW := bW.thenB hb
          replace hbb := hbb.thenB hb
          clear hb
          have f7 := VarInv.made w23 (N7) (.int .i64 D7) 29
          have z24 := f7.lt
          generalize hu24 : w23.alloc (.cells #[.int .i64 N7, .int .i64 D7] 29) = w24 at *
          clear hu24
          have bm_0 := bm.c0
          have bm_1 := bm.c1
          have bf_0 := bf.c0
          have bf_1 := bf.c1
          have b1_0 := b1.c0
          have b1_1 := b1.c1
          have bz_0 := bz.c0
          have bz_1 := bz.c1
          have bg_0 := bg.c0
          have bg_1 := bg.c1
          have b3_0 := b3.c0
          have b3_1 := b3.c1
          have f3_0 := f3.c0
          have f3_1 := f3.c1
          have b4_0 := b4.c0
          have b4_1 := b4.c1
          have f5_0 := f5.c0
          have f5_1 := f5.c1
          have f6_0 := f6.c0
          have f6_1 := f6.c1
          have f7_0 := f7.c0
          have f7_1 := f7.c1
          exact ⟨⟨b + 1, by omega, by go_num, hbb⟩, by simp [intOf]; omega⟩
      · skip
        have hk := massB_ok HLAW.out.mass
        have hpl : (pow2 S).toNat = xs.length := by have := hk.len; omega
        have hsz : szB S = true := by simp only [szB, inB, Bool.and_eq_true, decide_eq_true_eq]; exact ⟨hk.s1, hk.s4⟩
        obtain ⟨F, hF⟩ : ∃ F, F = fuL xs := ⟨_, rfl⟩
        have hN2 : neL S = F := by rw [hF, neL, if_pos hsz, hpl, fuL]
        have hN1 : neS S = S := by rw [neS, if_pos hsz]
        have hne := fun (w : World) => iNoEvidence_any S w
        simp only [hN1, hN2, hsz] at hne
        have hz : n ≤ 0 → K = F := fun h => by rw [hF]; exact HLAW.out.zero h
        have ho := HLAW.out.one
        have hd1 := (shB_ok HLAW.out.share).2.2
        have hnd := (shB_ok HLAW.out.share).2.1
        have HNE := Lib.hid hne
        have HZ := Lib.hid hz
        have HO := Lib.hid ho
        clear hk hpl hsz hF hN1 hN2 hne hz ho HH2 HH3 HH4
        go_wp2_with fail
        refine (HNE.out _).mono ?_
        rintro e w19 ⟨v, rfl, o, hb⟩
        clear bm_0 bm_1 bf_0 bf_1 b1_0 b1_1 bz_0 bz_1 bg_0 bg_1 b3_0 b3_1 f3_0 f3_1 b4_0 b4_1
        replace bm := bm.later hb
        replace bf := bf.later hb
        replace b1 := b1.later hb
        replace bz := bz.later hb
        replace bg := bg.later hb
        replace b3 := b3.later hb
        replace f3 := f3.later hb
        replace b4 := b4.later hb
        replace rx := rx.below hb
        replace r1 := r1.below hb
        replace r3 := r3.below hb
        replace r4 := r4.below hb
        replace bW := bW.thenB hb
        replace hbb := hbb.thenB hb
        have z19 := hb.size
        obtain ⟨p9, k9, rfl, r9⟩ := o.shape
        clear o
        clear hb
        have bm_0 := bm.c0
        have bm_1 := bm.c1
        have bf_0 := bf.c0
        have bf_1 := bf.c1
        have b1_0 := b1.c0
        have b1_1 := b1.c1
        have bz_0 := bz.c0
        have bz_1 := bz.c1
        have bg_0 := bg.c0
        have bg_1 := bg.c1
        have b3_0 := b3.c0
        have b3_1 := b3.c1
        have f3_0 := f3.c0
        have f3_1 := f3.c1
        have b4_0 := b4.c0
        have b4_1 := b4.c1
        rcases (show O2 = false ∨ (O2 = true ∧ O3 = false) ∨ (O2 = true ∧ O3 = true ∧ O4 = false) ∨ (O2 = true ∧ O3 = true ∧ O4 = true) by cases O2 <;> cases O3 <;> cases O4 <;> simp) with rfl | ⟨rfl, rfl⟩ | ⟨rfl, rfl, rfl⟩ | ⟨rfl, rfl, rfl⟩
        · skip
          clear HTWO HLAW
          rcases (show n ≤ 0 ∨ (0 < n ∧ n < d) ∨ (0 < n ∧ d ≤ n) by omega) with hn | ⟨hn, hnd2⟩ | ⟨hn, hnd2⟩
          · skip
            have hnd2 : n < d := by omega
            have HK := Lib.hid (HZ.out hn)
            clear HZ HO
            have lt_bm := bm.lt
            have lt_bf := bf.lt
            have lt_b1 := b1.lt
            have lt_bz := bz.lt
            have lt_bg := bg.lt
            have lt_b3 := b3.lt
            have lt_f3 := f3.lt
            have lt_b4 := b4.lt
            go_wp2_with fail
            clear lt_bm lt_bf lt_b1 lt_bz lt_bg lt_b3 lt_f3 lt_b4
            have hb := belowAlloc w19 (.cells #[.int .i64 S, .slice p9 F.length k9] 25)
            clear bm_0 bm_1 bf_0 bf_1 b1_0 b1_1 bz_0 bz_1 bg_0 bg_1 b3_0 b3_1 f3_0 f3_1 b4_0 b4_1
            replace bm := bm.later hb
            replace bf := bf.later hb
            replace b1 := b1.later hb
            replace bz := bz.later hb
            replace bg := bg.later hb
            replace b3 := b3.later hb
            replace f3 := f3.later hb
            replace b4 := b4.later hb
            replace rx := rx.below hb
            replace r1 := r1.below hb
            replace r3 := r3.below hb
            replace r4 := r4.below hb
            replace r9 := r9.below hb
            replace bW := bW.thenB hb
            replace hbb := hbb.thenB hb
            clear hb
            have b9 := VarInv.made w19 (S) (.slice p9 F.length k9) 25
            have z20 := b9.lt
            generalize hu20 : w19.alloc (.cells #[.int .i64 S, .slice p9 F.length k9] 25) = w20 at *
            clear hu20
            have bm_0 := bm.c0
            have bm_1 := bm.c1
            have bf_0 := bf.c0
            have bf_1 := bf.c1
            have b1_0 := b1.c0
            have b1_1 := b1.c1
            have bz_0 := bz.c0
            have bz_1 := bz.c1
            have bg_0 := bg.c0
            have bg_1 := bg.c1
            have b3_0 := b3.c0
            have b3_1 := b3.c1
            have f3_0 := f3.c0
            have f3_1 := f3.c1
            have b4_0 := b4.c0
            have b4_1 := b4.c1
            have b9_0 := b9.c0
            have b9_1 := b9.c1
            refine (weEqual_same _ _ _ _ _ _ _ _ _ _ (rfl) (HK.out) (rfl) (rfl) _ r1 r9 (by omega)).mono ?_
            rintro e w21 ⟨rfl, hb⟩
            clear bm_0 bm_1 bf_0 bf_1 b1_0 b1_1 bz_0 bz_1 bg_0 bg_1 b3_0 b3_1 f3_0 f3_1 b4_0 b4_1 b9_0 b9_1
            replace bm := bm.later hb
            replace bf := bf.later hb
            replace b1 := b1.later hb
            replace bz := bz.later hb
            replace bg := bg.later hb
            replace b3 := b3.later hb
            replace f3 := f3.later hb
            replace b4 := b4.later hb
            replace b9 := b9.later hb
            replace rx := rx.below hb
            replace r1 := r1.below hb
            replace r3 := r3.below hb
            replace r4 := r4.below hb
            replace r9 := r9.below hb
            replace bW := bW.thenB hb
            replace hbb := hbb.thenB hb
            have z21 := hb.size
            clear hb
            have bm_0 := bm.c0
            have bm_1 := bm.c1
            have bf_0 := bf.c0
            have bf_1 := bf.c1
            have b1_0 := b1.c0
            have b1_1 := b1.c1
            have bz_0 := bz.c0
            have bz_1 := bz.c1
            have bg_0 := bg.c0
            have bg_1 := bg.c1
            have b3_0 := b3.c0
            have b3_1 := b3.c1
            have f3_0 := f3.c0
            have f3_1 := f3.c1
            have b4_0 := b4.c0
            have b4_1 := b4.c1
            have b9_0 := b9.c0
            have b9_1 := b9.c1
            go_wp2
            go_ret
            exact ⟨rfl, bW⟩
          · skip
            clear HZ HO
            have lt_bm := bm.lt
            have lt_bf := bf.lt
            have lt_b1 := b1.lt
            have lt_bz := bz.lt
            have lt_bg := bg.lt
            have lt_b3 := b3.lt
            have lt_f3 := f3.lt
            have lt_b4 := b4.lt
            go_wp2
            clear lt_bm lt_bf lt_b1 lt_bz lt_bg lt_b3 lt_f3 lt_b4
            have hb := belowAlloc w19 (.cells #[.int .i64 S, .slice p9 F.length k9] 25)
            clear bm_0 bm_1 bf_0 bf_1 b1_0 b1_1 bz_0 bz_1 bg_0 bg_1 b3_0 b3_1 f3_0 f3_1 b4_0 b4_1
            replace bm := bm.later hb
            replace bf := bf.later hb
            replace b1 := b1.later hb
            replace bz := bz.later hb
            replace bg := bg.later hb
            replace b3 := b3.later hb
            replace f3 := f3.later hb
            replace b4 := b4.later hb
            replace rx := rx.below hb
            replace r1 := r1.below hb
            replace r3 := r3.below hb
            replace r4 := r4.below hb
            replace r9 := r9.below hb
            replace bW := bW.thenB hb
            replace hbb := hbb.thenB hb
            clear hb
            have b9 := VarInv.made w19 (S) (.slice p9 F.length k9) 25
            have z20 := b9.lt
            generalize hu20 : w19.alloc (.cells #[.int .i64 S, .slice p9 F.length k9] 25) = w20 at *
            clear hu20
            have bm_0 := bm.c0
            have bm_1 := bm.c1
            have bf_0 := bf.c0
            have bf_1 := bf.c1
            have b1_0 := b1.c0
            have b1_1 := b1.c1
            have bz_0 := bz.c0
            have bz_1 := bz.c1
            have bg_0 := bg.c0
            have bg_1 := bg.c1
            have b3_0 := b3.c0
            have b3_1 := b3.c1
            have f3_0 := f3.c0
            have f3_1 := f3.c1
            have b4_0 := b4.c0
            have b4_1 := b4.c1
            have b9_0 := b9.c0
            have b9_1 := b9.c1
            go_ret
            exact ⟨rfl, bW⟩
          · skip
            have HK := Lib.hid (HO.out hnd2)
            clear HZ HO
            have lt_bm := bm.lt
            have lt_bf := bf.lt
            have lt_b1 := b1.lt
            have lt_bz := bz.lt
            have lt_bg := bg.lt
            have lt_b3 := b3.lt
            have lt_f3 := f3.lt
            have lt_b4 := b4.lt
            go_wp2_with fail
            clear lt_bm lt_bf lt_b1 lt_bz lt_bg lt_b3 lt_f3 lt_b4
            have hb := belowAlloc w19 (.cells #[.int .i64 S, .slice p9 F.length k9] 25)
            clear bm_0 bm_1 bf_0 bf_1 b1_0 b1_1 bz_0 bz_1 bg_0 bg_1 b3_0 b3_1 f3_0 f3_1 b4_0 b4_1
            replace bm := bm.later hb
            replace bf := bf.later hb
            replace b1 := b1.later hb
            replace bz := bz.later hb
            replace bg := bg.later hb
            replace b3 := b3.later hb
            replace f3 := f3.later hb
            replace b4 := b4.later hb
            replace rx := rx.below hb
            replace r1 := r1.below hb
            replace r3 := r3.below hb
            replace r4 := r4.below hb
            replace r9 := r9.below hb
            replace bW := bW.thenB hb
            replace hbb := hbb.thenB hb
            clear hb
            have b9 := VarInv.made w19 (S) (.slice p9 F.length k9) 25
            have z20 := b9.lt
            generalize hu20 : w19.alloc (.cells #[.int .i64 S, .slice p9 F.length k9] 25) = w20 at *
            clear hu20
            have bm_0 := bm.c0
            have bm_1 := bm.c1
            have bf_0 := bf.c0
            have bf_1 := bf.c1
            have b1_0 := b1.c0
            have b1_1 := b1.c1
            have bz_0 := bz.c0
            have bz_1 := bz.c1
            have bg_0 := bg.c0
            have bg_1 := bg.c1
            have b3_0 := b3.c0
            have b3_1 := b3.c1
            have f3_0 := f3.c0
            have f3_1 := f3.c1
            have b4_0 := b4.c0
            have b4_1 := b4.c1
            have b9_0 := b9.c0
            have b9_1 := b9.c1
            refine (weEqual_same _ _ _ _ _ _ _ _ _ _ (rfl) (HK.out) (rfl) (rfl) _ r1 rx (by omega)).mono ?_
            rintro e w21 ⟨rfl, hb⟩
            clear bm_0 bm_1 bf_0 bf_1 b1_0 b1_1 bz_0 bz_1 bg_0 bg_1 b3_0 b3_1 f3_0 f3_1 b4_0 b4_1 b9_0 b9_1
            replace bm := bm.later hb
            replace bf := bf.later hb
            replace b1 := b1.later hb
            replace bz := bz.later hb
            replace bg := bg.later hb
            replace b3 := b3.later hb
            replace f3 := f3.later hb
            replace b4 := b4.later hb
            replace b9 := b9.later hb
            replace rx := rx.below hb
            replace r1 := r1.below hb
            replace r3 := r3.below hb
            replace r4 := r4.below hb
            replace r9 := r9.below hb
            replace bW := bW.thenB hb
            replace hbb := hbb.thenB hb
            have z21 := hb.size
            clear hb
            have bm_0 := bm.c0
            have bm_1 := bm.c1
            have bf_0 := bf.c0
            have bf_1 := bf.c1
            have b1_0 := b1.c0
            have b1_1 := b1.c1
            have bz_0 := bz.c0
            have bz_1 := bz.c1
            have bg_0 := bg.c0
            have bg_1 := bg.c1
            have b3_0 := b3.c0
            have b3_1 := b3.c1
            have f3_0 := f3.c0
            have f3_1 := f3.c1
            have b4_0 := b4.c0
            have b4_1 := b4.c1
            have b9_0 := b9.c0
            have b9_1 := b9.c1
            go_wp2
            go_ret
            exact ⟨rfl, bW⟩
        · skip
          clear HTWO HLAW
          rcases (show n ≤ 0 ∨ (0 < n ∧ n < d) ∨ (0 < n ∧ d ≤ n) by omega) with hn | ⟨hn, hnd2⟩ | ⟨hn, hnd2⟩
          · skip
            have hnd2 : n < d := by omega
            have HK := Lib.hid (HZ.out hn)
            clear HZ HO
            have lt_bm := bm.lt
            have lt_bf := bf.lt
            have lt_b1 := b1.lt
            have lt_bz := bz.lt
            have lt_bg := bg.lt
            have lt_b3 := b3.lt
            have lt_f3 := f3.lt
            have lt_b4 := b4.lt
            go_wp2_with fail
            clear lt_bm lt_bf lt_b1 lt_bz lt_bg lt_b3 lt_f3 lt_b4
            have hb := belowAlloc w19 (.cells #[.int .i64 S, .slice p9 F.length k9] 25)
            clear bm_0 bm_1 bf_0 bf_1 b1_0 b1_1 bz_0 bz_1 bg_0 bg_1 b3_0 b3_1 f3_0 f3_1 b4_0 b4_1
            replace bm := bm.later hb
            replace bf := bf.later hb
            replace b1 := b1.later hb
            replace bz := bz.later hb
            replace bg := bg.later hb
            replace b3 := b3.later hb
            replace f3 := f3.later hb
            replace b4 := b4.later hb
            replace rx := rx.below hb
            replace r1 := r1.below hb
            replace r3 := r3.below hb
            replace r4 := r4.below hb
            replace r9 := r9.below hb
            replace bW := bW.thenB hb
            replace hbb := hbb.thenB hb
            clear hb
            have b9 := VarInv.made w19 (S) (.slice p9 F.length k9) 25
            have z20 := b9.lt
            generalize hu20 : w19.alloc (.cells #[.int .i64 S, .slice p9 F.length k9] 25) = w20 at *
            clear hu20
            have bm_0 := bm.c0
            have bm_1 := bm.c1
            have bf_0 := bf.c0
            have bf_1 := bf.c1
            have b1_0 := b1.c0
            have b1_1 := b1.c1
            have bz_0 := bz.c0
            have bz_1 := bz.c1
            have bg_0 := bg.c0
            have bg_1 := bg.c1
            have b3_0 := b3.c0
            have b3_1 := b3.c1
            have f3_0 := f3.c0
            have f3_1 := f3.c1
            have b4_0 := b4.c0
            have b4_1 := b4.c1
            have b9_0 := b9.c0
            have b9_1 := b9.c1
            refine (weEqual_same _ _ _ _ _ _ _ _ _ _ (rfl) (HK.out) (rfl) (rfl) _ r1 r9 (by omega)).mono ?_
            rintro e w21 ⟨rfl, hb⟩
            clear bm_0 bm_1 bf_0 bf_1 b1_0 b1_1 bz_0 bz_1 bg_0 bg_1 b3_0 b3_1 f3_0 f3_1 b4_0 b4_1 b9_0 b9_1
            replace bm := bm.later hb
            replace bf := bf.later hb
            replace b1 := b1.later hb
            replace bz := bz.later hb
            replace bg := bg.later hb
            replace b3 := b3.later hb
            replace f3 := f3.later hb
            replace b4 := b4.later hb
            replace b9 := b9.later hb
            replace rx := rx.below hb
            replace r1 := r1.below hb
            replace r3 := r3.below hb
            replace r4 := r4.below hb
            replace r9 := r9.below hb
            replace bW := bW.thenB hb
            replace hbb := hbb.thenB hb
            have z21 := hb.size
            clear hb
            have bm_0 := bm.c0
            have bm_1 := bm.c1
            have bf_0 := bf.c0
            have bf_1 := bf.c1
            have b1_0 := b1.c0
            have b1_1 := b1.c1
            have bz_0 := bz.c0
            have bz_1 := bz.c1
            have bg_0 := bg.c0
            have bg_1 := bg.c1
            have b3_0 := b3.c0
            have b3_1 := b3.c1
            have f3_0 := f3.c0
            have f3_1 := f3.c1
            have b4_0 := b4.c0
            have b4_1 := b4.c1
            have b9_0 := b9.c0
            have b9_1 := b9.c1
            go_wp2
            go_ret
            exact ⟨rfl, bW⟩
          · skip
            clear HZ HO
            have lt_bm := bm.lt
            have lt_bf := bf.lt
            have lt_b1 := b1.lt
            have lt_bz := bz.lt
            have lt_bg := bg.lt
            have lt_b3 := b3.lt
            have lt_f3 := f3.lt
            have lt_b4 := b4.lt
            go_wp2
            clear lt_bm lt_bf lt_b1 lt_bz lt_bg lt_b3 lt_f3 lt_b4
            have hb := belowAlloc w19 (.cells #[.int .i64 S, .slice p9 F.length k9] 25)
            clear bm_0 bm_1 bf_0 bf_1 b1_0 b1_1 bz_0 bz_1 bg_0 bg_1 b3_0 b3_1 f3_0 f3_1 b4_0 b4_1
            replace bm := bm.later hb
            replace bf := bf.later hb
            replace b1 := b1.later hb
            replace bz := bz.later hb
            replace bg := bg.later hb
            replace b3 := b3.later hb
            replace f3 := f3.later hb
            replace b4 := b4.later hb
            replace rx := rx.below hb
            replace r1 := r1.below hb
            replace r3 := r3.below hb
            replace r4 := r4.below hb
            replace r9 := r9.below hb
            replace bW := bW.thenB hb
            replace hbb := hbb.thenB hb
            clear hb
            have b9 := VarInv.made w19 (S) (.slice p9 F.length k9) 25
            have z20 := b9.lt
            generalize hu20 : w19.alloc (.cells #[.int .i64 S, .slice p9 F.length k9] 25) = w20 at *
            clear hu20
            have bm_0 := bm.c0
            have bm_1 := bm.c1
            have bf_0 := bf.c0
            have bf_1 := bf.c1
            have b1_0 := b1.c0
            have b1_1 := b1.c1
            have bz_0 := bz.c0
            have bz_1 := bz.c1
            have bg_0 := bg.c0
            have bg_1 := bg.c1
            have b3_0 := b3.c0
            have b3_1 := b3.c1
            have f3_0 := f3.c0
            have f3_1 := f3.c1
            have b4_0 := b4.c0
            have b4_1 := b4.c1
            have b9_0 := b9.c0
            have b9_1 := b9.c1
            go_ret
            exact ⟨rfl, bW⟩
          · skip
            have HK := Lib.hid (HO.out hnd2)
            clear HZ HO
            have lt_bm := bm.lt
            have lt_bf := bf.lt
            have lt_b1 := b1.lt
            have lt_bz := bz.lt
            have lt_bg := bg.lt
            have lt_b3 := b3.lt
            have lt_f3 := f3.lt
            have lt_b4 := b4.lt
            go_wp2_with fail
            clear lt_bm lt_bf lt_b1 lt_bz lt_bg lt_b3 lt_f3 lt_b4
            have hb := belowAlloc w19 (.cells #[.int .i64 S, .slice p9 F.length k9] 25)
            clear bm_0 bm_1 bf_0 bf_1 b1_0 b1_1 bz_0 bz_1 bg_0 bg_1 b3_0 b3_1 f3_0 f3_1 b4_0 b4_1
            replace bm := bm.later hb
            replace bf := bf.later hb
            replace b1 := b1.later hb
            replace bz := bz.later hb
            replace bg := bg.later hb
            replace b3 := b3.later hb
            replace f3 := f3.later hb
            replace b4 := b4.later hb
            replace rx := rx.below hb
            replace r1 := r1.below hb
            replace r3 := r3.below hb
            replace r4 := r4.below hb
            replace r9 := r9.below hb
            replace bW := bW.thenB hb
            replace hbb := hbb.thenB hb
            clear hb
            have b9 := VarInv.made w19 (S) (.slice p9 F.length k9) 25
            have z20 := b9.lt
            generalize hu20 : w19.alloc (.cells #[.int .i64 S, .slice p9 F.length k9] 25) = w20 at *
            clear hu20
            have bm_0 := bm.c0
            have bm_1 := bm.c1
            have bf_0 := bf.c0
            have bf_1 := bf.c1
            have b1_0 := b1.c0
            have b1_1 := b1.c1
            have bz_0 := bz.c0
            have bz_1 := bz.c1
            have bg_0 := bg.c0
            have bg_1 := bg.c1
            have b3_0 := b3.c0
            have b3_1 := b3.c1
            have f3_0 := f3.c0
            have f3_1 := f3.c1
            have b4_0 := b4.c0
            have b4_1 := b4.c1
            have b9_0 := b9.c0
            have b9_1 := b9.c1
            refine (weEqual_same _ _ _ _ _ _ _ _ _ _ (rfl) (HK.out) (rfl) (rfl) _ r1 rx (by omega)).mono ?_
            rintro e w21 ⟨rfl, hb⟩
            clear bm_0 bm_1 bf_0 bf_1 b1_0 b1_1 bz_0 bz_1 bg_0 bg_1 b3_0 b3_1 f3_0 f3_1 b4_0 b4_1 b9_0 b9_1
            replace bm := bm.later hb
            replace bf := bf.later hb
            replace b1 := b1.later hb
            replace bz := bz.later hb
            replace bg := bg.later hb
            replace b3 := b3.later hb
            replace f3 := f3.later hb
            replace b4 := b4.later hb
            replace b9 := b9.later hb
            replace rx := rx.below hb
            replace r1 := r1.below hb
            replace r3 := r3.below hb
            replace r4 := r4.below hb
            replace r9 := r9.below hb
            replace bW := bW.thenB hb
            replace hbb := hbb.thenB hb
            have z21 := hb.size
            clear hb
            have bm_0 := bm.c0
            have bm_1 := bm.c1
            have bf_0 := bf.c0
            have bf_1 := bf.c1
            have b1_0 := b1.c0
            have b1_1 := b1.c1
            have bz_0 := bz.c0
            have bz_1 := bz.c1
            have bg_0 := bg.c0
            have bg_1 := bg.c1
            have b3_0 := b3.c0
            have b3_1 := b3.c1
            have f3_0 := f3.c0
            have f3_1 := f3.c1
            have b4_0 := b4.c0
            have b4_1 := b4.c1
            have b9_0 := b9.c0
            have b9_1 := b9.c1
            go_wp2
            go_ret
            exact ⟨rfl, bW⟩
        · skip
          clear HTWO HLAW
          rcases (show n ≤ 0 ∨ (0 < n ∧ n < d) ∨ (0 < n ∧ d ≤ n) by omega) with hn | ⟨hn, hnd2⟩ | ⟨hn, hnd2⟩
          · skip
            have hnd2 : n < d := by omega
            have HK := Lib.hid (HZ.out hn)
            clear HZ HO
            have lt_bm := bm.lt
            have lt_bf := bf.lt
            have lt_b1 := b1.lt
            have lt_bz := bz.lt
            have lt_bg := bg.lt
            have lt_b3 := b3.lt
            have lt_f3 := f3.lt
            have lt_b4 := b4.lt
            go_wp2_with fail
            clear lt_bm lt_bf lt_b1 lt_bz lt_bg lt_b3 lt_f3 lt_b4
            have hb := belowAlloc w19 (.cells #[.int .i64 S, .slice p9 F.length k9] 25)
            clear bm_0 bm_1 bf_0 bf_1 b1_0 b1_1 bz_0 bz_1 bg_0 bg_1 b3_0 b3_1 f3_0 f3_1 b4_0 b4_1
            replace bm := bm.later hb
            replace bf := bf.later hb
            replace b1 := b1.later hb
            replace bz := bz.later hb
            replace bg := bg.later hb
            replace b3 := b3.later hb
            replace f3 := f3.later hb
            replace b4 := b4.later hb
            replace rx := rx.below hb
            replace r1 := r1.below hb
            replace r3 := r3.below hb
            replace r4 := r4.below hb
            replace r9 := r9.below hb
            replace bW := bW.thenB hb
            replace hbb := hbb.thenB hb
            clear hb
            have b9 := VarInv.made w19 (S) (.slice p9 F.length k9) 25
            have z20 := b9.lt
            generalize hu20 : w19.alloc (.cells #[.int .i64 S, .slice p9 F.length k9] 25) = w20 at *
            clear hu20
            have bm_0 := bm.c0
            have bm_1 := bm.c1
            have bf_0 := bf.c0
            have bf_1 := bf.c1
            have b1_0 := b1.c0
            have b1_1 := b1.c1
            have bz_0 := bz.c0
            have bz_1 := bz.c1
            have bg_0 := bg.c0
            have bg_1 := bg.c1
            have b3_0 := b3.c0
            have b3_1 := b3.c1
            have f3_0 := f3.c0
            have f3_1 := f3.c1
            have b4_0 := b4.c0
            have b4_1 := b4.c1
            have b9_0 := b9.c0
            have b9_1 := b9.c1
            refine (weEqual_same _ _ _ _ _ _ _ _ _ _ (rfl) (HK.out) (rfl) (rfl) _ r1 r9 (by omega)).mono ?_
            rintro e w21 ⟨rfl, hb⟩
            clear bm_0 bm_1 bf_0 bf_1 b1_0 b1_1 bz_0 bz_1 bg_0 bg_1 b3_0 b3_1 f3_0 f3_1 b4_0 b4_1 b9_0 b9_1
            replace bm := bm.later hb
            replace bf := bf.later hb
            replace b1 := b1.later hb
            replace bz := bz.later hb
            replace bg := bg.later hb
            replace b3 := b3.later hb
            replace f3 := f3.later hb
            replace b4 := b4.later hb
            replace b9 := b9.later hb
            replace rx := rx.below hb
            replace r1 := r1.below hb
            replace r3 := r3.below hb
            replace r4 := r4.below hb
            replace r9 := r9.below hb
            replace bW := bW.thenB hb
            replace hbb := hbb.thenB hb
            have z21 := hb.size
            clear hb
            have bm_0 := bm.c0
            have bm_1 := bm.c1
            have bf_0 := bf.c0
            have bf_1 := bf.c1
            have b1_0 := b1.c0
            have b1_1 := b1.c1
            have bz_0 := bz.c0
            have bz_1 := bz.c1
            have bg_0 := bg.c0
            have bg_1 := bg.c1
            have b3_0 := b3.c0
            have b3_1 := b3.c1
            have f3_0 := f3.c0
            have f3_1 := f3.c1
            have b4_0 := b4.c0
            have b4_1 := b4.c1
            have b9_0 := b9.c0
            have b9_1 := b9.c1
            go_wp2
            go_ret
            exact ⟨rfl, bW⟩
          · skip
            clear HZ HO
            have lt_bm := bm.lt
            have lt_bf := bf.lt
            have lt_b1 := b1.lt
            have lt_bz := bz.lt
            have lt_bg := bg.lt
            have lt_b3 := b3.lt
            have lt_f3 := f3.lt
            have lt_b4 := b4.lt
            go_wp2
            clear lt_bm lt_bf lt_b1 lt_bz lt_bg lt_b3 lt_f3 lt_b4
            have hb := belowAlloc w19 (.cells #[.int .i64 S, .slice p9 F.length k9] 25)
            clear bm_0 bm_1 bf_0 bf_1 b1_0 b1_1 bz_0 bz_1 bg_0 bg_1 b3_0 b3_1 f3_0 f3_1 b4_0 b4_1
            replace bm := bm.later hb
            replace bf := bf.later hb
            replace b1 := b1.later hb
            replace bz := bz.later hb
            replace bg := bg.later hb
            replace b3 := b3.later hb
            replace f3 := f3.later hb
            replace b4 := b4.later hb
            replace rx := rx.below hb
            replace r1 := r1.below hb
            replace r3 := r3.below hb
            replace r4 := r4.below hb
            replace r9 := r9.below hb
            replace bW := bW.thenB hb
            replace hbb := hbb.thenB hb
            clear hb
            have b9 := VarInv.made w19 (S) (.slice p9 F.length k9) 25
            have z20 := b9.lt
            generalize hu20 : w19.alloc (.cells #[.int .i64 S, .slice p9 F.length k9] 25) = w20 at *
            clear hu20
            have bm_0 := bm.c0
            have bm_1 := bm.c1
            have bf_0 := bf.c0
            have bf_1 := bf.c1
            have b1_0 := b1.c0
            have b1_1 := b1.c1
            have bz_0 := bz.c0
            have bz_1 := bz.c1
            have bg_0 := bg.c0
            have bg_1 := bg.c1
            have b3_0 := b3.c0
            have b3_1 := b3.c1
            have f3_0 := f3.c0
            have f3_1 := f3.c1
            have b4_0 := b4.c0
            have b4_1 := b4.c1
            have b9_0 := b9.c0
            have b9_1 := b9.c1
            go_ret
            exact ⟨rfl, bW⟩
          · skip
            have HK := Lib.hid (HO.out hnd2)
            clear HZ HO
            have lt_bm := bm.lt
            have lt_bf := bf.lt
            have lt_b1 := b1.lt
            have lt_bz := bz.lt
            have lt_bg := bg.lt
            have lt_b3 := b3.lt
            have lt_f3 := f3.lt
            have lt_b4 := b4.lt
            go_wp2_with fail
            clear lt_bm lt_bf lt_b1 lt_bz lt_bg lt_b3 lt_f3 lt_b4
            have hb := belowAlloc w19 (.cells #[.int .i64 S, .slice p9 F.length k9] 25)
            clear bm_0 bm_1 bf_0 bf_1 b1_0 b1_1 bz_0 bz_1 bg_0 bg_1 b3_0 b3_1 f3_0 f3_1 b4_0 b4_1
            replace bm := bm.later hb
            replace bf := bf.later hb
            replace b1 := b1.later hb
            replace bz := bz.later hb
            replace bg := bg.later hb
            replace b3 := b3.later hb
            replace f3 := f3.later hb
            replace b4 := b4.later hb
            replace rx := rx.below hb
            replace r1 := r1.below hb
            replace r3 := r3.below hb
            replace r4 := r4.below hb
            replace r9 := r9.below hb
            replace bW := bW.thenB hb
            replace hbb := hbb.thenB hb
            clear hb
            have b9 := VarInv.made w19 (S) (.slice p9 F.length k9) 25
            have z20 := b9.lt
            generalize hu20 : w19.alloc (.cells #[.int .i64 S, .slice p9 F.length k9] 25) = w20 at *
            clear hu20
            have bm_0 := bm.c0
            have bm_1 := bm.c1
            have bf_0 := bf.c0
            have bf_1 := bf.c1
            have b1_0 := b1.c0
            have b1_1 := b1.c1
            have bz_0 := bz.c0
            have bz_1 := bz.c1
            have bg_0 := bg.c0
            have bg_1 := bg.c1
            have b3_0 := b3.c0
            have b3_1 := b3.c1
            have f3_0 := f3.c0
            have f3_1 := f3.c1
            have b4_0 := b4.c0
            have b4_1 := b4.c1
            have b9_0 := b9.c0
            have b9_1 := b9.c1
            refine (weEqual_same _ _ _ _ _ _ _ _ _ _ (rfl) (HK.out) (rfl) (rfl) _ r1 rx (by omega)).mono ?_
            rintro e w21 ⟨rfl, hb⟩
            clear bm_0 bm_1 bf_0 bf_1 b1_0 b1_1 bz_0 bz_1 bg_0 bg_1 b3_0 b3_1 f3_0 f3_1 b4_0 b4_1 b9_0 b9_1
            replace bm := bm.later hb
            replace bf := bf.later hb
            replace b1 := b1.later hb
            replace bz := bz.later hb
            replace bg := bg.later hb
            replace b3 := b3.later hb
            replace f3 := f3.later hb
            replace b4 := b4.later hb
            replace b9 := b9.later hb
            replace rx := rx.below hb
            replace r1 := r1.below hb
            replace r3 := r3.below hb
            replace r4 := r4.below hb
            replace r9 := r9.below hb
            replace bW := bW.thenB hb
            replace hbb := hbb.thenB hb
            have z21 := hb.size
            clear hb
            have bm_0 := bm.c0
            have bm_1 := bm.c1
            have bf_0 := bf.c0
            have bf_1 := bf.c1
            have b1_0 := b1.c0
            have b1_1 := b1.c1
            have bz_0 := bz.c0
            have bz_1 := bz.c1
            have bg_0 := bg.c0
            have bg_1 := bg.c1
            have b3_0 := b3.c0
            have b3_1 := b3.c1
            have f3_0 := f3.c0
            have f3_1 := f3.c1
            have b4_0 := b4.c0
            have b4_1 := b4.c1
            have b9_0 := b9.c0
            have b9_1 := b9.c1
            go_wp2
            go_ret
            exact ⟨rfl, bW⟩
        · skip
          have HE : Hid (K2 = K4 ∧ S2 = S ∧ S4 = S) := Lib.hid (HTWO.out rfl rfl rfl)
          clear HTWO HLAW
          rcases (show n ≤ 0 ∨ (0 < n ∧ n < d) ∨ (0 < n ∧ d ≤ n) by omega) with hn | ⟨hn, hnd2⟩ | ⟨hn, hnd2⟩
          · skip
            have hnd2 : n < d := by omega
            have HK := Lib.hid (HZ.out hn)
            clear HZ HO
            have lt_bm := bm.lt
            have lt_bf := bf.lt
            have lt_b1 := b1.lt
            have lt_bz := bz.lt
            have lt_bg := bg.lt
            have lt_b3 := b3.lt
            have lt_f3 := f3.lt
            have lt_b4 := b4.lt
            go_wp2_with fail
            clear lt_bm lt_bf lt_b1 lt_bz lt_bg lt_b3 lt_f3 lt_b4
            have hb := belowAlloc w19 (.cells #[.int .i64 S, .slice p9 F.length k9] 25)
            clear bm_0 bm_1 bf_0 bf_1 b1_0 b1_1 bz_0 bz_1 bg_0 bg_1 b3_0 b3_1 f3_0 f3_1 b4_0 b4_1
            replace bm := bm.later hb
            replace bf := bf.later hb
            replace b1 := b1.later hb
            replace bz := bz.later hb
            replace bg := bg.later hb
            replace b3 := b3.later hb
            replace f3 := f3.later hb
            replace b4 := b4.later hb
            replace rx := rx.below hb
            replace r1 := r1.below hb
            replace r3 := r3.below hb
            replace r4 := r4.below hb
            replace r9 := r9.below hb
            replace bW := bW.thenB hb
            replace hbb := hbb.thenB hb
            clear hb
            have b9 := VarInv.made w19 (S) (.slice p9 F.length k9) 25
            have z20 := b9.lt
            generalize hu20 : w19.alloc (.cells #[.int .i64 S, .slice p9 F.length k9] 25) = w20 at *
            clear hu20
            have bm_0 := bm.c0
            have bm_1 := bm.c1
            have bf_0 := bf.c0
            have bf_1 := bf.c1
            have b1_0 := b1.c0
            have b1_1 := b1.c1
            have bz_0 := bz.c0
            have bz_1 := bz.c1
            have bg_0 := bg.c0
            have bg_1 := bg.c1
            have b3_0 := b3.c0
            have b3_1 := b3.c1
            have f3_0 := f3.c0
            have f3_1 := f3.c1
            have b4_0 := b4.c0
            have b4_1 := b4.c1
            have b9_0 := b9.c0
            have b9_1 := b9.c1
            refine (weEqual_same _ _ _ _ _ _ _ _ _ _ (HE.out.2.1.trans HE.out.2.2.symm) (HE.out.1) (rfl) (rfl) _ r3 r4 (by omega)).mono ?_
            rintro e w21 ⟨rfl, hb⟩
            clear bm_0 bm_1 bf_0 bf_1 b1_0 b1_1 bz_0 bz_1 bg_0 bg_1 b3_0 b3_1 f3_0 f3_1 b4_0 b4_1 b9_0 b9_1
            replace bm := bm.later hb
            replace bf := bf.later hb
            replace b1 := b1.later hb
            replace bz := bz.later hb
            replace bg := bg.later hb
            replace b3 := b3.later hb
            replace f3 := f3.later hb
            replace b4 := b4.later hb
            replace b9 := b9.later hb
            replace rx := rx.below hb
            replace r1 := r1.below hb
            replace r3 := r3.below hb
            replace r4 := r4.below hb
            replace r9 := r9.below hb
            replace bW := bW.thenB hb
            replace hbb := hbb.thenB hb
            have z21 := hb.size
            clear hb
            have bm_0 := bm.c0
            have bm_1 := bm.c1
            have bf_0 := bf.c0
            have bf_1 := bf.c1
            have b1_0 := b1.c0
            have b1_1 := b1.c1
            have bz_0 := bz.c0
            have bz_1 := bz.c1
            have bg_0 := bg.c0
            have bg_1 := bg.c1
            have b3_0 := b3.c0
            have b3_1 := b3.c1
            have f3_0 := f3.c0
            have f3_1 := f3.c1
            have b4_0 := b4.c0
            have b4_1 := b4.c1
            have b9_0 := b9.c0
            have b9_1 := b9.c1
            go_wp2_with fail
            refine (weEqual_same _ _ _ _ _ _ _ _ _ _ (rfl) (HK.out) (rfl) (rfl) _ r1 r9 (by omega)).mono ?_
            rintro e w22 ⟨rfl, hb⟩
            clear bm_0 bm_1 bf_0 bf_1 b1_0 b1_1 bz_0 bz_1 bg_0 bg_1 b3_0 b3_1 f3_0 f3_1 b4_0 b4_1 b9_0 b9_1
            replace bm := bm.later hb
            replace bf := bf.later hb
            replace b1 := b1.later hb
            replace bz := bz.later hb
            replace bg := bg.later hb
            replace b3 := b3.later hb
            replace f3 := f3.later hb
            replace b4 := b4.later hb
            replace b9 := b9.later hb
            replace rx := rx.below hb
            replace r1 := r1.below hb
            replace r3 := r3.below hb
            replace r4 := r4.below hb
            replace r9 := r9.below hb
            replace bW := bW.thenB hb
            replace hbb := hbb.thenB hb
            have z22 := hb.size
            clear hb
            have bm_0 := bm.c0
            have bm_1 := bm.c1
            have bf_0 := bf.c0
            have bf_1 := bf.c1
            have b1_0 := b1.c0
            have b1_1 := b1.c1
            have bz_0 := bz.c0
            have bz_1 := bz.c1
            have bg_0 := bg.c0
            have bg_1 := bg.c1
            have b3_0 := b3.c0
            have b3_1 := b3.c1
            have f3_0 := f3.c0
            have f3_1 := f3.c1
            have b4_0 := b4.c0
            have b4_1 := b4.c1
            have b9_0 := b9.c0
            have b9_1 := b9.c1
            go_wp2
            go_ret
            exact ⟨rfl, bW⟩
          · skip
            clear HZ HO
            have lt_bm := bm.lt
            have lt_bf := bf.lt
            have lt_b1 := b1.lt
            have lt_bz := bz.lt
            have lt_bg := bg.lt
            have lt_b3 := b3.lt
            have lt_f3 := f3.lt
            have lt_b4 := b4.lt
            go_wp2_with fail
            clear lt_bm lt_bf lt_b1 lt_bz lt_bg lt_b3 lt_f3 lt_b4
            have hb := belowAlloc w19 (.cells #[.int .i64 S, .slice p9 F.length k9] 25)
            clear bm_0 bm_1 bf_0 bf_1 b1_0 b1_1 bz_0 bz_1 bg_0 bg_1 b3_0 b3_1 f3_0 f3_1 b4_0 b4_1
            replace bm := bm.later hb
            replace bf := bf.later hb
            replace b1 := b1.later hb
            replace bz := bz.later hb
            replace bg := bg.later hb
            replace b3 := b3.later hb
            replace f3 := f3.later hb
            replace b4 := b4.later hb
            replace rx := rx.below hb
            replace r1 := r1.below hb
            replace r3 := r3.below hb
            replace r4 := r4.below hb
            replace r9 := r9.below hb
            replace bW := bW.thenB hb
            replace hbb := hbb.thenB hb
            clear hb
            have b9 := VarInv.made w19 (S) (.slice p9 F.length k9) 25
            have z20 := b9.lt
            generalize hu20 : w19.alloc (.cells #[.int .i64 S, .slice p9 F.length k9] 25) = w20 at *
            clear hu20
            have bm_0 := bm.c0
            have bm_1 := bm.c1
            have bf_0 := bf.c0
            have bf_1 := bf.c1
            have b1_0 := b1.c0
            have b1_1 := b1.c1
            have bz_0 := bz.c0
            have bz_1 := bz.c1
            have bg_0 := bg.c0
            have bg_1 := bg.c1
            have b3_0 := b3.c0
            have b3_1 := b3.c1
            have f3_0 := f3.c0
            have f3_1 := f3.c1
            have b4_0 := b4.c0
            have b4_1 := b4.c1
            have b9_0 := b9.c0
            have b9_1 := b9.c1
            refine (weEqual_same _ _ _ _ _ _ _ _ _ _ (HE.out.2.1.trans HE.out.2.2.symm) (HE.out.1) (rfl) (rfl) _ r3 r4 (by omega)).mono ?_
            rintro e w21 ⟨rfl, hb⟩
            clear bm_0 bm_1 bf_0 bf_1 b1_0 b1_1 bz_0 bz_1 bg_0 bg_1 b3_0 b3_1 f3_0 f3_1 b4_0 b4_1 b9_0 b9_1
            replace bm := bm.later hb
            replace bf := bf.later hb
            replace b1 := b1.later hb
            replace bz := bz.later hb
            replace bg := bg.later hb
            replace b3 := b3.later hb
            replace f3 := f3.later hb
            replace b4 := b4.later hb
            replace b9 := b9.later hb
            replace rx := rx.below hb
            replace r1 := r1.below hb
            replace r3 := r3.below hb
            replace r4 := r4.below hb
            replace r9 := r9.below hb
            replace bW := bW.thenB hb
            replace hbb := hbb.thenB hb
            have z21 := hb.size
            clear hb
            have bm_0 := bm.c0
            have bm_1 := bm.c1
            have bf_0 := bf.c0
            have bf_1 := bf.c1
            have b1_0 := b1.c0
            have b1_1 := b1.c1
            have bz_0 := bz.c0
            have bz_1 := bz.c1
            have bg_0 := bg.c0
            have bg_1 := bg.c1
            have b3_0 := b3.c0
            have b3_1 := b3.c1
            have f3_0 := f3.c0
            have f3_1 := f3.c1
            have b4_0 := b4.c0
            have b4_1 := b4.c1
            have b9_0 := b9.c0
            have b9_1 := b9.c1
            go_wp2
            go_ret
            exact ⟨rfl, bW⟩
          · skip
            have HK := Lib.hid (HO.out hnd2)
            clear HZ HO
            have lt_bm := bm.lt
            have lt_bf := bf.lt
            have lt_b1 := b1.lt
            have lt_bz := bz.lt
            have lt_bg := bg.lt
            have lt_b3 := b3.lt
            have lt_f3 := f3.lt
            have lt_b4 := b4.lt
            go_wp2_with fail
            clear lt_bm lt_bf lt_b1 lt_bz lt_bg lt_b3 lt_f3 lt_b4
            have hb := belowAlloc w19 (.cells #[.int .i64 S, .slice p9 F.length k9] 25)
            clear bm_0 bm_1 bf_0 bf_1 b1_0 b1_1 bz_0 bz_1 bg_0 bg_1 b3_0 b3_1 f3_0 f3_1 b4_0 b4_1
            replace bm := bm.later hb
            replace bf := bf.later hb
            replace b1 := b1.later hb
            replace bz := bz.later hb
            replace bg := bg.later hb
            replace b3 := b3.later hb
            replace f3 := f3.later hb
            replace b4 := b4.later hb
            replace rx := rx.below hb
            replace r1 := r1.below hb
            replace r3 := r3.below hb
            replace r4 := r4.below hb
            replace r9 := r9.below hb
            replace bW := bW.thenB hb
            replace hbb := hbb.thenB hb
            clear hb
            have b9 := VarInv.made w19 (S) (.slice p9 F.length k9) 25
            have z20 := b9.lt
            generalize hu20 : w19.alloc (.cells #[.int .i64 S, .slice p9 F.length k9] 25) = w20 at *
            clear hu20
            have bm_0 := bm.c0
            have bm_1 := bm.c1
            have bf_0 := bf.c0
            have bf_1 := bf.c1
            have b1_0 := b1.c0
            have b1_1 := b1.c1
            have bz_0 := bz.c0
            have bz_1 := bz.c1
            have bg_0 := bg.c0
            have bg_1 := bg.c1
            have b3_0 := b3.c0
            have b3_1 := b3.c1
            have f3_0 := f3.c0
            have f3_1 := f3.c1
            have b4_0 := b4.c0
            have b4_1 := b4.c1
            have b9_0 := b9.c0
            have b9_1 := b9.c1
            refine (weEqual_same _ _ _ _ _ _ _ _ _ _ (HE.out.2.1.trans HE.out.2.2.symm) (HE.out.1) (rfl) (rfl) _ r3 r4 (by omega)).mono ?_
            rintro e w21 ⟨rfl, hb⟩
            clear bm_0 bm_1 bf_0 bf_1 b1_0 b1_1 bz_0 bz_1 bg_0 bg_1 b3_0 b3_1 f3_0 f3_1 b4_0 b4_1 b9_0 b9_1
            replace bm := bm.later hb
            replace bf := bf.later hb
            replace b1 := b1.later hb
            replace bz := bz.later hb
            replace bg := bg.later hb
            replace b3 := b3.later hb
            replace f3 := f3.later hb
            replace b4 := b4.later hb
            replace b9 := b9.later hb
            replace rx := rx.below hb
            replace r1 := r1.below hb
            replace r3 := r3.below hb
            replace r4 := r4.below hb
            replace r9 := r9.below hb
            replace bW := bW.thenB hb
            replace hbb := hbb.thenB hb
            have z21 := hb.size
            clear hb
            have bm_0 := bm.c0
            have bm_1 := bm.c1
            have bf_0 := bf.c0
            have bf_1 := bf.c1
            have b1_0 := b1.c0
            have b1_1 := b1.c1
            have bz_0 := bz.c0
            have bz_1 := bz.c1
            have bg_0 := bg.c0
            have bg_1 := bg.c1
            have b3_0 := b3.c0
            have b3_1 := b3.c1
            have f3_0 := f3.c0
            have f3_1 := f3.c1
            have b4_0 := b4.c0
            have b4_1 := b4.c1
            have b9_0 := b9.c0
            have b9_1 := b9.c1
            go_wp2_with fail
            refine (weEqual_same _ _ _ _ _ _ _ _ _ _ (rfl) (HK.out) (rfl) (rfl) _ r1 rx (by omega)).mono ?_
            rintro e w22 ⟨rfl, hb⟩
            clear bm_0 bm_1 bf_0 bf_1 b1_0 b1_1 bz_0 bz_1 bg_0 bg_1 b3_0 b3_1 f3_0 f3_1 b4_0 b4_1 b9_0 b9_1
            replace bm := bm.later hb
            replace bf := bf.later hb
            replace b1 := b1.later hb
            replace bz := bz.later hb
            replace bg := bg.later hb
            replace b3 := b3.later hb
            replace f3 := f3.later hb
            replace b4 := b4.later hb
            replace b9 := b9.later hb
            replace rx := rx.below hb
            replace r1 := r1.below hb
            replace r3 := r3.below hb
            replace r4 := r4.below hb
            replace r9 := r9.below hb
            replace bW := bW.thenB hb
            replace hbb := hbb.thenB hb
            have z22 := hb.size
            clear hb
            have bm_0 := bm.c0
            have bm_1 := bm.c1
            have bf_0 := bf.c0
            have bf_1 := bf.c1
            have b1_0 := b1.c0
            have b1_1 := b1.c1
            have bz_0 := bz.c0
            have bz_1 := bz.c1
            have bg_0 := bg.c0
            have bg_1 := bg.c1
            have b3_0 := b3.c0
            have b3_1 := b3.c1
            have f3_0 := f3.c0
            have f3_1 := f3.c1
            have b4_0 := b4.c0
            have b4_1 := b4.c1
            have b9_0 := b9.c0
            have b9_1 := b9.c1
            go_wp2
            go_ret
            exact ⟨rfl, bW⟩

end Go.Proofs.Ytkpnenbkfphldaa
