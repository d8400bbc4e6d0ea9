/- The law on distances: what it computes. -/
import Derived.Test.YtkpnenbkfphldaaDD
import Derived.Test.YtkpnenbkfphldaaZD
import Derived.Test.YtkpnenbkfphldaaE1
import Derived.Test.YtkpnenbkfphldaaE2
set_option linter.unusedVariables false
set_option linter.unusedSimpArgs false
namespace Go.Proofs.Ytkpnenbkfphldaa
open Go.RowKit

set_option maxHeartbeats 4000000 in
set_option maxRecDepth 100000 in
theorem FnDistance_walk (w : World) (a0 : Option Addr) (c0 : Nat) (x0 : List Int) (m0 : x0.length ≤ maxLen) (rd0 : ReadsK .u8 w a0 x0) (wf0 : ∀ n ∈ x0, (Lit.int .u8 n).wf = true) (cp0 : x0.length ≤ c0) (a1 : Option Addr) (c1 : Nat) (x1 : List Int) (m1 : x1.length ≤ maxLen) (rd1 : ReadsK .u8 w a1 x1) (wf1 : ∀ n ∈ x1, (Lit.int .u8 n).wf = true) (cp1 : x1.length ≤ c1) :
    Calls Try.prog 10 #[.slice a0 x0.length c0, .slice a1 x1.length c1] w fun e w' => e = .returned (.bool true) ∧ Below w.heap.size w w' := by
  by_cases hbig0 : 1048576 < x0.length
  · unfold maxLen at m0 m1
    clear rd0 wf0 cp0 rd1 wf1 cp1
    go_enter Try.func10, Try.ntmps10
    go_wp2
    go_ret
    exact ⟨rfl, Below.refl _ _⟩
  by_cases hbig1 : 1048576 < x1.length
  · unfold maxLen at m0 m1
    clear rd0 wf0 cp0 rd1 wf1 cp1
    go_enter Try.func10, Try.ntmps10
    go_wp2
    go_ret
    exact ⟨rfl, Below.refl _ _⟩
  have HD := Lib.hid (DrawDistanceOf_any a0 c0 x0 w rd0 wf0 m0 cp0)
  have HWF1 := Lib.hid wf1
  have HM1 := Lib.hid m1
  have HCP1 := Lib.hid cp1
  unfold maxLen at m0 m1
  clear rd0 wf0 cp0 wf1 cp1
  go_enter Try.func10, Try.ntmps10
  go_wp2_with fail
  refine HD.out.mono ?_
  rintro e w1 ⟨s, p, c, xs, t, q, d, ys, rfl, hxl, hyl, rx, ry, bW⟩
  clear HD
  replace rd1 := rd1.below bW
  obtain ⟨N, hN⟩ : ∃ N, N = dsN s xs t ys := ⟨_, rfl⟩
  obtain ⟨D, hD⟩ : ∃ N, N = dsD s xs t ys := ⟨_, rfl⟩
  obtain ⟨OK, hO⟩ : ∃ N, N = dsO s xs t ys := ⟨_, rfl⟩
  have hyes : OK = true → DistLaw s xs t ys N D := fun h => by rw [hN, hD]; exact dist_law (hO.symm.trans h)
  have hF1 := fun (w : World) (hx : Reads w p xs) (hy : Reads w q ys) => iDistanceOf_any s p c xs t q d ys w hx hy (by omega) (by omega)
  have hF2 := fun (w : World) (hx : Reads w p xs) (hy : Reads w q ys) => sDistanceOf_any s p c xs t q d ys w hx hy (by omega) (by omega)
  rw [show fN (bothB s xs t ys) (apTo xs ys xs.length) (sumL xs * sumL ys) = N from hN.symm, show fD (bothB s xs t ys) (apTo xs ys xs.length) (sumL xs * sumL ys) = D from hD.symm, show fOk (bothB s xs t ys) (apTo xs ys xs.length) (sumL xs * sumL ys) = OK from hO.symm] at hF1 hF2
  have HF1 := Lib.hid hF1
  have HF2 := Lib.hid hF2
  have HYES := Lib.hid hyes
  clear hF1 hF2 hyes hN hD hO
  have hq1 : (OK != OK) = false := by cases OK <;> rfl
  have hq2 : (OK == OK) = true := by cases OK <;> rfl
  go_wp2_with fail
  have hb := belowAlloc w1 (.cells #[.int .i64 s, .slice p xs.length c] 25)
  replace rd1 := rd1.below hb
  replace rx := rx.below hb
  replace ry := ry.below hb
  replace bW := bW.thenB hb
  clear hb
  have bm := VarInv.made w1 (s) (.slice p xs.length c) 25
  have z2 := bm.lt
  have hsj : (w1.alloc (.cells #[.int .i64 s, .slice p xs.length c] 25)).heap.size = w1.heap.size + 1 := by simp
  generalize hu2 : w1.alloc (.cells #[.int .i64 s, .slice p xs.length c] 25) = w2 at *
  clear hu2
  have hb := belowAlloc w2 (.cells #[.int .i64 t, .slice q ys.length d] 25)
  replace bm := bm.later hb
  replace rd1 := rd1.below hb
  replace rx := rx.below hb
  replace ry := ry.below hb
  replace bW := bW.thenB hb
  clear hb
  have bn := VarInv.made w2 (t) (.slice q ys.length d) 25
  rw [hsj] at bn
  clear hsj
  have z3 := bn.lt
  generalize hu3 : w2.alloc (.cells #[.int .i64 t, .slice q ys.length d] 25) = w3 at *
  clear hu3
  have bm_0 := bm.c0
  have bm_1 := bm.c1
  have bn_0 := bn.c0
  have bn_1 := bn.c1
  refine (HF1.out _ rx ry).mono ?_
  rintro e w4 ⟨rfl, hb⟩
  clear bm_0 bm_1 bn_0 bn_1
  replace bm := bm.later hb
  replace bn := bn.later hb
  replace rd1 := rd1.below hb
  replace rx := rx.below hb
  replace ry := ry.below hb
  replace bW := bW.thenB hb
  have z4 := hb.size
  clear hb
  have bm_0 := bm.c0
  have bm_1 := bm.c1
  have bn_0 := bn.c0
  have bn_1 := bn.c1
  have lt_bm := bm.lt
  have lt_bn := bn.lt
  go_wp2_with fail
  clear lt_bm lt_bn
  have hb := belowAlloc w4 (.cells #[.int .i64 N, .int .i64 D] 29)
  clear bm_0 bm_1 bn_0 bn_1
  replace bm := bm.later hb
  replace bn := bn.later hb
  replace rd1 := rd1.below hb
  replace rx := rx.below hb
  replace ry := ry.below hb
  replace bW := bW.thenB hb
  clear hb
  have f1 := VarInv.made w4 (N) (.int .i64 D) 29
  have z5 := f1.lt
  generalize hu5 : w4.alloc (.cells #[.int .i64 N, .int .i64 D] 29) = w5 at *
  clear hu5
  have bm_0 := bm.c0
  have bm_1 := bm.c1
  have bn_0 := bn.c0
  have bn_1 := bn.c1
  have f1_0 := f1.c0
  have f1_1 := f1.c1
  refine (HF2.out _ rx ry).mono ?_
  rintro e w6 ⟨rfl, hb⟩
  clear bm_0 bm_1 bn_0 bn_1 f1_0 f1_1
  replace bm := bm.later hb
  replace bn := bn.later hb
  replace f1 := f1.later hb
  replace rd1 := rd1.below hb
  replace rx := rx.below hb
  replace ry := ry.below hb
  replace bW := bW.thenB hb
  have z6 := hb.size
  clear hb
  have bm_0 := bm.c0
  have bm_1 := bm.c1
  have bn_0 := bn.c0
  have bn_1 := bn.c1
  have f1_0 := f1.c0
  have f1_1 := f1.c1
  cases hok : OK
  · subst hok
    have lt_bm := bm.lt
    have lt_bn := bn.lt
    have lt_f1 := f1.lt
    go_wp2
    clear lt_bm lt_bn lt_f1
    have hb := belowAlloc w6 (.cells #[.int .i64 N, .int .i64 D] 29)
    clear bm_0 bm_1 bn_0 bn_1 f1_0 f1_1
    replace bm := bm.later hb
    replace bn := bn.later hb
    replace f1 := f1.later hb
    replace rd1 := rd1.below hb
    replace rx := rx.below hb
    replace ry := ry.below hb
    replace bW := bW.thenB hb
    clear hb
    have f2 := VarInv.made w6 (N) (.int .i64 D) 29
    have z7 := f2.lt
    generalize hu7 : w6.alloc (.cells #[.int .i64 N, .int .i64 D] 29) = w7 at *
    clear hu7
    have bm_0 := bm.c0
    have bm_1 := bm.c1
    have bn_0 := bn.c0
    have bn_1 := bn.c1
    have f1_0 := f1.c0
    have f1_1 := f1.c1
    have f2_0 := f2.c0
    have f2_1 := f2.c1
    go_ret
    exact ⟨rfl, bW⟩
  · subst hok
    have law := HYES.out rfl
    obtain rfl := law.size
    have hx16 := law.l16
    have hlxy := Lib.hid law.len
    have hy16 : ys.length ≤ 16 := by have := law.len; omega
    clear HF1 HF2 HYES
    have hG := fun (w : World) (hx : Reads w p xs) (hy : Reads w q ys) => iDistanceOf_any s q d ys s p c xs w hy hx (by omega) (by omega)
    rw [show fN (bothB s ys s xs) (apTo ys xs ys.length) (sumL ys * sumL xs) = N from law.swN, show fD (bothB s ys s xs) (apTo ys xs ys.length) (sumL ys * sumL xs) = D from law.swD, show fOk (bothB s ys s xs) (apTo ys xs ys.length) (sumL ys * sumL xs) = true from law.swO] at hG
    have HG := Lib.hid hG
    have HLAW := Lib.hid law
    clear hG law
    have hND : N ≤ D := HLAW.out.le
    have lt_bm := bm.lt
    have lt_bn := bn.lt
    have lt_f1 := f1.lt
    go_wp2_with fail
    clear lt_bm lt_bn lt_f1
    have hb := belowAlloc w6 (.cells #[.int .i64 N, .int .i64 D] 29)
    clear bm_0 bm_1 bn_0 bn_1 f1_0 f1_1
    replace bm := bm.later hb
    replace bn := bn.later hb
    replace f1 := f1.later hb
    replace rd1 := rd1.below hb
    replace rx := rx.below hb
    replace ry := ry.below hb
    replace bW := bW.thenB hb
    clear hb
    have f2 := VarInv.made w6 (N) (.int .i64 D) 29
    have z7 := f2.lt
    generalize hu7 : w6.alloc (.cells #[.int .i64 N, .int .i64 D] 29) = w7 at *
    clear hu7
    have bm_0 := bm.c0
    have bm_1 := bm.c1
    have bn_0 := bn.c0
    have bn_1 := bn.c1
    have f1_0 := f1.c0
    have f1_1 := f1.c1
    have f2_0 := f2.c0
    have f2_1 := f2.c1
    clear f2_0 f2_1
    clear f2
    refine (HG.out _ rx ry).mono ?_
    rintro e w8 ⟨rfl, hb⟩
    clear bm_0 bm_1 bn_0 bn_1 f1_0 f1_1
    replace bm := bm.later hb
    replace bn := bn.later hb
    replace f1 := f1.later hb
    replace rd1 := rd1.below hb
    replace rx := rx.below hb
    replace ry := ry.below hb
    replace bW := bW.thenB hb
    have z8 := hb.size
    clear hb
    have bm_0 := bm.c0
    have bm_1 := bm.c1
    have bn_0 := bn.c0
    have bn_1 := bn.c1
    have f1_0 := f1.c0
    have f1_1 := f1.c1
    have lt_bm := bm.lt
    have lt_bn := bn.lt
    have lt_f1 := f1.lt
    go_wp2_with fail
    clear lt_bm lt_bn lt_f1
    have hb := belowAlloc w8 (.cells #[.int .i64 N, .int .i64 D] 29)
    clear bm_0 bm_1 bn_0 bn_1 f1_0 f1_1
    replace bm := bm.later hb
    replace bn := bn.later hb
    replace f1 := f1.later hb
    replace rd1 := rd1.below hb
    replace rx := rx.below hb
    replace ry := ry.below hb
    replace bW := bW.thenB hb
    clear hb
    have f3 := VarInv.made w8 (N) (.int .i64 D) 29
    have z9 := f3.lt
    generalize hu9 : w8.alloc (.cells #[.int .i64 N, .int .i64 D] 29) = w9 at *
    clear hu9
    have bm_0 := bm.c0
    have bm_1 := bm.c1
    have bn_0 := bn.c0
    have bn_1 := bn.c1
    have f1_0 := f1.c0
    have f1_1 := f1.c1
    have f3_0 := f3.c0
    have f3_1 := f3.c1
    refine (DrawDistanceOf_any _ c1 x1 _ rd1 HWF1.out HM1.out HCP1.out).mono ?_
    rintro e w10 ⟨u, o, k, zs, u2, o2, k2, z2, rfl, hzl, hz2, rz, rz2, hb⟩
    clear bm_0 bm_1 bn_0 bn_1 f1_0 f1_1 f3_0 f3_1
    replace bm := bm.later hb
    replace bn := bn.later hb
    replace f1 := f1.later hb
    replace f3 := f3.later hb
    replace rd1 := rd1.below hb
    replace rx := rx.below hb
    replace ry := ry.below hb
    replace bW := bW.thenB hb
    have z10 := hb.size
    clear hb
    have bm_0 := bm.c0
    have bm_1 := bm.c1
    have bn_0 := bn.c0
    have bn_1 := bn.c1
    have f1_0 := f1.c0
    have f1_1 := f1.c1
    have f3_0 := f3.c0
    have f3_1 := f3.c1
    clear rd1
    clear rz2
    obtain ⟨N5, hN5⟩ : ∃ N, N = dsN s xs u zs := ⟨_, rfl⟩
    obtain ⟨D5, hD5⟩ : ∃ N, N = dsD s xs u zs := ⟨_, rfl⟩
    obtain ⟨O5, hO5⟩ : ∃ N, N = dsO s xs u zs := ⟨_, rfl⟩
    obtain ⟨N6, hN6⟩ : ∃ N, N = dsN u zs s ys := ⟨_, rfl⟩
    obtain ⟨D6, hD6⟩ : ∃ N, N = dsD u zs s ys := ⟨_, rfl⟩
    obtain ⟨O6, hO6⟩ : ∃ N, N = dsO u zs s ys := ⟨_, rfl⟩
    obtain ⟨N7, hN7⟩ : ∃ N, N = adN N5 D5 N6 D6 := ⟨_, rfl⟩
    obtain ⟨D7, hD7⟩ : ∃ N, N = adD N5 D5 N6 D6 := ⟨_, rfl⟩
    obtain ⟨O7, hO7⟩ : ∃ N, N = adO N5 D5 N6 D6 := ⟨_, rfl⟩
    have htri : O5 = true → O6 = true → O7 = true → lessB N7 D7 N D = false := fun j1 j2 j3 => by
      have := HLAW.out.tri u zs (hO5.symm.trans j1) (hO6.symm.trans j2)
      rw [← hN5, ← hD5, ← hN6, ← hD6, ← hN7, ← hD7, ← hO7] at this
      exact this j3
    have hH5 := fun (w : World) (hx : Reads w p xs) (hy : Reads w o zs) => iDistanceOf_any s p c xs u o k zs w hx hy (by omega) (by omega)
    have hH6 := fun (w : World) (hx : Reads w o zs) (hy : Reads w q ys) => iDistanceOf_any u o k zs s q d ys w hx hy (by omega) (by omega)
    have hH7 := fun (w : World) => iAdd_any N5 D5 N6 D6 w
    rw [show fN (bothB s xs u zs) (apTo xs zs xs.length) (sumL xs * sumL zs) = N5 from hN5.symm, show fD (bothB s xs u zs) (apTo xs zs xs.length) (sumL xs * sumL zs) = D5 from hD5.symm, show fOk (bothB s xs u zs) (apTo xs zs xs.length) (sumL xs * sumL zs) = O5 from hO5.symm] at hH5
    rw [show fN (bothB u zs s ys) (apTo zs ys zs.length) (sumL zs * sumL ys) = N6 from hN6.symm, show fD (bothB u zs s ys) (apTo zs ys zs.length) (sumL zs * sumL ys) = D6 from hD6.symm, show fOk (bothB u zs s ys) (apTo zs ys zs.length) (sumL zs * sumL ys) = O6 from hO6.symm] at hH6
    rw [show fN (twoF N5 D5 N6 D6) (N5 * D6 + N6 * D5) (D5 * D6) = N7 from hN7.symm, show fD (twoF N5 D5 N6 D6) (N5 * D6 + N6 * D5) (D5 * D6) = D7 from hD7.symm, show fOk (twoF N5 D5 N6 D6) (N5 * D6 + N6 * D5) (D5 * D6) = O7 from hO7.symm] at hH7
    have HH5 := Lib.hid hH5
    have HH6 := Lib.hid hH6
    have HH7 := Lib.hid hH7
    have HTRI := Lib.hid htri
    clear hH5 hH6 hH7 htri hN5 hD5 hO5 hN6 hD6 hO6 hN7 hD7 hO7
    have lt_bm := bm.lt
    have lt_bn := bn.lt
    have lt_f1 := f1.lt
    have lt_f3 := f3.lt
    go_wp2_with fail
    clear lt_bm lt_bn lt_f1 lt_f3
    have hb := belowAlloc w10 (.cells #[.int .i64 u, .slice o zs.length k] 25)
    clear bm_0 bm_1 bn_0 bn_1 f1_0 f1_1 f3_0 f3_1
    replace bm := bm.later hb
    replace bn := bn.later hb
    replace f1 := f1.later hb
    replace f3 := f3.later hb
    replace rx := rx.below hb
    replace ry := ry.below hb
    replace rz := rz.below hb
    replace bW := bW.thenB hb
    clear hb
    have bk := VarInv.made w10 (u) (.slice o zs.length k) 25
    have z11 := bk.lt
    have hsj : (w10.alloc (.cells #[.int .i64 u, .slice o zs.length k] 25)).heap.size = w10.heap.size + 1 := by simp
    generalize hu11 : w10.alloc (.cells #[.int .i64 u, .slice o zs.length k] 25) = w11 at *
    clear hu11
    have hb := belowAlloc w11 (.cells #[.int .i64 u2, .slice o2 z2.length k2] 25)
    replace bm := bm.later hb
    replace bn := bn.later hb
    replace f1 := f1.later hb
    replace f3 := f3.later hb
    replace bk := bk.later hb
    replace rx := rx.below hb
    replace ry := ry.below hb
    replace rz := rz.below hb
    replace bW := bW.thenB hb
    clear hb
    have bk2 := VarInv.made w11 (u2) (.slice o2 z2.length k2) 25
    rw [hsj] at bk2
    clear hsj
    have z12 := bk2.lt
    generalize hu12 : w11.alloc (.cells #[.int .i64 u2, .slice o2 z2.length k2] 25) = w12 at *
    clear hu12
    have bm_0 := bm.c0
    have bm_1 := bm.c1
    have bn_0 := bn.c0
    have bn_1 := bn.c1
    have f1_0 := f1.c0
    have f1_1 := f1.c1
    have f3_0 := f3.c0
    have f3_1 := f3.c1
    have bk_0 := bk.c0
    have bk_1 := bk.c1
    have bk2_0 := bk2.c0
    have bk2_1 := bk2.c1
    refine (HH5.out _ rx rz).mono ?_
    rintro e w13 ⟨rfl, hb⟩
    clear bm_0 bm_1 bn_0 bn_1 f1_0 f1_1 f3_0 f3_1 bk_0 bk_1 bk2_0 bk2_1
    replace bm := bm.later hb
    replace bn := bn.later hb
    replace f1 := f1.later hb
    replace f3 := f3.later hb
    replace bk := bk.later hb
    replace bk2 := bk2.later hb
    replace rx := rx.below hb
    replace ry := ry.below hb
    replace rz := rz.below hb
    replace bW := bW.thenB hb
    have z13 := hb.size
    clear hb
    have bm_0 := bm.c0
    have bm_1 := bm.c1
    have bn_0 := bn.c0
    have bn_1 := bn.c1
    have f1_0 := f1.c0
    have f1_1 := f1.c1
    have f3_0 := f3.c0
    have f3_1 := f3.c1
    have bk_0 := bk.c0
    have bk_1 := bk.c1
    have bk2_0 := bk2.c0
    have bk2_1 := bk2.c1
    have lt_bm := bm.lt
    have lt_bn := bn.lt
    have lt_f1 := f1.lt
    have lt_f3 := f3.lt
    have lt_bk := bk.lt
    have lt_bk2 := bk2.lt
    go_wp2_with fail
    clear lt_bm lt_bn lt_f1 lt_f3 lt_bk lt_bk2
    have hb := belowAlloc w13 (.cells #[.int .i64 N5, .int .i64 D5] 29)
    clear bm_0 bm_1 bn_0 bn_1 f1_0 f1_1 f3_0 f3_1 bk_0 bk_1 bk2_0 bk2_1
    replace bm := bm.later hb
    replace bn := bn.later hb
    replace f1 := f1.later hb
    replace f3 := f3.later hb
    replace bk := bk.later hb
    replace bk2 := bk2.later hb
    replace rx := rx.below hb
    replace ry := ry.below hb
    replace rz := rz.below hb
    replace bW := bW.thenB hb
    clear hb
    have f5 := VarInv.made w13 (N5) (.int .i64 D5) 29
    have z14 := f5.lt
    generalize hu14 : w13.alloc (.cells #[.int .i64 N5, .int .i64 D5] 29) = w14 at *
    clear hu14
    have bm_0 := bm.c0
    have bm_1 := bm.c1
    have bn_0 := bn.c0
    have bn_1 := bn.c1
    have f1_0 := f1.c0
    have f1_1 := f1.c1
    have f3_0 := f3.c0
    have f3_1 := f3.c1
    have bk_0 := bk.c0
    have bk_1 := bk.c1
    have bk2_0 := bk2.c0
    have bk2_1 := bk2.c1
    have f5_0 := f5.c0
    have f5_1 := f5.c1
    refine (HH6.out _ rz ry).mono ?_
    rintro e w15 ⟨rfl, hb⟩
    clear bm_0 bm_1 bn_0 bn_1 f1_0 f1_1 f3_0 f3_1 bk_0 bk_1 bk2_0 bk2_1 f5_0 f5_1
    replace bm := bm.later hb
    replace bn := bn.later hb
    replace f1 := f1.later hb
    replace f3 := f3.later hb
    replace bk := bk.later hb
    replace bk2 := bk2.later hb
    replace f5 := f5.later hb
    replace rx := rx.below hb
    replace ry := ry.below hb
    replace rz := rz.below hb
    replace bW := bW.thenB hb
    have z15 := hb.size
    clear hb
    have bm_0 := bm.c0
    have bm_1 := bm.c1
    have bn_0 := bn.c0
    have bn_1 := bn.c1
    have f1_0 := f1.c0
    have f1_1 := f1.c1
    have f3_0 := f3.c0
    have f3_1 := f3.c1
    have bk_0 := bk.c0
    have bk_1 := bk.c1
    have bk2_0 := bk2.c0
    have bk2_1 := bk2.c1
    have f5_0 := f5.c0
    have f5_1 := f5.c1
    have lt_bm := bm.lt
    have lt_bn := bn.lt
    have lt_f1 := f1.lt
    have lt_f3 := f3.lt
    have lt_bk := bk.lt
    have lt_bk2 := bk2.lt
    have lt_f5 := f5.lt
    go_wp2_with fail
    clear lt_bm lt_bn lt_f1 lt_f3 lt_bk lt_bk2 lt_f5
    have hb := belowAlloc w15 (.cells #[.int .i64 N6, .int .i64 D6] 29)
    clear bm_0 bm_1 bn_0 bn_1 f1_0 f1_1 f3_0 f3_1 bk_0 bk_1 bk2_0 bk2_1 f5_0 f5_1
    replace bm := bm.later hb
    replace bn := bn.later hb
    replace f1 := f1.later hb
    replace f3 := f3.later hb
    replace bk := bk.later hb
    replace bk2 := bk2.later hb
    replace f5 := f5.later hb
    replace rx := rx.below hb
    replace ry := ry.below hb
    replace rz := rz.below hb
    replace bW := bW.thenB hb
    clear hb
    have f6 := VarInv.made w15 (N6) (.int .i64 D6) 29
    have z16 := f6.lt
    generalize hu16 : w15.alloc (.cells #[.int .i64 N6, .int .i64 D6] 29) = w16 at *
    clear hu16
    have bm_0 := bm.c0
    have bm_1 := bm.c1
    have bn_0 := bn.c0
    have bn_1 := bn.c1
    have f1_0 := f1.c0
    have f1_1 := f1.c1
    have f3_0 := f3.c0
    have f3_1 := f3.c1
    have bk_0 := bk.c0
    have bk_1 := bk.c1
    have bk2_0 := bk2.c0
    have bk2_1 := bk2.c1
    have f5_0 := f5.c0
    have f5_1 := f5.c1
    have f6_0 := f6.c0
    have f6_1 := f6.c1
    refine (HH7.out _).mono ?_
    rintro e w17 ⟨rfl, hb⟩
    clear bm_0 bm_1 bn_0 bn_1 f1_0 f1_1 f3_0 f3_1 bk_0 bk_1 bk2_0 bk2_1 f5_0 f5_1 f6_0 f6_1
    replace bm := bm.later hb
    replace bn := bn.later hb
    replace f1 := f1.later hb
    replace f3 := f3.later hb
    replace bk := bk.later hb
    replace bk2 := bk2.later hb
    replace f5 := f5.later hb
    replace f6 := f6.later hb
    replace rx := rx.below hb
    replace ry := ry.below hb
    replace rz := rz.below hb
    replace bW := bW.thenB hb
    have z17 := hb.size
    clear hb
    have bm_0 := bm.c0
    have bm_1 := bm.c1
    have bn_0 := bn.c0
    have bn_1 := bn.c1
    have f1_0 := f1.c0
    have f1_1 := f1.c1
    have f3_0 := f3.c0
    have f3_1 := f3.c1
    have bk_0 := bk.c0
    have bk_1 := bk.c1
    have bk2_0 := bk2.c0
    have bk2_1 := bk2.c1
    have f5_0 := f5.c0
    have f5_1 := f5.c1
    have f6_0 := f6.c0
    have f6_1 := f6.c1
    have lt_bm := bm.lt
    have lt_bn := bn.lt
    have lt_f1 := f1.lt
    have lt_f3 := f3.lt
    have lt_bk := bk.lt
    have lt_bk2 := bk2.lt
    have lt_f5 := f5.lt
    have lt_f6 := f6.lt
    go_wp2
    clear lt_bm lt_bn lt_f1 lt_f3 lt_bk lt_bk2 lt_f5 lt_f6
    have hb := belowAlloc w17 (.cells #[.int .i64 N7, .int .i64 D7] 29)
    clear bm_0 bm_1 bn_0 bn_1 f1_0 f1_1 f3_0 f3_1 bk_0 bk_1 bk2_0 bk2_1 f5_0 f5_1 f6_0 f6_1
    replace bm := bm.later hb
    replace bn := bn.later hb
    replace f1 := f1.later hb
    replace f3 := f3.later hb
    replace bk := bk.later hb
    replace bk2 := bk2.later hb
    replace f5 := f5.later hb
    replace f6 := f6.later hb
    replace rx := rx.below hb
    replace ry := ry.below hb
    replace rz := rz.below hb
    replace bW := bW.thenB hb
    clear hb
    have f7 := VarInv.made w17 (N7) (.int .i64 D7) 29
    have z18 := f7.lt
    generalize hu18 : w17.alloc (.cells #[.int .i64 N7, .int .i64 D7] 29) = w18 at *
    clear hu18
    have bm_0 := bm.c0
    have bm_1 := bm.c1
    have bn_0 := bn.c0
    have bn_1 := bn.c1
    have f1_0 := f1.c0
    have f1_1 := f1.c1
    have f3_0 := f3.c0
    have f3_1 := f3.c1
    have bk_0 := bk.c0
    have bk_1 := bk.c1
    have bk2_0 := bk2.c0
    have bk2_1 := bk2.c1
    have f5_0 := f5.c0
    have f5_1 := f5.c1
    have f6_0 := f6.c0
    have f6_1 := f6.c1
    have f7_0 := f7.c0
    have f7_1 := f7.c1
    clear bk_0 bk_1
    clear bk
    clear bk2_0 bk2_1
    clear bk2
    clear f5_0 f5_1
    clear f5
    clear f6_0 f6_1
    clear f6
    clear rz
    go_wp2
    go_loopw [21] (fun i wz => ∃ a : Nat, a ≤ xs.length ∧ i = .int .i64 a ∧ Below w18.heap.size w18 wz) (fun i _ => xs.length - (intOf i).toNat)
    case atStart => exact ⟨0, Nat.zero_le _, rfl, Below.refl _ _⟩
    case round =>
      obtain ⟨a, ha, rfl, hba⟩ := hrel
      clear bm_0 bm_1 bn_0 bn_1 f1_0 f1_1 f3_0 f3_1 f7_0 f7_1
      replace bm := bm.later hba
      replace bn := bn.later hba
      replace f1 := f1.later hba
      replace f3 := f3.later hba
      replace f7 := f7.later hba
      replace rx := rx.below hba
      replace ry := ry.below hba
      replace bW := bW.thenB hba
      have z19 := hba.size
      have bm_0 := bm.c0
      have bm_1 := bm.c1
      have bn_0 := bn.c0
      have bn_1 := bn.c1
      have f1_0 := f1.c0
      have f1_1 := f1.c1
      have f3_0 := f3.c0
      have f3_1 := f3.c1
      have f7_0 := f7.c0
      have f7_1 := f7.c1
      by_cases hlta : a < xs.length
      · skip
        have hpt := HLAW.out.part a hlta
        obtain ⟨P1, hP1⟩ : ∃ N, N = psN s xs (a : Int) := ⟨_, rfl⟩
        obtain ⟨Q1, hQ1⟩ : ∃ N, N = psD s xs (a : Int) := ⟨_, rfl⟩
        obtain ⟨P2, hP2⟩ : ∃ N, N = psN s ys (a : Int) := ⟨_, rfl⟩
        obtain ⟨Q2, hQ2⟩ : ∃ N, N = psD s ys (a : Int) := ⟨_, rfl⟩
        obtain ⟨P3, hP3⟩ : ∃ N, N = mnN P2 Q2 := ⟨_, rfl⟩
        obtain ⟨Q3, hQ3⟩ : ∃ N, N = mnD P2 Q2 := ⟨_, rfl⟩
        obtain ⟨P4, hP4⟩ : ∃ N, N = adN P1 Q1 P3 Q3 := ⟨_, rfl⟩
        obtain ⟨Q4, hQ4⟩ : ∃ N, N = adD P1 Q1 P3 Q3 := ⟨_, rfl⟩
        obtain ⟨O4, hO4⟩ : ∃ N, N = adO P1 Q1 P3 Q3 := ⟨_, rfl⟩
        rw [← hP1, ← hQ1, ← hP2, ← hQ2, ← hP3, ← hQ3, ← hP4, ← hQ4, ← hO4] at hpt
        have hI1 := fun (w : World) (hx : Reads w p xs) => iPossibilityOf_any s p c xs (a : Int) w hx (by omega)
        have hI2 := fun (w : World) (hy : Reads w q ys) => iPossibilityOf_any s q d ys (a : Int) w hy (by omega)
        have hI3 := fun (w : World) => iMinus_any P2 Q2 w
        have hI4 := fun (w : World) => iAdd_any P1 Q1 P3 Q3 w
        rw [show fN (msB s xs (a : Int)) (possS (a : Int).toNat xs) (sumL xs) = P1 from hP1.symm, show fD (msB s xs (a : Int)) (possS (a : Int).toNat xs) (sumL xs) = Q1 from hQ1.symm] at hI1
        rw [show fN (msB s ys (a : Int)) (possS (a : Int).toNat ys) (sumL ys) = P2 from hP2.symm, show fD (msB s ys (a : Int)) (possS (a : Int).toNat ys) (sumL ys) = Q2 from hQ2.symm] at hI2
        rw [← hP3, ← hQ3] at hI3
        rw [show fN (twoF P1 Q1 P3 Q3) (P1 * Q3 + P3 * Q1) (Q1 * Q3) = P4 from hP4.symm, show fD (twoF P1 Q1 P3 Q3) (P1 * Q3 + P3 * Q1) (Q1 * Q3) = Q4 from hQ4.symm, show fOk (twoF P1 Q1 P3 Q3) (P1 * Q3 + P3 * Q1) (Q1 * Q3) = O4 from hO4.symm] at hI4
        have HI1 := Lib.hid hI1
        have HI2 := Lib.hid hI2
        have HI3 := Lib.hid hI3
        have HI4 := Lib.hid hI4
        have HPT := Lib.hid hpt
        clear hI1 hI2 hI3 hI4 hpt hP1 hQ1 hP2 hQ2 hP3 hQ3 hP4 hQ4 hO4
        go_wp2_with fail
        refine (HI1.out _ rx).mono ?_
        rintro e w20 ⟨rfl, hb⟩
        clear bm_0 bm_1 bn_0 bn_1 f1_0 f1_1 f3_0 f3_1 f7_0 f7_1
        replace bm := bm.later hb
        replace bn := bn.later hb
        replace f1 := f1.later hb
        replace f3 := f3.later hb
        replace f7 := f7.later hb
        replace rx := rx.below hb
        replace ry := ry.below hb
        replace bW := bW.thenB hb
        replace hba := hba.thenB hb
        have z20 := hb.size
        clear hb
        have bm_0 := bm.c0
        have bm_1 := bm.c1
        have bn_0 := bn.c0
        have bn_1 := bn.c1
        have f1_0 := f1.c0
        have f1_1 := f1.c1
        have f3_0 := f3.c0
        have f3_1 := f3.c1
        have f7_0 := f7.c0
        have f7_1 := f7.c1
        have lt_bm := bm.lt
        have lt_bn := bn.lt
        have lt_f1 := f1.lt
        have lt_f3 := f3.lt
        have lt_f7 := f7.lt
        go_wp2_with fail
        clear lt_bm lt_bn lt_f1 lt_f3 lt_f7
        have hb := belowAlloc w20 (.cells #[.int .i64 P1, .int .i64 Q1] 29)
        clear bm_0 bm_1 bn_0 bn_1 f1_0 f1_1 f3_0 f3_1 f7_0 f7_1
        replace bm := bm.later hb
        replace bn := bn.later hb
        replace f1 := f1.later hb
        replace f3 := f3.later hb
        replace f7 := f7.later hb
        replace rx := rx.below hb
        replace ry := ry.below hb
        replace bW := bW.thenB hb
        replace hba := hba.thenB hb
        clear hb
        have g1 := VarInv.made w20 (P1) (.int .i64 Q1) 29
        have z21 := g1.lt
        generalize hu21 : w20.alloc (.cells #[.int .i64 P1, .int .i64 Q1] 29) = w21 at *
        clear hu21
        have bm_0 := bm.c0
        have bm_1 := bm.c1
        have bn_0 := bn.c0
        have bn_1 := bn.c1
        have f1_0 := f1.c0
        have f1_1 := f1.c1
        have f3_0 := f3.c0
        have f3_1 := f3.c1
        have f7_0 := f7.c0
        have f7_1 := f7.c1
        have g1_0 := g1.c0
        have g1_1 := g1.c1
        refine (HI2.out _ ry).mono ?_
        rintro e w22 ⟨rfl, hb⟩
        clear bm_0 bm_1 bn_0 bn_1 f1_0 f1_1 f3_0 f3_1 f7_0 f7_1 g1_0 g1_1
        replace bm := bm.later hb
        replace bn := bn.later hb
        replace f1 := f1.later hb
        replace f3 := f3.later hb
        replace f7 := f7.later hb
        replace g1 := g1.later hb
        replace rx := rx.below hb
        replace ry := ry.below hb
        replace bW := bW.thenB hb
        replace hba := hba.thenB hb
        have z22 := hb.size
        clear hb
        have bm_0 := bm.c0
        have bm_1 := bm.c1
        have bn_0 := bn.c0
        have bn_1 := bn.c1
        have f1_0 := f1.c0
        have f1_1 := f1.c1
        have f3_0 := f3.c0
        have f3_1 := f3.c1
        have f7_0 := f7.c0
        have f7_1 := f7.c1
        have g1_0 := g1.c0
        have g1_1 := g1.c1
        have lt_bm := bm.lt
        have lt_bn := bn.lt
        have lt_f1 := f1.lt
        have lt_f3 := f3.lt
        have lt_f7 := f7.lt
        have lt_g1 := g1.lt
        go_wp2_with fail
        clear lt_bm lt_bn lt_f1 lt_f3 lt_f7 lt_g1
        have hb := belowAlloc w22 (.cells #[.int .i64 P2, .int .i64 Q2] 29)
        clear bm_0 bm_1 bn_0 bn_1 f1_0 f1_1 f3_0 f3_1 f7_0 f7_1 g1_0 g1_1
        replace bm := bm.later hb
        replace bn := bn.later hb
        replace f1 := f1.later hb
        replace f3 := f3.later hb
        replace f7 := f7.later hb
        replace g1 := g1.later hb
        replace rx := rx.below hb
        replace ry := ry.below hb
        replace bW := bW.thenB hb
        replace hba := hba.thenB hb
        clear hb
        have g2 := VarInv.made w22 (P2) (.int .i64 Q2) 29
        have z23 := g2.lt
        generalize hu23 : w22.alloc (.cells #[.int .i64 P2, .int .i64 Q2] 29) = w23 at *
        clear hu23
        have bm_0 := bm.c0
        have bm_1 := bm.c1
        have bn_0 := bn.c0
        have bn_1 := bn.c1
        have f1_0 := f1.c0
        have f1_1 := f1.c1
        have f3_0 := f3.c0
        have f3_1 := f3.c1
        have f7_0 := f7.c0
        have f7_1 := f7.c1
        have g1_0 := g1.c0
        have g1_1 := g1.c1
        have g2_0 := g2.c0
        have g2_1 := g2.c1
        refine (HI3.out _).mono ?_
        rintro e w24 ⟨rfl, hb⟩
        clear bm_0 bm_1 bn_0 bn_1 f1_0 f1_1 f3_0 f3_1 f7_0 f7_1 g1_0 g1_1 g2_0 g2_1
        replace bm := bm.later hb
        replace bn := bn.later hb
        replace f1 := f1.later hb
        replace f3 := f3.later hb
        replace f7 := f7.later hb
        replace g1 := g1.later hb
        replace g2 := g2.later hb
        replace rx := rx.below hb
        replace ry := ry.below hb
        replace bW := bW.thenB hb
        replace hba := hba.thenB hb
        have z24 := hb.size
        clear hb
        have bm_0 := bm.c0
        have bm_1 := bm.c1
        have bn_0 := bn.c0
        have bn_1 := bn.c1
        have f1_0 := f1.c0
        have f1_1 := f1.c1
        have f3_0 := f3.c0
        have f3_1 := f3.c1
        have f7_0 := f7.c0
        have f7_1 := f7.c1
        have g1_0 := g1.c0
        have g1_1 := g1.c1
        have g2_0 := g2.c0
        have g2_1 := g2.c1
        have lt_bm := bm.lt
        have lt_bn := bn.lt
        have lt_f1 := f1.lt
        have lt_f3 := f3.lt
        have lt_f7 := f7.lt
        have lt_g1 := g1.lt
        have lt_g2 := g2.lt
        go_wp2_with fail
        clear lt_bm lt_bn lt_f1 lt_f3 lt_f7 lt_g1 lt_g2
        have hb := belowAlloc w24 (.cells #[.int .i64 P3, .int .i64 Q3] 29)
        clear bm_0 bm_1 bn_0 bn_1 f1_0 f1_1 f3_0 f3_1 f7_0 f7_1 g1_0 g1_1 g2_0 g2_1
        replace bm := bm.later hb
        replace bn := bn.later hb
        replace f1 := f1.later hb
        replace f3 := f3.later hb
        replace f7 := f7.later hb
        replace g1 := g1.later hb
        replace g2 := g2.later hb
        replace rx := rx.below hb
        replace ry := ry.below hb
        replace bW := bW.thenB hb
        replace hba := hba.thenB hb
        clear hb
        have g3 := VarInv.made w24 (P3) (.int .i64 Q3) 29
        have z25 := g3.lt
        generalize hu25 : w24.alloc (.cells #[.int .i64 P3, .int .i64 Q3] 29) = w25 at *
        clear hu25
        have bm_0 := bm.c0
        have bm_1 := bm.c1
        have bn_0 := bn.c0
        have bn_1 := bn.c1
        have f1_0 := f1.c0
        have f1_1 := f1.c1
        have f3_0 := f3.c0
        have f3_1 := f3.c1
        have f7_0 := f7.c0
        have f7_1 := f7.c1
        have g1_0 := g1.c0
        have g1_1 := g1.c1
        have g2_0 := g2.c0
        have g2_1 := g2.c1
        have g3_0 := g3.c0
        have g3_1 := g3.c1
        refine (HI4.out _).mono ?_
        rintro e w26 ⟨rfl, hb⟩
        clear bm_0 bm_1 bn_0 bn_1 f1_0 f1_1 f3_0 f3_1 f7_0 f7_1 g1_0 g1_1 g2_0 g2_1 g3_0 g3_1
        replace bm := bm.later hb
        replace bn := bn.later hb
        replace f1 := f1.later hb
        replace f3 := f3.later hb
        replace f7 := f7.later hb
        replace g1 := g1.later hb
        replace g2 := g2.later hb
        replace g3 := g3.later hb
        replace rx := rx.below hb
        replace ry := ry.below hb
        replace bW := bW.thenB hb
        replace hba := hba.thenB hb
        have z26 := hb.size
        clear hb
        have bm_0 := bm.c0
        have bm_1 := bm.c1
        have bn_0 := bn.c0
        have bn_1 := bn.c1
        have f1_0 := f1.c0
        have f1_1 := f1.c1
        have f3_0 := f3.c0
        have f3_1 := f3.c1
        have f7_0 := f7.c0
        have f7_1 := f7.c1
        have g1_0 := g1.c0
        have g1_1 := g1.c1
        have g2_0 := g2.c0
        have g2_1 := g2.c1
        have g3_0 := g3.c0
        have g3_1 := g3.c1
        cases O4
        · skip
          have lt_bm := bm.lt
          have lt_bn := bn.lt
          have lt_f1 := f1.lt
          have lt_f3 := f3.lt
          have lt_f7 := f7.lt
          have lt_g1 := g1.lt
          have lt_g2 := g2.lt
          have lt_g3 := g3.lt
          go_wp2
          clear lt_bm lt_bn lt_f1 lt_f3 lt_f7 lt_g1 lt_g2 lt_g3
          have hb := belowAlloc w26 (.cells #[.int .i64 P4, .int .i64 Q4] 29)
          clear bm_0 bm_1 bn_0 bn_1 f1_0 f1_1 f3_0 f3_1 f7_0 f7_1 g1_0 g1_1 g2_0 g2_1 g3_0 g3_1
          replace bm := bm.later hb
          replace bn := bn.later hb
          replace f1 := f1.later hb
          replace f3 := f3.later hb
          replace f7 := f7.later hb
          replace g1 := g1.later hb
          replace g2 := g2.later hb
          replace g3 := g3.later hb
          replace rx := rx.below hb
          replace ry := ry.below hb
          replace bW := bW.thenB hb
          replace hba := hba.thenB hb
          clear hb
          have g4 := VarInv.made w26 (P4) (.int .i64 Q4) 29
          have z27 := g4.lt
          generalize hu27 : w26.alloc (.cells #[.int .i64 P4, .int .i64 Q4] 29) = w27 at *
          clear hu27
          have bm_0 := bm.c0
          have bm_1 := bm.c1
          have bn_0 := bn.c0
          have bn_1 := bn.c1
          have f1_0 := f1.c0
          have f1_1 := f1.c1
          have f3_0 := f3.c0
          have f3_1 := f3.c1
          have f7_0 := f7.c0
          have f7_1 := f7.c1
          have g1_0 := g1.c0
          have g1_1 := g1.c1
          have g2_0 := g2.c0
          have g2_1 := g2.c1
          have g3_0 := g3.c0
          have g3_1 := g3.c1
          have g4_0 := g4.c0
          have g4_1 := g4.c1
          exact ⟨⟨a + 1, by omega, by go_num, hba⟩, by simp [intOf]; omega⟩
        · skip
          have lt_bm := bm.lt
          have lt_bn := bn.lt
          have lt_f1 := f1.lt
          have lt_f3 := f3.lt
          have lt_f7 := f7.lt
          have lt_g1 := g1.lt
          have lt_g2 := g2.lt
          have lt_g3 := g3.lt
          go_wp2_with fail
          clear lt_bm lt_bn lt_f1 lt_f3 lt_f7 lt_g1 lt_g2 lt_g3
          have hb := belowAlloc w26 (.cells #[.int .i64 P4, .int .i64 Q4] 29)
          clear bm_0 bm_1 bn_0 bn_1 f1_0 f1_1 f3_0 f3_1 f7_0 f7_1 g1_0 g1_1 g2_0 g2_1 g3_0 g3_1
          replace bm := bm.later hb
          replace bn := bn.later hb
          replace f1 := f1.later hb
          replace f3 := f3.later hb
          replace f7 := f7.later hb
          replace g1 := g1.later hb
          replace g2 := g2.later hb
          replace g3 := g3.later hb
          replace rx := rx.below hb
          replace ry := ry.below hb
          replace bW := bW.thenB hb
          replace hba := hba.thenB hb
          clear hb
          have g4 := VarInv.made w26 (P4) (.int .i64 Q4) 29
          have z27 := g4.lt
          generalize hu27 : w26.alloc (.cells #[.int .i64 P4, .int .i64 Q4] 29) = w27 at *
          clear hu27
          have bm_0 := bm.c0
          have bm_1 := bm.c1
          have bn_0 := bn.c0
          have bn_1 := bn.c1
          have f1_0 := f1.c0
          have f1_1 := f1.c1
          have f3_0 := f3.c0
          have f3_1 := f3.c1
          have f7_0 := f7.c0
          have f7_1 := f7.c1
          have g1_0 := g1.c0
          have g1_1 := g1.c1
          have g2_0 := g2.c0
          have g2_1 := g2.c1
          have g3_0 := g3.c0
          have g3_1 := g3.c1
          have g4_0 := g4.c0
          have g4_1 := g4.c1
          refine (iLess_any N D P4 Q4 _).mono ?_
          rintro e w28 ⟨rfl, hb⟩
          clear bm_0 bm_1 bn_0 bn_1 f1_0 f1_1 f3_0 f3_1 f7_0 f7_1 g1_0 g1_1 g2_0 g2_1 g3_0 g3_1 g4_0 g4_1
          replace bm := bm.later hb
          replace bn := bn.later hb
          replace f1 := f1.later hb
          replace f3 := f3.later hb
          replace f7 := f7.later hb
          replace g1 := g1.later hb
          replace g2 := g2.later hb
          replace g3 := g3.later hb
          replace g4 := g4.later hb
          replace rx := rx.below hb
          replace ry := ry.below hb
          replace bW := bW.thenB hb
          replace hba := hba.thenB hb
          have z28 := hb.size
          clear hb
          have bm_0 := bm.c0
          have bm_1 := bm.c1
          have bn_0 := bn.c0
          have bn_1 := bn.c1
          have f1_0 := f1.c0
          have f1_1 := f1.c1
          have f3_0 := f3.c0
          have f3_1 := f3.c1
          have f7_0 := f7.c0
          have f7_1 := f7.c1
          have g1_0 := g1.c0
          have g1_1 := g1.c1
          have g2_0 := g2.c0
          have g2_1 := g2.c1
          have g3_0 := g3.c0
          have g3_1 := g3.c1
          have g4_0 := g4.c0
          have g4_1 := g4.c1
          first | rw [HPT.out rfl] | rw [HPT.out trivial]
          go_wp2
          exact ⟨⟨a + 1, by omega, by go_num, hba⟩, by simp [intOf]; omega⟩
      · skip
        by_cases hxy : xs = ys
        · have hn0 : (N == 0) = true := by rw [HLAW.out.zero.2 hxy]; rfl
          have hwq := fun (w : World) (hx : Reads w p xs) (hy : Reads w q ys) => weEqual_any s s p q c d xs ys w hx hy (by omega) (by omega)
          rw [show (decide (s = s) && sameB xs ys) = true by simp [sameB, hxy]] at hwq
          have WQ := hwq
          clear hwq hxy
          have LS := fun (w : World) => iLess_any N7 D7 N D w
          cases O5
          all_goals cases O6
          all_goals cases O7
          · skip
            go_wp2
            have q0 := fun x : LaterW wr.heap.size wr => x.cell bm.lt bm_0
            have q1 := fun x : LaterW wr.heap.size wr => x.cell bm.lt bm_1
            have q2 := fun x : LaterW wr.heap.size wr => x.cell bn.lt bn_0
            have q3 := fun x : LaterW wr.heap.size wr => x.cell bn.lt bn_1
            have q4 := fun x : LaterW wr.heap.size wr => x.cell f1.lt f1_0
            have q5 := fun x : LaterW wr.heap.size wr => x.cell f1.lt f1_1
            have q6 := fun x : LaterW wr.heap.size wr => x.cell f3.lt f3_0
            have q7 := fun x : LaterW wr.heap.size wr => x.cell f3.lt f3_1
            have q8 := fun x : LaterW wr.heap.size wr => x.cell f7.lt f7_0
            have q9 := fun x : LaterW wr.heap.size wr => x.cell f7.lt f7_1
            refine wp_region_later (by kernel_rfl) (by kernel_rfl) ?_
            repeat (go_big_quiet_step ((first | (go_at_call 25; exact LaterW.call (WQ _ (LaterW.reads _ (by assumption)) (LaterW.reads _ (by assumption)))) | (go_at_call 19; exact LaterW.call (LS _)))))
            refine wpQuiet_nil ?_
            intro _ hw'
            obtain ⟨x, rfl⟩ := hw'
            have hb := x.below
            clear q0 q1 q2 q3 q4 q5 q6 q7 q8 q9
            generalize x.w = w20 at *
            clear bm_0 bm_1 bn_0 bn_1 f1_0 f1_1 f3_0 f3_1 f7_0 f7_1
            replace bm := bm.later hb
            replace bn := bn.later hb
            replace f1 := f1.later hb
            replace f3 := f3.later hb
            replace f7 := f7.later hb
            replace rx := rx.below hb
            replace ry := ry.below hb
            replace bW := bW.thenB hb
            replace hba := hba.thenB hb
            have z20 := hb.size
            clear hb
            have bm_0 := bm.c0
            have bm_1 := bm.c1
            have bn_0 := bn.c0
            have bn_1 := bn.c1
            have f1_0 := f1.c0
            have f1_1 := f1.c1
            have f3_0 := f3.c0
            have f3_1 := f3.c1
            have f7_0 := f7.c0
            have f7_1 := f7.c1
            go_wp2
            go_ret
            exact ⟨rfl, bW⟩
          · skip
            go_wp2
            have q0 := fun x : LaterW wr.heap.size wr => x.cell bm.lt bm_0
            have q1 := fun x : LaterW wr.heap.size wr => x.cell bm.lt bm_1
            have q2 := fun x : LaterW wr.heap.size wr => x.cell bn.lt bn_0
            have q3 := fun x : LaterW wr.heap.size wr => x.cell bn.lt bn_1
            have q4 := fun x : LaterW wr.heap.size wr => x.cell f1.lt f1_0
            have q5 := fun x : LaterW wr.heap.size wr => x.cell f1.lt f1_1
            have q6 := fun x : LaterW wr.heap.size wr => x.cell f3.lt f3_0
            have q7 := fun x : LaterW wr.heap.size wr => x.cell f3.lt f3_1
            have q8 := fun x : LaterW wr.heap.size wr => x.cell f7.lt f7_0
            have q9 := fun x : LaterW wr.heap.size wr => x.cell f7.lt f7_1
            refine wp_region_later (by kernel_rfl) (by kernel_rfl) ?_
            repeat (go_big_quiet_step ((first | (go_at_call 25; exact LaterW.call (WQ _ (LaterW.reads _ (by assumption)) (LaterW.reads _ (by assumption)))) | (go_at_call 19; exact LaterW.call (LS _)))))
            refine wpQuiet_nil ?_
            intro _ hw'
            obtain ⟨x, rfl⟩ := hw'
            have hb := x.below
            clear q0 q1 q2 q3 q4 q5 q6 q7 q8 q9
            generalize x.w = w20 at *
            clear bm_0 bm_1 bn_0 bn_1 f1_0 f1_1 f3_0 f3_1 f7_0 f7_1
            replace bm := bm.later hb
            replace bn := bn.later hb
            replace f1 := f1.later hb
            replace f3 := f3.later hb
            replace f7 := f7.later hb
            replace rx := rx.below hb
            replace ry := ry.below hb
            replace bW := bW.thenB hb
            replace hba := hba.thenB hb
            have z20 := hb.size
            clear hb
            have bm_0 := bm.c0
            have bm_1 := bm.c1
            have bn_0 := bn.c0
            have bn_1 := bn.c1
            have f1_0 := f1.c0
            have f1_1 := f1.c1
            have f3_0 := f3.c0
            have f3_1 := f3.c1
            have f7_0 := f7.c0
            have f7_1 := f7.c1
            go_wp2
            go_ret
            exact ⟨rfl, bW⟩
          · skip
            go_wp2
            have q0 := fun x : LaterW wr.heap.size wr => x.cell bm.lt bm_0
            have q1 := fun x : LaterW wr.heap.size wr => x.cell bm.lt bm_1
            have q2 := fun x : LaterW wr.heap.size wr => x.cell bn.lt bn_0
            have q3 := fun x : LaterW wr.heap.size wr => x.cell bn.lt bn_1
            have q4 := fun x : LaterW wr.heap.size wr => x.cell f1.lt f1_0
            have q5 := fun x : LaterW wr.heap.size wr => x.cell f1.lt f1_1
            have q6 := fun x : LaterW wr.heap.size wr => x.cell f3.lt f3_0
            have q7 := fun x : LaterW wr.heap.size wr => x.cell f3.lt f3_1
            have q8 := fun x : LaterW wr.heap.size wr => x.cell f7.lt f7_0
            have q9 := fun x : LaterW wr.heap.size wr => x.cell f7.lt f7_1
            refine wp_region_later (by kernel_rfl) (by kernel_rfl) ?_
            repeat (go_big_quiet_step ((first | (go_at_call 25; exact LaterW.call (WQ _ (LaterW.reads _ (by assumption)) (LaterW.reads _ (by assumption)))) | (go_at_call 19; exact LaterW.call (LS _)))))
            refine wpQuiet_nil ?_
            intro _ hw'
            obtain ⟨x, rfl⟩ := hw'
            have hb := x.below
            clear q0 q1 q2 q3 q4 q5 q6 q7 q8 q9
            generalize x.w = w20 at *
            clear bm_0 bm_1 bn_0 bn_1 f1_0 f1_1 f3_0 f3_1 f7_0 f7_1
            replace bm := bm.later hb
            replace bn := bn.later hb
            replace f1 := f1.later hb
            replace f3 := f3.later hb
            replace f7 := f7.later hb
            replace rx := rx.below hb
            replace ry := ry.below hb
            replace bW := bW.thenB hb
            replace hba := hba.thenB hb
            have z20 := hb.size
            clear hb
            have bm_0 := bm.c0
            have bm_1 := bm.c1
            have bn_0 := bn.c0
            have bn_1 := bn.c1
            have f1_0 := f1.c0
            have f1_1 := f1.c1
            have f3_0 := f3.c0
            have f3_1 := f3.c1
            have f7_0 := f7.c0
            have f7_1 := f7.c1
            go_wp2
            go_ret
            exact ⟨rfl, bW⟩
          · skip
            go_wp2
            have q0 := fun x : LaterW wr.heap.size wr => x.cell bm.lt bm_0
            have q1 := fun x : LaterW wr.heap.size wr => x.cell bm.lt bm_1
            have q2 := fun x : LaterW wr.heap.size wr => x.cell bn.lt bn_0
            have q3 := fun x : LaterW wr.heap.size wr => x.cell bn.lt bn_1
            have q4 := fun x : LaterW wr.heap.size wr => x.cell f1.lt f1_0
            have q5 := fun x : LaterW wr.heap.size wr => x.cell f1.lt f1_1
            have q6 := fun x : LaterW wr.heap.size wr => x.cell f3.lt f3_0
            have q7 := fun x : LaterW wr.heap.size wr => x.cell f3.lt f3_1
            have q8 := fun x : LaterW wr.heap.size wr => x.cell f7.lt f7_0
            have q9 := fun x : LaterW wr.heap.size wr => x.cell f7.lt f7_1
            refine wp_region_later (by kernel_rfl) (by kernel_rfl) ?_
            repeat (go_big_quiet_step ((first | (go_at_call 25; exact LaterW.call (WQ _ (LaterW.reads _ (by assumption)) (LaterW.reads _ (by assumption)))) | (go_at_call 19; exact LaterW.call (LS _)))))
            refine wpQuiet_nil ?_
            intro _ hw'
            obtain ⟨x, rfl⟩ := hw'
            have hb := x.below
            clear q0 q1 q2 q3 q4 q5 q6 q7 q8 q9
            generalize x.w = w20 at *
            clear bm_0 bm_1 bn_0 bn_1 f1_0 f1_1 f3_0 f3_1 f7_0 f7_1
            replace bm := bm.later hb
            replace bn := bn.later hb
            replace f1 := f1.later hb
            replace f3 := f3.later hb
            replace f7 := f7.later hb
            replace rx := rx.below hb
            replace ry := ry.below hb
            replace bW := bW.thenB hb
            replace hba := hba.thenB hb
            have z20 := hb.size
            clear hb
            have bm_0 := bm.c0
            have bm_1 := bm.c1
            have bn_0 := bn.c0
            have bn_1 := bn.c1
            have f1_0 := f1.c0
            have f1_1 := f1.c1
            have f3_0 := f3.c0
            have f3_1 := f3.c1
            have f7_0 := f7.c0
            have f7_1 := f7.c1
            go_wp2
            go_ret
            exact ⟨rfl, bW⟩
          · skip
            go_wp2
            have q0 := fun x : LaterW wr.heap.size wr => x.cell bm.lt bm_0
            have q1 := fun x : LaterW wr.heap.size wr => x.cell bm.lt bm_1
            have q2 := fun x : LaterW wr.heap.size wr => x.cell bn.lt bn_0
            have q3 := fun x : LaterW wr.heap.size wr => x.cell bn.lt bn_1
            have q4 := fun x : LaterW wr.heap.size wr => x.cell f1.lt f1_0
            have q5 := fun x : LaterW wr.heap.size wr => x.cell f1.lt f1_1
            have q6 := fun x : LaterW wr.heap.size wr => x.cell f3.lt f3_0
            have q7 := fun x : LaterW wr.heap.size wr => x.cell f3.lt f3_1
            have q8 := fun x : LaterW wr.heap.size wr => x.cell f7.lt f7_0
            have q9 := fun x : LaterW wr.heap.size wr => x.cell f7.lt f7_1
            refine wp_region_later (by kernel_rfl) (by kernel_rfl) ?_
            repeat (go_big_quiet_step ((first | (go_at_call 25; exact LaterW.call (WQ _ (LaterW.reads _ (by assumption)) (LaterW.reads _ (by assumption)))) | (go_at_call 19; exact LaterW.call (LS _)))))
            refine wpQuiet_nil ?_
            intro _ hw'
            obtain ⟨x, rfl⟩ := hw'
            have hb := x.below
            clear q0 q1 q2 q3 q4 q5 q6 q7 q8 q9
            generalize x.w = w20 at *
            clear bm_0 bm_1 bn_0 bn_1 f1_0 f1_1 f3_0 f3_1 f7_0 f7_1
            replace bm := bm.later hb
            replace bn := bn.later hb
            replace f1 := f1.later hb
            replace f3 := f3.later hb
            replace f7 := f7.later hb
            replace rx := rx.below hb
            replace ry := ry.below hb
            replace bW := bW.thenB hb
            replace hba := hba.thenB hb
            have z20 := hb.size
            clear hb
            have bm_0 := bm.c0
            have bm_1 := bm.c1
            have bn_0 := bn.c0
            have bn_1 := bn.c1
            have f1_0 := f1.c0
            have f1_1 := f1.c1
            have f3_0 := f3.c0
            have f3_1 := f3.c1
            have f7_0 := f7.c0
            have f7_1 := f7.c1
            go_wp2
            go_ret
            exact ⟨rfl, bW⟩
          · skip
            go_wp2
            have q0 := fun x : LaterW wr.heap.size wr => x.cell bm.lt bm_0
            have q1 := fun x : LaterW wr.heap.size wr => x.cell bm.lt bm_1
            have q2 := fun x : LaterW wr.heap.size wr => x.cell bn.lt bn_0
            have q3 := fun x : LaterW wr.heap.size wr => x.cell bn.lt bn_1
            have q4 := fun x : LaterW wr.heap.size wr => x.cell f1.lt f1_0
            have q5 := fun x : LaterW wr.heap.size wr => x.cell f1.lt f1_1
            have q6 := fun x : LaterW wr.heap.size wr => x.cell f3.lt f3_0
            have q7 := fun x : LaterW wr.heap.size wr => x.cell f3.lt f3_1
            have q8 := fun x : LaterW wr.heap.size wr => x.cell f7.lt f7_0
            have q9 := fun x : LaterW wr.heap.size wr => x.cell f7.lt f7_1
            refine wp_region_later (by kernel_rfl) (by kernel_rfl) ?_
            repeat (go_big_quiet_step ((first | (go_at_call 25; exact LaterW.call (WQ _ (LaterW.reads _ (by assumption)) (LaterW.reads _ (by assumption)))) | (go_at_call 19; exact LaterW.call (LS _)))))
            refine wpQuiet_nil ?_
            intro _ hw'
            obtain ⟨x, rfl⟩ := hw'
            have hb := x.below
            clear q0 q1 q2 q3 q4 q5 q6 q7 q8 q9
            generalize x.w = w20 at *
            clear bm_0 bm_1 bn_0 bn_1 f1_0 f1_1 f3_0 f3_1 f7_0 f7_1
            replace bm := bm.later hb
            replace bn := bn.later hb
            replace f1 := f1.later hb
            replace f3 := f3.later hb
            replace f7 := f7.later hb
            replace rx := rx.below hb
            replace ry := ry.below hb
            replace bW := bW.thenB hb
            replace hba := hba.thenB hb
            have z20 := hb.size
            clear hb
            have bm_0 := bm.c0
            have bm_1 := bm.c1
            have bn_0 := bn.c0
            have bn_1 := bn.c1
            have f1_0 := f1.c0
            have f1_1 := f1.c1
            have f3_0 := f3.c0
            have f3_1 := f3.c1
            have f7_0 := f7.c0
            have f7_1 := f7.c1
            go_wp2
            go_ret
            exact ⟨rfl, bW⟩
          · skip
            go_wp2
            have q0 := fun x : LaterW wr.heap.size wr => x.cell bm.lt bm_0
            have q1 := fun x : LaterW wr.heap.size wr => x.cell bm.lt bm_1
            have q2 := fun x : LaterW wr.heap.size wr => x.cell bn.lt bn_0
            have q3 := fun x : LaterW wr.heap.size wr => x.cell bn.lt bn_1
            have q4 := fun x : LaterW wr.heap.size wr => x.cell f1.lt f1_0
            have q5 := fun x : LaterW wr.heap.size wr => x.cell f1.lt f1_1
            have q6 := fun x : LaterW wr.heap.size wr => x.cell f3.lt f3_0
            have q7 := fun x : LaterW wr.heap.size wr => x.cell f3.lt f3_1
            have q8 := fun x : LaterW wr.heap.size wr => x.cell f7.lt f7_0
            have q9 := fun x : LaterW wr.heap.size wr => x.cell f7.lt f7_1
            refine wp_region_later (by kernel_rfl) (by kernel_rfl) ?_
            repeat (go_big_quiet_step ((first | (go_at_call 25; exact LaterW.call (WQ _ (LaterW.reads _ (by assumption)) (LaterW.reads _ (by assumption)))) | (go_at_call 19; exact LaterW.call (LS _)))))
            refine wpQuiet_nil ?_
            intro _ hw'
            obtain ⟨x, rfl⟩ := hw'
            have hb := x.below
            clear q0 q1 q2 q3 q4 q5 q6 q7 q8 q9
            generalize x.w = w20 at *
            clear bm_0 bm_1 bn_0 bn_1 f1_0 f1_1 f3_0 f3_1 f7_0 f7_1
            replace bm := bm.later hb
            replace bn := bn.later hb
            replace f1 := f1.later hb
            replace f3 := f3.later hb
            replace f7 := f7.later hb
            replace rx := rx.below hb
            replace ry := ry.below hb
            replace bW := bW.thenB hb
            replace hba := hba.thenB hb
            have z20 := hb.size
            clear hb
            have bm_0 := bm.c0
            have bm_1 := bm.c1
            have bn_0 := bn.c0
            have bn_1 := bn.c1
            have f1_0 := f1.c0
            have f1_1 := f1.c1
            have f3_0 := f3.c0
            have f3_1 := f3.c1
            have f7_0 := f7.c0
            have f7_1 := f7.c1
            go_wp2
            go_ret
            exact ⟨rfl, bW⟩
          · skip
            simp only [HTRI.out rfl rfl rfl] at LS
            go_wp2
            have q0 := fun x : LaterW wr.heap.size wr => x.cell bm.lt bm_0
            have q1 := fun x : LaterW wr.heap.size wr => x.cell bm.lt bm_1
            have q2 := fun x : LaterW wr.heap.size wr => x.cell bn.lt bn_0
            have q3 := fun x : LaterW wr.heap.size wr => x.cell bn.lt bn_1
            have q4 := fun x : LaterW wr.heap.size wr => x.cell f1.lt f1_0
            have q5 := fun x : LaterW wr.heap.size wr => x.cell f1.lt f1_1
            have q6 := fun x : LaterW wr.heap.size wr => x.cell f3.lt f3_0
            have q7 := fun x : LaterW wr.heap.size wr => x.cell f3.lt f3_1
            have q8 := fun x : LaterW wr.heap.size wr => x.cell f7.lt f7_0
            have q9 := fun x : LaterW wr.heap.size wr => x.cell f7.lt f7_1
            refine wp_region_later (by kernel_rfl) (by kernel_rfl) ?_
            repeat (go_big_quiet_step ((first | (go_at_call 25; exact LaterW.call (WQ _ (LaterW.reads _ (by assumption)) (LaterW.reads _ (by assumption)))) | (go_at_call 19; exact LaterW.call (LS _)))))
            refine wpQuiet_nil ?_
            intro _ hw'
            obtain ⟨x, rfl⟩ := hw'
            have hb := x.below
            clear q0 q1 q2 q3 q4 q5 q6 q7 q8 q9
            generalize x.w = w20 at *
            clear bm_0 bm_1 bn_0 bn_1 f1_0 f1_1 f3_0 f3_1 f7_0 f7_1
            replace bm := bm.later hb
            replace bn := bn.later hb
            replace f1 := f1.later hb
            replace f3 := f3.later hb
            replace f7 := f7.later hb
            replace rx := rx.below hb
            replace ry := ry.below hb
            replace bW := bW.thenB hb
            replace hba := hba.thenB hb
            have z20 := hb.size
            clear hb
            have bm_0 := bm.c0
            have bm_1 := bm.c1
            have bn_0 := bn.c0
            have bn_1 := bn.c1
            have f1_0 := f1.c0
            have f1_1 := f1.c1
            have f3_0 := f3.c0
            have f3_1 := f3.c1
            have f7_0 := f7.c0
            have f7_1 := f7.c1
            go_wp2
            go_ret
            exact ⟨rfl, bW⟩
        · have hn0 : (N == 0) = false := by
            have : N ≠ 0 := fun h => hxy (HLAW.out.zero.1 h)
            simp [this]
          have hwq := fun (w : World) (hx : Reads w p xs) (hy : Reads w q ys) => weEqual_any s s p q c d xs ys w hx hy (by omega) (by omega)
          rw [show (decide (s = s) && sameB xs ys) = false by simp [sameB, hxy]] at hwq
          have WQ := hwq
          clear hwq hxy
          have LS := fun (w : World) => iLess_any N7 D7 N D w
          cases O5
          all_goals cases O6
          all_goals cases O7
          · skip
            go_wp2
            have q0 := fun x : LaterW wr.heap.size wr => x.cell bm.lt bm_0
            have q1 := fun x : LaterW wr.heap.size wr => x.cell bm.lt bm_1
            have q2 := fun x : LaterW wr.heap.size wr => x.cell bn.lt bn_0
            have q3 := fun x : LaterW wr.heap.size wr => x.cell bn.lt bn_1
            have q4 := fun x : LaterW wr.heap.size wr => x.cell f1.lt f1_0
            have q5 := fun x : LaterW wr.heap.size wr => x.cell f1.lt f1_1
            have q6 := fun x : LaterW wr.heap.size wr => x.cell f3.lt f3_0
            have q7 := fun x : LaterW wr.heap.size wr => x.cell f3.lt f3_1
            have q8 := fun x : LaterW wr.heap.size wr => x.cell f7.lt f7_0
            have q9 := fun x : LaterW wr.heap.size wr => x.cell f7.lt f7_1
            refine wp_region_later (by kernel_rfl) (by kernel_rfl) ?_
            repeat (go_big_quiet_step ((first | (go_at_call 25; exact LaterW.call (WQ _ (LaterW.reads _ (by assumption)) (LaterW.reads _ (by assumption)))) | (go_at_call 19; exact LaterW.call (LS _)))))
            refine wpQuiet_nil ?_
            intro _ hw'
            obtain ⟨x, rfl⟩ := hw'
            have hb := x.below
            clear q0 q1 q2 q3 q4 q5 q6 q7 q8 q9
            generalize x.w = w20 at *
            clear bm_0 bm_1 bn_0 bn_1 f1_0 f1_1 f3_0 f3_1 f7_0 f7_1
            replace bm := bm.later hb
            replace bn := bn.later hb
            replace f1 := f1.later hb
            replace f3 := f3.later hb
            replace f7 := f7.later hb
            replace rx := rx.below hb
            replace ry := ry.below hb
            replace bW := bW.thenB hb
            replace hba := hba.thenB hb
            have z20 := hb.size
            clear hb
            have bm_0 := bm.c0
            have bm_1 := bm.c1
            have bn_0 := bn.c0
            have bn_1 := bn.c1
            have f1_0 := f1.c0
            have f1_1 := f1.c1
            have f3_0 := f3.c0
            have f3_1 := f3.c1
            have f7_0 := f7.c0
            have f7_1 := f7.c1
            go_wp2
            go_ret
            exact ⟨rfl, bW⟩
          · skip
            go_wp2
            have q0 := fun x : LaterW wr.heap.size wr => x.cell bm.lt bm_0
            have q1 := fun x : LaterW wr.heap.size wr => x.cell bm.lt bm_1
            have q2 := fun x : LaterW wr.heap.size wr => x.cell bn.lt bn_0
            have q3 := fun x : LaterW wr.heap.size wr => x.cell bn.lt bn_1
            have q4 := fun x : LaterW wr.heap.size wr => x.cell f1.lt f1_0
            have q5 := fun x : LaterW wr.heap.size wr => x.cell f1.lt f1_1
            have q6 := fun x : LaterW wr.heap.size wr => x.cell f3.lt f3_0
            have q7 := fun x : LaterW wr.heap.size wr => x.cell f3.lt f3_1
            have q8 := fun x : LaterW wr.heap.size wr => x.cell f7.lt f7_0
            have q9 := fun x : LaterW wr.heap.size wr => x.cell f7.lt f7_1
            refine wp_region_later (by kernel_rfl) (by kernel_rfl) ?_
            repeat (go_big_quiet_step ((first | (go_at_call 25; exact LaterW.call (WQ _ (LaterW.reads _ (by assumption)) (LaterW.reads _ (by assumption)))) | (go_at_call 19; exact LaterW.call (LS _)))))
            refine wpQuiet_nil ?_
            intro _ hw'
            obtain ⟨x, rfl⟩ := hw'
            have hb := x.below
            clear q0 q1 q2 q3 q4 q5 q6 q7 q8 q9
            generalize x.w = w20 at *
            clear bm_0 bm_1 bn_0 bn_1 f1_0 f1_1 f3_0 f3_1 f7_0 f7_1
            replace bm := bm.later hb
            replace bn := bn.later hb
            replace f1 := f1.later hb
            replace f3 := f3.later hb
            replace f7 := f7.later hb
            replace rx := rx.below hb
            replace ry := ry.below hb
            replace bW := bW.thenB hb
            replace hba := hba.thenB hb
            have z20 := hb.size
            clear hb
            have bm_0 := bm.c0
            have bm_1 := bm.c1
            have bn_0 := bn.c0
            have bn_1 := bn.c1
            have f1_0 := f1.c0
            have f1_1 := f1.c1
            have f3_0 := f3.c0
            have f3_1 := f3.c1
            have f7_0 := f7.c0
            have f7_1 := f7.c1
            go_wp2
            go_ret
            exact ⟨rfl, bW⟩
          · skip
            go_wp2
            have q0 := fun x : LaterW wr.heap.size wr => x.cell bm.lt bm_0
            have q1 := fun x : LaterW wr.heap.size wr => x.cell bm.lt bm_1
            have q2 := fun x : LaterW wr.heap.size wr => x.cell bn.lt bn_0
            have q3 := fun x : LaterW wr.heap.size wr => x.cell bn.lt bn_1
            have q4 := fun x : LaterW wr.heap.size wr => x.cell f1.lt f1_0
            have q5 := fun x : LaterW wr.heap.size wr => x.cell f1.lt f1_1
            have q6 := fun x : LaterW wr.heap.size wr => x.cell f3.lt f3_0
            have q7 := fun x : LaterW wr.heap.size wr => x.cell f3.lt f3_1
            have q8 := fun x : LaterW wr.heap.size wr => x.cell f7.lt f7_0
            have q9 := fun x : LaterW wr.heap.size wr => x.cell f7.lt f7_1
            refine wp_region_later (by kernel_rfl) (by kernel_rfl) ?_
            repeat (go_big_quiet_step ((first | (go_at_call 25; exact LaterW.call (WQ _ (LaterW.reads _ (by assumption)) (LaterW.reads _ (by assumption)))) | (go_at_call 19; exact LaterW.call (LS _)))))
            refine wpQuiet_nil ?_
            intro _ hw'
            obtain ⟨x, rfl⟩ := hw'
            have hb := x.below
            clear q0 q1 q2 q3 q4 q5 q6 q7 q8 q9
            generalize x.w = w20 at *
            clear bm_0 bm_1 bn_0 bn_1 f1_0 f1_1 f3_0 f3_1 f7_0 f7_1
            replace bm := bm.later hb
            replace bn := bn.later hb
            replace f1 := f1.later hb
            replace f3 := f3.later hb
            replace f7 := f7.later hb
            replace rx := rx.below hb
            replace ry := ry.below hb
            replace bW := bW.thenB hb
            replace hba := hba.thenB hb
            have z20 := hb.size
            clear hb
            have bm_0 := bm.c0
            have bm_1 := bm.c1
            have bn_0 := bn.c0
            have bn_1 := bn.c1
            have f1_0 := f1.c0
            have f1_1 := f1.c1
            have f3_0 := f3.c0
            have f3_1 := f3.c1
            have f7_0 := f7.c0
            have f7_1 := f7.c1
            go_wp2
            go_ret
            exact ⟨rfl, bW⟩
          · skip
            go_wp2
            have q0 := fun x : LaterW wr.heap.size wr => x.cell bm.lt bm_0
            have q1 := fun x : LaterW wr.heap.size wr => x.cell bm.lt bm_1
            have q2 := fun x : LaterW wr.heap.size wr => x.cell bn.lt bn_0
            have q3 := fun x : LaterW wr.heap.size wr => x.cell bn.lt bn_1
            have q4 := fun x : LaterW wr.heap.size wr => x.cell f1.lt f1_0
            have q5 := fun x : LaterW wr.heap.size wr => x.cell f1.lt f1_1
            have q6 := fun x : LaterW wr.heap.size wr => x.cell f3.lt f3_0
            have q7 := fun x : LaterW wr.heap.size wr => x.cell f3.lt f3_1
            have q8 := fun x : LaterW wr.heap.size wr => x.cell f7.lt f7_0
            have q9 := fun x : LaterW wr.heap.size wr => x.cell f7.lt f7_1
            refine wp_region_later (by kernel_rfl) (by kernel_rfl) ?_
            repeat (go_big_quiet_step ((first | (go_at_call 25; exact LaterW.call (WQ _ (LaterW.reads _ (by assumption)) (LaterW.reads _ (by assumption)))) | (go_at_call 19; exact LaterW.call (LS _)))))
            refine wpQuiet_nil ?_
            intro _ hw'
            obtain ⟨x, rfl⟩ := hw'
            have hb := x.below
            clear q0 q1 q2 q3 q4 q5 q6 q7 q8 q9
            generalize x.w = w20 at *
            clear bm_0 bm_1 bn_0 bn_1 f1_0 f1_1 f3_0 f3_1 f7_0 f7_1
            replace bm := bm.later hb
            replace bn := bn.later hb
            replace f1 := f1.later hb
            replace f3 := f3.later hb
            replace f7 := f7.later hb
            replace rx := rx.below hb
            replace ry := ry.below hb
            replace bW := bW.thenB hb
            replace hba := hba.thenB hb
            have z20 := hb.size
            clear hb
            have bm_0 := bm.c0
            have bm_1 := bm.c1
            have bn_0 := bn.c0
            have bn_1 := bn.c1
            have f1_0 := f1.c0
            have f1_1 := f1.c1
            have f3_0 := f3.c0
            have f3_1 := f3.c1
            have f7_0 := f7.c0
            have f7_1 := f7.c1
            go_wp2
            go_ret
            exact ⟨rfl, bW⟩
          · skip
            go_wp2
            have q0 := fun x : LaterW wr.heap.size wr => x.cell bm.lt bm_0
            have q1 := fun x : LaterW wr.heap.size wr => x.cell bm.lt bm_1
            have q2 := fun x : LaterW wr.heap.size wr => x.cell bn.lt bn_0
            have q3 := fun x : LaterW wr.heap.size wr => x.cell bn.lt bn_1
            have q4 := fun x : LaterW wr.heap.size wr => x.cell f1.lt f1_0
            have q5 := fun x : LaterW wr.heap.size wr => x.cell f1.lt f1_1
            have q6 := fun x : LaterW wr.heap.size wr => x.cell f3.lt f3_0
            have q7 := fun x : LaterW wr.heap.size wr => x.cell f3.lt f3_1
            have q8 := fun x : LaterW wr.heap.size wr => x.cell f7.lt f7_0
            have q9 := fun x : LaterW wr.heap.size wr => x.cell f7.lt f7_1
            refine wp_region_later (by kernel_rfl) (by kernel_rfl) ?_
            repeat (go_big_quiet_step ((first | (go_at_call 25; exact LaterW.call (WQ _ (LaterW.reads _ (by assumption)) (LaterW.reads _ (by assumption)))) | (go_at_call 19; exact LaterW.call (LS _)))))
            refine wpQuiet_nil ?_
            intro _ hw'
            obtain ⟨x, rfl⟩ := hw'
            have hb := x.below
            clear q0 q1 q2 q3 q4 q5 q6 q7 q8 q9
            generalize x.w = w20 at *
            clear bm_0 bm_1 bn_0 bn_1 f1_0 f1_1 f3_0 f3_1 f7_0 f7_1
            replace bm := bm.later hb
            replace bn := bn.later hb
            replace f1 := f1.later hb
            replace f3 := f3.later hb
            replace f7 := f7.later hb
            replace rx := rx.below hb
            replace ry := ry.below hb
            replace bW := bW.thenB hb
            replace hba := hba.thenB hb
            have z20 := hb.size
            clear hb
            have bm_0 := bm.c0
            have bm_1 := bm.c1
            have bn_0 := bn.c0
            have bn_1 := bn.c1
            have f1_0 := f1.c0
            have f1_1 := f1.c1
            have f3_0 := f3.c0
            have f3_1 := f3.c1
            have f7_0 := f7.c0
            have f7_1 := f7.c1
            go_wp2
            go_ret
            exact ⟨rfl, bW⟩
          · skip
            go_wp2
            have q0 := fun x : LaterW wr.heap.size wr => x.cell bm.lt bm_0
            have q1 := fun x : LaterW wr.heap.size wr => x.cell bm.lt bm_1
            have q2 := fun x : LaterW wr.heap.size wr => x.cell bn.lt bn_0
            have q3 := fun x : LaterW wr.heap.size wr => x.cell bn.lt bn_1
            have q4 := fun x : LaterW wr.heap.size wr => x.cell f1.lt f1_0
            have q5 := fun x : LaterW wr.heap.size wr => x.cell f1.lt f1_1
            have q6 := fun x : LaterW wr.heap.size wr => x.cell f3.lt f3_0
            have q7 := fun x : LaterW wr.heap.size wr => x.cell f3.lt f3_1
            have q8 := fun x : LaterW wr.heap.size wr => x.cell f7.lt f7_0
            have q9 := fun x : LaterW wr.heap.size wr => x.cell f7.lt f7_1
            refine wp_region_later (by kernel_rfl) (by kernel_rfl) ?_
            repeat (go_big_quiet_step ((first | (go_at_call 25; exact LaterW.call (WQ _ (LaterW.reads _ (by assumption)) (LaterW.reads _ (by assumption)))) | (go_at_call 19; exact LaterW.call (LS _)))))
            refine wpQuiet_nil ?_
            intro _ hw'
            obtain ⟨x, rfl⟩ := hw'
            have hb := x.below
            clear q0 q1 q2 q3 q4 q5 q6 q7 q8 q9
            generalize x.w = w20 at *
            clear bm_0 bm_1 bn_0 bn_1 f1_0 f1_1 f3_0 f3_1 f7_0 f7_1
            replace bm := bm.later hb
            replace bn := bn.later hb
            replace f1 := f1.later hb
            replace f3 := f3.later hb
            replace f7 := f7.later hb
            replace rx := rx.below hb
            replace ry := ry.below hb
            replace bW := bW.thenB hb
            replace hba := hba.thenB hb
            have z20 := hb.size
            clear hb
            have bm_0 := bm.c0
            have bm_1 := bm.c1
            have bn_0 := bn.c0
            have bn_1 := bn.c1
            have f1_0 := f1.c0
            have f1_1 := f1.c1
            have f3_0 := f3.c0
            have f3_1 := f3.c1
            have f7_0 := f7.c0
            have f7_1 := f7.c1
            go_wp2
            go_ret
            exact ⟨rfl, bW⟩
          · skip
            go_wp2
            have q0 := fun x : LaterW wr.heap.size wr => x.cell bm.lt bm_0
            have q1 := fun x : LaterW wr.heap.size wr => x.cell bm.lt bm_1
            have q2 := fun x : LaterW wr.heap.size wr => x.cell bn.lt bn_0
            have q3 := fun x : LaterW wr.heap.size wr => x.cell bn.lt bn_1
            have q4 := fun x : LaterW wr.heap.size wr => x.cell f1.lt f1_0
            have q5 := fun x : LaterW wr.heap.size wr => x.cell f1.lt f1_1
            have q6 := fun x : LaterW wr.heap.size wr => x.cell f3.lt f3_0
            have q7 := fun x : LaterW wr.heap.size wr => x.cell f3.lt f3_1
            have q8 := fun x : LaterW wr.heap.size wr => x.cell f7.lt f7_0
            have q9 := fun x : LaterW wr.heap.size wr => x.cell f7.lt f7_1
            refine wp_region_later (by kernel_rfl) (by kernel_rfl) ?_
            repeat (go_big_quiet_step ((first | (go_at_call 25; exact LaterW.call (WQ _ (LaterW.reads _ (by assumption)) (LaterW.reads _ (by assumption)))) | (go_at_call 19; exact LaterW.call (LS _)))))
            refine wpQuiet_nil ?_
            intro _ hw'
            obtain ⟨x, rfl⟩ := hw'
            have hb := x.below
            clear q0 q1 q2 q3 q4 q5 q6 q7 q8 q9
            generalize x.w = w20 at *
            clear bm_0 bm_1 bn_0 bn_1 f1_0 f1_1 f3_0 f3_1 f7_0 f7_1
            replace bm := bm.later hb
            replace bn := bn.later hb
            replace f1 := f1.later hb
            replace f3 := f3.later hb
            replace f7 := f7.later hb
            replace rx := rx.below hb
            replace ry := ry.below hb
            replace bW := bW.thenB hb
            replace hba := hba.thenB hb
            have z20 := hb.size
            clear hb
            have bm_0 := bm.c0
            have bm_1 := bm.c1
            have bn_0 := bn.c0
            have bn_1 := bn.c1
            have f1_0 := f1.c0
            have f1_1 := f1.c1
            have f3_0 := f3.c0
            have f3_1 := f3.c1
            have f7_0 := f7.c0
            have f7_1 := f7.c1
            go_wp2
            go_ret
            exact ⟨rfl, bW⟩
          · skip
            simp only [HTRI.out rfl rfl rfl] at LS
            go_wp2
            have q0 := fun x : LaterW wr.heap.size wr => x.cell bm.lt bm_0
            have q1 := fun x : LaterW wr.heap.size wr => x.cell bm.lt bm_1
            have q2 := fun x : LaterW wr.heap.size wr => x.cell bn.lt bn_0
            have q3 := fun x : LaterW wr.heap.size wr => x.cell bn.lt bn_1
            have q4 := fun x : LaterW wr.heap.size wr => x.cell f1.lt f1_0
            have q5 := fun x : LaterW wr.heap.size wr => x.cell f1.lt f1_1
            have q6 := fun x : LaterW wr.heap.size wr => x.cell f3.lt f3_0
            have q7 := fun x : LaterW wr.heap.size wr => x.cell f3.lt f3_1
            have q8 := fun x : LaterW wr.heap.size wr => x.cell f7.lt f7_0
            have q9 := fun x : LaterW wr.heap.size wr => x.cell f7.lt f7_1
            refine wp_region_later (by kernel_rfl) (by kernel_rfl) ?_
            repeat (go_big_quiet_step ((first | (go_at_call 25; exact LaterW.call (WQ _ (LaterW.reads _ (by assumption)) (LaterW.reads _ (by assumption)))) | (go_at_call 19; exact LaterW.call (LS _)))))
            refine wpQuiet_nil ?_
            intro _ hw'
            obtain ⟨x, rfl⟩ := hw'
            have hb := x.below
            clear q0 q1 q2 q3 q4 q5 q6 q7 q8 q9
            generalize x.w = w20 at *
            clear bm_0 bm_1 bn_0 bn_1 f1_0 f1_1 f3_0 f3_1 f7_0 f7_1
            replace bm := bm.later hb
            replace bn := bn.later hb
            replace f1 := f1.later hb
            replace f3 := f3.later hb
            replace f7 := f7.later hb
            replace rx := rx.below hb
            replace ry := ry.below hb
            replace bW := bW.thenB hb
            replace hba := hba.thenB hb
            have z20 := hb.size
            clear hb
            have bm_0 := bm.c0
            have bm_1 := bm.c1
            have bn_0 := bn.c0
            have bn_1 := bn.c1
            have f1_0 := f1.c0
            have f1_1 := f1.c1
            have f3_0 := f3.c0
            have f3_1 := f3.c1
            have f7_0 := f7.c0
            have f7_1 := f7.c1
            go_wp2
            go_ret
            exact ⟨rfl, bW⟩

end Go.Proofs.Ytkpnenbkfphldaa
