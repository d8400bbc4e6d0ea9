/- The law on the least committed mass: what it computes. -/
import Derived.Test.YtjmfjgoehicgcaaMgDD
import Derived.Test.YtjmfjgoehicgcaaMgE4
import Derived.Test.YtjmfjgoehicgcaaMgIH
import Derived.Test.YtjmfjgoehicgcaaE2
import Derived.Test.YtjmfjgoehicgcaaMgV8
set_option linter.unusedVariables false
set_option linter.unusedSimpArgs false
namespace Go.Proofs.Ytjmfjgoehicgcaa
open Go.RowKit

/-- What is not less on the average is not less as a fraction. -/
theorem less_not {A B X Y : Int} (hX : 0 < X) (hY : 0 < Y) (h : A * Y ≤ B * X) : lessB (fN true B Y) (fD true B Y) (fN true A X) (fD true A X) = false := by
  have e1 : fN true B Y = lowN B Y ∧ fD true B Y = lowD B Y := ⟨rfl, rfl⟩
  have e2 : fN true A X = lowN A X ∧ fD true A X = lowD A X := ⟨rfl, rfl⟩
  rw [e1.1, e1.2, e2.1, e2.2]
  cases hl : lessB (lowN B Y) (lowD B Y) (lowN A X) (lowD A X)
  · rfl
  · exfalso
    have hl2 := hl
    simp only [lessB, Bool.and_eq_true, decide_eq_true_eq] at hl2
    obtain ⟨f1, f2, f3⟩ := hl2
    have ok : ∀ N D, fracB (lowN N D) (lowD N D) = true → lowOk N D = true := fun N D hf => by
      cases hk : lowOk N D
      · have := (frac_bd hf).2.2.1
        simp [lowD, hk] at this
      · rfl
    have r1 := fr_low hY (ok _ _ f1)
    have r2 := fr_low hX (ok _ _ f2)
    rw [fr_less r1 r2 h] at hl
    cases hl

theorem lc_law {s t : Int} {xs ys : List Int} (h : bothB s xs t ys = true) : 0 < sumL xs ∧ 0 < sumL ys ∧ ys.length = xs.length ∧ massB s xs = true ∧ massB t ys = true ∧ bothB t ys s xs = true ∧ (mpTo xs ys xs.length = true → meS xs xs.length * sumL ys ≤ meS ys ys.length * sumL xs) ∧ (mpTo ys xs ys.length = true → meS ys ys.length * sumL xs ≤ meS xs xs.length * sumL ys) ∧ (spB s xs t ys = true → mpTo xs ys xs.length = true) := by
  obtain ⟨k1, k2, k3, k4⟩ := bothB_ok h
  obtain ⟨m1, m2, m3⟩ := both_parts h
  refine ⟨by have := k1.sum1; omega, by have := k2.sum1; omega, k4.symm, m1, m2, by rw [bothB, m1, m2, m3]; simp, fun q => mp_mean k1 k4.symm q, fun q => mp_mean k2 k4 q, fun q => ?_⟩
  rw [spB, Bool.and_eq_true] at q
  exact (spec_mp k4.symm q.2).1


set_option maxHeartbeats 4000000 in
set_option maxRecDepth 100000 in
theorem FnLeastCommitted_walk (w : World) (a0 : Option Addr) (c0 : Nat) (x0 : List Int) (m0 : x0.length ≤ maxLen) (rd0 : ReadsK .u8 w a0 x0) (wf0 : ∀ n ∈ x0, (Lit.int .u8 n).wf = true) (cp0 : x0.length ≤ c0) :
    Calls Try.prog 7 #[.slice a0 x0.length c0] w fun e w' => e = .returned (.bool true) ∧ Below w.heap.size w w' := by
  by_cases hbig0 : 1048576 < x0.length
  · unfold maxLen at m0
    clear rd0 wf0 cp0
    go_enter Try.func7, Try.ntmps7
    go_wp2
    go_ret
    exact ⟨rfl, Below.refl _ _⟩
  have HD := Lib.hid (DrawLeastCommitted_any a0 c0 x0 w rd0 wf0 m0 cp0)
  unfold maxLen at m0
  clear rd0 wf0 cp0
  go_enter Try.func7, Try.ntmps7
  go_wp2_with fail
  refine HD.out.mono ?_
  rintro e w1 ⟨s, p, c, xs, t, q, d, ys, rfl, hxl, hyl, rx, ry, bW⟩
  clear HD
  have HF1 := Lib.hid (fun (w : World) (hx : Reads w p xs) (hy : Reads w q ys) => iLeastCommitted_any s p c xs t q d ys w hx hy (by omega) (by omega))
  have HF2 := Lib.hid (fun (w : World) (hx : Reads w p xs) (hy : Reads w q ys) => sLeastCommitted_any s p c xs t q d ys w hx hy (by omega) (by omega))
  have HF3 := Lib.hid (fun (w : World) (hx : Reads w p xs) (hy : Reads w q ys) => iLeastCommitted_any t q d ys s p c xs w hy hx (by omega) (by omega))
  have HF4 := Lib.hid (fun (w : World) (hx : Reads w p xs) => iMeanSize_any s p c xs w hx (by omega))
  have HF5 := Lib.hid (fun (w : World) (hy : Reads w q ys) => iMeanSize_any t q d ys w hy (by omega))
  have HF6 := Lib.hid (fun (w : World) (hx : Reads w p xs) (hy : Reads w q ys) => iMorePossible_any t q d ys s p c xs w hy hx (by omega) (by omega))
  have HF7 := Lib.hid (fun (w : World) (hx : Reads w p xs) (hy : Reads w q ys) => iIsSpecialized_any s p c xs t q d ys w hx hy (by omega) (by omega))
  cases hb : bothB s xs t ys
  · skip
    have e1 := lc0 hb
    rw [e1] at HF1 HF2
    clear hb e1
    go_wp2_with fail
    have hb := belowAlloc w1 (.cells #[.int .i64 s, .slice p xs.length c] 27)
    replace rx := rx.below hb
    replace ry := ry.below hb
    replace bW := bW.thenB hb
    clear hb
    have bm := VarInv.made w1 (s) (.slice p xs.length c) 27
    have z2 := bm.lt
    have hsj : (w1.alloc (.cells #[.int .i64 s, .slice p xs.length c] 27)).heap.size = w1.heap.size + 1 := by simp
    generalize hu2 : w1.alloc (.cells #[.int .i64 s, .slice p xs.length c] 27) = w2 at *
    clear hu2
    have hb := belowAlloc w2 (.cells #[.int .i64 t, .slice q ys.length d] 27)
    replace bm := bm.later hb
    replace rx := rx.below hb
    replace ry := ry.below hb
    replace bW := bW.thenB hb
    clear hb
    have bn := VarInv.made w2 (t) (.slice q ys.length d) 27
    rw [hsj] at bn
    clear hsj
    have z3 := bn.lt
    generalize hu3 : w2.alloc (.cells #[.int .i64 t, .slice q ys.length d] 27) = w3 at *
    clear hu3
    have bm_0 := bm.c0
    have bm_1 := bm.c1
    have bn_0 := bn.c0
    have bn_1 := bn.c1
    refine (HF1.out _ rx ry).mono ?_
    rintro e w4 ⟨rfl, hb⟩
    clear bm_0 bm_1 bn_0 bn_1
    replace bm := bm.later hb
    replace bn := bn.later hb
    replace rx := rx.below hb
    replace ry := ry.below hb
    replace bW := bW.thenB hb
    have z4 := hb.size
    clear hb
    have bm_0 := bm.c0
    have bm_1 := bm.c1
    have bn_0 := bn.c0
    have bn_1 := bn.c1
    go_wp2_with fail
    refine (HF2.out _ rx ry).mono ?_
    rintro e w5 ⟨rfl, hb⟩
    clear bm_0 bm_1 bn_0 bn_1
    replace bm := bm.later hb
    replace bn := bn.later hb
    replace rx := rx.below hb
    replace ry := ry.below hb
    replace bW := bW.thenB hb
    have z5 := hb.size
    clear hb
    have bm_0 := bm.c0
    have bm_1 := bm.c1
    have bn_0 := bn.c0
    have bn_1 := bn.c1
    go_wp2_with fail
    refine (HF2.out _ rx ry).mono ?_
    rintro e w6 ⟨rfl, hb⟩
    clear bm_0 bm_1 bn_0 bn_1
    replace bm := bm.later hb
    replace bn := bn.later hb
    replace rx := rx.below hb
    replace ry := ry.below hb
    replace bW := bW.thenB hb
    have z6 := hb.size
    clear hb
    have bm_0 := bm.c0
    have bm_1 := bm.c1
    have bn_0 := bn.c0
    have bn_1 := bn.c1
    go_wp2
    go_ret
    exact ⟨rfl, bW⟩
  · skip
    obtain ⟨l1, l2, l3, l4, l5, l6, l7, l8, l9⟩ := lc_law hb
    rw [l4] at HF4
    rw [l5] at HF5
    obtain ⟨A, hA⟩ : ∃ x, x = meS xs xs.length := ⟨_, rfl⟩
    obtain ⟨B, hB⟩ : ∃ x, x = meS ys ys.length := ⟨_, rfl⟩
    obtain ⟨X, hX⟩ : ∃ x, x = sumL xs := ⟨_, rfl⟩
    obtain ⟨Y, hY⟩ : ∃ x, x = sumL ys := ⟨_, rfl⟩
    rw [← hA, ← hX] at HF4
    rw [← hB, ← hY] at HF5
    rw [← hA, ← hB, ← hX, ← hY] at l7 l8
    rw [← hX] at l1
    rw [← hY] at l2
    have hmb : mpB t ys s xs = mpTo ys xs ys.length := by rw [mpB, l6]; rfl
    rw [hmb] at HF6
    obtain ⟨SP, hSP⟩ : ∃ x, x = spB s xs t ys := ⟨_, rfl⟩
    rw [← hSP] at HF7 l9
    obtain ⟨N1, hN1⟩ : ∃ x, x = fN true A X := ⟨_, rfl⟩
    obtain ⟨D1, hD1⟩ : ∃ x, x = fD true A X := ⟨_, rfl⟩
    obtain ⟨N2, hN2⟩ : ∃ x, x = fN true B Y := ⟨_, rfl⟩
    obtain ⟨D2, hD2⟩ : ∃ x, x = fD true B Y := ⟨_, rfl⟩
    rw [← hN1, ← hD1] at HF4
    rw [← hN2, ← hD2] at HF5
    have m1 : A * Y ≤ B * X → lessB N2 D2 N1 D1 = false := fun h => by rw [hN1, hN2, hD1, hD2]; exact less_not l1 l2 h
    have m2 : B * X ≤ A * Y → lessB N1 D1 N2 D2 = false := fun h => by rw [hN1, hN2, hD1, hD2]; exact less_not l2 l1 h
    clear hA hB hX hY hSP hN1 hD1 hN2 hD2 l1 l2 l3 l4 l5 hmb
    have HLE1 := fun (w : World) => iLess_any N2 D2 N1 D1 w
    have HLE2 := fun (w : World) => iLess_any N1 D1 N2 D2 w
    cases p1 : mpTo ys xs ys.length
    · skip
      cases p2 : mpTo xs ys xs.length
      · skip
        have hk1 : lcV s xs t ys = 0 := lc3 hb p1 p2
        have hk2 : lcV t ys s xs = 0 := lc3 l6 p2 p1
        have hsp : SP = false := by
          cases SP
          · rfl
          · rw [l9 rfl] at p2; cases p2
        rw [hsp] at HF7
        clear hsp p2
        rw [hk1] at HF1 HF2
        rw [hk2] at HF3
        rw [p1] at HF6
        clear l6 l7 l8 l9 m1 m2 HLE1 HLE2 hk1 hk2 hb p1
        go_wp2_with fail
        have hb := belowAlloc w1 (.cells #[.int .i64 s, .slice p xs.length c] 27)
        replace rx := rx.below hb
        replace ry := ry.below hb
        replace bW := bW.thenB hb
        clear hb
        have bm := VarInv.made w1 (s) (.slice p xs.length c) 27
        have z2 := bm.lt
        have hsj : (w1.alloc (.cells #[.int .i64 s, .slice p xs.length c] 27)).heap.size = w1.heap.size + 1 := by simp
        generalize hu2 : w1.alloc (.cells #[.int .i64 s, .slice p xs.length c] 27) = w2 at *
        clear hu2
        have hb := belowAlloc w2 (.cells #[.int .i64 t, .slice q ys.length d] 27)
        replace bm := bm.later hb
        replace rx := rx.below hb
        replace ry := ry.below hb
        replace bW := bW.thenB hb
        clear hb
        have bn := VarInv.made w2 (t) (.slice q ys.length d) 27
        rw [hsj] at bn
        clear hsj
        have z3 := bn.lt
        generalize hu3 : w2.alloc (.cells #[.int .i64 t, .slice q ys.length d] 27) = w3 at *
        clear hu3
        have bm_0 := bm.c0
        have bm_1 := bm.c1
        have bn_0 := bn.c0
        have bn_1 := bn.c1
        refine (HF1.out _ rx ry).mono ?_
        rintro e w4 ⟨rfl, hb⟩
        clear bm_0 bm_1 bn_0 bn_1
        replace bm := bm.later hb
        replace bn := bn.later hb
        replace rx := rx.below hb
        replace ry := ry.below hb
        replace bW := bW.thenB hb
        have z4 := hb.size
        clear hb
        have bm_0 := bm.c0
        have bm_1 := bm.c1
        have bn_0 := bn.c0
        have bn_1 := bn.c1
        go_wp2_with fail
        refine (HF2.out _ rx ry).mono ?_
        rintro e w5 ⟨rfl, hb⟩
        clear bm_0 bm_1 bn_0 bn_1
        replace bm := bm.later hb
        replace bn := bn.later hb
        replace rx := rx.below hb
        replace ry := ry.below hb
        replace bW := bW.thenB hb
        have z5 := hb.size
        clear hb
        have bm_0 := bm.c0
        have bm_1 := bm.c1
        have bn_0 := bn.c0
        have bn_1 := bn.c1
        go_wp2_with fail
        refine (HF3.out _ rx ry).mono ?_
        rintro e w6 ⟨rfl, hb⟩
        clear bm_0 bm_1 bn_0 bn_1
        replace bm := bm.later hb
        replace bn := bn.later hb
        replace rx := rx.below hb
        replace ry := ry.below hb
        replace bW := bW.thenB hb
        have z6 := hb.size
        clear hb
        have bm_0 := bm.c0
        have bm_1 := bm.c1
        have bn_0 := bn.c0
        have bn_1 := bn.c1
        go_wp2_with fail
        refine (HF4.out _ rx).mono ?_
        rintro e w7 ⟨rfl, hb⟩
        clear bm_0 bm_1 bn_0 bn_1
        replace bm := bm.later hb
        replace bn := bn.later hb
        replace rx := rx.below hb
        replace ry := ry.below hb
        replace bW := bW.thenB hb
        have z7 := hb.size
        clear hb
        have bm_0 := bm.c0
        have bm_1 := bm.c1
        have bn_0 := bn.c0
        have bn_1 := bn.c1
        have lt_bm := bm.lt
        have lt_bn := bn.lt
        go_wp2_with fail
        clear lt_bm lt_bn
        have hb := belowAlloc w7 (.cells #[.int .i64 N1, .int .i64 D1] 32)
        clear bm_0 bm_1 bn_0 bn_1
        replace bm := bm.later hb
        replace bn := bn.later hb
        replace rx := rx.below hb
        replace ry := ry.below hb
        replace bW := bW.thenB hb
        clear hb
        have bx := VarInv.made w7 (N1) (.int .i64 D1) 32
        have z8 := bx.lt
        generalize hu8 : w7.alloc (.cells #[.int .i64 N1, .int .i64 D1] 32) = w8 at *
        clear hu8
        have bm_0 := bm.c0
        have bm_1 := bm.c1
        have bn_0 := bn.c0
        have bn_1 := bn.c1
        have bx_0 := bx.c0
        have bx_1 := bx.c1
        refine (HF5.out _ ry).mono ?_
        rintro e w9 ⟨rfl, hb⟩
        clear bm_0 bm_1 bn_0 bn_1 bx_0 bx_1
        replace bm := bm.later hb
        replace bn := bn.later hb
        replace bx := bx.later hb
        replace rx := rx.below hb
        replace ry := ry.below hb
        replace bW := bW.thenB hb
        have z9 := hb.size
        clear hb
        have bm_0 := bm.c0
        have bm_1 := bm.c1
        have bn_0 := bn.c0
        have bn_1 := bn.c1
        have bx_0 := bx.c0
        have bx_1 := bx.c1
        have lt_bm := bm.lt
        have lt_bn := bn.lt
        have lt_bx := bx.lt
        go_wp2_with fail
        clear lt_bm lt_bn lt_bx
        have hb := belowAlloc w9 (.cells #[.int .i64 N2, .int .i64 D2] 32)
        clear bm_0 bm_1 bn_0 bn_1 bx_0 bx_1
        replace bm := bm.later hb
        replace bn := bn.later hb
        replace bx := bx.later hb
        replace rx := rx.below hb
        replace ry := ry.below hb
        replace bW := bW.thenB hb
        clear hb
        have by_ := VarInv.made w9 (N2) (.int .i64 D2) 32
        have z10 := by_.lt
        generalize hu10 : w9.alloc (.cells #[.int .i64 N2, .int .i64 D2] 32) = w10 at *
        clear hu10
        have bm_0 := bm.c0
        have bm_1 := bm.c1
        have bn_0 := bn.c0
        have bn_1 := bn.c1
        have bx_0 := bx.c0
        have bx_1 := bx.c1
        have by__0 := by_.c0
        have by__1 := by_.c1
        refine (HF6.out _ rx ry).mono ?_
        rintro e w11 ⟨rfl, hb⟩
        clear bm_0 bm_1 bn_0 bn_1 bx_0 bx_1 by__0 by__1
        replace bm := bm.later hb
        replace bn := bn.later hb
        replace bx := bx.later hb
        replace by_ := by_.later hb
        replace rx := rx.below hb
        replace ry := ry.below hb
        replace bW := bW.thenB hb
        have z11 := hb.size
        clear hb
        have bm_0 := bm.c0
        have bm_1 := bm.c1
        have bn_0 := bn.c0
        have bn_1 := bn.c1
        have bx_0 := bx.c0
        have bx_1 := bx.c1
        have by__0 := by_.c0
        have by__1 := by_.c1
        go_wp2_with fail
        refine (HF7.out _ rx ry).mono ?_
        rintro e w12 ⟨rfl, hb⟩
        clear bm_0 bm_1 bn_0 bn_1 bx_0 bx_1 by__0 by__1
        replace bm := bm.later hb
        replace bn := bn.later hb
        replace bx := bx.later hb
        replace by_ := by_.later hb
        replace rx := rx.below hb
        replace ry := ry.below hb
        replace bW := bW.thenB hb
        have z12 := hb.size
        clear hb
        have bm_0 := bm.c0
        have bm_1 := bm.c1
        have bn_0 := bn.c0
        have bn_1 := bn.c1
        have bx_0 := bx.c0
        have bx_1 := bx.c1
        have by__0 := by_.c0
        have by__1 := by_.c1
        all_goals go_wp2
        all_goals go_ret
        all_goals exact ⟨rfl, bW⟩
      · skip
        have hk1 : lcV s xs t ys = 2 := lc2 hb p1 p2
        have hk2 : lcV t ys s xs = 1 := lc1 l6 p2
        have hle := m1 (l7 p2)
        clear p2
        rw [hk1] at HF1 HF2
        rw [hk2] at HF3
        rw [p1] at HF6
        rw [hle] at HLE1
        have HL := Lib.hid HLE1
        clear l6 l7 l8 l9 m1 m2 HLE1 HLE2 hk1 hk2 hb p1
        go_wp2_with fail
        have hb := belowAlloc w1 (.cells #[.int .i64 s, .slice p xs.length c] 27)
        replace rx := rx.below hb
        replace ry := ry.below hb
        replace bW := bW.thenB hb
        clear hb
        have bm := VarInv.made w1 (s) (.slice p xs.length c) 27
        have z2 := bm.lt
        have hsj : (w1.alloc (.cells #[.int .i64 s, .slice p xs.length c] 27)).heap.size = w1.heap.size + 1 := by simp
        generalize hu2 : w1.alloc (.cells #[.int .i64 s, .slice p xs.length c] 27) = w2 at *
        clear hu2
        have hb := belowAlloc w2 (.cells #[.int .i64 t, .slice q ys.length d] 27)
        replace bm := bm.later hb
        replace rx := rx.below hb
        replace ry := ry.below hb
        replace bW := bW.thenB hb
        clear hb
        have bn := VarInv.made w2 (t) (.slice q ys.length d) 27
        rw [hsj] at bn
        clear hsj
        have z3 := bn.lt
        generalize hu3 : w2.alloc (.cells #[.int .i64 t, .slice q ys.length d] 27) = w3 at *
        clear hu3
        have bm_0 := bm.c0
        have bm_1 := bm.c1
        have bn_0 := bn.c0
        have bn_1 := bn.c1
        refine (HF1.out _ rx ry).mono ?_
        rintro e w4 ⟨rfl, hb⟩
        clear bm_0 bm_1 bn_0 bn_1
        replace bm := bm.later hb
        replace bn := bn.later hb
        replace rx := rx.below hb
        replace ry := ry.below hb
        replace bW := bW.thenB hb
        have z4 := hb.size
        clear hb
        have bm_0 := bm.c0
        have bm_1 := bm.c1
        have bn_0 := bn.c0
        have bn_1 := bn.c1
        go_wp2_with fail
        refine (HF2.out _ rx ry).mono ?_
        rintro e w5 ⟨rfl, hb⟩
        clear bm_0 bm_1 bn_0 bn_1
        replace bm := bm.later hb
        replace bn := bn.later hb
        replace rx := rx.below hb
        replace ry := ry.below hb
        replace bW := bW.thenB hb
        have z5 := hb.size
        clear hb
        have bm_0 := bm.c0
        have bm_1 := bm.c1
        have bn_0 := bn.c0
        have bn_1 := bn.c1
        go_wp2_with fail
        refine (HF3.out _ rx ry).mono ?_
        rintro e w6 ⟨rfl, hb⟩
        clear bm_0 bm_1 bn_0 bn_1
        replace bm := bm.later hb
        replace bn := bn.later hb
        replace rx := rx.below hb
        replace ry := ry.below hb
        replace bW := bW.thenB hb
        have z6 := hb.size
        clear hb
        have bm_0 := bm.c0
        have bm_1 := bm.c1
        have bn_0 := bn.c0
        have bn_1 := bn.c1
        go_wp2_with fail
        refine (HF4.out _ rx).mono ?_
        rintro e w7 ⟨rfl, hb⟩
        clear bm_0 bm_1 bn_0 bn_1
        replace bm := bm.later hb
        replace bn := bn.later hb
        replace rx := rx.below hb
        replace ry := ry.below hb
        replace bW := bW.thenB hb
        have z7 := hb.size
        clear hb
        have bm_0 := bm.c0
        have bm_1 := bm.c1
        have bn_0 := bn.c0
        have bn_1 := bn.c1
        have lt_bm := bm.lt
        have lt_bn := bn.lt
        go_wp2_with fail
        clear lt_bm lt_bn
        have hb := belowAlloc w7 (.cells #[.int .i64 N1, .int .i64 D1] 32)
        clear bm_0 bm_1 bn_0 bn_1
        replace bm := bm.later hb
        replace bn := bn.later hb
        replace rx := rx.below hb
        replace ry := ry.below hb
        replace bW := bW.thenB hb
        clear hb
        have bx := VarInv.made w7 (N1) (.int .i64 D1) 32
        have z8 := bx.lt
        generalize hu8 : w7.alloc (.cells #[.int .i64 N1, .int .i64 D1] 32) = w8 at *
        clear hu8
        have bm_0 := bm.c0
        have bm_1 := bm.c1
        have bn_0 := bn.c0
        have bn_1 := bn.c1
        have bx_0 := bx.c0
        have bx_1 := bx.c1
        refine (HF5.out _ ry).mono ?_
        rintro e w9 ⟨rfl, hb⟩
        clear bm_0 bm_1 bn_0 bn_1 bx_0 bx_1
        replace bm := bm.later hb
        replace bn := bn.later hb
        replace bx := bx.later hb
        replace rx := rx.below hb
        replace ry := ry.below hb
        replace bW := bW.thenB hb
        have z9 := hb.size
        clear hb
        have bm_0 := bm.c0
        have bm_1 := bm.c1
        have bn_0 := bn.c0
        have bn_1 := bn.c1
        have bx_0 := bx.c0
        have bx_1 := bx.c1
        have lt_bm := bm.lt
        have lt_bn := bn.lt
        have lt_bx := bx.lt
        go_wp2_with fail
        clear lt_bm lt_bn lt_bx
        have hb := belowAlloc w9 (.cells #[.int .i64 N2, .int .i64 D2] 32)
        clear bm_0 bm_1 bn_0 bn_1 bx_0 bx_1
        replace bm := bm.later hb
        replace bn := bn.later hb
        replace bx := bx.later hb
        replace rx := rx.below hb
        replace ry := ry.below hb
        replace bW := bW.thenB hb
        clear hb
        have by_ := VarInv.made w9 (N2) (.int .i64 D2) 32
        have z10 := by_.lt
        generalize hu10 : w9.alloc (.cells #[.int .i64 N2, .int .i64 D2] 32) = w10 at *
        clear hu10
        have bm_0 := bm.c0
        have bm_1 := bm.c1
        have bn_0 := bn.c0
        have bn_1 := bn.c1
        have bx_0 := bx.c0
        have bx_1 := bx.c1
        have by__0 := by_.c0
        have by__1 := by_.c1
        refine (HF6.out _ rx ry).mono ?_
        rintro e w11 ⟨rfl, hb⟩
        clear bm_0 bm_1 bn_0 bn_1 bx_0 bx_1 by__0 by__1
        replace bm := bm.later hb
        replace bn := bn.later hb
        replace bx := bx.later hb
        replace by_ := by_.later hb
        replace rx := rx.below hb
        replace ry := ry.below hb
        replace bW := bW.thenB hb
        have z11 := hb.size
        clear hb
        have bm_0 := bm.c0
        have bm_1 := bm.c1
        have bn_0 := bn.c0
        have bn_1 := bn.c1
        have bx_0 := bx.c0
        have bx_1 := bx.c1
        have by__0 := by_.c0
        have by__1 := by_.c1
        go_wp2_with fail
        refine (HL.out _).mono ?_
        rintro e w12 ⟨rfl, hb⟩
        clear bm_0 bm_1 bn_0 bn_1 bx_0 bx_1 by__0 by__1
        replace bm := bm.later hb
        replace bn := bn.later hb
        replace bx := bx.later hb
        replace by_ := by_.later hb
        replace rx := rx.below hb
        replace ry := ry.below hb
        replace bW := bW.thenB hb
        have z12 := hb.size
        clear hb
        have bm_0 := bm.c0
        have bm_1 := bm.c1
        have bn_0 := bn.c0
        have bn_1 := bn.c1
        have bx_0 := bx.c0
        have bx_1 := bx.c1
        have by__0 := by_.c0
        have by__1 := by_.c1
        go_wp2_with fail
        refine (HF7.out _ rx ry).mono ?_
        rintro e w13 ⟨rfl, hb⟩
        clear bm_0 bm_1 bn_0 bn_1 bx_0 bx_1 by__0 by__1
        replace bm := bm.later hb
        replace bn := bn.later hb
        replace bx := bx.later hb
        replace by_ := by_.later hb
        replace rx := rx.below hb
        replace ry := ry.below hb
        replace bW := bW.thenB hb
        have z13 := hb.size
        clear hb
        have bm_0 := bm.c0
        have bm_1 := bm.c1
        have bn_0 := bn.c0
        have bn_1 := bn.c1
        have bx_0 := bx.c0
        have bx_1 := bx.c1
        have by__0 := by_.c0
        have by__1 := by_.c1
        try cases SP
        all_goals go_wp2
        all_goals go_ret
        all_goals exact ⟨rfl, bW⟩
    · skip
      have hle := m2 (l8 p1)
      have hk1 : lcV s xs t ys = 1 := lc1 hb p1
      cases p2 : mpTo xs ys xs.length
      · skip
        have hk2 : lcV t ys s xs = 2 := lc2 l6 p2 p1
        clear p2
        rw [hk1] at HF1 HF2
        rw [hk2] at HF3
        rw [p1] at HF6
        rw [hle] at HLE2
        have HL := Lib.hid HLE2
        clear l6 l7 l8 l9 m1 m2 HLE1 HLE2 hk1 hk2 hb p1
        go_wp2_with fail
        have hb := belowAlloc w1 (.cells #[.int .i64 s, .slice p xs.length c] 27)
        replace rx := rx.below hb
        replace ry := ry.below hb
        replace bW := bW.thenB hb
        clear hb
        have bm := VarInv.made w1 (s) (.slice p xs.length c) 27
        have z2 := bm.lt
        have hsj : (w1.alloc (.cells #[.int .i64 s, .slice p xs.length c] 27)).heap.size = w1.heap.size + 1 := by simp
        generalize hu2 : w1.alloc (.cells #[.int .i64 s, .slice p xs.length c] 27) = w2 at *
        clear hu2
        have hb := belowAlloc w2 (.cells #[.int .i64 t, .slice q ys.length d] 27)
        replace bm := bm.later hb
        replace rx := rx.below hb
        replace ry := ry.below hb
        replace bW := bW.thenB hb
        clear hb
        have bn := VarInv.made w2 (t) (.slice q ys.length d) 27
        rw [hsj] at bn
        clear hsj
        have z3 := bn.lt
        generalize hu3 : w2.alloc (.cells #[.int .i64 t, .slice q ys.length d] 27) = w3 at *
        clear hu3
        have bm_0 := bm.c0
        have bm_1 := bm.c1
        have bn_0 := bn.c0
        have bn_1 := bn.c1
        refine (HF1.out _ rx ry).mono ?_
        rintro e w4 ⟨rfl, hb⟩
        clear bm_0 bm_1 bn_0 bn_1
        replace bm := bm.later hb
        replace bn := bn.later hb
        replace rx := rx.below hb
        replace ry := ry.below hb
        replace bW := bW.thenB hb
        have z4 := hb.size
        clear hb
        have bm_0 := bm.c0
        have bm_1 := bm.c1
        have bn_0 := bn.c0
        have bn_1 := bn.c1
        go_wp2_with fail
        refine (HF2.out _ rx ry).mono ?_
        rintro e w5 ⟨rfl, hb⟩
        clear bm_0 bm_1 bn_0 bn_1
        replace bm := bm.later hb
        replace bn := bn.later hb
        replace rx := rx.below hb
        replace ry := ry.below hb
        replace bW := bW.thenB hb
        have z5 := hb.size
        clear hb
        have bm_0 := bm.c0
        have bm_1 := bm.c1
        have bn_0 := bn.c0
        have bn_1 := bn.c1
        go_wp2_with fail
        refine (HF3.out _ rx ry).mono ?_
        rintro e w6 ⟨rfl, hb⟩
        clear bm_0 bm_1 bn_0 bn_1
        replace bm := bm.later hb
        replace bn := bn.later hb
        replace rx := rx.below hb
        replace ry := ry.below hb
        replace bW := bW.thenB hb
        have z6 := hb.size
        clear hb
        have bm_0 := bm.c0
        have bm_1 := bm.c1
        have bn_0 := bn.c0
        have bn_1 := bn.c1
        go_wp2_with fail
        refine (HF4.out _ rx).mono ?_
        rintro e w7 ⟨rfl, hb⟩
        clear bm_0 bm_1 bn_0 bn_1
        replace bm := bm.later hb
        replace bn := bn.later hb
        replace rx := rx.below hb
        replace ry := ry.below hb
        replace bW := bW.thenB hb
        have z7 := hb.size
        clear hb
        have bm_0 := bm.c0
        have bm_1 := bm.c1
        have bn_0 := bn.c0
        have bn_1 := bn.c1
        have lt_bm := bm.lt
        have lt_bn := bn.lt
        go_wp2_with fail
        clear lt_bm lt_bn
        have hb := belowAlloc w7 (.cells #[.int .i64 N1, .int .i64 D1] 32)
        clear bm_0 bm_1 bn_0 bn_1
        replace bm := bm.later hb
        replace bn := bn.later hb
        replace rx := rx.below hb
        replace ry := ry.below hb
        replace bW := bW.thenB hb
        clear hb
        have bx := VarInv.made w7 (N1) (.int .i64 D1) 32
        have z8 := bx.lt
        generalize hu8 : w7.alloc (.cells #[.int .i64 N1, .int .i64 D1] 32) = w8 at *
        clear hu8
        have bm_0 := bm.c0
        have bm_1 := bm.c1
        have bn_0 := bn.c0
        have bn_1 := bn.c1
        have bx_0 := bx.c0
        have bx_1 := bx.c1
        refine (HF5.out _ ry).mono ?_
        rintro e w9 ⟨rfl, hb⟩
        clear bm_0 bm_1 bn_0 bn_1 bx_0 bx_1
        replace bm := bm.later hb
        replace bn := bn.later hb
        replace bx := bx.later hb
        replace rx := rx.below hb
        replace ry := ry.below hb
        replace bW := bW.thenB hb
        have z9 := hb.size
        clear hb
        have bm_0 := bm.c0
        have bm_1 := bm.c1
        have bn_0 := bn.c0
        have bn_1 := bn.c1
        have bx_0 := bx.c0
        have bx_1 := bx.c1
        have lt_bm := bm.lt
        have lt_bn := bn.lt
        have lt_bx := bx.lt
        go_wp2_with fail
        clear lt_bm lt_bn lt_bx
        have hb := belowAlloc w9 (.cells #[.int .i64 N2, .int .i64 D2] 32)
        clear bm_0 bm_1 bn_0 bn_1 bx_0 bx_1
        replace bm := bm.later hb
        replace bn := bn.later hb
        replace bx := bx.later hb
        replace rx := rx.below hb
        replace ry := ry.below hb
        replace bW := bW.thenB hb
        clear hb
        have by_ := VarInv.made w9 (N2) (.int .i64 D2) 32
        have z10 := by_.lt
        generalize hu10 : w9.alloc (.cells #[.int .i64 N2, .int .i64 D2] 32) = w10 at *
        clear hu10
        have bm_0 := bm.c0
        have bm_1 := bm.c1
        have bn_0 := bn.c0
        have bn_1 := bn.c1
        have bx_0 := bx.c0
        have bx_1 := bx.c1
        have by__0 := by_.c0
        have by__1 := by_.c1
        refine (HF6.out _ rx ry).mono ?_
        rintro e w11 ⟨rfl, hb⟩
        clear bm_0 bm_1 bn_0 bn_1 bx_0 bx_1 by__0 by__1
        replace bm := bm.later hb
        replace bn := bn.later hb
        replace bx := bx.later hb
        replace by_ := by_.later hb
        replace rx := rx.below hb
        replace ry := ry.below hb
        replace bW := bW.thenB hb
        have z11 := hb.size
        clear hb
        have bm_0 := bm.c0
        have bm_1 := bm.c1
        have bn_0 := bn.c0
        have bn_1 := bn.c1
        have bx_0 := bx.c0
        have bx_1 := bx.c1
        have by__0 := by_.c0
        have by__1 := by_.c1
        go_wp2_with fail
        refine (HL.out _).mono ?_
        rintro e w12 ⟨rfl, hb⟩
        clear bm_0 bm_1 bn_0 bn_1 bx_0 bx_1 by__0 by__1
        replace bm := bm.later hb
        replace bn := bn.later hb
        replace bx := bx.later hb
        replace by_ := by_.later hb
        replace rx := rx.below hb
        replace ry := ry.below hb
        replace bW := bW.thenB hb
        have z12 := hb.size
        clear hb
        have bm_0 := bm.c0
        have bm_1 := bm.c1
        have bn_0 := bn.c0
        have bn_1 := bn.c1
        have bx_0 := bx.c0
        have bx_1 := bx.c1
        have by__0 := by_.c0
        have by__1 := by_.c1
        go_wp2_with fail
        refine (HF7.out _ rx ry).mono ?_
        rintro e w13 ⟨rfl, hb⟩
        clear bm_0 bm_1 bn_0 bn_1 bx_0 bx_1 by__0 by__1
        replace bm := bm.later hb
        replace bn := bn.later hb
        replace bx := bx.later hb
        replace by_ := by_.later hb
        replace rx := rx.below hb
        replace ry := ry.below hb
        replace bW := bW.thenB hb
        have z13 := hb.size
        clear hb
        have bm_0 := bm.c0
        have bm_1 := bm.c1
        have bn_0 := bn.c0
        have bn_1 := bn.c1
        have bx_0 := bx.c0
        have bx_1 := bx.c1
        have by__0 := by_.c0
        have by__1 := by_.c1
        try cases SP
        all_goals go_wp2
        all_goals go_ret
        all_goals exact ⟨rfl, bW⟩
      · skip
        have hk2 : lcV t ys s xs = 1 := lc1 l6 p2
        clear p2
        rw [hk1] at HF1 HF2
        rw [hk2] at HF3
        rw [p1] at HF6
        rw [hle] at HLE2
        have HL := Lib.hid HLE2
        clear l6 l7 l8 l9 m1 m2 HLE1 HLE2 hk1 hk2 hb p1
        go_wp2_with fail
        have hb := belowAlloc w1 (.cells #[.int .i64 s, .slice p xs.length c] 27)
        replace rx := rx.below hb
        replace ry := ry.below hb
        replace bW := bW.thenB hb
        clear hb
        have bm := VarInv.made w1 (s) (.slice p xs.length c) 27
        have z2 := bm.lt
        have hsj : (w1.alloc (.cells #[.int .i64 s, .slice p xs.length c] 27)).heap.size = w1.heap.size + 1 := by simp
        generalize hu2 : w1.alloc (.cells #[.int .i64 s, .slice p xs.length c] 27) = w2 at *
        clear hu2
        have hb := belowAlloc w2 (.cells #[.int .i64 t, .slice q ys.length d] 27)
        replace bm := bm.later hb
        replace rx := rx.below hb
        replace ry := ry.below hb
        replace bW := bW.thenB hb
        clear hb
        have bn := VarInv.made w2 (t) (.slice q ys.length d) 27
        rw [hsj] at bn
        clear hsj
        have z3 := bn.lt
        generalize hu3 : w2.alloc (.cells #[.int .i64 t, .slice q ys.length d] 27) = w3 at *
        clear hu3
        have bm_0 := bm.c0
        have bm_1 := bm.c1
        have bn_0 := bn.c0
        have bn_1 := bn.c1
        refine (HF1.out _ rx ry).mono ?_
        rintro e w4 ⟨rfl, hb⟩
        clear bm_0 bm_1 bn_0 bn_1
        replace bm := bm.later hb
        replace bn := bn.later hb
        replace rx := rx.below hb
        replace ry := ry.below hb
        replace bW := bW.thenB hb
        have z4 := hb.size
        clear hb
        have bm_0 := bm.c0
        have bm_1 := bm.c1
        have bn_0 := bn.c0
        have bn_1 := bn.c1
        go_wp2_with fail
        refine (HF2.out _ rx ry).mono ?_
        rintro e w5 ⟨rfl, hb⟩
        clear bm_0 bm_1 bn_0 bn_1
        replace bm := bm.later hb
        replace bn := bn.later hb
        replace rx := rx.below hb
        replace ry := ry.below hb
        replace bW := bW.thenB hb
        have z5 := hb.size
        clear hb
        have bm_0 := bm.c0
        have bm_1 := bm.c1
        have bn_0 := bn.c0
        have bn_1 := bn.c1
        go_wp2_with fail
        refine (HF3.out _ rx ry).mono ?_
        rintro e w6 ⟨rfl, hb⟩
        clear bm_0 bm_1 bn_0 bn_1
        replace bm := bm.later hb
        replace bn := bn.later hb
        replace rx := rx.below hb
        replace ry := ry.below hb
        replace bW := bW.thenB hb
        have z6 := hb.size
        clear hb
        have bm_0 := bm.c0
        have bm_1 := bm.c1
        have bn_0 := bn.c0
        have bn_1 := bn.c1
        go_wp2_with fail
        refine (HF4.out _ rx).mono ?_
        rintro e w7 ⟨rfl, hb⟩
        clear bm_0 bm_1 bn_0 bn_1
        replace bm := bm.later hb
        replace bn := bn.later hb
        replace rx := rx.below hb
        replace ry := ry.below hb
        replace bW := bW.thenB hb
        have z7 := hb.size
        clear hb
        have bm_0 := bm.c0
        have bm_1 := bm.c1
        have bn_0 := bn.c0
        have bn_1 := bn.c1
        have lt_bm := bm.lt
        have lt_bn := bn.lt
        go_wp2_with fail
        clear lt_bm lt_bn
        have hb := belowAlloc w7 (.cells #[.int .i64 N1, .int .i64 D1] 32)
        clear bm_0 bm_1 bn_0 bn_1
        replace bm := bm.later hb
        replace bn := bn.later hb
        replace rx := rx.below hb
        replace ry := ry.below hb
        replace bW := bW.thenB hb
        clear hb
        have bx := VarInv.made w7 (N1) (.int .i64 D1) 32
        have z8 := bx.lt
        generalize hu8 : w7.alloc (.cells #[.int .i64 N1, .int .i64 D1] 32) = w8 at *
        clear hu8
        have bm_0 := bm.c0
        have bm_1 := bm.c1
        have bn_0 := bn.c0
        have bn_1 := bn.c1
        have bx_0 := bx.c0
        have bx_1 := bx.c1
        refine (HF5.out _ ry).mono ?_
        rintro e w9 ⟨rfl, hb⟩
        clear bm_0 bm_1 bn_0 bn_1 bx_0 bx_1
        replace bm := bm.later hb
        replace bn := bn.later hb
        replace bx := bx.later hb
        replace rx := rx.below hb
        replace ry := ry.below hb
        replace bW := bW.thenB hb
        have z9 := hb.size
        clear hb
        have bm_0 := bm.c0
        have bm_1 := bm.c1
        have bn_0 := bn.c0
        have bn_1 := bn.c1
        have bx_0 := bx.c0
        have bx_1 := bx.c1
        have lt_bm := bm.lt
        have lt_bn := bn.lt
        have lt_bx := bx.lt
        go_wp2_with fail
        clear lt_bm lt_bn lt_bx
        have hb := belowAlloc w9 (.cells #[.int .i64 N2, .int .i64 D2] 32)
        clear bm_0 bm_1 bn_0 bn_1 bx_0 bx_1
        replace bm := bm.later hb
        replace bn := bn.later hb
        replace bx := bx.later hb
        replace rx := rx.below hb
        replace ry := ry.below hb
        replace bW := bW.thenB hb
        clear hb
        have by_ := VarInv.made w9 (N2) (.int .i64 D2) 32
        have z10 := by_.lt
        generalize hu10 : w9.alloc (.cells #[.int .i64 N2, .int .i64 D2] 32) = w10 at *
        clear hu10
        have bm_0 := bm.c0
        have bm_1 := bm.c1
        have bn_0 := bn.c0
        have bn_1 := bn.c1
        have bx_0 := bx.c0
        have bx_1 := bx.c1
        have by__0 := by_.c0
        have by__1 := by_.c1
        refine (HF6.out _ rx ry).mono ?_
        rintro e w11 ⟨rfl, hb⟩
        clear bm_0 bm_1 bn_0 bn_1 bx_0 bx_1 by__0 by__1
        replace bm := bm.later hb
        replace bn := bn.later hb
        replace bx := bx.later hb
        replace by_ := by_.later hb
        replace rx := rx.below hb
        replace ry := ry.below hb
        replace bW := bW.thenB hb
        have z11 := hb.size
        clear hb
        have bm_0 := bm.c0
        have bm_1 := bm.c1
        have bn_0 := bn.c0
        have bn_1 := bn.c1
        have bx_0 := bx.c0
        have bx_1 := bx.c1
        have by__0 := by_.c0
        have by__1 := by_.c1
        go_wp2_with fail
        refine (HL.out _).mono ?_
        rintro e w12 ⟨rfl, hb⟩
        clear bm_0 bm_1 bn_0 bn_1 bx_0 bx_1 by__0 by__1
        replace bm := bm.later hb
        replace bn := bn.later hb
        replace bx := bx.later hb
        replace by_ := by_.later hb
        replace rx := rx.below hb
        replace ry := ry.below hb
        replace bW := bW.thenB hb
        have z12 := hb.size
        clear hb
        have bm_0 := bm.c0
        have bm_1 := bm.c1
        have bn_0 := bn.c0
        have bn_1 := bn.c1
        have bx_0 := bx.c0
        have bx_1 := bx.c1
        have by__0 := by_.c0
        have by__1 := by_.c1
        go_wp2_with fail
        refine (HF7.out _ rx ry).mono ?_
        rintro e w13 ⟨rfl, hb⟩
        clear bm_0 bm_1 bn_0 bn_1 bx_0 bx_1 by__0 by__1
        replace bm := bm.later hb
        replace bn := bn.later hb
        replace bx := bx.later hb
        replace by_ := by_.later hb
        replace rx := rx.below hb
        replace ry := ry.below hb
        replace bW := bW.thenB hb
        have z13 := hb.size
        clear hb
        have bm_0 := bm.c0
        have bm_1 := bm.c1
        have bn_0 := bn.c0
        have bn_1 := bn.c1
        have bx_0 := bx.c0
        have bx_1 := bx.c1
        have by__0 := by_.c0
        have by__1 := by_.c1
        try cases SP
        all_goals go_wp2
        all_goals go_ret
        all_goals exact ⟨rfl, bW⟩

end Go.Proofs.Ytjmfjgoehicgcaa
