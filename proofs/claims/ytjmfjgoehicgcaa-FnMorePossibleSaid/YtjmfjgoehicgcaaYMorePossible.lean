/- The law on what is more possible: what it computes. -/
import Derived.Test.YtjmfjgoehicgcaaDK
import Derived.Test.YtjmfjgoehicgcaaZP
import Derived.Test.YtjmfjgoehicgcaaE1
import Derived.Test.YtjmfjgoehicgcaaE4
set_option linter.unusedVariables false
set_option linter.unusedSimpArgs false
namespace Go.Proofs.Ytjmfjgoehicgcaa
open Go.RowKit

set_option maxHeartbeats 4000000 in
set_option maxRecDepth 100000 in
theorem FnMorePossible_walk (w : World) (a0 : Option Addr) (c0 : Nat) (x0 : List Int) (m0 : x0.length ≤ maxLen) (rd0 : ReadsK .u8 w a0 x0) (wf0 : ∀ n ∈ x0, (Lit.int .u8 n).wf = true) (cp0 : x0.length ≤ c0) :
    Calls Try.prog 5 #[.slice a0 x0.length c0] w fun e w' => e = .returned (.bool true) ∧ Below w.heap.size w w' := by
  by_cases hbig0 : 1048576 < x0.length
  · unfold maxLen at m0
    clear rd0 wf0 cp0
    go_enter Try.func5, Try.ntmps5
    go_wp2
    go_ret
    exact ⟨rfl, Below.refl _ _⟩
  have HD := Lib.hid (DrawMorePossible_any a0 c0 x0 w rd0 wf0 m0 cp0)
  unfold maxLen at m0
  clear rd0 wf0 cp0
  go_enter Try.func5, Try.ntmps5
  go_wp2_with fail
  refine HD.out.mono ?_
  rintro e w1 ⟨s, p, c, xs, t, q, d, ys, rfl, hxl, hyl, rx, ry, bW⟩
  clear HD
  obtain ⟨MP, hMP⟩ : ∃ N, N = mpB s xs t ys := ⟨_, rfl⟩
  obtain ⟨MC, hMC⟩ : ∃ N, N = mcB s xs t ys := ⟨_, rfl⟩
  obtain ⟨V1, hV1⟩ : ∃ N, N = massB s xs := ⟨_, rfl⟩
  obtain ⟨V2, hV2⟩ : ∃ N, N = massB t ys := ⟨_, rfl⟩
  have hF1 := fun (w : World) (hx : Reads w p xs) (hy : Reads w q ys) => iMorePossible_any s p c xs t q d ys w hx hy (by omega) (by omega)
  have hF2 := fun (w : World) (hx : Reads w p xs) (hy : Reads w q ys) => iMoreCommon_any s p c xs t q d ys w hx hy (by omega) (by omega)
  have hF3 := fun (w : World) (hx : Reads w p xs) (hy : Reads w q ys) => sMorePossible_any s p c xs t q d ys w hx hy (by omega) (by omega)
  have hF4 := fun (w : World) (hx : Reads w p xs) (hy : Reads w q ys) => sMoreCommon_any s p c xs t q d ys w hx hy (by omega) (by omega)
  have hF5 := fun (w : World) (hx : Reads w p xs) => iMassValid_any s p c xs w hx (by omega)
  have hF6 := fun (w : World) (hy : Reads w q ys) => iMassValid_any t q d ys w hy (by omega)
  rw [← hMP] at hF1 hF3
  rw [← hMC] at hF2 hF4
  rw [← hV1] at hF5
  rw [← hV2] at hF6
  have HF3 := Lib.hid hF3
  have HF4 := Lib.hid hF4
  have HF5 := Lib.hid hF5
  have HF6 := Lib.hid hF6
  have HF1 := Lib.hid hF1
  have HF2 := Lib.hid hF2
  have hcase : (V1 = true ∧ V2 = true ∧ s = t ∧ bothB s xs t ys = true) ∨ (MP = false ∧ MC = false ∧ (V1 = false ∨ (V1 = true ∧ V2 = false) ∨ (V1 = true ∧ V2 = true ∧ s ≠ t))) := by
    by_cases hb : bothB s xs t ys = true
    · have := both_parts hb
      exact .inl ⟨by rw [hV1]; exact this.1, by rw [hV2]; exact this.2.1, this.2.2, hb⟩
    · refine .inr ⟨by rw [hMP]; simp [mpB, hb], by rw [hMC]; simp [mcB, hb], ?_⟩
      cases V1
      · exact .inl rfl
      · cases V2
        · exact .inr (.inl ⟨rfl, rfl⟩)
        · refine .inr (.inr ⟨rfl, rfl, fun e => hb ?_⟩)
          rw [bothB, ← hV1, ← hV2]
          simp [e]
  have HC := Lib.hid hcase
  have HMP := Lib.hid hMP
  have HMC := Lib.hid hMC
  have hq1 : (MP != MP) = false := by cases MP <;> rfl
  have hq2 : (MP == MP) = true := by cases MP <;> rfl
  have hq3 : (MC != MC) = false := by cases MC <;> rfl
  have hq4 : (MC == MC) = true := by cases MC <;> rfl
  clear hF1 hF2 hF3 hF4 hF5 hF6 hMP hMC hV1 hV2 hcase
  go_wp2
  have hb := belowAlloc w1 (.cells #[.int .i64 s, .slice p xs.length c] 27)
  replace rx := rx.below hb
  replace ry := ry.below hb
  replace bW := bW.thenB hb
  clear hb
  have bm := VarInv.made w1 (s) (.slice p xs.length c) 27
  have z2 := bm.lt
  have hsj : (w1.alloc (.cells #[.int .i64 s, .slice p xs.length c] 27)).heap.size = w1.heap.size + 1 := by simp
  generalize hu2 : w1.alloc (.cells #[.int .i64 s, .slice p xs.length c] 27) = w2 at *
  clear hu2
  have hb := belowAlloc w2 (.cells #[.int .i64 t, .slice q ys.length d] 27)
  replace bm := bm.later hb
  replace rx := rx.below hb
  replace ry := ry.below hb
  replace bW := bW.thenB hb
  clear hb
  have bn := VarInv.made w2 (t) (.slice q ys.length d) 27
  rw [hsj] at bn
  clear hsj
  have z3 := bn.lt
  generalize hu3 : w2.alloc (.cells #[.int .i64 t, .slice q ys.length d] 27) = w3 at *
  clear hu3
  have bm_0 := bm.c0
  have bm_1 := bm.c1
  have bn_0 := bn.c0
  have bn_1 := bn.c1
  have q0 := fun x : LaterW w3.heap.size w3 => x.cell bm.lt bm_0
  have q1 := fun x : LaterW w3.heap.size w3 => x.cell bm.lt bm_1
  have q2 := fun x : LaterW w3.heap.size w3 => x.cell bn.lt bn_0
  have q3 := fun x : LaterW w3.heap.size w3 => x.cell bn.lt bn_1
  refine wp_region_later (by kernel_rfl) (by kernel_rfl) ?_
  repeat (go_big_quiet_step ((first | (go_at_call 26; with_reducible exact LaterW.call (HF1.out _ (LaterW.reads _ (by assumption)) (LaterW.reads _ (by assumption)))) | (go_at_call 27; with_reducible exact LaterW.call (HF2.out _ (LaterW.reads _ (by assumption)) (LaterW.reads _ (by assumption)))))))
  refine wpQuiet_nil ?_
  intro _ hw'
  obtain ⟨x, rfl⟩ := hw'
  have hb := x.below
  clear q0 q1 q2 q3
  generalize x.w = w4 at *
  clear bm_0 bm_1 bn_0 bn_1
  replace bm := bm.later hb
  replace bn := bn.later hb
  replace rx := rx.below hb
  replace ry := ry.below hb
  replace bW := bW.thenB hb
  have z4 := hb.size
  clear hb
  have bm_0 := bm.c0
  have bm_1 := bm.c1
  have bn_0 := bn.c0
  have bn_1 := bn.c1
  go_wp2_with fail
  refine (HF3.out _ rx ry).mono ?_
  rintro e w5 ⟨rfl, hb⟩
  clear bm_0 bm_1 bn_0 bn_1
  replace bm := bm.later hb
  replace bn := bn.later hb
  replace rx := rx.below hb
  replace ry := ry.below hb
  replace bW := bW.thenB hb
  have z5 := hb.size
  clear hb
  have bm_0 := bm.c0
  have bm_1 := bm.c1
  have bn_0 := bn.c0
  have bn_1 := bn.c1
  go_wp2_with fail
  refine (HF4.out _ rx ry).mono ?_
  rintro e w6 ⟨rfl, hb⟩
  clear bm_0 bm_1 bn_0 bn_1
  replace bm := bm.later hb
  replace bn := bn.later hb
  replace rx := rx.below hb
  replace ry := ry.below hb
  replace bW := bW.thenB hb
  have z6 := hb.size
  clear hb
  have bm_0 := bm.c0
  have bm_1 := bm.c1
  have bn_0 := bn.c0
  have bn_1 := bn.c1
  rcases HC.out with ⟨rfl, rfl, rfl, hb⟩ | ⟨rfl, rfl, hno⟩
  rotate_left
  · skip
    rcases hno with rfl | ⟨rfl, rfl⟩ | ⟨rfl, rfl, hst⟩
    · skip
      go_wp2_with fail
      refine (HF5.out _ rx).mono ?_
      rintro e w7 ⟨rfl, hb⟩
      clear bm_0 bm_1 bn_0 bn_1
      replace bm := bm.later hb
      replace bn := bn.later hb
      replace rx := rx.below hb
      replace ry := ry.below hb
      replace bW := bW.thenB hb
      have z7 := hb.size
      clear hb
      have bm_0 := bm.c0
      have bm_1 := bm.c1
      have bn_0 := bn.c0
      have bn_1 := bn.c1
      go_wp2_with fail
      refine (HF3.out _ rx ry).mono ?_
      rintro e w8 ⟨rfl, hb⟩
      clear bm_0 bm_1 bn_0 bn_1
      replace bm := bm.later hb
      replace bn := bn.later hb
      replace rx := rx.below hb
      replace ry := ry.below hb
      replace bW := bW.thenB hb
      have z8 := hb.size
      clear hb
      have bm_0 := bm.c0
      have bm_1 := bm.c1
      have bn_0 := bn.c0
      have bn_1 := bn.c1
      go_wp2_with fail
      refine (HF4.out _ rx ry).mono ?_
      rintro e w9 ⟨rfl, hb⟩
      clear bm_0 bm_1 bn_0 bn_1
      replace bm := bm.later hb
      replace bn := bn.later hb
      replace rx := rx.below hb
      replace ry := ry.below hb
      replace bW := bW.thenB hb
      have z9 := hb.size
      clear hb
      have bm_0 := bm.c0
      have bm_1 := bm.c1
      have bn_0 := bn.c0
      have bn_1 := bn.c1
      go_wp2
      go_ret
      exact ⟨rfl, bW⟩
    · skip
      go_wp2_with fail
      refine (HF5.out _ rx).mono ?_
      rintro e w7 ⟨rfl, hb⟩
      clear bm_0 bm_1 bn_0 bn_1
      replace bm := bm.later hb
      replace bn := bn.later hb
      replace rx := rx.below hb
      replace ry := ry.below hb
      replace bW := bW.thenB hb
      have z7 := hb.size
      clear hb
      have bm_0 := bm.c0
      have bm_1 := bm.c1
      have bn_0 := bn.c0
      have bn_1 := bn.c1
      go_wp2_with fail
      refine (HF6.out _ ry).mono ?_
      rintro e w8 ⟨rfl, hb⟩
      clear bm_0 bm_1 bn_0 bn_1
      replace bm := bm.later hb
      replace bn := bn.later hb
      replace rx := rx.below hb
      replace ry := ry.below hb
      replace bW := bW.thenB hb
      have z8 := hb.size
      clear hb
      have bm_0 := bm.c0
      have bm_1 := bm.c1
      have bn_0 := bn.c0
      have bn_1 := bn.c1
      go_wp2_with fail
      refine (HF3.out _ rx ry).mono ?_
      rintro e w9 ⟨rfl, hb⟩
      clear bm_0 bm_1 bn_0 bn_1
      replace bm := bm.later hb
      replace bn := bn.later hb
      replace rx := rx.below hb
      replace ry := ry.below hb
      replace bW := bW.thenB hb
      have z9 := hb.size
      clear hb
      have bm_0 := bm.c0
      have bm_1 := bm.c1
      have bn_0 := bn.c0
      have bn_1 := bn.c1
      go_wp2_with fail
      refine (HF4.out _ rx ry).mono ?_
      rintro e w10 ⟨rfl, hb⟩
      clear bm_0 bm_1 bn_0 bn_1
      replace bm := bm.later hb
      replace bn := bn.later hb
      replace rx := rx.below hb
      replace ry := ry.below hb
      replace bW := bW.thenB hb
      have z10 := hb.size
      clear hb
      have bm_0 := bm.c0
      have bm_1 := bm.c1
      have bn_0 := bn.c0
      have bn_1 := bn.c1
      go_wp2
      go_ret
      exact ⟨rfl, bW⟩
    · skip
      have hne : (s != t) = true := bne_iff_ne.2 hst
      clear hst
      go_wp2_with fail
      refine (HF5.out _ rx).mono ?_
      rintro e w7 ⟨rfl, hb⟩
      clear bm_0 bm_1 bn_0 bn_1
      replace bm := bm.later hb
      replace bn := bn.later hb
      replace rx := rx.below hb
      replace ry := ry.below hb
      replace bW := bW.thenB hb
      have z7 := hb.size
      clear hb
      have bm_0 := bm.c0
      have bm_1 := bm.c1
      have bn_0 := bn.c0
      have bn_1 := bn.c1
      go_wp2_with fail
      refine (HF6.out _ ry).mono ?_
      rintro e w8 ⟨rfl, hb⟩
      clear bm_0 bm_1 bn_0 bn_1
      replace bm := bm.later hb
      replace bn := bn.later hb
      replace rx := rx.below hb
      replace ry := ry.below hb
      replace bW := bW.thenB hb
      have z8 := hb.size
      clear hb
      have bm_0 := bm.c0
      have bm_1 := bm.c1
      have bn_0 := bn.c0
      have bn_1 := bn.c1
      go_wp2_with fail
      refine (HF3.out _ rx ry).mono ?_
      rintro e w9 ⟨rfl, hb⟩
      clear bm_0 bm_1 bn_0 bn_1
      replace bm := bm.later hb
      replace bn := bn.later hb
      replace rx := rx.below hb
      replace ry := ry.below hb
      replace bW := bW.thenB hb
      have z9 := hb.size
      clear hb
      have bm_0 := bm.c0
      have bm_1 := bm.c1
      have bn_0 := bn.c0
      have bn_1 := bn.c1
      go_wp2_with fail
      refine (HF4.out _ rx ry).mono ?_
      rintro e w10 ⟨rfl, hb⟩
      clear bm_0 bm_1 bn_0 bn_1
      replace bm := bm.later hb
      replace bn := bn.later hb
      replace rx := rx.below hb
      replace ry := ry.below hb
      replace bW := bW.thenB hb
      have z10 := hb.size
      clear hb
      have bm_0 := bm.c0
      have bm_1 := bm.c1
      have bn_0 := bn.c0
      have bn_1 := bn.c1
      go_wp2
      go_ret
      exact ⟨rfl, bW⟩
  · skip
    have law := mp_law hb
    have hk := massB_ok law.mx
    have hj := massB_ok law.my
    have hx16 := hk.l16
    have hy16 := hj.l16
    have hlxy := Lib.hid law.len
    have hx2 : 2 ≤ xs.length := by have := hk.len; have := pow2_bd s hk.s1 hk.s4; omega
    have HLAW := Lib.hid law
    have hss : (s != s) = false := by simp
    have HK := Lib.hid hk
    have HJ := Lib.hid hj
    clear law hk hj hb
    go_wp2_with fail
    refine (HF5.out _ rx).mono ?_
    rintro e w7 ⟨rfl, hb⟩
    clear bm_0 bm_1 bn_0 bn_1
    replace bm := bm.later hb
    replace bn := bn.later hb
    replace rx := rx.below hb
    replace ry := ry.below hb
    replace bW := bW.thenB hb
    have z7 := hb.size
    clear hb
    have bm_0 := bm.c0
    have bm_1 := bm.c1
    have bn_0 := bn.c0
    have bn_1 := bn.c1
    go_wp2_with fail
    refine (HF6.out _ ry).mono ?_
    rintro e w8 ⟨rfl, hb⟩
    clear bm_0 bm_1 bn_0 bn_1
    replace bm := bm.later hb
    replace bn := bn.later hb
    replace rx := rx.below hb
    replace ry := ry.below hb
    replace bW := bW.thenB hb
    have z8 := hb.size
    clear hb
    have bm_0 := bm.c0
    have bm_1 := bm.c1
    have bn_0 := bn.c0
    have bn_1 := bn.c1
    have hw1 : whS s xs = sumL xs := by rw [whS, if_pos HLAW.out.mx]
    have hw2 : whS s ys = sumL ys := by rw [whS, if_pos HLAW.out.my]
    obtain ⟨X, hX⟩ : ∃ X, X = sumL xs := ⟨_, rfl⟩
    obtain ⟨Y, hY⟩ : ∃ Y, Y = sumL ys := ⟨_, rfl⟩
    have hX1 : 1 ≤ X := by rw [hX]; exact HK.out.sum1
    have hX2 : X ≤ 1000000 := by rw [hX]; exact HK.out.sum2
    have hY1 : 1 ≤ Y := by rw [hY]; exact HJ.out.sum1
    have hY2 : Y ≤ 1000000 := by rw [hY]; exact HJ.out.sum2
    have hG1 := fun (w : World) (hx : Reads w p xs) => iWholeOf_any s p c xs w hx (by omega)
    have hG2 := fun (w : World) (hy : Reads w q ys) => iWholeOf_any s q d ys w hy (by omega)
    rw [hw1, ← hX] at hG1
    rw [hw2, ← hY] at hG2
    have HG1 := Lib.hid hG1
    have HG2 := Lib.hid hG2
    have HX := Lib.hid hX
    have HY := Lib.hid hY
    clear hw1 hw2 hX hY hG1 hG2
    go_wp2
    go_loopw [7, 8] (fun z i wz => ∃ a : Nat, a ≤ xs.length ∧ i = .int .i64 a ∧ z = .bool (imTo xs ys a) ∧ Below w8.heap.size w8 wz) (fun _ i _ => xs.length - (intOf i).toNat)
    case atStart => exact ⟨0, Nat.zero_le _, rfl, rfl, Below.refl _ _⟩
    case round =>
      obtain ⟨a, ha, rfl, rfl, hba⟩ := hrel
      clear bm_0 bm_1 bn_0 bn_1
      replace bm := bm.later hba
      replace bn := bn.later hba
      replace rx := rx.below hba
      replace ry := ry.below hba
      replace bW := bW.thenB hba
      have z9 := hba.size
      have bm_0 := bm.c0
      have bm_1 := bm.c1
      have bn_0 := bn.c0
      have bn_1 := bn.c1
      by_cases hlta : a < xs.length
      · skip
        have hsc := imTo_succ xs ys a
        obtain ⟨I1, hI1⟩ : ∃ N, N = imS a xs := ⟨_, rfl⟩
        obtain ⟨I2, hI2⟩ : ∃ N, N = imS a ys := ⟨_, rfl⟩
        rw [← hI1, ← hI2, ← HX.out, ← HY.out] at hsc
        have i1 := imS_bd a HK.out
        have i2 := imS_bd a HJ.out
        rw [← hI1] at i1
        rw [← hI2] at i2
        have hm1 : msB s xs (a : Int) = true := by simp [msB, HLAW.out.mx, setB]; have := HK.out.len; omega
        have hm2 : msB s ys (a : Int) = true := by simp [msB, HLAW.out.my, setB]; have := HJ.out.len; have := HLAW.out.len; omega
        have hJ1 := fun (w : World) (hx : Reads w p xs) => iImpliedPart_any s p c xs (a : Int) w hx (by omega)
        have hJ2 := fun (w : World) (hy : Reads w q ys) => iImpliedPart_any s q d ys (a : Int) w hy (by omega)
        rw [show imR s xs (a : Int) = I1 by rw [imR, if_pos hm1, hI1]; rfl] at hJ1
        rw [show imR s ys (a : Int) = I2 by rw [imR, if_pos hm2, hI2]; rfl] at hJ2
        have hb1 : 0 ≤ I1 * Y ∧ I1 * Y ≤ 16000000 * 1000000 := ⟨Int.mul_nonneg i1.1 (by omega), Int.mul_le_mul i1.2 hY2 (by omega) (by omega)⟩
        have hb2 : 0 ≤ I2 * X ∧ I2 * X ≤ 16000000 * 1000000 := ⟨Int.mul_nonneg i2.1 (by omega), Int.mul_le_mul i2.2 hX2 (by omega) (by omega)⟩
        have hwr1 : IntKind.i64.wrap (I1 * Y) = I1 * Y := IntWalk.i64_in _ ⟨by omega, by omega⟩
        have hwr2 : IntKind.i64.wrap (I2 * X) = I2 * X := IntWalk.i64_in _ ⟨by omega, by omega⟩
        obtain ⟨Z, hZ⟩ : ∃ Z, Z = imTo xs ys a := ⟨_, rfl⟩
        rw [← hZ] at hsc ⊢
        have HSC := Lib.hid hsc
        have HJ1 := Lib.hid hJ1
        have HJ2 := Lib.hid hJ2
        clear hsc hm1 hm2 hJ1 hJ2 hI1 hI2 hb1 hb2 i1 i2 hZ
        cases Z
        · skip
          clear hwr1 hwr2
          go_wp2
          have q0 := fun x : LaterW wr.heap.size wr => x.cell bm.lt bm_0
          have q1 := fun x : LaterW wr.heap.size wr => x.cell bm.lt bm_1
          have q2 := fun x : LaterW wr.heap.size wr => x.cell bn.lt bn_0
          have q3 := fun x : LaterW wr.heap.size wr => x.cell bn.lt bn_1
          refine wp_region_later (by kernel_rfl) (by kernel_rfl) ?_
          repeat (go_big_quiet_step ((first | (go_at_call 31; with_reducible exact LaterW.call (HJ1.out _ (LaterW.reads _ (by assumption)))) | (go_at_call 31; with_reducible exact LaterW.call (HJ2.out _ (LaterW.reads _ (by assumption)))) | (go_at_call 32; with_reducible exact LaterW.call (HG1.out _ (LaterW.reads _ (by assumption)))) | (go_at_call 32; with_reducible exact LaterW.call (HG2.out _ (LaterW.reads _ (by assumption)))))))
          refine wpQuiet_nil ?_
          intro _ hw'
          obtain ⟨x, rfl⟩ := hw'
          have hb := x.below
          clear q0 q1 q2 q3
          generalize x.w = w10 at *
          clear bm_0 bm_1 bn_0 bn_1
          replace bm := bm.later hb
          replace bn := bn.later hb
          replace rx := rx.below hb
          replace ry := ry.below hb
          replace bW := bW.thenB hb
          replace hba := hba.thenB hb
          have z10 := hb.size
          clear hb
          have bm_0 := bm.c0
          have bm_1 := bm.c1
          have bn_0 := bn.c0
          have bn_1 := bn.c1
          go_wp2
          exact ⟨⟨a + 1, by omega, by go_num, by rw [HSC.out]; rfl, hba⟩, by simp [intOf]; omega⟩
        · skip
          by_cases hcmp : I2 * X ≤ I1 * Y
          · skip
            have hdc := Lib.hid (show decide (I2 * X ≤ I1 * Y) = true by simp [hcmp])
            go_wp2
            have q0 := fun x : LaterW wr.heap.size wr => x.cell bm.lt bm_0
            have q1 := fun x : LaterW wr.heap.size wr => x.cell bm.lt bm_1
            have q2 := fun x : LaterW wr.heap.size wr => x.cell bn.lt bn_0
            have q3 := fun x : LaterW wr.heap.size wr => x.cell bn.lt bn_1
            refine wp_region_later (by kernel_rfl) (by kernel_rfl) ?_
            repeat (go_big_quiet_step ((first | (go_at_call 31; with_reducible exact LaterW.call (HJ1.out _ (LaterW.reads _ (by assumption)))) | (go_at_call 31; with_reducible exact LaterW.call (HJ2.out _ (LaterW.reads _ (by assumption)))) | (go_at_call 32; with_reducible exact LaterW.call (HG1.out _ (LaterW.reads _ (by assumption)))) | (go_at_call 32; with_reducible exact LaterW.call (HG2.out _ (LaterW.reads _ (by assumption)))))))
            refine wpQuiet_nil ?_
            intro _ hw'
            obtain ⟨x, rfl⟩ := hw'
            have hb := x.below
            clear q0 q1 q2 q3
            generalize x.w = w10 at *
            clear bm_0 bm_1 bn_0 bn_1
            replace bm := bm.later hb
            replace bn := bn.later hb
            replace rx := rx.below hb
            replace ry := ry.below hb
            replace bW := bW.thenB hb
            replace hba := hba.thenB hb
            have z10 := hb.size
            clear hb
            have bm_0 := bm.c0
            have bm_1 := bm.c1
            have bn_0 := bn.c0
            have bn_1 := bn.c1
            go_wp2
            exact ⟨⟨a + 1, by omega, by go_num, by rw [HSC.out, hdc.out]; rfl, hba⟩, by simp [intOf]; omega⟩
          · skip
            have hdc := Lib.hid (show decide (I2 * X ≤ I1 * Y) = false by simp [hcmp])
            go_wp2
            have q0 := fun x : LaterW wr.heap.size wr => x.cell bm.lt bm_0
            have q1 := fun x : LaterW wr.heap.size wr => x.cell bm.lt bm_1
            have q2 := fun x : LaterW wr.heap.size wr => x.cell bn.lt bn_0
            have q3 := fun x : LaterW wr.heap.size wr => x.cell bn.lt bn_1
            refine wp_region_later (by kernel_rfl) (by kernel_rfl) ?_
            repeat (go_big_quiet_step ((first | (go_at_call 31; with_reducible exact LaterW.call (HJ1.out _ (LaterW.reads _ (by assumption)))) | (go_at_call 31; with_reducible exact LaterW.call (HJ2.out _ (LaterW.reads _ (by assumption)))) | (go_at_call 32; with_reducible exact LaterW.call (HG1.out _ (LaterW.reads _ (by assumption)))) | (go_at_call 32; with_reducible exact LaterW.call (HG2.out _ (LaterW.reads _ (by assumption)))))))
            refine wpQuiet_nil ?_
            intro _ hw'
            obtain ⟨x, rfl⟩ := hw'
            have hb := x.below
            clear q0 q1 q2 q3
            generalize x.w = w10 at *
            clear bm_0 bm_1 bn_0 bn_1
            replace bm := bm.later hb
            replace bn := bn.later hb
            replace rx := rx.below hb
            replace ry := ry.below hb
            replace bW := bW.thenB hb
            replace hba := hba.thenB hb
            have z10 := hb.size
            clear hb
            have bm_0 := bm.c0
            have bm_1 := bm.c1
            have bn_0 := bn.c0
            have bn_1 := bn.c1
            go_wp2
            exact ⟨⟨a + 1, by omega, by go_num, by rw [HSC.out, hdc.out]; rfl, hba⟩, by simp [intOf]; omega⟩
      · skip
        have hae : a = xs.length := by omega
        subst hae
        have hall := HLAW.out.all
        rw [← HMP.out] at hall
        rw [hall]
        obtain ⟨F, hF⟩ : ∃ F, F = fuL xs := ⟨_, rfl⟩
        obtain ⟨BK, hBK⟩ : ∃ N, N = mpB s ys s xs := ⟨_, rfl⟩
        have hB1 := fun (w : World) (hx : Reads w p xs) (hy : Reads w q ys) => iMorePossible_any s q d ys s p c xs w hy hx (by omega) (by omega)
        rw [← hBK] at hB1
        have hFl : F.length ≤ 16 := by rw [hF, fuL_len]; omega
        have hpl : (pow2 s).toNat = xs.length := by have := HK.out.len; omega
        have hsz : szB s = true := by simp only [szB, inB, Bool.and_eq_true, decide_eq_true_eq]; exact ⟨HK.out.s1, HK.out.s4⟩
        have hN2 : neL s = F := by rw [hF, neL, if_pos hsz, hpl, fuL]
        have hN1 : neS s = s := by rw [neS, if_pos hsz]
        have hne := fun (w : World) => iNoEvidence_any s w
        simp only [hN1, hN2, hsz] at hne
        have hmp := HLAW.out.mp
        have hmc := HLAW.out.mc
        rw [← hF] at hmp hmc
        have hD1 := fun (w : World) (a : Option Addr) (k : Nat) (hx : Reads w p xs) (hy : Reads w a F) => iMorePossible_any s p c xs s a k F w hx hy (by omega) (by omega)
        have hD2 := fun (w : World) (a : Option Addr) (k : Nat) (hx : Reads w p xs) (hy : Reads w a F) => iMoreCommon_any s p c xs s a k F w hx hy (by omega) (by omega)
        rw [hmp] at hD1
        rw [hmc] at hD2
        have heq : MP = true → BK = true → xs = ys := fun h1 h2 => HLAW.out.eq (HMP.out.symm.trans h1) (hBK.symm.trans h2)
        have HEQ := Lib.hid heq
        have HB1 := Lib.hid hB1
        have HNE := Lib.hid hne
        have HD1 := Lib.hid hD1
        have HD2 := Lib.hid hD2
        clear hall hF hBK hB1 hpl hsz hN2 hN1 hne hmp hmc hD1 hD2 heq
        go_wp2_with fail
        refine (HB1.out _ rx ry).mono ?_
        rintro e w10 ⟨rfl, hb⟩
        clear bm_0 bm_1 bn_0 bn_1
        replace bm := bm.later hb
        replace bn := bn.later hb
        replace rx := rx.below hb
        replace ry := ry.below hb
        replace bW := bW.thenB hb
        replace hba := hba.thenB hb
        have z10 := hb.size
        clear hb
        have bm_0 := bm.c0
        have bm_1 := bm.c1
        have bn_0 := bn.c0
        have bn_1 := bn.c1
        go_wp2_with fail
        refine (HNE.out _).mono ?_
        rintro e w11 ⟨v, rfl, o, hb⟩
        clear bm_0 bm_1 bn_0 bn_1
        replace bm := bm.later hb
        replace bn := bn.later hb
        replace rx := rx.below hb
        replace ry := ry.below hb
        replace bW := bW.thenB hb
        replace hba := hba.thenB hb
        have z11 := hb.size
        obtain ⟨p9, k9, rfl, r9⟩ := o.shape
        clear o
        clear hb
        have bm_0 := bm.c0
        have bm_1 := bm.c1
        have bn_0 := bn.c0
        have bn_1 := bn.c1
        cases MP
        all_goals cases BK
        · skip
          have lt_bm := bm.lt
          have lt_bn := bn.lt
          go_wp2_with fail
          clear lt_bm lt_bn
          have hb := belowAlloc w11 (.cells #[.int .i64 s, .slice p9 F.length k9] 27)
          clear bm_0 bm_1 bn_0 bn_1
          replace bm := bm.later hb
          replace bn := bn.later hb
          replace rx := rx.below hb
          replace ry := ry.below hb
          replace r9 := r9.below hb
          replace bW := bW.thenB hb
          replace hba := hba.thenB hb
          clear hb
          have b9 := VarInv.made w11 (s) (.slice p9 F.length k9) 27
          have z12 := b9.lt
          generalize hu12 : w11.alloc (.cells #[.int .i64 s, .slice p9 F.length k9] 27) = w12 at *
          clear hu12
          have bm_0 := bm.c0
          have bm_1 := bm.c1
          have bn_0 := bn.c0
          have bn_1 := bn.c1
          have b9_0 := b9.c0
          have b9_1 := b9.c1
          refine (HD1.out _ _ _ rx r9).mono ?_
          rintro e w13 ⟨rfl, hb⟩
          clear bm_0 bm_1 bn_0 bn_1 b9_0 b9_1
          replace bm := bm.later hb
          replace bn := bn.later hb
          replace b9 := b9.later hb
          replace rx := rx.below hb
          replace ry := ry.below hb
          replace r9 := r9.below hb
          replace bW := bW.thenB hb
          replace hba := hba.thenB hb
          have z13 := hb.size
          clear hb
          have bm_0 := bm.c0
          have bm_1 := bm.c1
          have bn_0 := bn.c0
          have bn_1 := bn.c1
          have b9_0 := b9.c0
          have b9_1 := b9.c1
          go_wp2_with fail
          refine (HD2.out _ _ _ rx r9).mono ?_
          rintro e w14 ⟨rfl, hb⟩
          clear bm_0 bm_1 bn_0 bn_1 b9_0 b9_1
          replace bm := bm.later hb
          replace bn := bn.later hb
          replace b9 := b9.later hb
          replace rx := rx.below hb
          replace ry := ry.below hb
          replace r9 := r9.below hb
          replace bW := bW.thenB hb
          replace hba := hba.thenB hb
          have z14 := hb.size
          clear hb
          have bm_0 := bm.c0
          have bm_1 := bm.c1
          have bn_0 := bn.c0
          have bn_1 := bn.c1
          have b9_0 := b9.c0
          have b9_1 := b9.c1
          go_wp2
          go_ret
          exact ⟨rfl, bW⟩
        · skip
          have lt_bm := bm.lt
          have lt_bn := bn.lt
          go_wp2_with fail
          clear lt_bm lt_bn
          have hb := belowAlloc w11 (.cells #[.int .i64 s, .slice p9 F.length k9] 27)
          clear bm_0 bm_1 bn_0 bn_1
          replace bm := bm.later hb
          replace bn := bn.later hb
          replace rx := rx.below hb
          replace ry := ry.below hb
          replace r9 := r9.below hb
          replace bW := bW.thenB hb
          replace hba := hba.thenB hb
          clear hb
          have b9 := VarInv.made w11 (s) (.slice p9 F.length k9) 27
          have z12 := b9.lt
          generalize hu12 : w11.alloc (.cells #[.int .i64 s, .slice p9 F.length k9] 27) = w12 at *
          clear hu12
          have bm_0 := bm.c0
          have bm_1 := bm.c1
          have bn_0 := bn.c0
          have bn_1 := bn.c1
          have b9_0 := b9.c0
          have b9_1 := b9.c1
          refine (HD1.out _ _ _ rx r9).mono ?_
          rintro e w13 ⟨rfl, hb⟩
          clear bm_0 bm_1 bn_0 bn_1 b9_0 b9_1
          replace bm := bm.later hb
          replace bn := bn.later hb
          replace b9 := b9.later hb
          replace rx := rx.below hb
          replace ry := ry.below hb
          replace r9 := r9.below hb
          replace bW := bW.thenB hb
          replace hba := hba.thenB hb
          have z13 := hb.size
          clear hb
          have bm_0 := bm.c0
          have bm_1 := bm.c1
          have bn_0 := bn.c0
          have bn_1 := bn.c1
          have b9_0 := b9.c0
          have b9_1 := b9.c1
          go_wp2_with fail
          refine (HD2.out _ _ _ rx r9).mono ?_
          rintro e w14 ⟨rfl, hb⟩
          clear bm_0 bm_1 bn_0 bn_1 b9_0 b9_1
          replace bm := bm.later hb
          replace bn := bn.later hb
          replace b9 := b9.later hb
          replace rx := rx.below hb
          replace ry := ry.below hb
          replace r9 := r9.below hb
          replace bW := bW.thenB hb
          replace hba := hba.thenB hb
          have z14 := hb.size
          clear hb
          have bm_0 := bm.c0
          have bm_1 := bm.c1
          have bn_0 := bn.c0
          have bn_1 := bn.c1
          have b9_0 := b9.c0
          have b9_1 := b9.c1
          go_wp2
          go_ret
          exact ⟨rfl, bW⟩
        · skip
          have lt_bm := bm.lt
          have lt_bn := bn.lt
          go_wp2_with fail
          clear lt_bm lt_bn
          have hb := belowAlloc w11 (.cells #[.int .i64 s, .slice p9 F.length k9] 27)
          clear bm_0 bm_1 bn_0 bn_1
          replace bm := bm.later hb
          replace bn := bn.later hb
          replace rx := rx.below hb
          replace ry := ry.below hb
          replace r9 := r9.below hb
          replace bW := bW.thenB hb
          replace hba := hba.thenB hb
          clear hb
          have b9 := VarInv.made w11 (s) (.slice p9 F.length k9) 27
          have z12 := b9.lt
          generalize hu12 : w11.alloc (.cells #[.int .i64 s, .slice p9 F.length k9] 27) = w12 at *
          clear hu12
          have bm_0 := bm.c0
          have bm_1 := bm.c1
          have bn_0 := bn.c0
          have bn_1 := bn.c1
          have b9_0 := b9.c0
          have b9_1 := b9.c1
          refine (HD1.out _ _ _ rx r9).mono ?_
          rintro e w13 ⟨rfl, hb⟩
          clear bm_0 bm_1 bn_0 bn_1 b9_0 b9_1
          replace bm := bm.later hb
          replace bn := bn.later hb
          replace b9 := b9.later hb
          replace rx := rx.below hb
          replace ry := ry.below hb
          replace r9 := r9.below hb
          replace bW := bW.thenB hb
          replace hba := hba.thenB hb
          have z13 := hb.size
          clear hb
          have bm_0 := bm.c0
          have bm_1 := bm.c1
          have bn_0 := bn.c0
          have bn_1 := bn.c1
          have b9_0 := b9.c0
          have b9_1 := b9.c1
          go_wp2_with fail
          refine (HD2.out _ _ _ rx r9).mono ?_
          rintro e w14 ⟨rfl, hb⟩
          clear bm_0 bm_1 bn_0 bn_1 b9_0 b9_1
          replace bm := bm.later hb
          replace bn := bn.later hb
          replace b9 := b9.later hb
          replace rx := rx.below hb
          replace ry := ry.below hb
          replace r9 := r9.below hb
          replace bW := bW.thenB hb
          replace hba := hba.thenB hb
          have z14 := hb.size
          clear hb
          have bm_0 := bm.c0
          have bm_1 := bm.c1
          have bn_0 := bn.c0
          have bn_1 := bn.c1
          have b9_0 := b9.c0
          have b9_1 := b9.c1
          go_wp2
          go_ret
          exact ⟨rfl, bW⟩
        · skip
          have lt_bm := bm.lt
          have lt_bn := bn.lt
          go_wp2_with fail
          clear lt_bm lt_bn
          have hb := belowAlloc w11 (.cells #[.int .i64 s, .slice p9 F.length k9] 27)
          clear bm_0 bm_1 bn_0 bn_1
          replace bm := bm.later hb
          replace bn := bn.later hb
          replace rx := rx.below hb
          replace ry := ry.below hb
          replace r9 := r9.below hb
          replace bW := bW.thenB hb
          replace hba := hba.thenB hb
          clear hb
          have b9 := VarInv.made w11 (s) (.slice p9 F.length k9) 27
          have z12 := b9.lt
          generalize hu12 : w11.alloc (.cells #[.int .i64 s, .slice p9 F.length k9] 27) = w12 at *
          clear hu12
          have bm_0 := bm.c0
          have bm_1 := bm.c1
          have bn_0 := bn.c0
          have bn_1 := bn.c1
          have b9_0 := b9.c0
          have b9_1 := b9.c1
          refine (weEqual_same _ _ _ _ _ _ _ _ _ _ rfl (by first | exact HEQ.out rfl rfl | exact HEQ.out trivial trivial) rfl rfl _ rx ry (by omega)).mono ?_
          rintro e w13 ⟨rfl, hb⟩
          clear bm_0 bm_1 bn_0 bn_1 b9_0 b9_1
          replace bm := bm.later hb
          replace bn := bn.later hb
          replace b9 := b9.later hb
          replace rx := rx.below hb
          replace ry := ry.below hb
          replace r9 := r9.below hb
          replace bW := bW.thenB hb
          replace hba := hba.thenB hb
          have z13 := hb.size
          clear hb
          have bm_0 := bm.c0
          have bm_1 := bm.c1
          have bn_0 := bn.c0
          have bn_1 := bn.c1
          have b9_0 := b9.c0
          have b9_1 := b9.c1
          go_wp2_with fail
          refine (HD1.out _ _ _ rx r9).mono ?_
          rintro e w14 ⟨rfl, hb⟩
          clear bm_0 bm_1 bn_0 bn_1 b9_0 b9_1
          replace bm := bm.later hb
          replace bn := bn.later hb
          replace b9 := b9.later hb
          replace rx := rx.below hb
          replace ry := ry.below hb
          replace r9 := r9.below hb
          replace bW := bW.thenB hb
          replace hba := hba.thenB hb
          have z14 := hb.size
          clear hb
          have bm_0 := bm.c0
          have bm_1 := bm.c1
          have bn_0 := bn.c0
          have bn_1 := bn.c1
          have b9_0 := b9.c0
          have b9_1 := b9.c1
          go_wp2_with fail
          refine (HD2.out _ _ _ rx r9).mono ?_
          rintro e w15 ⟨rfl, hb⟩
          clear bm_0 bm_1 bn_0 bn_1 b9_0 b9_1
          replace bm := bm.later hb
          replace bn := bn.later hb
          replace b9 := b9.later hb
          replace rx := rx.below hb
          replace ry := ry.below hb
          replace r9 := r9.below hb
          replace bW := bW.thenB hb
          replace hba := hba.thenB hb
          have z15 := hb.size
          clear hb
          have bm_0 := bm.c0
          have bm_1 := bm.c1
          have bn_0 := bn.c0
          have bn_1 := bn.c1
          have b9_0 := b9.c0
          have b9_1 := b9.c1
          go_wp2
          go_ret
          exact ⟨rfl, bW⟩

end Go.Proofs.Ytjmfjgoehicgcaa
