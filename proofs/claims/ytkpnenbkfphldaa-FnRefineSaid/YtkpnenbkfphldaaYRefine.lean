/- The law on masses that are made fine: what it computes. -/
import Derived.Test.YtkpnenbkfphldaaDE
import Derived.Test.YtkpnenbkfphldaaZR
import Derived.Test.YtkpnenbkfphldaaE1
set_option linter.unusedVariables false
set_option linter.unusedSimpArgs false
namespace Go.Proofs.Ytkpnenbkfphldaa
open Go.RowKit

set_option maxHeartbeats 4000000 in
set_option maxRecDepth 100000 in
theorem FnRefine_walk (w : World) (a0 : Option Addr) (c0 : Nat) (x0 : List Int) (m0 : x0.length ≤ maxLen) (rd0 : ReadsK .u8 w a0 x0) (wf0 : ∀ n ∈ x0, (Lit.int .u8 n).wf = true) (cp0 : x0.length ≤ c0) :
    Calls Try.prog 6 #[.slice a0 x0.length c0] w fun e w' => e = .returned (.bool true) ∧ Below w.heap.size w w' := by
  by_cases hbig0 : 1048576 < x0.length
  · unfold maxLen at m0
    clear rd0 wf0 cp0
    go_enter Try.func6, Try.ntmps6
    go_wp2
    go_ret
    exact ⟨rfl, Below.refl _ _⟩
  have HD := Lib.hid (DrawRefineMass_any a0 c0 x0 w rd0 wf0 m0 cp0)
  unfold maxLen at m0
  clear rd0 wf0 cp0
  go_enter Try.func6, Try.ntmps6
  go_wp2_with fail
  refine HD.out.mono ?_
  rintro e w1 ⟨s, p, c, xs, q, d, ts, z, rfl, hxl, htl, rx, rt, bW⟩
  clear HD
  obtain ⟨S, hS⟩ : ∃ S, S = gS (rfG s xs ts z) z (rfP xs ts z) := ⟨_, rfl⟩
  obtain ⟨OK, hOK⟩ : ∃ OK, OK = gOk (rfG s xs ts z) z (rfP xs ts z) := ⟨_, rfl⟩
  obtain ⟨K, hK⟩ : ∃ K, K = gL (rfG s xs ts z) z (rfP xs ts z) := ⟨_, rfl⟩
  have hKl : K.length ≤ 1048576 := by rw [hK]; exact rfR_len s xs ts z
  have hF1 := fun (w : World) (hx : Reads w p xs) (ht : Reads w q ts) => iRefineMass_any s p c xs q d ts z w hx ht (by omega) (by omega)
  have hF2 := fun (w : World) (hx : Reads w p xs) (ht : Reads w q ts) => sRefineMass_any s p c xs q d ts z w hx ht (by omega) (by omega)
  simp only [← hS, ← hOK, ← hK] at hF1 hF2
  have HF1 := Lib.hid hF1
  have HF2 := Lib.hid hF2
  clear hF1 hF2
  have hyes : OK = true → ∃ C, RfLaw s xs ts z K C ∧ S = z := fun h => by
    obtain ⟨e, C, law⟩ := rf_law (hOK.symm.trans h)
    exact ⟨C, by rw [hK]; exact law, by rw [hS]; exact e⟩
  have HYES := Lib.hid hyes
  clear hyes hS hOK hK
  have hq1 : (OK != OK) = false := by cases OK <;> rfl
  have hq2 : (OK == OK) = true := by cases OK <;> rfl
  go_wp2_with fail
  have hb := belowAlloc w1 (.cells #[.int .i64 s, .slice p xs.length c] 25)
  replace rx := rx.below hb
  replace rt := rt.below hb
  replace bW := bW.thenB hb
  clear hb
  have bm := VarInv.made w1 (s) (.slice p xs.length c) 25
  have z2 := bm.lt
  generalize hu2 : w1.alloc (.cells #[.int .i64 s, .slice p xs.length c] 25) = w2 at *
  clear hu2
  have bm_0 := bm.c0
  have bm_1 := bm.c1
  refine (HF1.out _ rx rt).mono ?_
  rintro e w3 ⟨v, rfl, o, hb⟩
  clear bm_0 bm_1
  replace bm := bm.later hb
  replace rx := rx.below hb
  replace rt := rt.below hb
  replace bW := bW.thenB hb
  have z3 := hb.size
  obtain ⟨p1, k1, rfl, r1⟩ := o.shape
  clear o
  clear hb
  have bm_0 := bm.c0
  have bm_1 := bm.c1
  have lt_bm := bm.lt
  go_wp2_with fail
  clear lt_bm
  have hb := belowAlloc w3 (.cells #[.int .i64 S, .slice p1 K.length k1] 25)
  clear bm_0 bm_1
  replace bm := bm.later hb
  replace rx := rx.below hb
  replace rt := rt.below hb
  replace r1 := r1.below hb
  replace bW := bW.thenB hb
  clear hb
  have b1 := VarInv.made w3 (S) (.slice p1 K.length k1) 25
  have z4 := b1.lt
  generalize hu4 : w3.alloc (.cells #[.int .i64 S, .slice p1 K.length k1] 25) = w4 at *
  clear hu4
  have bm_0 := bm.c0
  have bm_1 := bm.c1
  have b1_0 := b1.c0
  have b1_1 := b1.c1
  refine (HF2.out _ rx rt).mono ?_
  rintro e w5 ⟨v, rfl, o, hb⟩
  clear bm_0 bm_1 b1_0 b1_1
  replace bm := bm.later hb
  replace b1 := b1.later hb
  replace rx := rx.below hb
  replace rt := rt.below hb
  replace r1 := r1.below hb
  replace bW := bW.thenB hb
  have z5 := hb.size
  obtain ⟨p2, k2, rfl, r2⟩ := o.shape
  clear o
  clear hb
  have bm_0 := bm.c0
  have bm_1 := bm.c1
  have b1_0 := b1.c0
  have b1_1 := b1.c1
  have lt_bm := bm.lt
  have lt_b1 := b1.lt
  go_wp2_with fail
  clear lt_bm lt_b1
  have hb := belowAlloc w5 (.cells #[.int .i64 S, .slice p2 K.length k2] 25)
  clear bm_0 bm_1 b1_0 b1_1
  replace bm := bm.later hb
  replace b1 := b1.later hb
  replace rx := rx.below hb
  replace rt := rt.below hb
  replace r1 := r1.below hb
  replace r2 := r2.below hb
  replace bW := bW.thenB hb
  clear hb
  have b2 := VarInv.made w5 (S) (.slice p2 K.length k2) 25
  have z6 := b2.lt
  generalize hu6 : w5.alloc (.cells #[.int .i64 S, .slice p2 K.length k2] 25) = w6 at *
  clear hu6
  have bm_0 := bm.c0
  have bm_1 := bm.c1
  have b1_0 := b1.c0
  have b1_1 := b1.c1
  have b2_0 := b2.c0
  have b2_1 := b2.c1
  refine (weEqual_same _ _ _ _ _ _ _ _ _ _ (rfl) (rfl) (rfl) (rfl) _ r1 r2 (by omega)).mono ?_
  rintro e w7 ⟨rfl, hb⟩
  clear bm_0 bm_1 b1_0 b1_1 b2_0 b2_1
  replace bm := bm.later hb
  replace b1 := b1.later hb
  replace b2 := b2.later hb
  replace rx := rx.below hb
  replace rt := rt.below hb
  replace r1 := r1.below hb
  replace r2 := r2.below hb
  replace bW := bW.thenB hb
  have z7 := hb.size
  clear hb
  have bm_0 := bm.c0
  have bm_1 := bm.c1
  have b1_0 := b1.c0
  have b1_1 := b1.c1
  have b2_0 := b2.c0
  have b2_1 := b2.c1
  cases hok : OK
  · subst hok
    go_wp2_with fail
    refine (weEqual_same _ _ _ _ _ _ _ _ _ _ (rfl) (rfl) (rfl) (rfl) _ r1 r2 (by omega)).mono ?_
    rintro e w8 ⟨rfl, hb⟩
    clear bm_0 bm_1 b1_0 b1_1 b2_0 b2_1
    replace bm := bm.later hb
    replace b1 := b1.later hb
    replace b2 := b2.later hb
    replace rx := rx.below hb
    replace rt := rt.below hb
    replace r1 := r1.below hb
    replace r2 := r2.below hb
    replace bW := bW.thenB hb
    have z8 := hb.size
    clear hb
    have bm_0 := bm.c0
    have bm_1 := bm.c1
    have b1_0 := b1.c0
    have b1_1 := b1.c1
    have b2_0 := b2.c0
    have b2_1 := b2.c1
    go_wp2
    go_ret
    exact ⟨rfl, bW⟩
  · subst hok
    obtain ⟨C, law, rfl⟩ := HYES.out rfl
    clear HF1 HF2 HYES
    have hx16 := law.l16
    have hK16 := law.lenK
    have ht4 := law.lent
    have hC16 := law.lenC
    obtain ⟨M, hM⟩ : ∃ M, M = maskTo ts ts.length := ⟨_, rfl⟩
    have hhit := law.hit
    have hback := law.back
    have hcut := law.cut
    have hwh := law.whole
    rw [← hM] at hhit hcut hwh
    have hmk : ∀ k, k ≤ ts.length → maskTo ts k < 16 := fun k hk => Nat.lt_pow_two_of_testBit (n := 4) _ fun i hi => by
      cases e : (maskTo ts k).testBit i
      · rfl
      · obtain ⟨x, hx, e2⟩ := (mask_bit ts i k).1 e
        have := law.rng x (by omega)
        omega
    have hB := fun (w : World) (a : Option Addr) (k : Nat) (hx : Reads w a K) (ht : Reads w q ts) => iCoarsenMass_any S a k K q d ts s w hx ht (by omega) (by omega)
    simp only [hback.1, hback.2.1, hback.2.2] at hB
    have hC := fun (w : World) (hx : Reads w p xs) => iCutMass_any s p c xs (M : Int) w hx (by omega)
    simp only [hcut.1, hcut.2.1, hcut.2.2] at hC
    have hN1 := fun (w : World) (a : Option Addr) (k : Nat) (hx : Reads w a K) => iIsNested_any S a k K w hx (by omega)
    have hN2 := fun (w : World) (hx : Reads w p xs) => iIsNested_any s p c xs w hx (by omega)
    have HB := Lib.hid hB
    have HC := Lib.hid hC
    have HN1 := Lib.hid hN1
    have HN2 := Lib.hid hN2
    have HRNG := Lib.hid law.rng
    have HMK := Lib.hid hmk
    have HWH := Lib.hid hwh
    have HM := Lib.hid hM
    clear hback hcut hwh hB hC hN1 hN2 hmk law hM
    clear b2_0 b2_1
    clear b2
    clear r2
    go_wp2
    go_loopw [10, 11] (fun v i wz => ∃ x : Nat, x ≤ ts.length ∧ i = .int .i64 x ∧ v = .int .i64 (maskTo ts x : Nat) ∧ Below w7.heap.size w7 wz) (fun _ i _ => ts.length - (intOf i).toNat)
    case atStart => exact ⟨0, Nat.zero_le _, rfl, rfl, Below.refl _ _⟩
    case round =>
      obtain ⟨x, hx, rfl, rfl, hbx⟩ := hrel
      clear bm_0 bm_1 b1_0 b1_1
      replace bm := bm.later hbx
      replace b1 := b1.later hbx
      replace rx := rx.below hbx
      replace rt := rt.below hbx
      replace r1 := r1.below hbx
      replace bW := bW.thenB hbx
      have z8 := hbx.size
      have bm_0 := bm.c0
      have bm_1 := bm.c1
      have b1_0 := b1.c0
      have b1_1 := b1.c1
      by_cases hltx : x < ts.length
      · skip
        have hr := HRNG.out x hltx
        obtain ⟨y, hy⟩ : ∃ y : Nat, nth ts x = (y : Int) := ⟨(nth ts x).toNat, by omega⟩
        have hy4 : y < 4 := by omega
        have hms := HMK.out x (by omega)
        have hsu := maskTo_succ ts x
        rw [hy, Int.toNat_natCast] at hsu
        obtain ⟨blt, oft, e0, _, ct⟩ := rt x hltx
        subst e0
        rw [hy] at ct
        have hwk := bit_wrap' y hy4
        have hor := bit_or' (maskTo ts x) y hms hy4
        have HSU := Lib.hid hsu
        obtain ⟨mm, hmm⟩ : ∃ mm, mm = maskTo ts x := ⟨_, rfl⟩
        rw [← hmm] at hor hms ⊢
        rw [← hmm] at HSU
        clear hsu hy hr hmm
        go_wp2
        exact ⟨⟨x + 1, by omega, by go_num, by rw [HSU.out], hbx⟩, by simp [intOf]; omega⟩
      · have hxn : x = ts.length := by omega
        subst hxn
        rw [← HM.out]
        go_wp2_with fail
        refine (HB.out _ _ _ r1 rt).mono ?_
        rintro e w9 ⟨v, rfl, o, hb⟩
        clear bm_0 bm_1 b1_0 b1_1
        replace bm := bm.later hb
        replace b1 := b1.later hb
        replace rx := rx.below hb
        replace rt := rt.below hb
        replace r1 := r1.below hb
        replace bW := bW.thenB hb
        replace hbx := hbx.thenB hb
        have z9 := hb.size
        obtain ⟨p3, k3, rfl, r3⟩ := o.shape
        clear o
        clear hb
        have bm_0 := bm.c0
        have bm_1 := bm.c1
        have b1_0 := b1.c0
        have b1_1 := b1.c1
        have lt_bm := bm.lt
        have lt_b1 := b1.lt
        go_wp2_with fail
        clear lt_bm lt_b1
        have hb := belowAlloc w9 (.cells #[.int .i64 s, .slice p3 C.length k3] 25)
        clear bm_0 bm_1 b1_0 b1_1
        replace bm := bm.later hb
        replace b1 := b1.later hb
        replace rx := rx.below hb
        replace rt := rt.below hb
        replace r1 := r1.below hb
        replace r3 := r3.below hb
        replace bW := bW.thenB hb
        replace hbx := hbx.thenB hb
        clear hb
        have b3 := VarInv.made w9 (s) (.slice p3 C.length k3) 25
        have z10 := b3.lt
        generalize hu10 : w9.alloc (.cells #[.int .i64 s, .slice p3 C.length k3] 25) = w10 at *
        clear hu10
        have bm_0 := bm.c0
        have bm_1 := bm.c1
        have b1_0 := b1.c0
        have b1_1 := b1.c1
        have b3_0 := b3.c0
        have b3_1 := b3.c1
        refine (HC.out _ rx).mono ?_
        rintro e w11 ⟨v, rfl, o, hb⟩
        clear bm_0 bm_1 b1_0 b1_1 b3_0 b3_1
        replace bm := bm.later hb
        replace b1 := b1.later hb
        replace b3 := b3.later hb
        replace rx := rx.below hb
        replace rt := rt.below hb
        replace r1 := r1.below hb
        replace r3 := r3.below hb
        replace bW := bW.thenB hb
        replace hbx := hbx.thenB hb
        have z11 := hb.size
        obtain ⟨p4, k4, rfl, r4⟩ := o.shape
        clear o
        clear hb
        have bm_0 := bm.c0
        have bm_1 := bm.c1
        have b1_0 := b1.c0
        have b1_1 := b1.c1
        have b3_0 := b3.c0
        have b3_1 := b3.c1
        have hwx : IntKind.i64.wrap ((xs.length : Int) - 1) = (xs.length : Int) - 1 := IntWalk.i64_in _ (by omega)
        have WQ := fun (w : World) (h1 : Reads w p3 C) (h2 : Reads w p4 C) => weEqual_same s s p3 p4 k3 k4 C.length C.length C C rfl rfl rfl rfl w h1 h2 (by omega)
        by_cases hfull : (M : Int) = (xs.length : Int) - 1
        · obtain ⟨hCx, hne⟩ := HWH.out hfull
          subst hCx
          have hnf : ((M : Int) != (C.length : Int) - 1) = false := by simp [hfull]
          have WX := fun (w : World) (h1 : Reads w p3 C) (h2 : Reads w p C) => weEqual_same s s p3 p k3 c C.length C.length C C rfl rfl rfl rfl w h1 h2 (by omega)
          have hN1 := HN1.out
          have hN2 := HN2.out
          simp only [hne] at hN1
          obtain ⟨E, hE⟩ : ∃ E, E = neG s C := ⟨_, rfl⟩
          simp only [← hE] at hN1 hN2
          have hee : (E == E) = true := by cases E <;> rfl
          clear hE hfull hne
          have lt_bm := bm.lt
          have lt_b1 := b1.lt
          have lt_b3 := b3.lt
          go_wp2
          clear lt_bm lt_b1 lt_b3
          have hb := belowAlloc w11 (.cells #[.int .i64 s, .slice p4 C.length k4] 25)
          clear bm_0 bm_1 b1_0 b1_1 b3_0 b3_1
          replace bm := bm.later hb
          replace b1 := b1.later hb
          replace b3 := b3.later hb
          replace rx := rx.below hb
          replace rt := rt.below hb
          replace r1 := r1.below hb
          replace r3 := r3.below hb
          replace r4 := r4.below hb
          replace bW := bW.thenB hb
          replace hbx := hbx.thenB hb
          clear hb
          have b4 := VarInv.made w11 (s) (.slice p4 C.length k4) 25
          have z12 := b4.lt
          generalize hu12 : w11.alloc (.cells #[.int .i64 s, .slice p4 C.length k4] 25) = w12 at *
          clear hu12
          have bm_0 := bm.c0
          have bm_1 := bm.c1
          have b1_0 := b1.c0
          have b1_1 := b1.c1
          have b3_0 := b3.c0
          have b3_1 := b3.c1
          have b4_0 := b4.c0
          have b4_1 := b4.c1
          have q0 := fun x : LaterW w12.heap.size w12 => x.cell bm.lt bm_0
          have q1 := fun x : LaterW w12.heap.size w12 => x.cell bm.lt bm_1
          have q2 := fun x : LaterW w12.heap.size w12 => x.cell b1.lt b1_0
          have q3 := fun x : LaterW w12.heap.size w12 => x.cell b1.lt b1_1
          have q4 := fun x : LaterW w12.heap.size w12 => x.cell b3.lt b3_0
          have q5 := fun x : LaterW w12.heap.size w12 => x.cell b3.lt b3_1
          have q6 := fun x : LaterW w12.heap.size w12 => x.cell b4.lt b4_0
          have q7 := fun x : LaterW w12.heap.size w12 => x.cell b4.lt b4_1
          refine wp_region_later (by kernel_rfl) (by kernel_rfl) ?_
          repeat (go_big_quiet_step ((first | (go_at_call 25; with_reducible exact LaterW.call (WQ _ (LaterW.reads _ (by assumption)) (LaterW.reads _ (by assumption)))) | (go_at_call 25; with_reducible exact LaterW.call (WX _ (LaterW.reads _ (by assumption)) (LaterW.reads _ (by assumption)))) | (go_at_call 38; with_reducible exact LaterW.call (hN1 _ _ _ (LaterW.reads _ (by assumption)))) | (go_at_call 38; with_reducible exact LaterW.call (hN2 _ (LaterW.reads _ (by assumption)))))))
          refine wpQuiet_nil ?_
          intro _ hw'
          obtain ⟨x, rfl⟩ := hw'
          have hb := x.below
          clear q0 q1 q2 q3 q4 q5 q6 q7
          generalize x.w = w13 at *
          clear bm_0 bm_1 b1_0 b1_1 b3_0 b3_1 b4_0 b4_1
          replace bm := bm.later hb
          replace b1 := b1.later hb
          replace b3 := b3.later hb
          replace b4 := b4.later hb
          replace rx := rx.below hb
          replace rt := rt.below hb
          replace r1 := r1.below hb
          replace r3 := r3.below hb
          replace r4 := r4.below hb
          replace bW := bW.thenB hb
          replace hbx := hbx.thenB hb
          have z13 := hb.size
          clear hb
          have bm_0 := bm.c0
          have bm_1 := bm.c1
          have b1_0 := b1.c0
          have b1_1 := b1.c1
          have b3_0 := b3.c0
          have b3_1 := b3.c1
          have b4_0 := b4.c0
          have b4_1 := b4.c1
          go_wp2
          go_ret
          exact ⟨rfl, bW⟩
        · have hnf : ((M : Int) != (xs.length : Int) - 1) = true := by simp [hfull]
          clear hfull
          have lt_bm := bm.lt
          have lt_b1 := b1.lt
          have lt_b3 := b3.lt
          go_wp2
          clear lt_bm lt_b1 lt_b3
          have hb := belowAlloc w11 (.cells #[.int .i64 s, .slice p4 C.length k4] 25)
          clear bm_0 bm_1 b1_0 b1_1 b3_0 b3_1
          replace bm := bm.later hb
          replace b1 := b1.later hb
          replace b3 := b3.later hb
          replace rx := rx.below hb
          replace rt := rt.below hb
          replace r1 := r1.below hb
          replace r3 := r3.below hb
          replace r4 := r4.below hb
          replace bW := bW.thenB hb
          replace hbx := hbx.thenB hb
          clear hb
          have b4 := VarInv.made w11 (s) (.slice p4 C.length k4) 25
          have z12 := b4.lt
          generalize hu12 : w11.alloc (.cells #[.int .i64 s, .slice p4 C.length k4] 25) = w12 at *
          clear hu12
          have bm_0 := bm.c0
          have bm_1 := bm.c1
          have b1_0 := b1.c0
          have b1_1 := b1.c1
          have b3_0 := b3.c0
          have b3_1 := b3.c1
          have b4_0 := b4.c0
          have b4_1 := b4.c1
          have q0 := fun x : LaterW w12.heap.size w12 => x.cell bm.lt bm_0
          have q1 := fun x : LaterW w12.heap.size w12 => x.cell bm.lt bm_1
          have q2 := fun x : LaterW w12.heap.size w12 => x.cell b1.lt b1_0
          have q3 := fun x : LaterW w12.heap.size w12 => x.cell b1.lt b1_1
          have q4 := fun x : LaterW w12.heap.size w12 => x.cell b3.lt b3_0
          have q5 := fun x : LaterW w12.heap.size w12 => x.cell b3.lt b3_1
          have q6 := fun x : LaterW w12.heap.size w12 => x.cell b4.lt b4_0
          have q7 := fun x : LaterW w12.heap.size w12 => x.cell b4.lt b4_1
          refine wp_region_later (by kernel_rfl) (by kernel_rfl) ?_
          repeat (go_big_quiet_step ((first | (go_at_call 25; with_reducible exact LaterW.call (WQ _ (LaterW.reads _ (by assumption)) (LaterW.reads _ (by assumption)))))))
          refine wpQuiet_nil ?_
          intro _ hw'
          obtain ⟨x, rfl⟩ := hw'
          have hb := x.below
          clear q0 q1 q2 q3 q4 q5 q6 q7
          generalize x.w = w13 at *
          clear bm_0 bm_1 b1_0 b1_1 b3_0 b3_1 b4_0 b4_1
          replace bm := bm.later hb
          replace b1 := b1.later hb
          replace b3 := b3.later hb
          replace b4 := b4.later hb
          replace rx := rx.below hb
          replace rt := rt.below hb
          replace r1 := r1.below hb
          replace r3 := r3.below hb
          replace r4 := r4.below hb
          replace bW := bW.thenB hb
          replace hbx := hbx.thenB hb
          have z13 := hb.size
          clear hb
          have bm_0 := bm.c0
          have bm_1 := bm.c1
          have b1_0 := b1.c0
          have b1_1 := b1.c1
          have b3_0 := b3.c0
          have b3_1 := b3.c1
          have b4_0 := b4.c0
          have b4_1 := b4.c1
          go_wp2
          go_ret
          exact ⟨rfl, bW⟩

end Go.Proofs.Ytkpnenbkfphldaa
