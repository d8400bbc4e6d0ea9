/- The law on masses that are focused: what it computes. -/
import Derived.Test.YtolbbeiiohegpaaD5
import Derived.Test.YtolbbeiiohegpaaZ7
import Derived.Test.YtolbbeiiohegpaaF7
import Derived.Test.YtolbbeiiohegpaaO8
set_option linter.unusedVariables false
set_option linter.unusedSimpArgs false
namespace Go.Proofs.Ytolbbeiiohegpaa
open Go.RowKit

set_option maxHeartbeats 4000000 in
theorem FnFocus_walk (w : World) (a0 : Option Addr) (c0 : Nat) (x0 : List Int) (m0 : x0.length ≤ maxLen) (rd0 : ReadsK .u8 w a0 x0) (wf0 : ∀ n ∈ x0, (Lit.int .u8 n).wf = true) (cp0 : x0.length ≤ c0) :
    Calls Try.prog 5 #[.slice a0 x0.length c0] w fun e w' => e = .returned (.bool true) ∧ Below w.heap.size w w' := by
  by_cases hbig0 : 1048576 < x0.length
  · unfold maxLen at m0
    clear rd0 wf0 cp0
    go_enter Try.func5, Try.ntmps5
    go_wp2
    go_ret
    exact ⟨rfl, Below.refl _ _⟩
  have HD := Lib.hid (DrawFocusMass_any a0 c0 x0 w rd0 wf0 m0 cp0)
  unfold maxLen at m0
  clear rd0 wf0 cp0
  go_enter Try.func5, Try.ntmps5
  go_wp2_with fail
  refine HD.out.mono ?_
  rintro e w1 ⟨s, p, c, xs, a, rfl, hxl, rx, bW⟩
  clear HD
  obtain ⟨S, hS⟩ : ∃ S, S = gS (msB s xs a) s (focP a.toNat xs) := ⟨_, rfl⟩
  obtain ⟨OK, hOK⟩ : ∃ OK, OK = gOk (msB s xs a) s (focP a.toNat xs) := ⟨_, rfl⟩
  obtain ⟨K, hK⟩ : ∃ K, K = gL (msB s xs a) s (focP a.toNat xs) := ⟨_, rfl⟩
  have hKl : K.length ≤ 17 := by rw [hK]; have := gL_len (msB s xs a) s (focP a.toNat xs); rw [focP_len] at this; omega
  have hF1 := fun (w : World) (hx : Reads w p xs) => iFocusMass_any s p c xs a w hx (by omega)
  have hF2 := fun (w : World) (hx : Reads w p xs) => sFocusMass_any s p c xs a w hx (by omega)
  simp only [← hS, ← hOK, ← hK] at hF1 hF2
  have HF1 := Lib.hid hF1
  have HF2 := Lib.hid hF2
  clear hF1 hF2
  have hno : OK = false → blR s xs a < 1 := fun h => foc_no (by rw [← hOK]; exact h)
  have hyes : OK = true → Focused s xs a K ∧ S = s := fun h => by rw [hS, hK]; exact focus_law (by rw [← hOK]; exact h)
  have HNO := Lib.hid hno
  have HYES := Lib.hid hyes
  clear hno hyes hS hOK hK
  have hq1 : (OK != OK) = false := by cases OK <;> rfl
  have hq2 : (OK == OK) = true := by cases OK <;> rfl
  go_wp2_with fail
  have hb := belowAlloc w1 (.cells #[.int .i64 s, .slice p xs.length c] 33)
  replace rx := rx.below hb
  replace bW := bW.thenB hb
  clear hb
  have bm := VarInv.made w1 (s) (.slice p xs.length c) 33
  have z2 := bm.lt
  generalize hu2 : w1.alloc (.cells #[.int .i64 s, .slice p xs.length c] 33) = w2 at *
  clear hu2
  have bm_0 := bm.c0
  have bm_1 := bm.c1
  refine (HF1.out _ rx).mono ?_
  rintro e w3 ⟨v, rfl, o, hb⟩
  clear bm_0 bm_1
  replace bm := bm.later hb
  replace rx := rx.below hb
  replace bW := bW.thenB hb
  have z3 := hb.size
  obtain ⟨p1, k1, rfl, r1⟩ := o.shape
  clear o
  clear hb
  have bm_0 := bm.c0
  have bm_1 := bm.c1
  have lt_bm := bm.lt
  go_wp2_with fail
  clear lt_bm
  have hb := belowAlloc w3 (.cells #[.int .i64 S, .slice p1 K.length k1] 33)
  clear bm_0 bm_1
  replace bm := bm.later hb
  replace rx := rx.below hb
  replace r1 := r1.below hb
  replace bW := bW.thenB hb
  clear hb
  have b1 := VarInv.made w3 (S) (.slice p1 K.length k1) 33
  have z4 := b1.lt
  generalize hu4 : w3.alloc (.cells #[.int .i64 S, .slice p1 K.length k1] 33) = w4 at *
  clear hu4
  have bm_0 := bm.c0
  have bm_1 := bm.c1
  have b1_0 := b1.c0
  have b1_1 := b1.c1
  refine (HF2.out _ rx).mono ?_
  rintro e w5 ⟨v, rfl, o, hb⟩
  clear bm_0 bm_1 b1_0 b1_1
  replace bm := bm.later hb
  replace b1 := b1.later hb
  replace rx := rx.below hb
  replace r1 := r1.below hb
  replace bW := bW.thenB hb
  have z5 := hb.size
  obtain ⟨p2, k2, rfl, r2⟩ := o.shape
  clear o
  clear hb
  have bm_0 := bm.c0
  have bm_1 := bm.c1
  have b1_0 := b1.c0
  have b1_1 := b1.c1
  have lt_bm := bm.lt
  have lt_b1 := b1.lt
  go_wp2_with fail
  clear lt_bm lt_b1
  have hb := belowAlloc w5 (.cells #[.int .i64 S, .slice p2 K.length k2] 33)
  clear bm_0 bm_1 b1_0 b1_1
  replace bm := bm.later hb
  replace b1 := b1.later hb
  replace rx := rx.below hb
  replace r1 := r1.below hb
  replace r2 := r2.below hb
  replace bW := bW.thenB hb
  clear hb
  have b2 := VarInv.made w5 (S) (.slice p2 K.length k2) 33
  have z6 := b2.lt
  generalize hu6 : w5.alloc (.cells #[.int .i64 S, .slice p2 K.length k2] 33) = w6 at *
  clear hu6
  have bm_0 := bm.c0
  have bm_1 := bm.c1
  have b1_0 := b1.c0
  have b1_1 := b1.c1
  have b2_0 := b2.c0
  have b2_1 := b2.c1
  refine (weEqual_same _ _ _ _ _ _ _ _ _ _ (rfl) (rfl) (rfl) (rfl) _ r1 r2 (by omega)).mono ?_
  rintro e w7 ⟨rfl, hb⟩
  clear bm_0 bm_1 b1_0 b1_1 b2_0 b2_1
  replace bm := bm.later hb
  replace b1 := b1.later hb
  replace b2 := b2.later hb
  replace rx := rx.below hb
  replace r1 := r1.below hb
  replace r2 := r2.below hb
  replace bW := bW.thenB hb
  have z7 := hb.size
  clear hb
  have bm_0 := bm.c0
  have bm_1 := bm.c1
  have b1_0 := b1.c0
  have b1_1 := b1.c1
  have b2_0 := b2.c0
  have b2_1 := b2.c1
  cases hok : OK
  · subst hok
    have hb1 : blR s xs a < 1 := HNO.out rfl
    go_wp2_with fail
    refine (weEqual_same _ _ _ _ _ _ _ _ _ _ (rfl) (rfl) (rfl) (rfl) _ r1 r2 (by omega)).mono ?_
    rintro e w8 ⟨rfl, hb⟩
    clear bm_0 bm_1 b1_0 b1_1 b2_0 b2_1
    replace bm := bm.later hb
    replace b1 := b1.later hb
    replace b2 := b2.later hb
    replace rx := rx.below hb
    replace r1 := r1.below hb
    replace r2 := r2.below hb
    replace bW := bW.thenB hb
    have z8 := hb.size
    clear hb
    have bm_0 := bm.c0
    have bm_1 := bm.c1
    have b1_0 := b1.c0
    have b1_1 := b1.c1
    have b2_0 := b2.c0
    have b2_1 := b2.c1
    go_wp2_with fail
    refine (iBelievedPart_any s p c xs a _ rx (by omega)).mono ?_
    rintro e w9 ⟨rfl, hb⟩
    clear bm_0 bm_1 b1_0 b1_1 b2_0 b2_1
    replace bm := bm.later hb
    replace b1 := b1.later hb
    replace b2 := b2.later hb
    replace rx := rx.below hb
    replace r1 := r1.below hb
    replace r2 := r2.below hb
    replace bW := bW.thenB hb
    have z9 := hb.size
    clear hb
    have bm_0 := bm.c0
    have bm_1 := bm.c1
    have b1_0 := b1.c0
    have b1_1 := b1.c1
    have b2_0 := b2.c0
    have b2_1 := b2.c1
    go_wp2
    go_ret
    exact ⟨rfl, bW⟩
  · subst hok
    obtain ⟨fo, rfl⟩ := HYES.out rfl
    obtain ⟨n, rfl, hn16⟩ := fo.nat
    clear HF1 HF2 HNO HYES
    have kK := massB_ok fo.mass
    have hx1 := kK.s1
    have hx4 := kK.s4
    have HKX := Lib.hid fo.len
    have hl16 : xs.length ≤ 16 := by have := kK.l16; have := HKX.out; omega
    have hlp : (xs.length : Int) = pow2 S := by rw [← HKX.out]; exact kK.len
    have FO := Lib.hid fo
    have HLP := Lib.hid hlp
    have hG := fun (w : World) (hx : Reads w p1 K) => iFocusMass_any S p1 k1 K (n : Int) w hx (by omega)
    have hH := fun (w : World) (hx : Reads w p1 K) => iLearnMass_any S p1 k1 K (n : Int) w hx (by omega)
    simp only [fo.again.1, fo.again.2.1, fo.again.2.2] at hG
    simp only [fo.learn.1, fo.learn.2.1, fo.learn.2.2] at hH
    have HG := Lib.hid hG
    have HH := Lib.hid hH
    clear fo kK hlp hG hH
    clear b2_0 b2_1
    clear b2
    clear r2
    go_wp2_with fail
    refine (iBelievedPart_any S p c xs (n : Int) _ rx (by omega)).mono ?_
    rintro e w8 ⟨rfl, hb⟩
    clear bm_0 bm_1 b1_0 b1_1
    replace bm := bm.later hb
    replace b1 := b1.later hb
    replace rx := rx.below hb
    replace r1 := r1.below hb
    replace bW := bW.thenB hb
    have z8 := hb.size
    clear hb
    have bm_0 := bm.c0
    have bm_1 := bm.c1
    have b1_0 := b1.c0
    have b1_1 := b1.c1
    go_wp2
    go_loopw [10] (fun i wr => ∃ k : Nat, k ≤ xs.length ∧ i = .int .i64 k ∧ Below w8.heap.size w8 wr) (fun i _ => xs.length - (intOf i).toNat)
    case atStart => exact ⟨0, Nat.zero_le _, rfl, Below.refl _ _⟩
    case round =>
      obtain ⟨k, hk, rfl, hbk⟩ := hrel
      clear bm_0 bm_1 b1_0 b1_1
      replace bm := bm.later hbk
      replace b1 := b1.later hbk
      replace rx := rx.below hbk
      replace r1 := r1.below hbk
      replace bW := bW.thenB hbk
      have z9 := hbk.size
      have bm_0 := bm.c0
      have bm_1 := bm.c1
      have b1_0 := b1.c0
      have b1_1 := b1.c1
      by_cases hltk : k < xs.length
      · skip
        have hk16 : k < 16 := by omega
        have hkp : (k : Int) < pow2 S := by rw [← HLP.out]; omega
        have hpart := FO.out.part k hk16 hkp
        obtain ⟨⟨e1, e2⟩, e3, e4⟩ := FO.out.bd k hk16 hkp
        obtain ⟨e5, e6⟩ := FO.out.all
        obtain ⟨e7, e8⟩ := FO.out.whole
        simp only [Int.toNat_natCast] at hpart e3 e4
        have hand := and_nat n k hn16 hk16
        have hw1 : wrap64 (blR S K k * blR S xs n) = blR S K k * blR S xs n := mul_wrap _ _ 16000000 16000000 e1 e2 e5 e6 (by omega)
        have hw2 : wrap64 (blR S xs ((n &&& k : Nat) : Int) * whS S K) = blR S xs ((n &&& k : Nat) : Int) * whS S K := mul_wrap _ _ 16000000 1000000 e3 e4 e7 e8 (by omega)
        have hne : (blR S K k * blR S xs n != blR S xs ((n &&& k : Nat) : Int) * whS S K) = false := by rw [hpart]; simp
        clear hpart e1 e2 e3 e4 e5 e6 e7 e8 hk16 hkp
        go_wp2
        have q0 := fun x : LaterW wr.heap.size wr => x.cell bm.lt bm_0
        have q1 := fun x : LaterW wr.heap.size wr => x.cell bm.lt bm_1
        have q2 := fun x : LaterW wr.heap.size wr => x.cell b1.lt b1_0
        have q3 := fun x : LaterW wr.heap.size wr => x.cell b1.lt b1_1
        refine wp_region_later (by kernel_rfl) (by kernel_rfl) ?_
        repeat (go_big_quiet_step ((first | (go_at_call 26; exact LaterW.call (iBelievedPart_any _ _ _ _ _ _ (LaterW.reads _ (by assumption)) (by omega))) | (go_at_call 27; exact LaterW.call (iWholeOf_any _ _ _ _ _ (LaterW.reads _ (by assumption)) (by omega))))))
        refine wpQuiet_nil ?_
        intro _ hw'
        obtain ⟨x, rfl⟩ := hw'
        have hb := x.below
        clear q0 q1 q2 q3
        generalize x.w = w10 at *
        clear bm_0 bm_1 b1_0 b1_1
        replace bm := bm.later hb
        replace b1 := b1.later hb
        replace rx := rx.below hb
        replace r1 := r1.below hb
        replace bW := bW.thenB hb
        replace hbk := hbk.thenB hb
        have z10 := hb.size
        clear hb
        have bm_0 := bm.c0
        have bm_1 := bm.c1
        have b1_0 := b1.c0
        have b1_1 := b1.c1
        go_wp2
        exact ⟨⟨k + 1, by omega, by go_num, hbk⟩, by simp [intOf]; omega⟩
      · skip
        go_wp2_with fail
        refine (HG.out _ r1).mono ?_
        rintro e w10 ⟨v, rfl, o, hb⟩
        clear bm_0 bm_1 b1_0 b1_1
        replace bm := bm.later hb
        replace b1 := b1.later hb
        replace rx := rx.below hb
        replace r1 := r1.below hb
        replace bW := bW.thenB hb
        replace hbk := hbk.thenB hb
        have z10 := hb.size
        obtain ⟨p3, k3, rfl, r3⟩ := o.shape
        clear o
        clear hb
        have bm_0 := bm.c0
        have bm_1 := bm.c1
        have b1_0 := b1.c0
        have b1_1 := b1.c1
        have lt_bm := bm.lt
        have lt_b1 := b1.lt
        go_wp2_with fail
        clear lt_bm lt_b1
        have hb := belowAlloc w10 (.cells #[.int .i64 S, .slice p3 K.length k3] 33)
        clear bm_0 bm_1 b1_0 b1_1
        replace bm := bm.later hb
        replace b1 := b1.later hb
        replace rx := rx.below hb
        replace r1 := r1.below hb
        replace r3 := r3.below hb
        replace bW := bW.thenB hb
        replace hbk := hbk.thenB hb
        clear hb
        have b3 := VarInv.made w10 (S) (.slice p3 K.length k3) 33
        have z11 := b3.lt
        generalize hu11 : w10.alloc (.cells #[.int .i64 S, .slice p3 K.length k3] 33) = w11 at *
        clear hu11
        have bm_0 := bm.c0
        have bm_1 := bm.c1
        have b1_0 := b1.c0
        have b1_1 := b1.c1
        have b3_0 := b3.c0
        have b3_1 := b3.c1
        refine (HH.out _ r1).mono ?_
        rintro e w12 ⟨v, rfl, o, hb⟩
        clear bm_0 bm_1 b1_0 b1_1 b3_0 b3_1
        replace bm := bm.later hb
        replace b1 := b1.later hb
        replace b3 := b3.later hb
        replace rx := rx.below hb
        replace r1 := r1.below hb
        replace r3 := r3.below hb
        replace bW := bW.thenB hb
        replace hbk := hbk.thenB hb
        have z12 := hb.size
        obtain ⟨p4, k4, rfl, r4⟩ := o.shape
        clear o
        clear hb
        have bm_0 := bm.c0
        have bm_1 := bm.c1
        have b1_0 := b1.c0
        have b1_1 := b1.c1
        have b3_0 := b3.c0
        have b3_1 := b3.c1
        have lt_bm := bm.lt
        have lt_b1 := b1.lt
        have lt_b3 := b3.lt
        go_wp2_with fail
        clear lt_bm lt_b1 lt_b3
        have hb := belowAlloc w12 (.cells #[.int .i64 S, .slice p4 K.length k4] 33)
        clear bm_0 bm_1 b1_0 b1_1 b3_0 b3_1
        replace bm := bm.later hb
        replace b1 := b1.later hb
        replace b3 := b3.later hb
        replace rx := rx.below hb
        replace r1 := r1.below hb
        replace r3 := r3.below hb
        replace r4 := r4.below hb
        replace bW := bW.thenB hb
        replace hbk := hbk.thenB hb
        clear hb
        have b4 := VarInv.made w12 (S) (.slice p4 K.length k4) 33
        have z13 := b4.lt
        generalize hu13 : w12.alloc (.cells #[.int .i64 S, .slice p4 K.length k4] 33) = w13 at *
        clear hu13
        have bm_0 := bm.c0
        have bm_1 := bm.c1
        have b1_0 := b1.c0
        have b1_1 := b1.c1
        have b3_0 := b3.c0
        have b3_1 := b3.c1
        have b4_0 := b4.c0
        have b4_1 := b4.c1
        refine (iIsNormal_any S p1 k1 K _ r1 (by omega)).mono ?_
        rintro e w14 ⟨rfl, hb⟩
        clear bm_0 bm_1 b1_0 b1_1 b3_0 b3_1 b4_0 b4_1
        replace bm := bm.later hb
        replace b1 := b1.later hb
        replace b3 := b3.later hb
        replace b4 := b4.later hb
        replace rx := rx.below hb
        replace r1 := r1.below hb
        replace r3 := r3.below hb
        replace r4 := r4.below hb
        replace bW := bW.thenB hb
        replace hbk := hbk.thenB hb
        have z14 := hb.size
        clear hb
        have bm_0 := bm.c0
        have bm_1 := bm.c1
        have b1_0 := b1.c0
        have b1_1 := b1.c1
        have b3_0 := b3.c0
        have b3_1 := b3.c1
        have b4_0 := b4.c0
        have b4_1 := b4.c1
        rw [FO.out.normal]
        go_wp2_with fail
        refine (weEqual_same _ _ _ _ _ _ _ _ _ _ (rfl) (rfl) (rfl) (rfl) _ r3 r1 (by omega)).mono ?_
        rintro e w15 ⟨rfl, hb⟩
        clear bm_0 bm_1 b1_0 b1_1 b3_0 b3_1 b4_0 b4_1
        replace bm := bm.later hb
        replace b1 := b1.later hb
        replace b3 := b3.later hb
        replace b4 := b4.later hb
        replace rx := rx.below hb
        replace r1 := r1.below hb
        replace r3 := r3.below hb
        replace r4 := r4.below hb
        replace bW := bW.thenB hb
        replace hbk := hbk.thenB hb
        have z15 := hb.size
        clear hb
        have bm_0 := bm.c0
        have bm_1 := bm.c1
        have b1_0 := b1.c0
        have b1_1 := b1.c1
        have b3_0 := b3.c0
        have b3_1 := b3.c1
        have b4_0 := b4.c0
        have b4_1 := b4.c1
        go_wp2_with fail
        refine (weEqual_same _ _ _ _ _ _ _ _ _ _ (rfl) (rfl) (rfl) (rfl) _ r4 r1 (by omega)).mono ?_
        rintro e w16 ⟨rfl, hb⟩
        clear bm_0 bm_1 b1_0 b1_1 b3_0 b3_1 b4_0 b4_1
        replace bm := bm.later hb
        replace b1 := b1.later hb
        replace b3 := b3.later hb
        replace b4 := b4.later hb
        replace rx := rx.below hb
        replace r1 := r1.below hb
        replace r3 := r3.below hb
        replace r4 := r4.below hb
        replace bW := bW.thenB hb
        replace hbk := hbk.thenB hb
        have z16 := hb.size
        clear hb
        have bm_0 := bm.c0
        have bm_1 := bm.c1
        have b1_0 := b1.c0
        have b1_1 := b1.c1
        have b3_0 := b3.c0
        have b3_1 := b3.c1
        have b4_0 := b4.c0
        have b4_1 := b4.c1
        go_wp2
        go_ret
        exact ⟨rfl, bW⟩

end Go.Proofs.Ytolbbeiiohegpaa
