/- The law on the least chance among cases: what it computes. -/
import Derived.Test.YtkpnenbkfphldaaD5
import Derived.Test.YtkpnenbkfphldaaZV
import Derived.Test.YtkpnenbkfphldaaV8b
import Derived.Test.YtkpnenbkfphldaaE2
set_option linter.unusedVariables false
set_option linter.unusedSimpArgs false
namespace Go.Proofs.Ytkpnenbkfphldaa
open Go.RowKit

set_option maxHeartbeats 4000000 in
theorem FnLowestGiven_walk (w : World) (a0 : Option Addr) (c0 : Nat) (x0 : List Int) (m0 : x0.length ≤ maxLen) (rd0 : ReadsK .u8 w a0 x0) (wf0 : ∀ n ∈ x0, (Lit.int .u8 n).wf = true) (cp0 : x0.length ≤ c0) :
    Calls Try.prog 3 #[.slice a0 x0.length c0] w fun e w' => e = .returned (.bool true) ∧ Below w.heap.size w w' := by
  by_cases hbig0 : 1048576 < x0.length
  · unfold maxLen at m0
    clear rd0 wf0 cp0
    go_enter Try.func3, Try.ntmps3
    go_wp2
    go_ret
    exact ⟨rfl, Below.refl _ _⟩
  have HD := Lib.hid (DrawLowestGiven_any a0 c0 x0 w rd0 wf0 m0 cp0)
  unfold maxLen at m0
  clear rd0 wf0 cp0
  go_enter Try.func3, Try.ntmps3
  go_wp2_with fail
  refine HD.out.mono ?_
  rintro e w1 ⟨s, p, c, xs, b, a, rfl, hxl, rx, bW⟩
  clear HD
  have ho := lg_ok s xs b a
  have hyes : lgG s xs b a = true → _ := lg_law (s := s) (xs := xs) (b := b) (a := a)
  have hF1 := fun (w : World) (hx : Reads w p xs) => iLowestGiven_any s p c xs b a w hx (by omega)
  have hF2 := fun (w : World) (hx : Reads w p xs) => sLowestGiven_any s p c xs b a w hx (by omega)
  rw [ho] at hF1 hF2
  obtain ⟨N1, hN1⟩ : ∃ N, N = fN (lgG s xs b a) (imS (a.toNat &&& b.toNat) xs) (imS (a.toNat &&& b.toNat) xs + possS (dif a.toNat b.toNat) xs) := ⟨_, rfl⟩
  obtain ⟨D1, hD1⟩ : ∃ N, N = fD (lgG s xs b a) (imS (a.toNat &&& b.toNat) xs) (imS (a.toNat &&& b.toNat) xs + possS (dif a.toNat b.toNat) xs) := ⟨_, rfl⟩
  obtain ⟨G, hG⟩ : ∃ G, G = lgG s xs b a := ⟨_, rfl⟩
  simp only [← hN1, ← hD1] at hF1 hF2 hyes
  rw [← hG] at hF1 hF2 hyes
  have HF1 := Lib.hid hF1
  have HF2 := Lib.hid hF2
  have HYES := Lib.hid hyes
  clear hF1 hF2 ho hyes hN1 hD1 hG
  have hq1 : (G != G) = false := by cases G <;> rfl
  have hq2 : (G == G) = true := by cases G <;> rfl
  go_wp2_with fail
  have hb := belowAlloc w1 (.cells #[.int .i64 s, .slice p xs.length c] 25)
  replace rx := rx.below hb
  replace bW := bW.thenB hb
  clear hb
  have bm := VarInv.made w1 (s) (.slice p xs.length c) 25
  have z2 := bm.lt
  generalize hu2 : w1.alloc (.cells #[.int .i64 s, .slice p xs.length c] 25) = w2 at *
  clear hu2
  have bm_0 := bm.c0
  have bm_1 := bm.c1
  refine (HF1.out _ rx).mono ?_
  rintro e w3 ⟨rfl, hb⟩
  clear bm_0 bm_1
  replace bm := bm.later hb
  replace rx := rx.below hb
  replace bW := bW.thenB hb
  have z3 := hb.size
  clear hb
  have bm_0 := bm.c0
  have bm_1 := bm.c1
  have lt_bm := bm.lt
  go_wp2_with fail
  clear lt_bm
  have hb := belowAlloc w3 (.cells #[.int .i64 N1, .int .i64 D1] 29)
  clear bm_0 bm_1
  replace bm := bm.later hb
  replace rx := rx.below hb
  replace bW := bW.thenB hb
  clear hb
  have f1 := VarInv.made w3 (N1) (.int .i64 D1) 29
  have z4 := f1.lt
  generalize hu4 : w3.alloc (.cells #[.int .i64 N1, .int .i64 D1] 29) = w4 at *
  clear hu4
  have bm_0 := bm.c0
  have bm_1 := bm.c1
  have f1_0 := f1.c0
  have f1_1 := f1.c1
  refine (HF2.out _ rx).mono ?_
  rintro e w5 ⟨rfl, hb⟩
  clear bm_0 bm_1 f1_0 f1_1
  replace bm := bm.later hb
  replace f1 := f1.later hb
  replace rx := rx.below hb
  replace bW := bW.thenB hb
  have z5 := hb.size
  clear hb
  have bm_0 := bm.c0
  have bm_1 := bm.c1
  have f1_0 := f1.c0
  have f1_1 := f1.c1
  cases hok : G
  · subst hok
    have lt_bm := bm.lt
    have lt_f1 := f1.lt
    go_wp2
    clear lt_bm lt_f1
    have hb := belowAlloc w5 (.cells #[.int .i64 N1, .int .i64 D1] 29)
    clear bm_0 bm_1 f1_0 f1_1
    replace bm := bm.later hb
    replace f1 := f1.later hb
    replace rx := rx.below hb
    replace bW := bW.thenB hb
    clear hb
    have f2 := VarInv.made w5 (N1) (.int .i64 D1) 29
    have z6 := f2.lt
    generalize hu6 : w5.alloc (.cells #[.int .i64 N1, .int .i64 D1] 29) = w6 at *
    clear hu6
    have bm_0 := bm.c0
    have bm_1 := bm.c1
    have f1_0 := f1.c0
    have f1_1 := f1.c1
    have f2_0 := f2.c0
    have f2_1 := f2.c1
    go_ret
    exact ⟨rfl, bW⟩
  · subst hok
    obtain ⟨N2, D2, N3, D3, M3, E3, N4, D4, N5, D5, law⟩ := HYES.out rfl
    clear HF1 HF2 HYES
    have hB := fun (w : World) (hx : Reads w p xs) => iBelievedGiven_any s p c xs b a w hx (by omega)
    simp only [law.g.1.1, law.g.1.2, law.g.2] at hB
    have hO := fun (w : World) (hx : Reads w p xs) => iLowestGiven_any s p c xs (otR s b) a w hx (by omega)
    simp only [law.o.1.1, law.o.1.2, law.o.2] at hO
    have hT := fun (w : World) => iOtherSet_any s b w
    obtain ⟨ob, hob⟩ : ∃ o, o = otR s b := ⟨_, rfl⟩
    rw [← hob] at hO
    simp only [← hob] at hT
    have hM := fun (w : World) => iMinus_any N3 D3 w
    simp only [law.m.1, law.m.2] at hM
    have hA := fun (w : World) => iAdd_any 1 1 M3 E3 w
    simp only [law.h.1, law.h.2] at hA
    have hP := fun (w : World) (hx : Reads w p xs) => iPossibleGiven_any s p c xs b a w hx (by omega)
    simp only [law.p.1, law.p.2] at hP
    have HB := Lib.hid hB
    have HO := Lib.hid hO
    have HT := Lib.hid hT
    have HM := Lib.hid hM
    have HA := Lib.hid hA
    have HP := Lib.hid hP
    have L1 := Lib.hid law.l1
    have L2 := Lib.hid law.l2
    have L3 := Lib.hid law.l3
    have hn0 := law.n0
    have hn1 := law.n1
    clear hB hO hT hM hA hP law hob
    have lt_bm := bm.lt
    have lt_f1 := f1.lt
    go_wp2_with fail
    clear lt_bm lt_f1
    have hb := belowAlloc w5 (.cells #[.int .i64 N1, .int .i64 D1] 29)
    clear bm_0 bm_1 f1_0 f1_1
    replace bm := bm.later hb
    replace f1 := f1.later hb
    replace rx := rx.below hb
    replace bW := bW.thenB hb
    clear hb
    have f2 := VarInv.made w5 (N1) (.int .i64 D1) 29
    have z6 := f2.lt
    generalize hu6 : w5.alloc (.cells #[.int .i64 N1, .int .i64 D1] 29) = w6 at *
    clear hu6
    have bm_0 := bm.c0
    have bm_1 := bm.c1
    have f1_0 := f1.c0
    have f1_1 := f1.c1
    have f2_0 := f2.c0
    have f2_1 := f2.c1
    refine (HB.out _ rx).mono ?_
    rintro e w7 ⟨rfl, hb⟩
    clear bm_0 bm_1 f1_0 f1_1 f2_0 f2_1
    replace bm := bm.later hb
    replace f1 := f1.later hb
    replace f2 := f2.later hb
    replace rx := rx.below hb
    replace bW := bW.thenB hb
    have z7 := hb.size
    clear hb
    have bm_0 := bm.c0
    have bm_1 := bm.c1
    have f1_0 := f1.c0
    have f1_1 := f1.c1
    have f2_0 := f2.c0
    have f2_1 := f2.c1
    have lt_bm := bm.lt
    have lt_f1 := f1.lt
    have lt_f2 := f2.lt
    go_wp2_with fail
    clear lt_bm lt_f1 lt_f2
    have hb := belowAlloc w7 (.cells #[.int .i64 N2, .int .i64 D2] 29)
    clear bm_0 bm_1 f1_0 f1_1 f2_0 f2_1
    replace bm := bm.later hb
    replace f1 := f1.later hb
    replace f2 := f2.later hb
    replace rx := rx.below hb
    replace bW := bW.thenB hb
    clear hb
    have f3 := VarInv.made w7 (N2) (.int .i64 D2) 29
    have z8 := f3.lt
    generalize hu8 : w7.alloc (.cells #[.int .i64 N2, .int .i64 D2] 29) = w8 at *
    clear hu8
    have bm_0 := bm.c0
    have bm_1 := bm.c1
    have f1_0 := f1.c0
    have f1_1 := f1.c1
    have f2_0 := f2.c0
    have f2_1 := f2.c1
    have f3_0 := f3.c0
    have f3_1 := f3.c1
    clear bm_0 bm_1 f1_0 f1_1 f2_0 f2_1 f3_0 f3_1
    have lt_bm := bm.lt
    replace bm := bm.drew
    have lt_f1 := f1.lt
    replace f1 := f1.drew
    have lt_f2 := f2.lt
    replace f2 := f2.drew
    have lt_f3 := f3.lt
    replace f3 := f3.drew
    have HS_rx := Lib.hid rx
    replace rx := rx.drew
    have zf_bW := bW.size
    replace bW := drewAll bW
    have zD : w8.drew.heap.size = w8.heap.size := rfl
    have bQ : Below w8.heap.size w8 w8.drew := drewAll (Below.refl _ _)
    have bm_0 := bm.c0
    have bm_1 := bm.c1
    have f1_0 := f1.c0
    have f1_1 := f1.c1
    have f2_0 := f2.c0
    have f2_1 := f2.c1
    have f3_0 := f3.c0
    have f3_1 := f3.c1
    have tkA : True := trivial
    have tkB : True := trivial
    go_region_held3 (fun w' => w'.cell? ⟨w1.heap.size, 0, none⟩ = some (.int .i64 s) ∧ w'.cell? ⟨w1.heap.size, 1, none⟩ = some (.slice p xs.length c))
      (first | exact ⟨bm_0, bm_1⟩ | exact ⟨cellKeep (belowAlloc _ _) bm_0, cellKeep (belowAlloc _ _) bm_1⟩ | (refine ⟨cellStore2 bm_0 ?_, cellStore2 bm_1 ?_⟩ <;> omega) | (refine ⟨cellStore2 (cellKeep (belowAlloc _ _) bm_0) ?_, cellStore2 (cellKeep (belowAlloc _ _) bm_1) ?_⟩ <;> omega))
      (first
        | (go_at_call 15; have _t := tkA; (with_reducible refine (HT.out _).mono ?_); rintro e w9 ⟨rfl, hb⟩; clear bm_0 bm_1 f1_0 f1_1 f2_0 f2_1 f3_0 f3_1; (replace bm := bm.later hb); (replace f1 := f1.later hb); (replace f2 := f2.later hb); (replace f3 := f3.later hb); (replace rx := rx.below hb); (replace bW := bW.thenB hb); (replace bQ := bQ.thenB hb); (have bm_0 := bm.c0); (have bm_1 := bm.c1); (have f1_0 := f1.c0); (have f1_1 := f1.c1); (have f2_0 := f2.c0); (have f2_1 := f2.c1); (have f3_0 := f3.c0); (have f3_1 := f3.c1); (have z9 := hb.size); clear hb; clear tkA _t)
        | (go_at_call 15; have _t := tkA; (have hA : Below w8.drew.heap.size w8.drew ((w8.alloc (.cells #[.int .i64 0, .int .i64 0] 29)).drew) := belowAlloc w8.drew _); clear bm_0 bm_1 f1_0 f1_1 f2_0 f2_1 f3_0 f3_1; (replace bm := bm.later hA); (replace f1 := f1.later hA); (replace f2 := f2.later hA); (replace f3 := f3.later hA); (replace rx := rx.below hA); (replace bW := bW.thenB hA); (replace bQ := bQ.thenB hA); (have bm_0 := bm.c0); (have bm_1 := bm.c1); (have f1_0 := f1.c0); (have f1_1 := f1.c1); (have f2_0 := f2.c0); (have f2_1 := f2.c1); (have f3_0 := f3.c0); (have f3_1 := f3.c1); (have zA := hA.size); (have bF : VarInv (w8.alloc (.cells #[.int .i64 0, .int .i64 0] 29)).drew (w8.heap.size) 0 (.int .i64 0) := (VarInv.made w8 0 (.int .i64 0) 29).drew); (have F0 := bF.c0); (have F1 := bF.c1); (have F2 := bF.f0); (have F3 := bF.f1); clear hA; (with_reducible refine (HT.out _).mono ?_); rintro e w9 ⟨rfl, hb⟩; clear bm_0 bm_1 f1_0 f1_1 f2_0 f2_1 f3_0 f3_1; (replace bm := bm.later hb); (replace f1 := f1.later hb); (replace f2 := f2.later hb); (replace f3 := f3.later hb); (replace rx := rx.below hb); (replace bW := bW.thenB hb); (replace bQ := bQ.thenB hb); (have bm_0 := bm.c0); (have bm_1 := bm.c1); (have f1_0 := f1.c0); (have f1_1 := f1.c1); (have f2_0 := f2.c0); (have f2_1 := f2.c1); (have f3_0 := f3.c0); (have f3_1 := f3.c1); (replace bF := bF.later hb); clear F0 F1 F2 F3; (have F0 := bF.c0); (have F1 := bF.c1); (have F2 := bF.f0); (have F3 := bF.f1); (have z9 := hb.size); clear hb; clear tkA _t)
        | (go_at_call 12; have _t := tkB; (have _q := bF); (with_reducible refine (HO.out _ rx).mono ?_); rintro e w10 ⟨rfl, hb⟩; clear bm_0 bm_1 f1_0 f1_1 f2_0 f2_1 f3_0 f3_1; (replace bm := bm.later hb); (replace f1 := f1.later hb); (replace f2 := f2.later hb); (replace f3 := f3.later hb); (replace rx := rx.below hb); (replace bW := bW.thenB hb); (replace bQ := bQ.thenB hb); (have bm_0 := bm.c0); (have bm_1 := bm.c1); (have f1_0 := f1.c0); (have f1_1 := f1.c1); (have f2_0 := f2.c0); (have f2_1 := f2.c1); (have f3_0 := f3.c0); (have f3_1 := f3.c1); (replace bF := bF.later hb); clear F0 F1 F2 F3; (have F0 := bF.c0); (have F1 := bF.c1); (have F2 := bF.f0); (have F3 := bF.f1); (have z10 := hb.size); clear hb; clear tkB _t)
        | (go_at_call 12; have _t := tkB; (with_reducible refine (HO.out _ rx).mono ?_); rintro e w10 ⟨rfl, hb⟩; clear bm_0 bm_1 f1_0 f1_1 f2_0 f2_1 f3_0 f3_1; (replace bm := bm.later hb); (replace f1 := f1.later hb); (replace f2 := f2.later hb); (replace f3 := f3.later hb); (replace rx := rx.below hb); (replace bW := bW.thenB hb); (replace bQ := bQ.thenB hb); (have bm_0 := bm.c0); (have bm_1 := bm.c1); (have f1_0 := f1.c0); (have f1_1 := f1.c1); (have f2_0 := f2.c0); (have f2_1 := f2.c1); (have f3_0 := f3.c0); (have f3_1 := f3.c1); (have z10 := hb.size); clear hb; clear tkB _t)
        | (go_at_call 12; have _t := tkB; (have hA : Below w9.heap.size w9 (w9.alloc (.cells #[.int .i64 0, .int .i64 0] 29)) := belowAlloc w9 _); clear bm_0 bm_1 f1_0 f1_1 f2_0 f2_1 f3_0 f3_1; (replace bm := bm.later hA); (replace f1 := f1.later hA); (replace f2 := f2.later hA); (replace f3 := f3.later hA); (replace rx := rx.below hA); (replace bW := bW.thenB hA); (replace bQ := bQ.thenB hA); (have bm_0 := bm.c0); (have bm_1 := bm.c1); (have f1_0 := f1.c0); (have f1_1 := f1.c1); (have f2_0 := f2.c0); (have f2_1 := f2.c1); (have f3_0 := f3.c0); (have f3_1 := f3.c1); (have zA := hA.size); (have bF := VarInv.made w9 0 (.int .i64 0) 29); (have F0 := bF.c0); (have F1 := bF.c1); (have F2 := bF.f0); (have F3 := bF.f1); clear hA; (with_reducible refine (HO.out _ rx).mono ?_); rintro e w10 ⟨rfl, hb⟩; clear bm_0 bm_1 f1_0 f1_1 f2_0 f2_1 f3_0 f3_1; (replace bm := bm.later hb); (replace f1 := f1.later hb); (replace f2 := f2.later hb); (replace f3 := f3.later hb); (replace rx := rx.below hb); (replace bW := bW.thenB hb); (replace bQ := bQ.thenB hb); (have bm_0 := bm.c0); (have bm_1 := bm.c1); (have f1_0 := f1.c0); (have f1_1 := f1.c1); (have f2_0 := f2.c0); (have f2_1 := f2.c1); (have f3_0 := f3.c0); (have f3_1 := f3.c1); (replace bF := bF.later hb); clear F0 F1 F2 F3; (have F0 := bF.c0); (have F1 := bF.c1); (have F2 := bF.f0); (have F3 := bF.f1); (have z10 := hb.size); clear hb; clear tkB _t))
    · skip
      clear bQ HS_rx
      have hb := belowAlloc w10 (.cells #[.int .i64 N3, .int .i64 D3] 29)
      clear bm_0 bm_1 f1_0 f1_1 f2_0 f2_1 f3_0 f3_1
      replace bm := bm.later hb
      replace f1 := f1.later hb
      replace f2 := f2.later hb
      replace f3 := f3.later hb
      replace rx := rx.below hb
      replace bW := bW.thenB hb
      clear hb
      have f4 := VarInv.made w10 (N3) (.int .i64 D3) 29
      have z11 := f4.lt
      generalize hu11 : w10.alloc (.cells #[.int .i64 N3, .int .i64 D3] 29) = w11 at *
      clear hu11
      have bm_0 := bm.c0
      have bm_1 := bm.c1
      have f1_0 := f1.c0
      have f1_1 := f1.c1
      have f2_0 := f2.c0
      have f2_1 := f2.c1
      have f3_0 := f3.c0
      have f3_1 := f3.c1
      have f4_0 := f4.c0
      have f4_1 := f4.c1
      go_wp2_with fail
      refine (HM.out _).mono ?_
      rintro e w12 ⟨rfl, hb⟩
      clear bm_0 bm_1 f1_0 f1_1 f2_0 f2_1 f3_0 f3_1 f4_0 f4_1
      replace bm := bm.later hb
      replace f1 := f1.later hb
      replace f2 := f2.later hb
      replace f3 := f3.later hb
      replace f4 := f4.later hb
      replace rx := rx.below hb
      replace bW := bW.thenB hb
      have z12 := hb.size
      clear hb
      have bm_0 := bm.c0
      have bm_1 := bm.c1
      have f1_0 := f1.c0
      have f1_1 := f1.c1
      have f2_0 := f2.c0
      have f2_1 := f2.c1
      have f3_0 := f3.c0
      have f3_1 := f3.c1
      have f4_0 := f4.c0
      have f4_1 := f4.c1
      have lt_bm := bm.lt
      have lt_f1 := f1.lt
      have lt_f2 := f2.lt
      have lt_f3 := f3.lt
      have lt_f4 := f4.lt
      go_wp2_with fail
      clear lt_bm lt_f1 lt_f2 lt_f3 lt_f4
      have hb := belowAlloc w12 (.cells #[.int .i64 M3, .int .i64 E3] 29)
      clear bm_0 bm_1 f1_0 f1_1 f2_0 f2_1 f3_0 f3_1 f4_0 f4_1
      replace bm := bm.later hb
      replace f1 := f1.later hb
      replace f2 := f2.later hb
      replace f3 := f3.later hb
      replace f4 := f4.later hb
      replace rx := rx.below hb
      replace bW := bW.thenB hb
      clear hb
      have f5 := VarInv.made w12 (M3) (.int .i64 E3) 29
      have z13 := f5.lt
      generalize hu13 : w12.alloc (.cells #[.int .i64 M3, .int .i64 E3] 29) = w13 at *
      clear hu13
      have bm_0 := bm.c0
      have bm_1 := bm.c1
      have f1_0 := f1.c0
      have f1_1 := f1.c1
      have f2_0 := f2.c0
      have f2_1 := f2.c1
      have f3_0 := f3.c0
      have f3_1 := f3.c1
      have f4_0 := f4.c0
      have f4_1 := f4.c1
      have f5_0 := f5.c0
      have f5_1 := f5.c1
      refine (HA.out _).mono ?_
      rintro e w14 ⟨rfl, hb⟩
      clear bm_0 bm_1 f1_0 f1_1 f2_0 f2_1 f3_0 f3_1 f4_0 f4_1 f5_0 f5_1
      replace bm := bm.later hb
      replace f1 := f1.later hb
      replace f2 := f2.later hb
      replace f3 := f3.later hb
      replace f4 := f4.later hb
      replace f5 := f5.later hb
      replace rx := rx.below hb
      replace bW := bW.thenB hb
      have z14 := hb.size
      clear hb
      have bm_0 := bm.c0
      have bm_1 := bm.c1
      have f1_0 := f1.c0
      have f1_1 := f1.c1
      have f2_0 := f2.c0
      have f2_1 := f2.c1
      have f3_0 := f3.c0
      have f3_1 := f3.c1
      have f4_0 := f4.c0
      have f4_1 := f4.c1
      have f5_0 := f5.c0
      have f5_1 := f5.c1
      have lt_bm := bm.lt
      have lt_f1 := f1.lt
      have lt_f2 := f2.lt
      have lt_f3 := f3.lt
      have lt_f4 := f4.lt
      have lt_f5 := f5.lt
      go_wp2_with fail
      clear lt_bm lt_f1 lt_f2 lt_f3 lt_f4 lt_f5
      have hb := belowAlloc w14 (.cells #[.int .i64 N4, .int .i64 D4] 29)
      clear bm_0 bm_1 f1_0 f1_1 f2_0 f2_1 f3_0 f3_1 f4_0 f4_1 f5_0 f5_1
      replace bm := bm.later hb
      replace f1 := f1.later hb
      replace f2 := f2.later hb
      replace f3 := f3.later hb
      replace f4 := f4.later hb
      replace f5 := f5.later hb
      replace rx := rx.below hb
      replace bW := bW.thenB hb
      clear hb
      have f6 := VarInv.made w14 (N4) (.int .i64 D4) 29
      have z15 := f6.lt
      generalize hu15 : w14.alloc (.cells #[.int .i64 N4, .int .i64 D4] 29) = w15 at *
      clear hu15
      have bm_0 := bm.c0
      have bm_1 := bm.c1
      have f1_0 := f1.c0
      have f1_1 := f1.c1
      have f2_0 := f2.c0
      have f2_1 := f2.c1
      have f3_0 := f3.c0
      have f3_1 := f3.c1
      have f4_0 := f4.c0
      have f4_1 := f4.c1
      have f5_0 := f5.c0
      have f5_1 := f5.c1
      have f6_0 := f6.c0
      have f6_1 := f6.c1
      refine (HP.out _ rx).mono ?_
      rintro e w16 ⟨rfl, hb⟩
      clear bm_0 bm_1 f1_0 f1_1 f2_0 f2_1 f3_0 f3_1 f4_0 f4_1 f5_0 f5_1 f6_0 f6_1
      replace bm := bm.later hb
      replace f1 := f1.later hb
      replace f2 := f2.later hb
      replace f3 := f3.later hb
      replace f4 := f4.later hb
      replace f5 := f5.later hb
      replace f6 := f6.later hb
      replace rx := rx.below hb
      replace bW := bW.thenB hb
      have z16 := hb.size
      clear hb
      have bm_0 := bm.c0
      have bm_1 := bm.c1
      have f1_0 := f1.c0
      have f1_1 := f1.c1
      have f2_0 := f2.c0
      have f2_1 := f2.c1
      have f3_0 := f3.c0
      have f3_1 := f3.c1
      have f4_0 := f4.c0
      have f4_1 := f4.c1
      have f5_0 := f5.c0
      have f5_1 := f5.c1
      have f6_0 := f6.c0
      have f6_1 := f6.c1
      have lt_bm := bm.lt
      have lt_f1 := f1.lt
      have lt_f2 := f2.lt
      have lt_f3 := f3.lt
      have lt_f4 := f4.lt
      have lt_f5 := f5.lt
      have lt_f6 := f6.lt
      go_wp2_with fail
      clear lt_bm lt_f1 lt_f2 lt_f3 lt_f4 lt_f5 lt_f6
      have hb := belowAlloc w16 (.cells #[.int .i64 N5, .int .i64 D5] 29)
      clear bm_0 bm_1 f1_0 f1_1 f2_0 f2_1 f3_0 f3_1 f4_0 f4_1 f5_0 f5_1 f6_0 f6_1
      replace bm := bm.later hb
      replace f1 := f1.later hb
      replace f2 := f2.later hb
      replace f3 := f3.later hb
      replace f4 := f4.later hb
      replace f5 := f5.later hb
      replace f6 := f6.later hb
      replace rx := rx.below hb
      replace bW := bW.thenB hb
      clear hb
      have f7 := VarInv.made w16 (N5) (.int .i64 D5) 29
      have z17 := f7.lt
      generalize hu17 : w16.alloc (.cells #[.int .i64 N5, .int .i64 D5] 29) = w17 at *
      clear hu17
      have bm_0 := bm.c0
      have bm_1 := bm.c1
      have f1_0 := f1.c0
      have f1_1 := f1.c1
      have f2_0 := f2.c0
      have f2_1 := f2.c1
      have f3_0 := f3.c0
      have f3_1 := f3.c1
      have f4_0 := f4.c0
      have f4_1 := f4.c1
      have f5_0 := f5.c0
      have f5_1 := f5.c1
      have f6_0 := f6.c0
      have f6_1 := f6.c1
      have f7_0 := f7.c0
      have f7_1 := f7.c1
      refine (iLess_any N2 D2 N1 D1 _).mono ?_
      rintro e w18 ⟨rfl, hb⟩
      clear bm_0 bm_1 f1_0 f1_1 f2_0 f2_1 f3_0 f3_1 f4_0 f4_1 f5_0 f5_1 f6_0 f6_1 f7_0 f7_1
      replace bm := bm.later hb
      replace f1 := f1.later hb
      replace f2 := f2.later hb
      replace f3 := f3.later hb
      replace f4 := f4.later hb
      replace f5 := f5.later hb
      replace f6 := f6.later hb
      replace f7 := f7.later hb
      replace rx := rx.below hb
      replace bW := bW.thenB hb
      have z18 := hb.size
      clear hb
      have bm_0 := bm.c0
      have bm_1 := bm.c1
      have f1_0 := f1.c0
      have f1_1 := f1.c1
      have f2_0 := f2.c0
      have f2_1 := f2.c1
      have f3_0 := f3.c0
      have f3_1 := f3.c1
      have f4_0 := f4.c0
      have f4_1 := f4.c1
      have f5_0 := f5.c0
      have f5_1 := f5.c1
      have f6_0 := f6.c0
      have f6_1 := f6.c1
      have f7_0 := f7.c0
      have f7_1 := f7.c1
      rw [L1.out]
      go_wp2_with fail
      refine (iLess_any N4 D4 N5 D5 _).mono ?_
      rintro e w19 ⟨rfl, hb⟩
      clear bm_0 bm_1 f1_0 f1_1 f2_0 f2_1 f3_0 f3_1 f4_0 f4_1 f5_0 f5_1 f6_0 f6_1 f7_0 f7_1
      replace bm := bm.later hb
      replace f1 := f1.later hb
      replace f2 := f2.later hb
      replace f3 := f3.later hb
      replace f4 := f4.later hb
      replace f5 := f5.later hb
      replace f6 := f6.later hb
      replace f7 := f7.later hb
      replace rx := rx.below hb
      replace bW := bW.thenB hb
      have z19 := hb.size
      clear hb
      have bm_0 := bm.c0
      have bm_1 := bm.c1
      have f1_0 := f1.c0
      have f1_1 := f1.c1
      have f2_0 := f2.c0
      have f2_1 := f2.c1
      have f3_0 := f3.c0
      have f3_1 := f3.c1
      have f4_0 := f4.c0
      have f4_1 := f4.c1
      have f5_0 := f5.c0
      have f5_1 := f5.c1
      have f6_0 := f6.c0
      have f6_1 := f6.c1
      have f7_0 := f7.c0
      have f7_1 := f7.c1
      rw [L2.out]
      go_wp2_with fail
      refine (iLess_any N4 D4 N1 D1 _).mono ?_
      rintro e w20 ⟨rfl, hb⟩
      clear bm_0 bm_1 f1_0 f1_1 f2_0 f2_1 f3_0 f3_1 f4_0 f4_1 f5_0 f5_1 f6_0 f6_1 f7_0 f7_1
      replace bm := bm.later hb
      replace f1 := f1.later hb
      replace f2 := f2.later hb
      replace f3 := f3.later hb
      replace f4 := f4.later hb
      replace f5 := f5.later hb
      replace f6 := f6.later hb
      replace f7 := f7.later hb
      replace rx := rx.below hb
      replace bW := bW.thenB hb
      have z20 := hb.size
      clear hb
      have bm_0 := bm.c0
      have bm_1 := bm.c1
      have f1_0 := f1.c0
      have f1_1 := f1.c1
      have f2_0 := f2.c0
      have f2_1 := f2.c1
      have f3_0 := f3.c0
      have f3_1 := f3.c1
      have f4_0 := f4.c0
      have f4_1 := f4.c1
      have f5_0 := f5.c0
      have f5_1 := f5.c1
      have f6_0 := f6.c0
      have f6_1 := f6.c1
      have f7_0 := f7.c0
      have f7_1 := f7.c1
      rw [L3.out]
      go_wp2
      go_ret
      exact ⟨rfl, bW⟩
    · skip
      clear bm_0 bm_1 f1_0 f1_1 f2_0 f2_1 f3_0 f3_1
      clear F0 F1 F2 F3
      replace bm := bm.other2 (w9.heap.size) (by omega) (.int .i64 N3) (.int .i64 D3)
      replace f1 := f1.other2 (w9.heap.size) (by omega) (.int .i64 N3) (.int .i64 D3)
      replace f2 := f2.other2 (w9.heap.size) (by omega) (.int .i64 N3) (.int .i64 D3)
      replace f3 := f3.other2 (w9.heap.size) (by omega) (.int .i64 N3) (.int .i64 D3)
      replace bW := (bW.setCell (p := ⟨w9.heap.size, 0, none⟩) (by show _ ≤ w9.heap.size; omega) (.int .i64 N3)).setCell (p := ⟨w9.heap.size, 1, none⟩) (by show _ ≤ w9.heap.size; omega) (.int .i64 D3)
      replace bQ := (bQ.setCell (p := ⟨w9.heap.size, 0, none⟩) (by show _ ≤ w9.heap.size; omega) (.int .i64 N3)).setCell (p := ⟨w9.heap.size, 1, none⟩) (by show _ ≤ w9.heap.size; omega) (.int .i64 D3)
      replace rx := HS_rx.out.below bQ
      replace bF := bF.two (N3) (.int .i64 D3)
      have f4 := bF
      clear bF bQ HS_rx
      have z11 : w10.heap.size ≤ ((w10.setCell ⟨w9.heap.size, 0, none⟩ (.int .i64 N3)).setCell ⟨w9.heap.size, 1, none⟩ (.int .i64 D3)).heap.size := by simp
      generalize (w10.setCell ⟨w9.heap.size, 0, none⟩ (.int .i64 N3)).setCell ⟨w9.heap.size, 1, none⟩ (.int .i64 D3) = w11 at *
      have bm_0 := bm.c0
      have bm_1 := bm.c1
      have f1_0 := f1.c0
      have f1_1 := f1.c1
      have f2_0 := f2.c0
      have f2_1 := f2.c1
      have f3_0 := f3.c0
      have f3_1 := f3.c1
      have f4_0 := f4.c0
      have f4_1 := f4.c1
      go_wp2_with fail
      refine (HM.out _).mono ?_
      rintro e w12 ⟨rfl, hb⟩
      clear bm_0 bm_1 f1_0 f1_1 f2_0 f2_1 f3_0 f3_1 f4_0 f4_1
      replace bm := bm.later hb
      replace f1 := f1.later hb
      replace f2 := f2.later hb
      replace f3 := f3.later hb
      replace f4 := f4.later hb
      replace rx := rx.below hb
      replace bW := bW.thenB hb
      have z12 := hb.size
      clear hb
      have bm_0 := bm.c0
      have bm_1 := bm.c1
      have f1_0 := f1.c0
      have f1_1 := f1.c1
      have f2_0 := f2.c0
      have f2_1 := f2.c1
      have f3_0 := f3.c0
      have f3_1 := f3.c1
      have f4_0 := f4.c0
      have f4_1 := f4.c1
      have lt_bm := bm.lt
      have lt_f1 := f1.lt
      have lt_f2 := f2.lt
      have lt_f3 := f3.lt
      have lt_f4 := f4.lt
      go_wp2_with fail
      clear lt_bm lt_f1 lt_f2 lt_f3 lt_f4
      have hb := belowAlloc w12 (.cells #[.int .i64 M3, .int .i64 E3] 29)
      clear bm_0 bm_1 f1_0 f1_1 f2_0 f2_1 f3_0 f3_1 f4_0 f4_1
      replace bm := bm.later hb
      replace f1 := f1.later hb
      replace f2 := f2.later hb
      replace f3 := f3.later hb
      replace f4 := f4.later hb
      replace rx := rx.below hb
      replace bW := bW.thenB hb
      clear hb
      have f5 := VarInv.made w12 (M3) (.int .i64 E3) 29
      have z13 := f5.lt
      generalize hu13 : w12.alloc (.cells #[.int .i64 M3, .int .i64 E3] 29) = w13 at *
      clear hu13
      have bm_0 := bm.c0
      have bm_1 := bm.c1
      have f1_0 := f1.c0
      have f1_1 := f1.c1
      have f2_0 := f2.c0
      have f2_1 := f2.c1
      have f3_0 := f3.c0
      have f3_1 := f3.c1
      have f4_0 := f4.c0
      have f4_1 := f4.c1
      have f5_0 := f5.c0
      have f5_1 := f5.c1
      refine (HA.out _).mono ?_
      rintro e w14 ⟨rfl, hb⟩
      clear bm_0 bm_1 f1_0 f1_1 f2_0 f2_1 f3_0 f3_1 f4_0 f4_1 f5_0 f5_1
      replace bm := bm.later hb
      replace f1 := f1.later hb
      replace f2 := f2.later hb
      replace f3 := f3.later hb
      replace f4 := f4.later hb
      replace f5 := f5.later hb
      replace rx := rx.below hb
      replace bW := bW.thenB hb
      have z14 := hb.size
      clear hb
      have bm_0 := bm.c0
      have bm_1 := bm.c1
      have f1_0 := f1.c0
      have f1_1 := f1.c1
      have f2_0 := f2.c0
      have f2_1 := f2.c1
      have f3_0 := f3.c0
      have f3_1 := f3.c1
      have f4_0 := f4.c0
      have f4_1 := f4.c1
      have f5_0 := f5.c0
      have f5_1 := f5.c1
      have lt_bm := bm.lt
      have lt_f1 := f1.lt
      have lt_f2 := f2.lt
      have lt_f3 := f3.lt
      have lt_f4 := f4.lt
      have lt_f5 := f5.lt
      go_wp2_with fail
      clear lt_bm lt_f1 lt_f2 lt_f3 lt_f4 lt_f5
      have hb := belowAlloc w14 (.cells #[.int .i64 N4, .int .i64 D4] 29)
      clear bm_0 bm_1 f1_0 f1_1 f2_0 f2_1 f3_0 f3_1 f4_0 f4_1 f5_0 f5_1
      replace bm := bm.later hb
      replace f1 := f1.later hb
      replace f2 := f2.later hb
      replace f3 := f3.later hb
      replace f4 := f4.later hb
      replace f5 := f5.later hb
      replace rx := rx.below hb
      replace bW := bW.thenB hb
      clear hb
      have f6 := VarInv.made w14 (N4) (.int .i64 D4) 29
      have z15 := f6.lt
      generalize hu15 : w14.alloc (.cells #[.int .i64 N4, .int .i64 D4] 29) = w15 at *
      clear hu15
      have bm_0 := bm.c0
      have bm_1 := bm.c1
      have f1_0 := f1.c0
      have f1_1 := f1.c1
      have f2_0 := f2.c0
      have f2_1 := f2.c1
      have f3_0 := f3.c0
      have f3_1 := f3.c1
      have f4_0 := f4.c0
      have f4_1 := f4.c1
      have f5_0 := f5.c0
      have f5_1 := f5.c1
      have f6_0 := f6.c0
      have f6_1 := f6.c1
      refine (HP.out _ rx).mono ?_
      rintro e w16 ⟨rfl, hb⟩
      clear bm_0 bm_1 f1_0 f1_1 f2_0 f2_1 f3_0 f3_1 f4_0 f4_1 f5_0 f5_1 f6_0 f6_1
      replace bm := bm.later hb
      replace f1 := f1.later hb
      replace f2 := f2.later hb
      replace f3 := f3.later hb
      replace f4 := f4.later hb
      replace f5 := f5.later hb
      replace f6 := f6.later hb
      replace rx := rx.below hb
      replace bW := bW.thenB hb
      have z16 := hb.size
      clear hb
      have bm_0 := bm.c0
      have bm_1 := bm.c1
      have f1_0 := f1.c0
      have f1_1 := f1.c1
      have f2_0 := f2.c0
      have f2_1 := f2.c1
      have f3_0 := f3.c0
      have f3_1 := f3.c1
      have f4_0 := f4.c0
      have f4_1 := f4.c1
      have f5_0 := f5.c0
      have f5_1 := f5.c1
      have f6_0 := f6.c0
      have f6_1 := f6.c1
      have lt_bm := bm.lt
      have lt_f1 := f1.lt
      have lt_f2 := f2.lt
      have lt_f3 := f3.lt
      have lt_f4 := f4.lt
      have lt_f5 := f5.lt
      have lt_f6 := f6.lt
      go_wp2_with fail
      clear lt_bm lt_f1 lt_f2 lt_f3 lt_f4 lt_f5 lt_f6
      have hb := belowAlloc w16 (.cells #[.int .i64 N5, .int .i64 D5] 29)
      clear bm_0 bm_1 f1_0 f1_1 f2_0 f2_1 f3_0 f3_1 f4_0 f4_1 f5_0 f5_1 f6_0 f6_1
      replace bm := bm.later hb
      replace f1 := f1.later hb
      replace f2 := f2.later hb
      replace f3 := f3.later hb
      replace f4 := f4.later hb
      replace f5 := f5.later hb
      replace f6 := f6.later hb
      replace rx := rx.below hb
      replace bW := bW.thenB hb
      clear hb
      have f7 := VarInv.made w16 (N5) (.int .i64 D5) 29
      have z17 := f7.lt
      generalize hu17 : w16.alloc (.cells #[.int .i64 N5, .int .i64 D5] 29) = w17 at *
      clear hu17
      have bm_0 := bm.c0
      have bm_1 := bm.c1
      have f1_0 := f1.c0
      have f1_1 := f1.c1
      have f2_0 := f2.c0
      have f2_1 := f2.c1
      have f3_0 := f3.c0
      have f3_1 := f3.c1
      have f4_0 := f4.c0
      have f4_1 := f4.c1
      have f5_0 := f5.c0
      have f5_1 := f5.c1
      have f6_0 := f6.c0
      have f6_1 := f6.c1
      have f7_0 := f7.c0
      have f7_1 := f7.c1
      refine (iLess_any N2 D2 N1 D1 _).mono ?_
      rintro e w18 ⟨rfl, hb⟩
      clear bm_0 bm_1 f1_0 f1_1 f2_0 f2_1 f3_0 f3_1 f4_0 f4_1 f5_0 f5_1 f6_0 f6_1 f7_0 f7_1
      replace bm := bm.later hb
      replace f1 := f1.later hb
      replace f2 := f2.later hb
      replace f3 := f3.later hb
      replace f4 := f4.later hb
      replace f5 := f5.later hb
      replace f6 := f6.later hb
      replace f7 := f7.later hb
      replace rx := rx.below hb
      replace bW := bW.thenB hb
      have z18 := hb.size
      clear hb
      have bm_0 := bm.c0
      have bm_1 := bm.c1
      have f1_0 := f1.c0
      have f1_1 := f1.c1
      have f2_0 := f2.c0
      have f2_1 := f2.c1
      have f3_0 := f3.c0
      have f3_1 := f3.c1
      have f4_0 := f4.c0
      have f4_1 := f4.c1
      have f5_0 := f5.c0
      have f5_1 := f5.c1
      have f6_0 := f6.c0
      have f6_1 := f6.c1
      have f7_0 := f7.c0
      have f7_1 := f7.c1
      rw [L1.out]
      go_wp2_with fail
      refine (iLess_any N4 D4 N5 D5 _).mono ?_
      rintro e w19 ⟨rfl, hb⟩
      clear bm_0 bm_1 f1_0 f1_1 f2_0 f2_1 f3_0 f3_1 f4_0 f4_1 f5_0 f5_1 f6_0 f6_1 f7_0 f7_1
      replace bm := bm.later hb
      replace f1 := f1.later hb
      replace f2 := f2.later hb
      replace f3 := f3.later hb
      replace f4 := f4.later hb
      replace f5 := f5.later hb
      replace f6 := f6.later hb
      replace f7 := f7.later hb
      replace rx := rx.below hb
      replace bW := bW.thenB hb
      have z19 := hb.size
      clear hb
      have bm_0 := bm.c0
      have bm_1 := bm.c1
      have f1_0 := f1.c0
      have f1_1 := f1.c1
      have f2_0 := f2.c0
      have f2_1 := f2.c1
      have f3_0 := f3.c0
      have f3_1 := f3.c1
      have f4_0 := f4.c0
      have f4_1 := f4.c1
      have f5_0 := f5.c0
      have f5_1 := f5.c1
      have f6_0 := f6.c0
      have f6_1 := f6.c1
      have f7_0 := f7.c0
      have f7_1 := f7.c1
      rw [L2.out]
      go_wp2_with fail
      refine (iLess_any N4 D4 N1 D1 _).mono ?_
      rintro e w20 ⟨rfl, hb⟩
      clear bm_0 bm_1 f1_0 f1_1 f2_0 f2_1 f3_0 f3_1 f4_0 f4_1 f5_0 f5_1 f6_0 f6_1 f7_0 f7_1
      replace bm := bm.later hb
      replace f1 := f1.later hb
      replace f2 := f2.later hb
      replace f3 := f3.later hb
      replace f4 := f4.later hb
      replace f5 := f5.later hb
      replace f6 := f6.later hb
      replace f7 := f7.later hb
      replace rx := rx.below hb
      replace bW := bW.thenB hb
      have z20 := hb.size
      clear hb
      have bm_0 := bm.c0
      have bm_1 := bm.c1
      have f1_0 := f1.c0
      have f1_1 := f1.c1
      have f2_0 := f2.c0
      have f2_1 := f2.c1
      have f3_0 := f3.c0
      have f3_1 := f3.c1
      have f4_0 := f4.c0
      have f4_1 := f4.c1
      have f5_0 := f5.c0
      have f5_1 := f5.c1
      have f6_0 := f6.c0
      have f6_1 := f6.c1
      have f7_0 := f7.c0
      have f7_1 := f7.c1
      rw [L3.out]
      go_wp2
      go_ret
      exact ⟨rfl, bW⟩
    · skip
      clear bm_0 bm_1 f1_0 f1_1 f2_0 f2_1 f3_0 f3_1
      clear F0 F1 F2 F3
      replace bm := bm.other2 (w8.heap.size) (by omega) (.int .i64 N3) (.int .i64 D3)
      replace f1 := f1.other2 (w8.heap.size) (by omega) (.int .i64 N3) (.int .i64 D3)
      replace f2 := f2.other2 (w8.heap.size) (by omega) (.int .i64 N3) (.int .i64 D3)
      replace f3 := f3.other2 (w8.heap.size) (by omega) (.int .i64 N3) (.int .i64 D3)
      replace bW := (bW.setCell (p := ⟨w8.heap.size, 0, none⟩) (by show _ ≤ w8.heap.size; omega) (.int .i64 N3)).setCell (p := ⟨w8.heap.size, 1, none⟩) (by show _ ≤ w8.heap.size; omega) (.int .i64 D3)
      replace bQ := (bQ.setCell (p := ⟨w8.heap.size, 0, none⟩) (by show _ ≤ w8.heap.size; omega) (.int .i64 N3)).setCell (p := ⟨w8.heap.size, 1, none⟩) (by show _ ≤ w8.heap.size; omega) (.int .i64 D3)
      replace rx := HS_rx.out.below bQ
      replace bF := bF.two (N3) (.int .i64 D3)
      have f4 := bF
      clear bF bQ HS_rx
      have z11 : w10.heap.size ≤ ((w10.setCell ⟨w8.heap.size, 0, none⟩ (.int .i64 N3)).setCell ⟨w8.heap.size, 1, none⟩ (.int .i64 D3)).heap.size := by simp
      generalize (w10.setCell ⟨w8.heap.size, 0, none⟩ (.int .i64 N3)).setCell ⟨w8.heap.size, 1, none⟩ (.int .i64 D3) = w11 at *
      have bm_0 := bm.c0
      have bm_1 := bm.c1
      have f1_0 := f1.c0
      have f1_1 := f1.c1
      have f2_0 := f2.c0
      have f2_1 := f2.c1
      have f3_0 := f3.c0
      have f3_1 := f3.c1
      have f4_0 := f4.c0
      have f4_1 := f4.c1
      go_wp2_with fail
      refine (HM.out _).mono ?_
      rintro e w12 ⟨rfl, hb⟩
      clear bm_0 bm_1 f1_0 f1_1 f2_0 f2_1 f3_0 f3_1 f4_0 f4_1
      replace bm := bm.later hb
      replace f1 := f1.later hb
      replace f2 := f2.later hb
      replace f3 := f3.later hb
      replace f4 := f4.later hb
      replace rx := rx.below hb
      replace bW := bW.thenB hb
      have z12 := hb.size
      clear hb
      have bm_0 := bm.c0
      have bm_1 := bm.c1
      have f1_0 := f1.c0
      have f1_1 := f1.c1
      have f2_0 := f2.c0
      have f2_1 := f2.c1
      have f3_0 := f3.c0
      have f3_1 := f3.c1
      have f4_0 := f4.c0
      have f4_1 := f4.c1
      have lt_bm := bm.lt
      have lt_f1 := f1.lt
      have lt_f2 := f2.lt
      have lt_f3 := f3.lt
      have lt_f4 := f4.lt
      go_wp2_with fail
      clear lt_bm lt_f1 lt_f2 lt_f3 lt_f4
      have hb := belowAlloc w12 (.cells #[.int .i64 M3, .int .i64 E3] 29)
      clear bm_0 bm_1 f1_0 f1_1 f2_0 f2_1 f3_0 f3_1 f4_0 f4_1
      replace bm := bm.later hb
      replace f1 := f1.later hb
      replace f2 := f2.later hb
      replace f3 := f3.later hb
      replace f4 := f4.later hb
      replace rx := rx.below hb
      replace bW := bW.thenB hb
      clear hb
      have f5 := VarInv.made w12 (M3) (.int .i64 E3) 29
      have z13 := f5.lt
      generalize hu13 : w12.alloc (.cells #[.int .i64 M3, .int .i64 E3] 29) = w13 at *
      clear hu13
      have bm_0 := bm.c0
      have bm_1 := bm.c1
      have f1_0 := f1.c0
      have f1_1 := f1.c1
      have f2_0 := f2.c0
      have f2_1 := f2.c1
      have f3_0 := f3.c0
      have f3_1 := f3.c1
      have f4_0 := f4.c0
      have f4_1 := f4.c1
      have f5_0 := f5.c0
      have f5_1 := f5.c1
      refine (HA.out _).mono ?_
      rintro e w14 ⟨rfl, hb⟩
      clear bm_0 bm_1 f1_0 f1_1 f2_0 f2_1 f3_0 f3_1 f4_0 f4_1 f5_0 f5_1
      replace bm := bm.later hb
      replace f1 := f1.later hb
      replace f2 := f2.later hb
      replace f3 := f3.later hb
      replace f4 := f4.later hb
      replace f5 := f5.later hb
      replace rx := rx.below hb
      replace bW := bW.thenB hb
      have z14 := hb.size
      clear hb
      have bm_0 := bm.c0
      have bm_1 := bm.c1
      have f1_0 := f1.c0
      have f1_1 := f1.c1
      have f2_0 := f2.c0
      have f2_1 := f2.c1
      have f3_0 := f3.c0
      have f3_1 := f3.c1
      have f4_0 := f4.c0
      have f4_1 := f4.c1
      have f5_0 := f5.c0
      have f5_1 := f5.c1
      have lt_bm := bm.lt
      have lt_f1 := f1.lt
      have lt_f2 := f2.lt
      have lt_f3 := f3.lt
      have lt_f4 := f4.lt
      have lt_f5 := f5.lt
      go_wp2_with fail
      clear lt_bm lt_f1 lt_f2 lt_f3 lt_f4 lt_f5
      have hb := belowAlloc w14 (.cells #[.int .i64 N4, .int .i64 D4] 29)
      clear bm_0 bm_1 f1_0 f1_1 f2_0 f2_1 f3_0 f3_1 f4_0 f4_1 f5_0 f5_1
      replace bm := bm.later hb
      replace f1 := f1.later hb
      replace f2 := f2.later hb
      replace f3 := f3.later hb
      replace f4 := f4.later hb
      replace f5 := f5.later hb
      replace rx := rx.below hb
      replace bW := bW.thenB hb
      clear hb
      have f6 := VarInv.made w14 (N4) (.int .i64 D4) 29
      have z15 := f6.lt
      generalize hu15 : w14.alloc (.cells #[.int .i64 N4, .int .i64 D4] 29) = w15 at *
      clear hu15
      have bm_0 := bm.c0
      have bm_1 := bm.c1
      have f1_0 := f1.c0
      have f1_1 := f1.c1
      have f2_0 := f2.c0
      have f2_1 := f2.c1
      have f3_0 := f3.c0
      have f3_1 := f3.c1
      have f4_0 := f4.c0
      have f4_1 := f4.c1
      have f5_0 := f5.c0
      have f5_1 := f5.c1
      have f6_0 := f6.c0
      have f6_1 := f6.c1
      refine (HP.out _ rx).mono ?_
      rintro e w16 ⟨rfl, hb⟩
      clear bm_0 bm_1 f1_0 f1_1 f2_0 f2_1 f3_0 f3_1 f4_0 f4_1 f5_0 f5_1 f6_0 f6_1
      replace bm := bm.later hb
      replace f1 := f1.later hb
      replace f2 := f2.later hb
      replace f3 := f3.later hb
      replace f4 := f4.later hb
      replace f5 := f5.later hb
      replace f6 := f6.later hb
      replace rx := rx.below hb
      replace bW := bW.thenB hb
      have z16 := hb.size
      clear hb
      have bm_0 := bm.c0
      have bm_1 := bm.c1
      have f1_0 := f1.c0
      have f1_1 := f1.c1
      have f2_0 := f2.c0
      have f2_1 := f2.c1
      have f3_0 := f3.c0
      have f3_1 := f3.c1
      have f4_0 := f4.c0
      have f4_1 := f4.c1
      have f5_0 := f5.c0
      have f5_1 := f5.c1
      have f6_0 := f6.c0
      have f6_1 := f6.c1
      have lt_bm := bm.lt
      have lt_f1 := f1.lt
      have lt_f2 := f2.lt
      have lt_f3 := f3.lt
      have lt_f4 := f4.lt
      have lt_f5 := f5.lt
      have lt_f6 := f6.lt
      go_wp2_with fail
      clear lt_bm lt_f1 lt_f2 lt_f3 lt_f4 lt_f5 lt_f6
      have hb := belowAlloc w16 (.cells #[.int .i64 N5, .int .i64 D5] 29)
      clear bm_0 bm_1 f1_0 f1_1 f2_0 f2_1 f3_0 f3_1 f4_0 f4_1 f5_0 f5_1 f6_0 f6_1
      replace bm := bm.later hb
      replace f1 := f1.later hb
      replace f2 := f2.later hb
      replace f3 := f3.later hb
      replace f4 := f4.later hb
      replace f5 := f5.later hb
      replace f6 := f6.later hb
      replace rx := rx.below hb
      replace bW := bW.thenB hb
      clear hb
      have f7 := VarInv.made w16 (N5) (.int .i64 D5) 29
      have z17 := f7.lt
      generalize hu17 : w16.alloc (.cells #[.int .i64 N5, .int .i64 D5] 29) = w17 at *
      clear hu17
      have bm_0 := bm.c0
      have bm_1 := bm.c1
      have f1_0 := f1.c0
      have f1_1 := f1.c1
      have f2_0 := f2.c0
      have f2_1 := f2.c1
      have f3_0 := f3.c0
      have f3_1 := f3.c1
      have f4_0 := f4.c0
      have f4_1 := f4.c1
      have f5_0 := f5.c0
      have f5_1 := f5.c1
      have f6_0 := f6.c0
      have f6_1 := f6.c1
      have f7_0 := f7.c0
      have f7_1 := f7.c1
      refine (iLess_any N2 D2 N1 D1 _).mono ?_
      rintro e w18 ⟨rfl, hb⟩
      clear bm_0 bm_1 f1_0 f1_1 f2_0 f2_1 f3_0 f3_1 f4_0 f4_1 f5_0 f5_1 f6_0 f6_1 f7_0 f7_1
      replace bm := bm.later hb
      replace f1 := f1.later hb
      replace f2 := f2.later hb
      replace f3 := f3.later hb
      replace f4 := f4.later hb
      replace f5 := f5.later hb
      replace f6 := f6.later hb
      replace f7 := f7.later hb
      replace rx := rx.below hb
      replace bW := bW.thenB hb
      have z18 := hb.size
      clear hb
      have bm_0 := bm.c0
      have bm_1 := bm.c1
      have f1_0 := f1.c0
      have f1_1 := f1.c1
      have f2_0 := f2.c0
      have f2_1 := f2.c1
      have f3_0 := f3.c0
      have f3_1 := f3.c1
      have f4_0 := f4.c0
      have f4_1 := f4.c1
      have f5_0 := f5.c0
      have f5_1 := f5.c1
      have f6_0 := f6.c0
      have f6_1 := f6.c1
      have f7_0 := f7.c0
      have f7_1 := f7.c1
      rw [L1.out]
      go_wp2_with fail
      refine (iLess_any N4 D4 N5 D5 _).mono ?_
      rintro e w19 ⟨rfl, hb⟩
      clear bm_0 bm_1 f1_0 f1_1 f2_0 f2_1 f3_0 f3_1 f4_0 f4_1 f5_0 f5_1 f6_0 f6_1 f7_0 f7_1
      replace bm := bm.later hb
      replace f1 := f1.later hb
      replace f2 := f2.later hb
      replace f3 := f3.later hb
      replace f4 := f4.later hb
      replace f5 := f5.later hb
      replace f6 := f6.later hb
      replace f7 := f7.later hb
      replace rx := rx.below hb
      replace bW := bW.thenB hb
      have z19 := hb.size
      clear hb
      have bm_0 := bm.c0
      have bm_1 := bm.c1
      have f1_0 := f1.c0
      have f1_1 := f1.c1
      have f2_0 := f2.c0
      have f2_1 := f2.c1
      have f3_0 := f3.c0
      have f3_1 := f3.c1
      have f4_0 := f4.c0
      have f4_1 := f4.c1
      have f5_0 := f5.c0
      have f5_1 := f5.c1
      have f6_0 := f6.c0
      have f6_1 := f6.c1
      have f7_0 := f7.c0
      have f7_1 := f7.c1
      rw [L2.out]
      go_wp2_with fail
      refine (iLess_any N4 D4 N1 D1 _).mono ?_
      rintro e w20 ⟨rfl, hb⟩
      clear bm_0 bm_1 f1_0 f1_1 f2_0 f2_1 f3_0 f3_1 f4_0 f4_1 f5_0 f5_1 f6_0 f6_1 f7_0 f7_1
      replace bm := bm.later hb
      replace f1 := f1.later hb
      replace f2 := f2.later hb
      replace f3 := f3.later hb
      replace f4 := f4.later hb
      replace f5 := f5.later hb
      replace f6 := f6.later hb
      replace f7 := f7.later hb
      replace rx := rx.below hb
      replace bW := bW.thenB hb
      have z20 := hb.size
      clear hb
      have bm_0 := bm.c0
      have bm_1 := bm.c1
      have f1_0 := f1.c0
      have f1_1 := f1.c1
      have f2_0 := f2.c0
      have f2_1 := f2.c1
      have f3_0 := f3.c0
      have f3_1 := f3.c1
      have f4_0 := f4.c0
      have f4_1 := f4.c1
      have f5_0 := f5.c0
      have f5_1 := f5.c1
      have f6_0 := f6.c0
      have f6_1 := f6.c1
      have f7_0 := f7.c0
      have f7_1 := f7.c1
      rw [L3.out]
      go_wp2
      go_ret
      exact ⟨rfl, bW⟩

end Go.Proofs.Ytkpnenbkfphldaa
