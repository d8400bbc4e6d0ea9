/- The law on masses that are made coarse: what it computes. -/
import Derived.Test.YtkpnenbkfphldaaDE
import Derived.Test.YtkpnenbkfphldaaZR
import Derived.Test.YtkpnenbkfphldaaE1
set_option linter.unusedVariables false
set_option linter.unusedSimpArgs false
namespace Go.Proofs.Ytkpnenbkfphldaa
open Go.RowKit

set_option maxHeartbeats 1000000 in
theorem iIsChance_any (s : Int) (p : Option Addr) (c : Nat) (xs : List Int) (w : World) (hx : Reads w p xs) (hxm : xs.length ≤ 1048576) :
    Calls Try.prog 44 #[.agg #[.int .i64 s, .slice p xs.length c]] w fun e w' => e = .returned (.bool (chB s xs)) ∧ Below w.heap.size w w' := by
  obtain ⟨W, hW, bW, hsz, c0, c1⟩ := box1 w s p xs.length c
  have HW := Lib.hid hW
  clear hW hsz
  go_enter Try.func44, Try.ntmps44
  go_wp2_with fail
  rw [← HW.out]
  refine (isChance_any _ _ _ _ _ (hx.below bW) hxm).mono ?_
  rintro e w1 ⟨rfl, hb1⟩
  have bb := bW.thenB hb1
  clear c0 c1
  go_wp2
  go_ret
  exact ⟨rfl, bb⟩

set_option maxHeartbeats 4000000 in
set_option maxRecDepth 100000 in
theorem FnCoarsen_walk (w : World) (a0 : Option Addr) (c0 : Nat) (x0 : List Int) (m0 : x0.length ≤ maxLen) (rd0 : ReadsK .u8 w a0 x0) (wf0 : ∀ n ∈ x0, (Lit.int .u8 n).wf = true) (cp0 : x0.length ≤ c0) :
    Calls Try.prog 7 #[.slice a0 x0.length c0] w fun e w' => e = .returned (.bool true) ∧ Below w.heap.size w w' := by
  by_cases hbig0 : 1048576 < x0.length
  · unfold maxLen at m0
    clear rd0 wf0 cp0
    go_enter Try.func7, Try.ntmps7
    go_wp2
    go_ret
    exact ⟨rfl, Below.refl _ _⟩
  have HD := Lib.hid (DrawCoarsenMass_any a0 c0 x0 w rd0 wf0 m0 cp0)
  unfold maxLen at m0
  clear rd0 wf0 cp0
  go_enter Try.func7, Try.ntmps7
  go_wp2_with fail
  refine HD.out.mono ?_
  rintro e w1 ⟨s, p, c, xs, q, d, ts, z, rfl, hxl, htl, rx, rt, bW⟩
  clear HD
  obtain ⟨S, hS⟩ : ∃ S, S = gS (coG s xs ts z) z (coP xs ts z) := ⟨_, rfl⟩
  obtain ⟨OK, hOK⟩ : ∃ OK, OK = gOk (coG s xs ts z) z (coP xs ts z) := ⟨_, rfl⟩
  obtain ⟨K, hK⟩ : ∃ K, K = gL (coG s xs ts z) z (coP xs ts z) := ⟨_, rfl⟩
  have hKl : K.length ≤ 1048576 := by rw [hK]; exact coR_len s xs ts z
  have hF1 := fun (w : World) (hx : Reads w p xs) (ht : Reads w q ts) => iCoarsenMass_any s p c xs q d ts z w hx ht (by omega) (by omega)
  have hF2 := fun (w : World) (hx : Reads w p xs) (ht : Reads w q ts) => sCoarsenMass_any s p c xs q d ts z w hx ht (by omega) (by omega)
  simp only [← hS, ← hOK, ← hK] at hF1 hF2
  have HF1 := Lib.hid hF1
  have HF2 := Lib.hid hF2
  clear hF1 hF2
  have hyes : OK = true → CoLaw s xs ts z K ∧ S = z := fun h => by
    obtain ⟨e, law⟩ := co_law (hOK.symm.trans h)
    exact ⟨by rw [hK]; exact law, by rw [hS]; exact e⟩
  have HYES := Lib.hid hyes
  clear hyes hS hOK hK
  have hq1 : (OK != OK) = false := by cases OK <;> rfl
  have hq2 : (OK == OK) = true := by cases OK <;> rfl
  go_wp2_with fail
  have hb := belowAlloc w1 (.cells #[.int .i64 s, .slice p xs.length c] 25)
  replace rx := rx.below hb
  replace rt := rt.below hb
  replace bW := bW.thenB hb
  clear hb
  have bm := VarInv.made w1 (s) (.slice p xs.length c) 25
  have z2 := bm.lt
  generalize hu2 : w1.alloc (.cells #[.int .i64 s, .slice p xs.length c] 25) = w2 at *
  clear hu2
  have bm_0 := bm.c0
  have bm_1 := bm.c1
  refine (HF1.out _ rx rt).mono ?_
  rintro e w3 ⟨v, rfl, o, hb⟩
  clear bm_0 bm_1
  replace bm := bm.later hb
  replace rx := rx.below hb
  replace rt := rt.below hb
  replace bW := bW.thenB hb
  have z3 := hb.size
  obtain ⟨p1, k1, rfl, r1⟩ := o.shape
  clear o
  clear hb
  have bm_0 := bm.c0
  have bm_1 := bm.c1
  have lt_bm := bm.lt
  go_wp2_with fail
  clear lt_bm
  have hb := belowAlloc w3 (.cells #[.int .i64 S, .slice p1 K.length k1] 25)
  clear bm_0 bm_1
  replace bm := bm.later hb
  replace rx := rx.below hb
  replace rt := rt.below hb
  replace r1 := r1.below hb
  replace bW := bW.thenB hb
  clear hb
  have b1 := VarInv.made w3 (S) (.slice p1 K.length k1) 25
  have z4 := b1.lt
  generalize hu4 : w3.alloc (.cells #[.int .i64 S, .slice p1 K.length k1] 25) = w4 at *
  clear hu4
  have bm_0 := bm.c0
  have bm_1 := bm.c1
  have b1_0 := b1.c0
  have b1_1 := b1.c1
  refine (HF2.out _ rx rt).mono ?_
  rintro e w5 ⟨v, rfl, o, hb⟩
  clear bm_0 bm_1 b1_0 b1_1
  replace bm := bm.later hb
  replace b1 := b1.later hb
  replace rx := rx.below hb
  replace rt := rt.below hb
  replace r1 := r1.below hb
  replace bW := bW.thenB hb
  have z5 := hb.size
  obtain ⟨p2, k2, rfl, r2⟩ := o.shape
  clear o
  clear hb
  have bm_0 := bm.c0
  have bm_1 := bm.c1
  have b1_0 := b1.c0
  have b1_1 := b1.c1
  have lt_bm := bm.lt
  have lt_b1 := b1.lt
  go_wp2_with fail
  clear lt_bm lt_b1
  have hb := belowAlloc w5 (.cells #[.int .i64 S, .slice p2 K.length k2] 25)
  clear bm_0 bm_1 b1_0 b1_1
  replace bm := bm.later hb
  replace b1 := b1.later hb
  replace rx := rx.below hb
  replace rt := rt.below hb
  replace r1 := r1.below hb
  replace r2 := r2.below hb
  replace bW := bW.thenB hb
  clear hb
  have b2 := VarInv.made w5 (S) (.slice p2 K.length k2) 25
  have z6 := b2.lt
  generalize hu6 : w5.alloc (.cells #[.int .i64 S, .slice p2 K.length k2] 25) = w6 at *
  clear hu6
  have bm_0 := bm.c0
  have bm_1 := bm.c1
  have b1_0 := b1.c0
  have b1_1 := b1.c1
  have b2_0 := b2.c0
  have b2_1 := b2.c1
  refine (weEqual_same _ _ _ _ _ _ _ _ _ _ (rfl) (rfl) (rfl) (rfl) _ r1 r2 (by omega)).mono ?_
  rintro e w7 ⟨rfl, hb⟩
  clear bm_0 bm_1 b1_0 b1_1 b2_0 b2_1
  replace bm := bm.later hb
  replace b1 := b1.later hb
  replace b2 := b2.later hb
  replace rx := rx.below hb
  replace rt := rt.below hb
  replace r1 := r1.below hb
  replace r2 := r2.below hb
  replace bW := bW.thenB hb
  have z7 := hb.size
  clear hb
  have bm_0 := bm.c0
  have bm_1 := bm.c1
  have b1_0 := b1.c0
  have b1_1 := b1.c1
  have b2_0 := b2.c0
  have b2_1 := b2.c1
  cases hok : OK
  · subst hok
    go_wp2_with fail
    refine (weEqual_same _ _ _ _ _ _ _ _ _ _ (rfl) (rfl) (rfl) (rfl) _ r1 r2 (by omega)).mono ?_
    rintro e w8 ⟨rfl, hb⟩
    clear bm_0 bm_1 b1_0 b1_1 b2_0 b2_1
    replace bm := bm.later hb
    replace b1 := b1.later hb
    replace b2 := b2.later hb
    replace rx := rx.below hb
    replace rt := rt.below hb
    replace r1 := r1.below hb
    replace r2 := r2.below hb
    replace bW := bW.thenB hb
    have z8 := hb.size
    clear hb
    have bm_0 := bm.c0
    have bm_1 := bm.c1
    have b1_0 := b1.c0
    have b1_1 := b1.c1
    have b2_0 := b2.c0
    have b2_1 := b2.c1
    go_wp2
    go_ret
    exact ⟨rfl, bW⟩
  · subst hok
    obtain ⟨law, rfl⟩ := HYES.out rfl
    clear HF1 HF2 HYES
    have hx16 := law.l16
    have hK16 := law.lenK
    have ht4 := law.lent
    obtain ⟨WX, hWX⟩ : ∃ W, W = whS s xs := ⟨_, rfl⟩
    obtain ⟨WK, hWK⟩ : ∃ W, W = whS S K := ⟨_, rfl⟩
    have hW1 := fun (w : World) (hx : Reads w p xs) => iWholeOf_any s p c xs w hx (by omega)
    have hW2 := fun (w : World) (a : Option Addr) (k : Nat) (hx : Reads w a K) => iWholeOf_any S a k K w hx (by omega)
    rw [← hWX] at hW1
    rw [← hWK] at hW2
    have him := law.im
    have hps := law.ps
    have hwb := law.wh
    rw [← hWX, ← hWK] at hwb
    simp only [← hWX, ← hWK] at him hps
    have HW1 := Lib.hid hW1
    have HW2 := Lib.hid hW2
    have HIM := Lib.hid him
    have HPS := Lib.hid hps
    have HRG := Lib.hid law.rg
    have HBD := Lib.hid law.bd
    have HRNG := Lib.hid law.rng
    have HNO := Lib.hid law.norm
    have HNE := Lib.hid law.nest
    have HCH := Lib.hid law.chance
    obtain ⟨⟨w1a, w1b⟩, ⟨w2a, w2b⟩⟩ := hwb
    clear hW1 hW2 him hps law hWX hWK
    clear b2_0 b2_1
    clear b2
    clear r2
    go_wp2
    go_loopw [10] (fun i wz => ∃ a : Nat, a ≤ K.length ∧ i = .int .i64 a ∧ Below w7.heap.size w7 wz) (fun i _ => K.length - (intOf i).toNat)
    case atStart => exact ⟨0, Nat.zero_le _, rfl, Below.refl _ _⟩
    case round =>
      obtain ⟨a, ha, rfl, hba⟩ := hrel
      clear bm_0 bm_1 b1_0 b1_1
      replace bm := bm.later hba
      replace b1 := b1.later hba
      replace rx := rx.below hba
      replace rt := rt.below hba
      replace r1 := r1.below hba
      replace bW := bW.thenB hba
      have z8 := hba.size
      have bm_0 := bm.c0
      have bm_1 := bm.c1
      have b1_0 := b1.c0
      have b1_1 := b1.c1
      by_cases hlta : a < K.length
      · skip
        go_wp2
        go_loopw [11, 12] (fun v i wz => ∃ x : Nat, x ≤ ts.length ∧ i = .int .i64 x ∧ v = .int .i64 (setTo (fun y => a.testBit (nth ts y).toNat) (fun y => y) x : Nat) ∧ Below wr.heap.size wr wz) (fun _ i _ => ts.length - (intOf i).toNat)
        case atStart => exact ⟨0, Nat.zero_le _, rfl, rfl, Below.refl _ _⟩
        case round =>
          obtain ⟨x, hx, rfl, rfl, hbx⟩ := hrel
          clear bm_0 bm_1 b1_0 b1_1
          replace bm := bm.later hbx
          replace b1 := b1.later hbx
          replace rx := rx.below hbx
          replace rt := rt.below hbx
          replace r1 := r1.below hbx
          replace bW := bW.thenB hbx
          replace hba := hba.thenB hbx
          have z9 := hbx.size
          have bm_0 := bm.c0
          have bm_1 := bm.c1
          have b1_0 := b1.c0
          have b1_1 := b1.c1
          by_cases hltx : x < ts.length
          · skip
            have hr := HRNG.out x hltx
            obtain ⟨y, hy⟩ : ∃ y : Nat, nth ts x = (y : Int) := ⟨(nth ts x).toNat, by omega⟩
            have hy4 : y < 4 := by omega
            have ha16 : a < 16 := by omega
            have hx4 : x < 4 := by omega
            have hms := setTo_lt16 (fun y => a.testBit (nth ts y).toNat) (fun y => y) x (fun u hu => by omega)
            have hsu := setTo_succ (fun y => a.testBit (nth ts y).toNat) (fun y => y) x
            simp only [hy, Int.toNat_natCast] at hsu
            obtain ⟨blt, oft, e0, _, ct⟩ := rt x hltx
            subst e0
            rw [hy] at ct
            have hwk := bit_wrap' x hx4
            have HSU := Lib.hid hsu
            obtain ⟨mm, hmm⟩ : ∃ mm, mm = setTo (fun y => a.testBit (nth ts y).toNat) (fun y => y) x := ⟨_, rfl⟩
            rw [← hmm] at hms ⊢
            rw [← hmm] at HSU
            have hor := bit_or' mm x hms hx4
            have hhas := bit_has' a y ha16 hy4
            clear hsu hy hr hmm
            cases hb : a.testBit y
            · rw [hb] at hhas HSU
              clear hb
              go_wp2
              exact ⟨⟨x + 1, by omega, by go_num, by rw [HSU.out]; rfl, hbx⟩, by simp [intOf]; omega⟩
            · rw [hb] at hhas HSU
              clear hb
              go_wp2
              exact ⟨⟨x + 1, by omega, by go_num, by rw [HSU.out]; rfl, hbx⟩, by simp [intOf]; omega⟩
          · have hxn : x = ts.length := by omega
            subst hxn
            obtain ⟨bk, hbk⟩ : ∃ b, b = bakS ts a := ⟨_, rfl⟩
            rw [show setTo (fun y => a.testBit (nth ts y).toNat) (fun y => y) ts.length = bk from hbk.symm]
            have e1 := HIM.out a hlta
            have e2 := HPS.out a hlta
            obtain ⟨⟨g1, g2⟩, ⟨g3, g4⟩, ⟨g5, g6⟩, ⟨g7, g8⟩⟩ := HRG.out a hlta
            rw [← hbk] at e1 e2 g5 g6 g7 g8
            have hI1 := fun (w : World) (o : Option Addr) (k : Nat) (hx : Reads w o K) => iImpliedPart_any S o k K (a : Int) w hx (by omega)
            have hI2 := fun (w : World) (hx : Reads w p xs) => iImpliedPart_any s p c xs (bk : Int) w hx (by omega)
            have hP1 := fun (w : World) (o : Option Addr) (k : Nat) (hx : Reads w o K) => iPossiblePart_any S o k K (a : Int) w hx (by omega)
            have hP2 := fun (w : World) (hx : Reads w p xs) => iPossiblePart_any s p c xs (bk : Int) w hx (by omega)
            obtain ⟨v1, hv1⟩ : ∃ v, v = imR S K (a : Int) := ⟨_, rfl⟩
            obtain ⟨v2, hv2⟩ : ∃ v, v = imR s xs (bk : Int) := ⟨_, rfl⟩
            obtain ⟨v3, hv3⟩ : ∃ v, v = psR S K (a : Int) := ⟨_, rfl⟩
            obtain ⟨v4, hv4⟩ : ∃ v, v = psR s xs (bk : Int) := ⟨_, rfl⟩
            rw [← hv1] at e1 g1 g2
            rw [← hv2] at e1 g5 g6
            rw [← hv3] at e2 g3 g4
            rw [← hv4] at e2 g7 g8
            simp only [← hv1] at hI1
            simp only [← hv2] at hI2
            simp only [← hv3] at hP1
            simp only [← hv4] at hP2
            have m1 : wrap64 (v1 * WX) = v1 * WX := mul_wrap _ _ 16000000 1000000 g1 g2 (by omega) w1b (by omega)
            have m2 : wrap64 (v2 * WK) = v2 * WK := mul_wrap _ _ 16000000 1000000 g5 g6 (by omega) w2b (by omega)
            have m3 : wrap64 (v3 * WX) = v3 * WX := mul_wrap _ _ 16000000 1000000 g3 g4 (by omega) w1b (by omega)
            have m4 : wrap64 (v4 * WK) = v4 * WK := mul_wrap _ _ 16000000 1000000 g7 g8 (by omega) w2b (by omega)
            have n1 : (v1 * WX != v2 * WK) = false := by rw [e1]; simp
            have n2 : (v3 * WX != v4 * WK) = false := by rw [e2]; simp
            clear e1 e2 g1 g2 g3 g4 g5 g6 g7 g8 hv1 hv2 hv3 hv4 hbk
            go_wp2
            have q0 := fun x : LaterW wr.heap.size wr => x.cell bm.lt bm_0
            have q1 := fun x : LaterW wr.heap.size wr => x.cell bm.lt bm_1
            have q2 := fun x : LaterW wr.heap.size wr => x.cell b1.lt b1_0
            have q3 := fun x : LaterW wr.heap.size wr => x.cell b1.lt b1_1
            refine wp_region_later (by kernel_rfl) (by kernel_rfl) ?_
            repeat (go_big_quiet_step ((first | (go_at_call 41; with_reducible exact LaterW.call (hI1 _ _ _ (LaterW.reads _ (by assumption)))) | (go_at_call 41; with_reducible exact LaterW.call (hI2 _ (LaterW.reads _ (by assumption)))) | (go_at_call 30; with_reducible exact LaterW.call (hP1 _ _ _ (LaterW.reads _ (by assumption)))) | (go_at_call 30; with_reducible exact LaterW.call (hP2 _ (LaterW.reads _ (by assumption)))) | (go_at_call 42; with_reducible exact LaterW.call (HW1.out _ (LaterW.reads _ (by assumption)))) | (go_at_call 42; with_reducible exact LaterW.call (HW2.out _ _ _ (LaterW.reads _ (by assumption)))))))
            refine wpQuiet_nil ?_
            intro _ hw'
            obtain ⟨x, rfl⟩ := hw'
            have hb := x.below
            clear q0 q1 q2 q3
            generalize x.w = w10 at *
            clear bm_0 bm_1 b1_0 b1_1
            replace bm := bm.later hb
            replace b1 := b1.later hb
            replace rx := rx.below hb
            replace rt := rt.below hb
            replace r1 := r1.below hb
            replace bW := bW.thenB hb
            replace hba := hba.thenB hb
            replace hbx := hbx.thenB hb
            have z10 := hb.size
            clear hb
            have bm_0 := bm.c0
            have bm_1 := bm.c1
            have b1_0 := b1.c0
            have b1_1 := b1.c1
            go_wp2
            exact ⟨⟨a + 1, by omega, by go_num, hba⟩, by simp [intOf]; omega⟩
      · skip
        have hn1 := fun (w : World) (a : Option Addr) (k : Nat) (hx : Reads w a K) => iIsNormal_any S a k K w hx (by omega)
        have hn2 := fun (w : World) (hx : Reads w p xs) => iIsNormal_any s p c xs w hx (by omega)
        simp only [HNO.out] at hn1
        obtain ⟨E, hE⟩ : ∃ E, E = normB s xs := ⟨_, rfl⟩
        simp only [← hE] at hn1 hn2
        have hee : (E == E) = true := by cases E <;> rfl
        have he1 := fun (w : World) (a : Option Addr) (k : Nat) (hx : Reads w a K) => iIsNested_any S a k K w hx (by omega)
        have he2 := fun (w : World) (hx : Reads w p xs) => iIsNested_any s p c xs w hx (by omega)
        have hc1 := fun (w : World) (a : Option Addr) (k : Nat) (hx : Reads w a K) => iIsChance_any S a k K w hx (by omega)
        have hc2 := fun (w : World) (hx : Reads w p xs) => iIsChance_any s p c xs w hx (by omega)
        have hne := HNE.out
        have hch := HCH.out
        obtain ⟨A1, hA1⟩ : ∃ E, E = neG S K := ⟨_, rfl⟩
        obtain ⟨A2, hA2⟩ : ∃ E, E = neG s xs := ⟨_, rfl⟩
        obtain ⟨B1, hB1⟩ : ∃ E, E = chB S K := ⟨_, rfl⟩
        obtain ⟨B2, hB2⟩ : ∃ E, E = chB s xs := ⟨_, rfl⟩
        rw [← hA1, ← hA2] at hne
        rw [← hB1, ← hB2] at hch
        simp only [← hA1] at he1
        simp only [← hA2] at he2
        simp only [← hB1] at hc1
        simp only [← hB2] at hc2
        have HNE2 := Lib.hid hne
        have HCH2 := Lib.hid hch
        clear hE hA1 hA2 hB1 hB2 hne hch HNO HNE HCH
        cases A2
        all_goals cases B2
        all_goals try (have hA1 := HNE2.out rfl; subst hA1)
        all_goals try (have hB1 := HCH2.out rfl; subst hB1)
        all_goals clear HNE2 HCH2
        · skip
          go_wp2
          have q0 := fun x : LaterW wr.heap.size wr => x.cell bm.lt bm_0
          have q1 := fun x : LaterW wr.heap.size wr => x.cell bm.lt bm_1
          have q2 := fun x : LaterW wr.heap.size wr => x.cell b1.lt b1_0
          have q3 := fun x : LaterW wr.heap.size wr => x.cell b1.lt b1_1
          refine wp_region_later (by kernel_rfl) (by kernel_rfl) ?_
          repeat (go_big_quiet_step ((first | (go_at_call 43; with_reducible exact LaterW.call (hn1 _ _ _ (LaterW.reads _ (by assumption)))) | (go_at_call 43; with_reducible exact LaterW.call (hn2 _ (LaterW.reads _ (by assumption)))) | (go_at_call 38; with_reducible exact LaterW.call (he1 _ _ _ (LaterW.reads _ (by assumption)))) | (go_at_call 38; with_reducible exact LaterW.call (he2 _ (LaterW.reads _ (by assumption)))) | (go_at_call 44; with_reducible exact LaterW.call (hc1 _ _ _ (LaterW.reads _ (by assumption)))) | (go_at_call 44; with_reducible exact LaterW.call (hc2 _ (LaterW.reads _ (by assumption)))))))
          refine wpQuiet_nil ?_
          intro _ hw'
          obtain ⟨x, rfl⟩ := hw'
          have hb := x.below
          clear q0 q1 q2 q3
          generalize x.w = w9 at *
          clear bm_0 bm_1 b1_0 b1_1
          replace bm := bm.later hb
          replace b1 := b1.later hb
          replace rx := rx.below hb
          replace rt := rt.below hb
          replace r1 := r1.below hb
          replace bW := bW.thenB hb
          replace hba := hba.thenB hb
          have z9 := hb.size
          clear hb
          have bm_0 := bm.c0
          have bm_1 := bm.c1
          have b1_0 := b1.c0
          have b1_1 := b1.c1
          go_wp2
          go_ret
          exact ⟨rfl, bW⟩
        · skip
          go_wp2
          have q0 := fun x : LaterW wr.heap.size wr => x.cell bm.lt bm_0
          have q1 := fun x : LaterW wr.heap.size wr => x.cell bm.lt bm_1
          have q2 := fun x : LaterW wr.heap.size wr => x.cell b1.lt b1_0
          have q3 := fun x : LaterW wr.heap.size wr => x.cell b1.lt b1_1
          refine wp_region_later (by kernel_rfl) (by kernel_rfl) ?_
          repeat (go_big_quiet_step ((first | (go_at_call 43; with_reducible exact LaterW.call (hn1 _ _ _ (LaterW.reads _ (by assumption)))) | (go_at_call 43; with_reducible exact LaterW.call (hn2 _ (LaterW.reads _ (by assumption)))) | (go_at_call 38; with_reducible exact LaterW.call (he1 _ _ _ (LaterW.reads _ (by assumption)))) | (go_at_call 38; with_reducible exact LaterW.call (he2 _ (LaterW.reads _ (by assumption)))) | (go_at_call 44; with_reducible exact LaterW.call (hc1 _ _ _ (LaterW.reads _ (by assumption)))) | (go_at_call 44; with_reducible exact LaterW.call (hc2 _ (LaterW.reads _ (by assumption)))))))
          refine wpQuiet_nil ?_
          intro _ hw'
          obtain ⟨x, rfl⟩ := hw'
          have hb := x.below
          clear q0 q1 q2 q3
          generalize x.w = w9 at *
          clear bm_0 bm_1 b1_0 b1_1
          replace bm := bm.later hb
          replace b1 := b1.later hb
          replace rx := rx.below hb
          replace rt := rt.below hb
          replace r1 := r1.below hb
          replace bW := bW.thenB hb
          replace hba := hba.thenB hb
          have z9 := hb.size
          clear hb
          have bm_0 := bm.c0
          have bm_1 := bm.c1
          have b1_0 := b1.c0
          have b1_1 := b1.c1
          go_wp2
          go_ret
          exact ⟨rfl, bW⟩
        · skip
          go_wp2
          have q0 := fun x : LaterW wr.heap.size wr => x.cell bm.lt bm_0
          have q1 := fun x : LaterW wr.heap.size wr => x.cell bm.lt bm_1
          have q2 := fun x : LaterW wr.heap.size wr => x.cell b1.lt b1_0
          have q3 := fun x : LaterW wr.heap.size wr => x.cell b1.lt b1_1
          refine wp_region_later (by kernel_rfl) (by kernel_rfl) ?_
          repeat (go_big_quiet_step ((first | (go_at_call 43; with_reducible exact LaterW.call (hn1 _ _ _ (LaterW.reads _ (by assumption)))) | (go_at_call 43; with_reducible exact LaterW.call (hn2 _ (LaterW.reads _ (by assumption)))) | (go_at_call 38; with_reducible exact LaterW.call (he1 _ _ _ (LaterW.reads _ (by assumption)))) | (go_at_call 38; with_reducible exact LaterW.call (he2 _ (LaterW.reads _ (by assumption)))) | (go_at_call 44; with_reducible exact LaterW.call (hc1 _ _ _ (LaterW.reads _ (by assumption)))) | (go_at_call 44; with_reducible exact LaterW.call (hc2 _ (LaterW.reads _ (by assumption)))))))
          refine wpQuiet_nil ?_
          intro _ hw'
          obtain ⟨x, rfl⟩ := hw'
          have hb := x.below
          clear q0 q1 q2 q3
          generalize x.w = w9 at *
          clear bm_0 bm_1 b1_0 b1_1
          replace bm := bm.later hb
          replace b1 := b1.later hb
          replace rx := rx.below hb
          replace rt := rt.below hb
          replace r1 := r1.below hb
          replace bW := bW.thenB hb
          replace hba := hba.thenB hb
          have z9 := hb.size
          clear hb
          have bm_0 := bm.c0
          have bm_1 := bm.c1
          have b1_0 := b1.c0
          have b1_1 := b1.c1
          go_wp2
          go_ret
          exact ⟨rfl, bW⟩
        · skip
          go_wp2
          have q0 := fun x : LaterW wr.heap.size wr => x.cell bm.lt bm_0
          have q1 := fun x : LaterW wr.heap.size wr => x.cell bm.lt bm_1
          have q2 := fun x : LaterW wr.heap.size wr => x.cell b1.lt b1_0
          have q3 := fun x : LaterW wr.heap.size wr => x.cell b1.lt b1_1
          refine wp_region_later (by kernel_rfl) (by kernel_rfl) ?_
          repeat (go_big_quiet_step ((first | (go_at_call 43; with_reducible exact LaterW.call (hn1 _ _ _ (LaterW.reads _ (by assumption)))) | (go_at_call 43; with_reducible exact LaterW.call (hn2 _ (LaterW.reads _ (by assumption)))) | (go_at_call 38; with_reducible exact LaterW.call (he1 _ _ _ (LaterW.reads _ (by assumption)))) | (go_at_call 38; with_reducible exact LaterW.call (he2 _ (LaterW.reads _ (by assumption)))) | (go_at_call 44; with_reducible exact LaterW.call (hc1 _ _ _ (LaterW.reads _ (by assumption)))) | (go_at_call 44; with_reducible exact LaterW.call (hc2 _ (LaterW.reads _ (by assumption)))))))
          refine wpQuiet_nil ?_
          intro _ hw'
          obtain ⟨x, rfl⟩ := hw'
          have hb := x.below
          clear q0 q1 q2 q3
          generalize x.w = w9 at *
          clear bm_0 bm_1 b1_0 b1_1
          replace bm := bm.later hb
          replace b1 := b1.later hb
          replace rx := rx.below hb
          replace rt := rt.below hb
          replace r1 := r1.below hb
          replace bW := bW.thenB hb
          replace hba := hba.thenB hb
          have z9 := hb.size
          clear hb
          have bm_0 := bm.c0
          have bm_1 := bm.c1
          have b1_0 := b1.c0
          have b1_1 := b1.c1
          go_wp2
          go_ret
          exact ⟨rfl, bW⟩

end Go.Proofs.Ytkpnenbkfphldaa
