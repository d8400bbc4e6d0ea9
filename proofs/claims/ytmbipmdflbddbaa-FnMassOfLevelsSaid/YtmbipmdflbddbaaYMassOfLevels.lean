/- The law on the mass of levels: what it computes. -/
import Derived.Test.YtmbipmdflbddbaaD6
import Derived.Test.YtmbipmdflbddbaaZL2
import Derived.Test.YtmbipmdflbddbaaM6
import Derived.Test.YtmbipmdflbddbaaE1
import Derived.Test.YtmbipmdflbddbaaT5
set_option linter.unusedVariables false
set_option linter.unusedSimpArgs false
namespace Go.Proofs.Ytmbipmdflbddbaa
open Go.RowKit

set_option maxHeartbeats 4000000 in
theorem FnMassOfLevels_walk (w : World) (a0 : Option Addr) (c0 : Nat) (x0 : List Int) (m0 : x0.length ≤ maxLen) (rd0 : ReadsK .u8 w a0 x0) (wf0 : ∀ n ∈ x0, (Lit.int .u8 n).wf = true) (cp0 : x0.length ≤ c0) :
    Calls Try.prog 9 #[.slice a0 x0.length c0] w fun e w' => e = .returned (.bool true) ∧ Below w.heap.size w w' := by
  by_cases hbig0 : 1048576 < x0.length
  · unfold maxLen at m0
    clear rd0 wf0 cp0
    go_enter Try.func9, Try.ntmps9
    go_wp2
    go_ret
    exact ⟨rfl, Below.refl _ _⟩
  have HD := Lib.hid (DrawMassOfLevels_any a0 c0 x0 w rd0 wf0 m0 cp0)
  unfold maxLen at m0
  clear rd0 wf0 cp0
  go_enter Try.func9, Try.ntmps9
  go_wp2_with fail
  refine HD.out.mono ?_
  rintro e w1 ⟨p, c, xs, rfl, hxl, rx, bW⟩
  clear HD
  obtain ⟨G, hG⟩ : ∃ G, G = lvB xs := ⟨_, rfl⟩
  obtain ⟨S, hS⟩ : ∃ S, S = gS (lvB xs) xs.length (lvP xs) := ⟨_, rfl⟩
  obtain ⟨K, hK⟩ : ∃ K, K = gL (lvB xs) xs.length (lvP xs) := ⟨_, rfl⟩
  have hKl : K.length ≤ 1048576 := by rw [hK]; exact lvR_len xs
  have hyes : G = true → LvLaw xs K ∧ S = xs.length := fun h => by
    obtain ⟨K', hK'⟩ := lv_law (hG.symm.trans h)
    rw [hS, hK, hK'.lv.gval, hK'.lv.gsize]; exact ⟨hK', rfl⟩
  have hv : G = true → lvB xs = true := fun h => hG.symm.trans h
  have hM1 := fun (w : World) (hx : Reads w p xs) => iMassOfLevels_any p c xs w hx (by omega)
  have hM2 := fun (w : World) (hx : Reads w p xs) => sMassOfLevels_any p c xs w hx (by omega)
  have hV1 := fun (w : World) (hx : Reads w p xs) => iLevelsValid_any p c xs w hx (by omega)
  have hV2 := fun (w : World) (hx : Reads w p xs) => sLevelsValid_any p c xs w hx (by omega)
  simp only [lv_gok, ← hS, ← hK] at hM1 hM2
  rw [← hG] at hM1 hM2 hV1 hV2
  have HM1 := Lib.hid hM1
  have HM2 := Lib.hid hM2
  have HV1 := Lib.hid hV1
  have HV2 := Lib.hid hV2
  have HYES := Lib.hid hyes
  have HV := Lib.hid hv
  clear hM1 hM2 hV1 hV2 hyes hG hS hK hv
  have hq1 : (G != G) = false := by cases G <;> rfl
  have hq2 : (G == G) = true := by cases G <;> rfl
  go_wp2_with fail
  refine (HM1.out _ rx).mono ?_
  rintro e w2 ⟨v, rfl, o, hb⟩
  replace rx := rx.below hb
  replace bW := bW.thenB hb
  have z2 := hb.size
  obtain ⟨p1, k1, rfl, r1⟩ := o.shape
  clear o
  clear hb
  go_wp2_with fail
  have hb := belowAlloc w2 (.cells #[.int .i64 S, .slice p1 K.length k1] 24)
  replace rx := rx.below hb
  replace r1 := r1.below hb
  replace bW := bW.thenB hb
  clear hb
  have b1 := VarInv.made w2 (S) (.slice p1 K.length k1) 24
  have z3 := b1.lt
  generalize hu3 : w2.alloc (.cells #[.int .i64 S, .slice p1 K.length k1] 24) = w3 at *
  clear hu3
  have b1_0 := b1.c0
  have b1_1 := b1.c1
  refine (HM2.out _ rx).mono ?_
  rintro e w4 ⟨v, rfl, o, hb⟩
  clear b1_0 b1_1
  replace b1 := b1.later hb
  replace rx := rx.below hb
  replace r1 := r1.below hb
  replace bW := bW.thenB hb
  have z4 := hb.size
  obtain ⟨p2, k2, rfl, r2⟩ := o.shape
  clear o
  clear hb
  have b1_0 := b1.c0
  have b1_1 := b1.c1
  have lt_b1 := b1.lt
  go_wp2_with fail
  clear lt_b1
  have hb := belowAlloc w4 (.cells #[.int .i64 S, .slice p2 K.length k2] 24)
  clear b1_0 b1_1
  replace b1 := b1.later hb
  replace rx := rx.below hb
  replace r1 := r1.below hb
  replace r2 := r2.below hb
  replace bW := bW.thenB hb
  clear hb
  have b2 := VarInv.made w4 (S) (.slice p2 K.length k2) 24
  have z5 := b2.lt
  generalize hu5 : w4.alloc (.cells #[.int .i64 S, .slice p2 K.length k2] 24) = w5 at *
  clear hu5
  have b1_0 := b1.c0
  have b1_1 := b1.c1
  have b2_0 := b2.c0
  have b2_1 := b2.c1
  refine (weEqual_same _ _ _ _ _ _ _ _ _ _ (rfl) (rfl) (rfl) (rfl) _ r1 r2 (by omega)).mono ?_
  rintro e w6 ⟨rfl, hb⟩
  clear b1_0 b1_1 b2_0 b2_1
  replace b1 := b1.later hb
  replace b2 := b2.later hb
  replace rx := rx.below hb
  replace r1 := r1.below hb
  replace r2 := r2.below hb
  replace bW := bW.thenB hb
  have z6 := hb.size
  clear hb
  have b1_0 := b1.c0
  have b1_1 := b1.c1
  have b2_0 := b2.c0
  have b2_1 := b2.c1
  go_wp2_with fail
  refine (HV1.out _ rx).mono ?_
  rintro e w' ⟨rfl, rfl⟩
  cases hok : G
  · subst hok
    go_wp2_with fail
    refine (weEqual_same _ _ _ _ _ _ _ _ _ _ (rfl) (rfl) (rfl) (rfl) _ r1 r2 (by omega)).mono ?_
    rintro e w7 ⟨rfl, hb⟩
    clear b1_0 b1_1 b2_0 b2_1
    replace b1 := b1.later hb
    replace b2 := b2.later hb
    replace rx := rx.below hb
    replace r1 := r1.below hb
    replace r2 := r2.below hb
    replace bW := bW.thenB hb
    have z7 := hb.size
    clear hb
    have b1_0 := b1.c0
    have b1_1 := b1.c1
    have b2_0 := b2.c0
    have b2_1 := b2.c1
    go_wp2_with fail
    refine (HV1.out _ rx).mono ?_
    rintro e w' ⟨rfl, rfl⟩
    go_wp2_with fail
    refine (HV2.out _ rx).mono ?_
    rintro e w' ⟨rfl, rfl⟩
    go_wp2
    go_ret
    exact ⟨rfl, bW⟩
  · subst hok
    obtain ⟨law, rfl⟩ := HYES.out rfl
    obtain ⟨l1, l4, hall, _, _⟩ := lvB_parts (HV.out rfl)
    have HALL := Lib.hid hall
    have hK16 : K.length ≤ 16 := by rw [law.lv.len]; exact Nat.pow_le_pow_right (n := 2) (by omega) l4
    have hK1 : 1 ≤ K.length := by rw [law.lv.len]; exact Nat.one_le_two_pow
    have hKn := Lib.hid law.lv.len
    clear HM1 HM2 HV2 HYES hall
    obtain ⟨T, hT⟩ : ∃ T, T = topL xs := ⟨_, rfl⟩
    obtain ⟨U, hU⟩ : ∃ U, U = sumL K := ⟨_, rfl⟩
    obtain ⟨L, hL⟩ : ∃ L, L = cnTo K xs.length := ⟨_, rfl⟩
    have hLl : L.length = xs.length := by rw [hL]; exact cnTo_len _ _
    have hLO := fun (w : World) (q : Option Addr) (d : Nat) (hx : Reads w q K) => iLevelsOf_any (xs.length : Int) q d K w hx (by omega)
    simp only [law.lo, law.loL, ← hL] at hLO
    have hW := fun (w : World) (q : Option Addr) (d : Nat) (hx : Reads w q K) => iWholeOf_any (xs.length : Int) q d K w hx (by omega)
    simp only [law.wh, ← hU] at hW
    have hPL := fun (w : World) (hx : Reads w p xs) => iPossibleLevel_any p c xs ((K.length : Int) - 1) w hx (by omega)
    have htop := law.top
    rw [← law.lv.len, ← hT] at htop
    simp only [htop] at hPL
    have hcn := law.cn
    rw [← hL, ← hT, ← hU] at hcn
    have hNE := Lib.hid law.lv.nest
    have hNO := Lib.hid law.lv.norm
    have hTB := law.topB
    have hUB := law.whB
    rw [← hT] at hTB
    rw [← hU] at hUB
    have HLO := Lib.hid hLO
    have HW := Lib.hid hW
    have HPL := Lib.hid hPL
    have HCN := Lib.hid hcn
    clear hLO hW hPL hcn hT hU hL htop law
    obtain ⟨blk, off, rfl, _h1, _h2⟩ := rx 0 (by omega)
    clear _h1 _h2
    clear b2_0 b2_1
    clear b2
    clear r2
    go_wp2_with fail
    refine (HLO.out _ _ _ r1).mono ?_
    rintro e w7 ⟨v, rfl, o, hb⟩
    clear b1_0 b1_1
    replace b1 := b1.later hb
    replace rx := rx.below hb
    replace r1 := r1.below hb
    replace bW := bW.thenB hb
    have z7 := hb.size
    obtain ⟨p3, k3, rfl, r3⟩ := o.shape
    clear o
    clear hb
    have b1_0 := b1.c0
    have b1_1 := b1.c1
    rw [hLl]
    obtain ⟨blk3, off3, rfl, _h1, _h2⟩ := r3 0 (by omega)
    clear _h1 _h2
    go_wp2_with fail
    refine (HPL.out _ rx).mono ?_
    rintro e w' ⟨rfl, rfl⟩
    go_wp2
    go_loopw [11] (fun i wr => ∃ k : Nat, k ≤ xs.length ∧ i = .int .i64 k ∧ Below w7.heap.size w7 wr) (fun i _ => xs.length - (intOf i).toNat)
    case atStart => exact ⟨0, Nat.zero_le _, rfl, Below.refl _ _⟩
    case round =>
      obtain ⟨k, hk, rfl, hbk⟩ := hrel
      clear b1_0 b1_1
      replace b1 := b1.later hbk
      replace rx := rx.below hbk
      replace r1 := r1.below hbk
      replace r3 := r3.below hbk
      replace bW := bW.thenB hbk
      have z8 := hbk.size
      have b1_0 := b1.c0
      have b1_1 := b1.c1
      by_cases hltk : k < xs.length
      · skip
        obtain ⟨_, _, e1, _, cx⟩ := rx k hltk
        cases e1
        obtain ⟨_, _, e1, _, cl⟩ := r3 k (by omega)
        cases e1
        obtain ⟨q1, ⟨q2, q3⟩, q4, q5⟩ := HCN.out k hltk
        obtain ⟨vx, hvx⟩ : ∃ v, v = nth xs k := ⟨_, rfl⟩
        obtain ⟨vl, hvl⟩ : ∃ v, v = nth L k := ⟨_, rfl⟩
        rw [← hvx] at cx q1 q4 q5
        rw [← hvl] at cl q1 q2 q3
        have hw1 : wrap64 (vl * T) = vl * T := mul_wrap _ _ 1000000 1000000 q2 q3 (by omega) hTB.2 (by omega)
        have hw2 : wrap64 (vx * U) = vx * U := mul_wrap _ _ 1000000 1000000 q4 q5 (by omega) hUB.2 (by omega)
        have hne : (vl * T != vx * U) = false := by rw [q1]; simp
        clear q1 q2 q3 q4 q5 hvx hvl
        go_wp2
        have qc0 := fun x : LaterW wr.heap.size wr => x.cell (World.block_lt_of_cell? _ _ cx) cx
        have qc1 := fun x : LaterW wr.heap.size wr => x.cell (World.block_lt_of_cell? _ _ cl) cl
        have q0 := fun x : LaterW wr.heap.size wr => x.cell b1.lt b1_0
        have q1 := fun x : LaterW wr.heap.size wr => x.cell b1.lt b1_1
        refine wp_region_later (by kernel_rfl) (by kernel_rfl) ?_
        repeat (go_big_quiet_step ((first | (go_at_call 22; exact LaterW.call (HW.out _ _ _ (LaterW.reads _ (by assumption)))))))
        refine wpQuiet_nil ?_
        intro _ hw'
        obtain ⟨x, rfl⟩ := hw'
        have hb := x.below
        clear q0 q1
        clear qc0 qc1 cx cl
        generalize x.w = w9 at *
        clear b1_0 b1_1
        replace b1 := b1.later hb
        replace rx := rx.below hb
        replace r1 := r1.below hb
        replace r3 := r3.below hb
        replace bW := bW.thenB hb
        replace hbk := hbk.thenB hb
        have z9 := hb.size
        clear hb
        have b1_0 := b1.c0
        have b1_1 := b1.c1
        go_wp2
        exact ⟨⟨k + 1, by omega, by go_num, hbk⟩, by simp [intOf]; omega⟩
      · skip
        go_wp2_with fail
        refine (iIsNested_any _ p1 k1 K _ r1 (by omega)).mono ?_
        rintro e w9 ⟨rfl, hb⟩
        clear b1_0 b1_1
        replace b1 := b1.later hb
        replace rx := rx.below hb
        replace r1 := r1.below hb
        replace r3 := r3.below hb
        replace bW := bW.thenB hb
        replace hbk := hbk.thenB hb
        have z9 := hb.size
        clear hb
        have b1_0 := b1.c0
        have b1_1 := b1.c1
        rw [hNE.out]
        go_wp2_with fail
        refine (iIsNormal_any _ p1 k1 K _ r1 (by omega)).mono ?_
        rintro e w10 ⟨rfl, hb⟩
        clear b1_0 b1_1
        replace b1 := b1.later hb
        replace rx := rx.below hb
        replace r1 := r1.below hb
        replace r3 := r3.below hb
        replace bW := bW.thenB hb
        replace hbk := hbk.thenB hb
        have z10 := hb.size
        clear hb
        have b1_0 := b1.c0
        have b1_1 := b1.c1
        rw [hNO.out]
        go_wp2
        go_ret
        exact ⟨rfl, bW⟩

end Go.Proofs.Ytmbipmdflbddbaa
