/- The law on cuts: what it computes. -/
import Derived.Test.YtmbipmdflbddbaaD6
import Derived.Test.YtmbipmdflbddbaaZL2
import Derived.Test.YtmbipmdflbddbaaM5
import Derived.Test.YtmbipmdflbddbaaM6
import Derived.Test.YtmbipmdflbddbaaE3
import Derived.Test.YtmbipmdflbddbaaE1
import Derived.Test.YtmbipmdflbddbaaT5
set_option linter.unusedVariables false
set_option linter.unusedSimpArgs false
namespace Go.Proofs.Ytmbipmdflbddbaa
open Go.RowKit

set_option maxHeartbeats 4000000 in
theorem FnCutLevels_walk (w : World) (a0 : Option Addr) (c0 : Nat) (x0 : List Int) (m0 : x0.length ≤ maxLen) (rd0 : ReadsK .u8 w a0 x0) (wf0 : ∀ n ∈ x0, (Lit.int .u8 n).wf = true) (cp0 : x0.length ≤ c0) :
    Calls Try.prog 7 #[.slice a0 x0.length c0] w fun e w' => e = .returned (.bool true) ∧ Below w.heap.size w w' := by
  by_cases hbig0 : 1048576 < x0.length
  · unfold maxLen at m0
    clear rd0 wf0 cp0
    go_enter Try.func7, Try.ntmps7
    go_wp2
    go_ret
    exact ⟨rfl, Below.refl _ _⟩
  have HD := Lib.hid (DrawCutLevels_any a0 c0 x0 w rd0 wf0 m0 cp0)
  unfold maxLen at m0
  clear rd0 wf0 cp0
  go_enter Try.func7, Try.ntmps7
  go_wp2_with fail
  refine HD.out.mono ?_
  rintro e w1 ⟨p, c, xs, level, rfl, hxl, rx, bW⟩
  clear HD
  obtain ⟨G, hG⟩ : ∃ G, G = lvB xs := ⟨_, rfl⟩
  obtain ⟨A, hA⟩ : ∃ A, A = cutL xs level := ⟨_, rfl⟩
  have hno : A < 0 → G = false := fun h => by
    cases e : lvB xs
    · rw [hG, e]
    · rw [hA, cutL, e, if_pos rfl] at h; omega
  have hyes : ¬ A < 0 → lvB xs = true := fun h => cutL_parts (by rw [← hA]; exact h)
  have hC1 := fun (w : World) (hx : Reads w p xs) => iCutLevels_any p c xs level w hx (by omega)
  have hC2 := fun (w : World) (hx : Reads w p xs) => sCutLevels_any p c xs level w hx (by omega)
  have hV1 := fun (w : World) (hx : Reads w p xs) => iLevelsValid_any p c xs w hx (by omega)
  rw [← hA] at hC1 hC2
  rw [← hG] at hV1
  have HA := Lib.hid hA
  have HC1 := Lib.hid hC1
  have HC2 := Lib.hid hC2
  have HV1 := Lib.hid hV1
  have HNO := Lib.hid hno
  have HYES := Lib.hid hyes
  clear hC1 hC2 hV1 hyes hG hno hA
  go_wp2_with fail
  refine (HC1.out _ rx).mono ?_
  rintro e w' ⟨rfl, rfl⟩
  go_wp2_with fail
  refine (HC2.out _ rx).mono ?_
  rintro e w' ⟨rfl, rfl⟩
  by_cases hlt0 : A < 0
  · have hg := HNO.out hlt0
    subst hg
    clear HYES HNO
    go_wp2_with fail
    refine (HC2.out _ rx).mono ?_
    rintro e w' ⟨rfl, rfl⟩
    go_wp2_with fail
    refine (HV1.out _ rx).mono ?_
    rintro e w' ⟨rfl, rfl⟩
    go_wp2
    go_ret
    exact ⟨rfl, bW⟩
  · have hlv := HYES.out (by omega)
    obtain ⟨K, a, cl⟩ := cut_law (level := level) hlv
    have ha : A = (a : Int) := HA.out.trans cl.cut
    subst ha
    clear HC1 HC2 HV1 HNO HYES HA
    obtain ⟨l1, l4, hall, _, _⟩ := lvB_parts hlv
    have HALL := Lib.hid hall
    have hK16 : K.length ≤ 16 := by rw [cl.law.lv.len]; exact Nat.pow_le_pow_right (n := 2) (by omega) l4
    have hK1 : 1 ≤ K.length := by rw [cl.law.lv.len]; exact Nat.one_le_two_pow
    have haK : a < K.length := by rw [cl.law.lv.len]; exact cl.lt
    have hKn := Lib.hid cl.law.lv.len
    have hM := fun (w : World) (hx : Reads w p xs) => iMassOfLevels_any p c xs w hx (by omega)
    simp only [cl.law.lv.gok, cl.law.lv.gval, cl.law.lv.gsize] at hM
    have hF := fun (w : World) (q : Option Addr) (d : Nat) (hx : Reads w q K) => iFocalSets_any (xs.length : Int) q d K w hx (by omega)
    simp only [fsL_yes cl.law.lv.mass] at hF
    obtain ⟨F, hFe⟩ : ∃ F, F = focL K K.length := ⟨_, rfl⟩
    have hFl : F.length ≤ 16 := by rw [hFe]; have := focL_len K K.length; omega
    have hsome := cl.some
    rw [← hFe] at hF hsome
    have hoth := cl.other
    rw [← cl.law.lv.len] at hoth
    have hwh := cl.whole
    rw [← cl.law.lv.len] at hwh
    have HM := Lib.hid hM
    have HF := Lib.hid hF
    have HSOME := Lib.hid hsome
    have HOTH := Lib.hid hoth
    have HWH := Lib.hid hwh
    have HLV := Lib.hid hlv
    clear hM hF hsome hoth hwh hFe cl hlv hall
    obtain ⟨blk, off, rfl, _h1, _h2⟩ := rx 0 (by omega)
    clear _h1 _h2
    have hal0 : ¬ ((a : Int) < 0) := by omega
    go_wp2_with fail
    refine (HM.out _ rx).mono ?_
    rintro e w2 ⟨v, rfl, o, hb⟩
    replace rx := rx.below hb
    replace bW := bW.thenB hb
    have z2 := hb.size
    obtain ⟨p1, k1, rfl, r1⟩ := o.shape
    clear o
    clear hb
    go_wp2_with fail
    have hb := belowAlloc w2 (.cells #[.int .i64 xs.length, .slice p1 K.length k1] 24)
    replace rx := rx.below hb
    replace r1 := r1.below hb
    replace bW := bW.thenB hb
    clear hb
    have b1 := VarInv.made w2 (xs.length) (.slice p1 K.length k1) 24
    have z3 := b1.lt
    generalize hu3 : w2.alloc (.cells #[.int .i64 xs.length, .slice p1 K.length k1] 24) = w3 at *
    clear hu3
    have b1_0 := b1.c0
    have b1_1 := b1.c1
    refine (HF.out _ _ _ r1).mono ?_
    rintro e w4 ⟨v, rfl, o, hb⟩
    clear b1_0 b1_1
    replace b1 := b1.later hb
    replace rx := rx.below hb
    replace r1 := r1.below hb
    replace bW := bW.thenB hb
    have z4 := hb.size
    obtain ⟨p3, k3, rfl, r3⟩ := o.shape
    clear o
    clear hb
    have b1_0 := b1.c0
    have b1_1 := b1.c1
    go_wp2
    go_loopw [9] (fun i wz => ∃ i1 : Nat, i1 ≤ F.length ∧ i = .int .i64 i1 ∧ Below w4.heap.size w4 wz) (fun i _ => F.length - (intOf i).toNat)
    case atStart => exact ⟨0, Nat.zero_le _, rfl, Below.refl _ _⟩
    case round =>
      obtain ⟨i1, hi1, rfl, hbi1⟩ := hrel
      clear b1_0 b1_1
      replace b1 := b1.later hbi1
      replace rx := rx.below hbi1
      replace r1 := r1.below hbi1
      replace r3 := r3.below hbi1
      replace bW := bW.thenB hbi1
      have z5 := hbi1.size
      have b1_0 := b1.c0
      have b1_1 := b1.c1
      by_cases hlti1 : i1 < F.length
      · skip
        obtain ⟨blk3, off3, rfl, _h1, _h2⟩ := r3 0 (by omega)
        clear _h1 _h2
        go_wp2
        go_loopw [10, 11] (fun v i wz => ∃ j : Nat, j ≤ xs.length ∧ i = .int .i64 j ∧ v = .bool (someTo xs (nth F i1) j) ∧ Below wr.heap.size wr wz) (fun _ i _ => xs.length - (intOf i).toNat)
        case atStart => exact ⟨0, Nat.zero_le _, rfl, rfl, Below.refl _ _⟩
        case round =>
          obtain ⟨j, hj, rfl, rfl, hbj⟩ := hrel
          clear b1_0 b1_1
          replace b1 := b1.later hbj
          replace rx := rx.below hbj
          replace r1 := r1.below hbj
          replace r3 := r3.below hbj
          replace bW := bW.thenB hbj
          replace hbi1 := hbi1.thenB hbj
          have z6 := hbj.size
          have b1_0 := b1.c0
          have b1_1 := b1.c1
          by_cases hltj : j < xs.length
          · skip
            obtain ⟨_, _, e1, _, cx⟩ := rx j hltj
            cases e1
            obtain ⟨_, _, e1, _, cf⟩ := r3 i1 hlti1
            cases e1
            have hst := someTo_succ xs (nth F i1) j
            obtain ⟨vx, hvx⟩ : ∃ v, v = nth xs j := ⟨_, rfl⟩
            obtain ⟨vf, hvf⟩ : ∃ v, v = nth F i1 := ⟨_, rfl⟩
            rw [← hvx] at cx hst
            rw [← hvf] at cf hst ⊢
            obtain ⟨C, hC⟩ : ∃ C, C = cutL xs vx := ⟨_, rfl⟩
            have hCL := fun (w : World) (hx : Reads w (some ⟨blk, off, none⟩) xs) => iCutLevels_any (some ⟨blk, off, none⟩) c xs vx w hx (by omega)
            rw [← hC] at hCL hst
            have HCL := Lib.hid hCL
            obtain ⟨B, hB⟩ : ∃ B, B = someTo xs vf j := ⟨_, rfl⟩
            rw [← hB] at hst ⊢
            have HST := Lib.hid hst
            have HVF := Lib.hid hvf
            clear hCL hst hvx hvf hC hB
            cases B
            · by_cases e : C = vf
              · have hce : (C == vf) = true := by simp [e]
                have HE := Lib.hid e
                clear e
                go_wp2
                have qc0 := fun x : LaterW wr.heap.size wr => x.cell (World.block_lt_of_cell? _ _ cx) cx
                have qc1 := fun x : LaterW wr.heap.size wr => x.cell (World.block_lt_of_cell? _ _ cf) cf
                have q0 := fun x : LaterW wr.heap.size wr => x.cell b1.lt b1_0
                have q1 := fun x : LaterW wr.heap.size wr => x.cell b1.lt b1_1
                refine wp_region_later (by kernel_rfl) (by kernel_rfl) ?_
                repeat (go_big_quiet_step ((first | (go_at_call 37; exact LaterW.callSame (HCL.out _ (LaterW.reads _ (by assumption)))))))
                refine wpQuiet_nil ?_
                intro _ hw'
                obtain ⟨x, rfl⟩ := hw'
                have hb := x.below
                clear q0 q1
                clear qc0 qc1 cx cf
                generalize x.w = w7 at *
                clear b1_0 b1_1
                replace b1 := b1.later hb
                replace rx := rx.below hb
                replace r1 := r1.below hb
                replace r3 := r3.below hb
                replace bW := bW.thenB hb
                replace hbi1 := hbi1.thenB hb
                replace hbj := hbj.thenB hb
                have z7 := hb.size
                clear hb
                have b1_0 := b1.c0
                have b1_1 := b1.c1
                go_wp2
                exact ⟨⟨j + 1, by omega, by go_num, by rw [HST.out, HE.out]; simp, hbj⟩, by simp [intOf]; omega⟩
              · have hce : (C == vf) = false := by simp [e]
                have HE := Lib.hid e
                clear e
                go_wp2
                have qc0 := fun x : LaterW wr.heap.size wr => x.cell (World.block_lt_of_cell? _ _ cx) cx
                have qc1 := fun x : LaterW wr.heap.size wr => x.cell (World.block_lt_of_cell? _ _ cf) cf
                have q0 := fun x : LaterW wr.heap.size wr => x.cell b1.lt b1_0
                have q1 := fun x : LaterW wr.heap.size wr => x.cell b1.lt b1_1
                refine wp_region_later (by kernel_rfl) (by kernel_rfl) ?_
                repeat (go_big_quiet_step ((first | (go_at_call 37; exact LaterW.callSame (HCL.out _ (LaterW.reads _ (by assumption)))))))
                refine wpQuiet_nil ?_
                intro _ hw'
                obtain ⟨x, rfl⟩ := hw'
                have hb := x.below
                clear q0 q1
                clear qc0 qc1 cx cf
                generalize x.w = w7 at *
                clear b1_0 b1_1
                replace b1 := b1.later hb
                replace rx := rx.below hb
                replace r1 := r1.below hb
                replace r3 := r3.below hb
                replace bW := bW.thenB hb
                replace hbi1 := hbi1.thenB hb
                replace hbj := hbj.thenB hb
                have z7 := hb.size
                clear hb
                have b1_0 := b1.c0
                have b1_1 := b1.c1
                go_wp2
                exact ⟨⟨j + 1, by omega, by go_num, by rw [HST.out]; simp [HE.out], hbj⟩, by simp [intOf]; omega⟩
            · skip
              go_wp2
              have qc0 := fun x : LaterW wr.heap.size wr => x.cell (World.block_lt_of_cell? _ _ cx) cx
              have qc1 := fun x : LaterW wr.heap.size wr => x.cell (World.block_lt_of_cell? _ _ cf) cf
              have q0 := fun x : LaterW wr.heap.size wr => x.cell b1.lt b1_0
              have q1 := fun x : LaterW wr.heap.size wr => x.cell b1.lt b1_1
              refine wp_region_later (by kernel_rfl) (by kernel_rfl) ?_
              repeat (go_big_quiet_step ((first | (go_at_call 37; exact LaterW.callSame (HCL.out _ (LaterW.reads _ (by assumption)))))))
              refine wpQuiet_nil ?_
              intro _ hw'
              obtain ⟨x, rfl⟩ := hw'
              have hb := x.below
              clear q0 q1
              clear qc0 qc1 cx cf
              generalize x.w = w7 at *
              clear b1_0 b1_1
              replace b1 := b1.later hb
              replace rx := rx.below hb
              replace r1 := r1.below hb
              replace r3 := r3.below hb
              replace bW := bW.thenB hb
              replace hbi1 := hbi1.thenB hb
              replace hbj := hbj.thenB hb
              have z7 := hb.size
              clear hb
              have b1_0 := b1.c0
              have b1_1 := b1.c1
              go_wp2
              exact ⟨⟨j + 1, by omega, by go_num, by rw [HST.out]; simp, hbj⟩, by simp [intOf]; omega⟩
          · have hjn : j = xs.length := by omega
            subst hjn
            rw [HSOME.out i1 hlti1]
            go_wp2
            exact ⟨⟨i1 + 1, by omega, by go_num, hbi1⟩, by simp [intOf]; omega⟩
      · skip
        by_cases hl : 0 < level
        · have ho := HOTH.out hl
          obtain ⟨O, hO⟩ : ∃ O, O = posL xs ((K.length : Int) - 1 - (a : Int)) := ⟨_, rfl⟩
          have hPL := fun (w : World) (hx : Reads w (some ⟨blk, off, none⟩) xs) => iPossibleLevel_any (some ⟨blk, off, none⟩) c xs ((K.length : Int) - 1 - (a : Int)) w hx (by omega)
          rw [← hO] at hPL ho
          have HPL := Lib.hid hPL
          have hl2 : ¬ level ≤ 0 := by omega
          clear hPL hO
          go_wp2_with fail
          refine (HPL.out _ rx).mono ?_
          rintro e w' ⟨rfl, rfl⟩
          go_wp2
          go_ret
          exact ⟨rfl, bW⟩
        · have hw := HWH.out (by omega)
          have hl2 : level ≤ 0 := by omega
          go_wp2
          go_ret
          exact ⟨rfl, bW⟩

end Go.Proofs.Ytmbipmdflbddbaa
