/- The law on outer levels: what it computes. -/
import Derived.Test.YtmbipmdflbddbaaDA
import Derived.Test.YtmbipmdflbddbaaZL3
import Derived.Test.YtmbipmdflbddbaaE1
import Derived.Test.YtmbipmdflbddbaaT5
import Derived.Test.YtmbipmdflbddbaaM5
set_option linter.unusedVariables false
set_option linter.unusedSimpArgs false
namespace Go.Proofs.Ytmbipmdflbddbaa
open Go.RowKit

set_option maxHeartbeats 4000000 in
theorem FnOuterLevels_walk (w : World) (a0 : Option Addr) (c0 : Nat) (x0 : List Int) (m0 : x0.length ≤ maxLen) (rd0 : ReadsK .u8 w a0 x0) (wf0 : ∀ n ∈ x0, (Lit.int .u8 n).wf = true) (cp0 : x0.length ≤ c0) :
    Calls Try.prog 4 #[.slice a0 x0.length c0] w fun e w' => e = .returned (.bool true) ∧ Below w.heap.size w w' := by
  by_cases hbig0 : 1048576 < x0.length
  · unfold maxLen at m0
    clear rd0 wf0 cp0
    go_enter Try.func4, Try.ntmps4
    go_wp2
    go_ret
    exact ⟨rfl, Below.refl _ _⟩
  have HD := Lib.hid (DrawOuterLevels_any a0 c0 x0 w rd0 wf0 m0 cp0)
  unfold maxLen at m0
  clear rd0 wf0 cp0
  go_enter Try.func4, Try.ntmps4
  go_wp2_with fail
  refine HD.out.mono ?_
  rintro e w1 ⟨s, p, c, xs, q, d, ts, rfl, hxl, htl, rx, rt, bW⟩
  clear HD
  obtain ⟨L, hL⟩ : ∃ L, L = ouL s xs ts := ⟨_, rfl⟩
  have hLl : L.length ≤ 1048576 := by rw [hL]; exact ouL_len s xs ts (by omega)
  obtain ⟨G, hG⟩ : ∃ G, G = ouG s xs ts := ⟨_, rfl⟩
  have hyes : G = true → ∃ K, OuLaw s xs ts L K := fun h => by
    obtain ⟨L', K, h'⟩ := ou_law (hG.symm.trans h)
    exact ⟨K, by rw [hL, h'.list]; exact h'⟩
  have hC1 := fun (w : World) (hx : Reads w p xs) (ht : Reads w q ts) => iOuterLevels_any s p c xs q d ts w hx ht (by omega) (by omega)
  have hC2 := fun (w : World) (hx : Reads w p xs) (ht : Reads w q ts) => sOuterLevels_any s p c xs q d ts w hx ht (by omega) (by omega)
  simp only [← hG, ← hL] at hC1 hC2
  have HC1 := Lib.hid hC1
  have HC2 := Lib.hid hC2
  have HYES := Lib.hid hyes
  clear hC1 hC2 hyes hL hG
  have hq1 : (G != G) = false := by cases G <;> rfl
  have hq2 : (G == G) = true := by cases G <;> rfl
  go_wp2_with fail
  have hb := belowAlloc w1 (.cells #[.int .i64 s, .slice p xs.length c] 24)
  replace rx := rx.below hb
  replace rt := rt.below hb
  replace bW := bW.thenB hb
  clear hb
  have bm := VarInv.made w1 (s) (.slice p xs.length c) 24
  have z2 := bm.lt
  generalize hu2 : w1.alloc (.cells #[.int .i64 s, .slice p xs.length c] 24) = w2 at *
  clear hu2
  have bm_0 := bm.c0
  have bm_1 := bm.c1
  refine (HC1.out _ rx rt).mono ?_
  rintro e w3 ⟨v, rfl, o, hb⟩
  clear bm_0 bm_1
  replace bm := bm.later hb
  replace rx := rx.below hb
  replace rt := rt.below hb
  replace bW := bW.thenB hb
  have z3 := hb.size
  obtain ⟨p1, k1, rfl, r1⟩ := o.shape
  clear o
  clear hb
  have bm_0 := bm.c0
  have bm_1 := bm.c1
  go_wp2_with fail
  refine (HC2.out _ rx rt).mono ?_
  rintro e w4 ⟨v, rfl, o, hb⟩
  clear bm_0 bm_1
  replace bm := bm.later hb
  replace rx := rx.below hb
  replace rt := rt.below hb
  replace r1 := r1.below hb
  replace bW := bW.thenB hb
  have z4 := hb.size
  obtain ⟨p2, k2, rfl, r2⟩ := o.shape
  clear o
  clear hb
  have bm_0 := bm.c0
  have bm_1 := bm.c1
  go_wp2_with fail
  refine (weSame_same _ _ _ _ _ _ L L rfl rfl rfl _ r1 r2 (by omega)).mono ?_
  rintro e w5 ⟨rfl, hb⟩
  clear bm_0 bm_1
  replace bm := bm.later hb
  replace rx := rx.below hb
  replace rt := rt.below hb
  replace r1 := r1.below hb
  replace r2 := r2.below hb
  replace bW := bW.thenB hb
  have z5 := hb.size
  clear hb
  have bm_0 := bm.c0
  have bm_1 := bm.c1
  cases hok : G
  · subst hok
    go_wp2_with fail
    refine (weSame_same _ _ _ _ _ _ L L rfl rfl rfl _ r1 r2 (by omega)).mono ?_
    rintro e w6 ⟨rfl, hb⟩
    clear bm_0 bm_1
    replace bm := bm.later hb
    replace rx := rx.below hb
    replace rt := rt.below hb
    replace r1 := r1.below hb
    replace r2 := r2.below hb
    replace bW := bW.thenB hb
    have z6 := hb.size
    clear hb
    have bm_0 := bm.c0
    have bm_1 := bm.c1
    go_wp2
    go_ret
    exact ⟨rfl, bW⟩
  · subst hok
    obtain ⟨K, law⟩ := HYES.out rfl
    have hlv := lvB_ok law.lv
    have hL4 := hlv.l4
    have hL1 := law.one
    have htl2 := law.tlen
    have hK16 : K.length ≤ 16 := by rw [law.mass.len]; exact Nat.pow_le_pow_right (n := 2) (by omega) hL4
    have hML := fun (w : World) (a : Option Addr) (k : Nat) (hx : Reads w a L) => iMassOfLevels_any a k L w hx (by omega)
    simp only [law.mass.gok, law.mass.gval, law.mass.gsize] at hML
    simp only [law.size] at hML
    obtain ⟨U, hU⟩ : ∃ U, U = sumL xs := ⟨_, rfl⟩
    have hW := fun (w : World) (hx : Reads w p xs) => iWholeOf_any s p c xs w hx (by omega)
    simp only [law.wh, ← hU] at hW
    have hMP := fun (w : World) (a : Option Addr) (k : Nat) (hx : Reads w p xs) (hy : Reads w a K) => iMorePossible_any s p c xs s a k K w hx hy (by omega) (by omega)
    simp only [law.mp] at hMP
    have hfi := law.first
    rw [← hU] at hfi
    have HFI := Lib.hid hfi
    have HDEC := Lib.hid law.dec
    have HRNG := Lib.hid law.rng
    have HML := Lib.hid hML
    have HW := Lib.hid hW
    have HMP := Lib.hid hMP
    clear hML hW hMP hfi hU law HYES HC1 HC2 hlv
    rw [htl2]
    obtain ⟨blq, ofq, rfl, _h1, _h2⟩ := rt 0 (by omega)
    clear _h1 _h2
    obtain ⟨blk, off, rfl, _h1, _h2⟩ := r1 0 (by omega)
    clear _h1 _h2
    clear r2
    go_wp2_with fail
    refine (HML.out _ _ _ r1).mono ?_
    rintro e w6 ⟨v, rfl, o, hb⟩
    clear bm_0 bm_1
    replace bm := bm.later hb
    replace rx := rx.below hb
    replace rt := rt.below hb
    replace r1 := r1.below hb
    replace bW := bW.thenB hb
    have z6 := hb.size
    obtain ⟨p3, k3, rfl, r3⟩ := o.shape
    clear o
    clear hb
    have bm_0 := bm.c0
    have bm_1 := bm.c1
    have lt_bm := bm.lt
    go_wp2
    clear lt_bm
    have hb := belowAlloc w6 (.cells #[.int .i64 s, .slice p3 K.length k3] 24)
    clear bm_0 bm_1
    replace bm := bm.later hb
    replace rx := rx.below hb
    replace rt := rt.below hb
    replace r1 := r1.below hb
    replace r3 := r3.below hb
    replace bW := bW.thenB hb
    clear hb
    have b3 := VarInv.made w6 (s) (.slice p3 K.length k3) 24
    have z7 := b3.lt
    generalize hu7 : w6.alloc (.cells #[.int .i64 s, .slice p3 K.length k3] 24) = w7 at *
    clear hu7
    have bm_0 := bm.c0
    have bm_1 := bm.c1
    have b3_0 := b3.c0
    have b3_1 := b3.c1
    go_loopw [11] (fun i wz => ∃ k : Nat, 1 ≤ k ∧ k ≤ L.length ∧ i = .int .i64 k ∧ Below w7.heap.size w7 wz) (fun i _ => L.length - (intOf i).toNat)
    case atStart => exact ⟨1, Nat.le_refl _, by omega, rfl, Below.refl _ _⟩
    case round =>
      obtain ⟨k, lk, hk, rfl, hbk⟩ := hrel
      clear bm_0 bm_1 b3_0 b3_1
      replace bm := bm.later hbk
      replace b3 := b3.later hbk
      replace rx := rx.below hbk
      replace rt := rt.below hbk
      replace r1 := r1.below hbk
      replace r3 := r3.below hbk
      replace bW := bW.thenB hbk
      have z8 := hbk.size
      have bm_0 := bm.c0
      have bm_1 := bm.c1
      have b3_0 := b3.c0
      have b3_1 := b3.c1
      by_cases hltk : k < L.length
      · skip
        have hde := HDEC.out k lk hltk
        obtain ⟨x1, ex1, hx1⟩ := HRNG.out k hltk
        obtain ⟨x0, ex0, hx0⟩ := HRNG.out (k - 1) (by omega)
        rw [ex1, ex0, Int.toNat_natCast, Int.toNat_natCast] at hde
        obtain ⟨_, _, e1, _, ct1⟩ := rt k (by omega)
        cases e1
        obtain ⟨_, _, e1, _, ct0⟩ := rt (k - 1) (by omega)
        cases e1
        obtain ⟨_, _, e1, _, cl1⟩ := r1 x1 hx1
        cases e1
        obtain ⟨_, _, e1, _, cl0⟩ := r1 x0 hx0
        cases e1
        rw [ex1] at ct1
        rw [ex0] at ct0
        clear ex1 ex0
        obtain ⟨j, hj⟩ : ∃ j, j = k - 1 := ⟨_, rfl⟩
        rw [← hj] at ct0
        have hjL : (j : Int) < (L.length : Int) := by omega
        have hkL : (k : Int) < (L.length : Int) := by omega
        have hw0 : IntKind.i64.wrap ((k : Int) - 1) = (j : Int) := by rw [IntWalk.i64_in _ (by omega)]; omega
        have hx1L : (x1 : Int) < (L.length : Int) := by omega
        have hx0L : (x0 : Int) < (L.length : Int) := by omega
        obtain ⟨v1, hv1⟩ : ∃ v, v = nth L x1 := ⟨_, rfl⟩
        obtain ⟨v0, hv0⟩ : ∃ v, v = nth L x0 := ⟨_, rfl⟩
        rw [← hv1] at cl1 hde
        rw [← hv0] at cl0 hde
        have HJ := Lib.hid hj
        clear hv1 hv0 hj
        go_wp2
        have qc0 := fun x : LaterW wr.heap.size wr => x.cell (World.block_lt_of_cell? _ _ ct1) ct1
        have qc1 := fun x : LaterW wr.heap.size wr => x.cell (World.block_lt_of_cell? _ _ ct0) ct0
        have qc2 := fun x : LaterW wr.heap.size wr => x.cell (World.block_lt_of_cell? _ _ cl1) cl1
        have qc3 := fun x : LaterW wr.heap.size wr => x.cell (World.block_lt_of_cell? _ _ cl0) cl0
        have q0 := fun x : LaterW wr.heap.size wr => x.cell bm.lt bm_0
        have q1 := fun x : LaterW wr.heap.size wr => x.cell bm.lt bm_1
        have q2 := fun x : LaterW wr.heap.size wr => x.cell b3.lt b3_0
        have q3 := fun x : LaterW wr.heap.size wr => x.cell b3.lt b3_1
        refine wp_region_later (by kernel_rfl) (by kernel_rfl) ?_
        repeat (go_big_quiet_step ((first | (go_at_call 22; exact LaterW.call (HW.out _ (LaterW.reads _ (by assumption)))))))
        refine wpQuiet_nil ?_
        intro _ hw'
        obtain ⟨x, rfl⟩ := hw'
        have hb := x.below
        clear q0 q1 q2 q3
        clear qc0 qc1 qc2 qc3 ct1 ct0 cl1 cl0
        generalize x.w = w9 at *
        clear bm_0 bm_1 b3_0 b3_1
        replace bm := bm.later hb
        replace b3 := b3.later hb
        replace rx := rx.below hb
        replace rt := rt.below hb
        replace r1 := r1.below hb
        replace r3 := r3.below hb
        replace bW := bW.thenB hb
        replace hbk := hbk.thenB hb
        have z9 := hb.size
        clear hb
        have bm_0 := bm.c0
        have bm_1 := bm.c1
        have b3_0 := b3.c0
        have b3_1 := b3.c1
        go_wp2
        exact ⟨⟨k + 1, by omega, by omega, by go_num, hbk⟩, by simp [intOf]; omega⟩
      · skip
        obtain ⟨x0, ex0, hx0⟩ := HRNG.out 0 (by omega)
        have hfi := HFI.out
        rw [ex0, Int.toNat_natCast] at hfi
        obtain ⟨_, _, e1, _, ct0⟩ := rt 0 (by omega)
        cases e1
        obtain ⟨_, _, e1, _, cl0⟩ := r1 x0 hx0
        cases e1
        rw [ex0] at ct0
        rw [hfi] at cl0
        rw [Nat.add_zero] at ct0
        have hx0L : (x0 : Int) < (L.length : Int) := by omega
        have h0L : (0 : Int) < (L.length : Int) := by omega
        have hUU : (U == U) = true := by simp
        clear ex0 hfi
        go_wp2
        have qc0 := fun x : LaterW wr.heap.size wr => x.cell (World.block_lt_of_cell? _ _ ct0) ct0
        have qc1 := fun x : LaterW wr.heap.size wr => x.cell (World.block_lt_of_cell? _ _ cl0) cl0
        have q0 := fun x : LaterW wr.heap.size wr => x.cell bm.lt bm_0
        have q1 := fun x : LaterW wr.heap.size wr => x.cell bm.lt bm_1
        have q2 := fun x : LaterW wr.heap.size wr => x.cell b3.lt b3_0
        have q3 := fun x : LaterW wr.heap.size wr => x.cell b3.lt b3_1
        refine wp_region_later (by kernel_rfl) (by kernel_rfl) ?_
        repeat (go_big_quiet_step ((first | (go_at_call 22; exact LaterW.call (HW.out _ (LaterW.reads _ (by assumption)))) | (go_at_call 23; exact LaterW.call (HMP.out _ _ _ (LaterW.reads _ (by assumption)) (LaterW.reads _ (by assumption)))))))
        refine wpQuiet_nil ?_
        intro _ hw'
        obtain ⟨x, rfl⟩ := hw'
        have hb := x.below
        clear q0 q1 q2 q3
        clear qc0 qc1 ct0 cl0
        generalize x.w = w9 at *
        clear bm_0 bm_1 b3_0 b3_1
        replace bm := bm.later hb
        replace b3 := b3.later hb
        replace rx := rx.below hb
        replace rt := rt.below hb
        replace r1 := r1.below hb
        replace r3 := r3.below hb
        replace bW := bW.thenB hb
        replace hbk := hbk.thenB hb
        have z9 := hb.size
        clear hb
        have bm_0 := bm.c0
        have bm_1 := bm.c1
        have b3_0 := b3.c0
        have b3_1 := b3.c1
        go_wp2
        go_ret
        exact ⟨rfl, bW⟩

end Go.Proofs.Ytmbipmdflbddbaa
