/- The law on the levels of a chance: what it computes. -/
import Derived.Test.YtmbipmdflbddbaaDB
import Derived.Test.YtmbipmdflbddbaaZL4
import Derived.Test.YtmbipmdflbddbaaE3
import Derived.Test.YtmbipmdflbddbaaT5
import Derived.Test.YtmbipmdflbddbaaM5
set_option linter.unusedVariables false
set_option linter.unusedSimpArgs false
namespace Go.Proofs.Ytmbipmdflbddbaa
open Go.RowKit

set_option maxHeartbeats 4000000 in
theorem FnLevelsOfChance_walk (w : World) (a0 : Option Addr) (c0 : Nat) (x0 : List Int) (m0 : x0.length ≤ maxLen) (rd0 : ReadsK .u8 w a0 x0) (wf0 : ∀ n ∈ x0, (Lit.int .u8 n).wf = true) (cp0 : x0.length ≤ c0) :
    Calls Try.prog 5 #[.slice a0 x0.length c0] w fun e w' => e = .returned (.bool true) ∧ Below w.heap.size w w' := by
  by_cases hbig0 : 1048576 < x0.length
  · unfold maxLen at m0
    clear rd0 wf0 cp0
    go_enter Try.func5, Try.ntmps5
    go_wp2
    go_ret
    exact ⟨rfl, Below.refl _ _⟩
  have HD := Lib.hid (DrawLevelsOfChance_any a0 c0 x0 w rd0 wf0 m0 cp0)
  unfold maxLen at m0
  clear rd0 wf0 cp0
  go_enter Try.func5, Try.ntmps5
  go_wp2_with fail
  refine HD.out.mono ?_
  rintro e w1 ⟨s, p, c, xs, rfl, hxl, rx, bW⟩
  clear HD
  obtain ⟨L, hL⟩ : ∃ L, L = lcL s xs := ⟨_, rfl⟩
  have hLl : L.length ≤ 1048576 := by rw [hL]; exact lcL_len s xs
  obtain ⟨G, hG⟩ : ∃ G, G = chB s xs := ⟨_, rfl⟩
  have hyes : G = true → ∃ K, ChLaw s xs L K ∧ chB s xs = true := fun h => by
    obtain ⟨L', K, h'⟩ := ch_law (hG.symm.trans h)
    exact ⟨K, by rw [hL, h'.list]; exact h', hG.symm.trans h⟩
  have hC1 := fun (w : World) (hx : Reads w p xs) => iLevelsOfChance_any s p c xs w hx (by omega)
  have hC2 := fun (w : World) (hx : Reads w p xs) => sLevelsOfChance_any s p c xs w hx (by omega)
  simp only [← hG, ← hL] at hC1 hC2
  have HC1 := Lib.hid hC1
  have HC2 := Lib.hid hC2
  have HYES := Lib.hid hyes
  clear hC1 hC2 hyes hL hG
  have hq1 : (G != G) = false := by cases G <;> rfl
  have hq2 : (G == G) = true := by cases G <;> rfl
  go_wp2_with fail
  have hb := belowAlloc w1 (.cells #[.int .i64 s, .slice p xs.length c] 24)
  replace rx := rx.below hb
  replace bW := bW.thenB hb
  clear hb
  have bm := VarInv.made w1 (s) (.slice p xs.length c) 24
  have z2 := bm.lt
  generalize hu2 : w1.alloc (.cells #[.int .i64 s, .slice p xs.length c] 24) = w2 at *
  clear hu2
  have bm_0 := bm.c0
  have bm_1 := bm.c1
  refine (HC1.out _ rx).mono ?_
  rintro e w3 ⟨v, rfl, o, hb⟩
  clear bm_0 bm_1
  replace bm := bm.later hb
  replace rx := rx.below hb
  replace bW := bW.thenB hb
  have z3 := hb.size
  obtain ⟨p1, k1, rfl, r1⟩ := o.shape
  clear o
  clear hb
  have bm_0 := bm.c0
  have bm_1 := bm.c1
  go_wp2_with fail
  refine (HC2.out _ rx).mono ?_
  rintro e w4 ⟨v, rfl, o, hb⟩
  clear bm_0 bm_1
  replace bm := bm.later hb
  replace rx := rx.below hb
  replace r1 := r1.below hb
  replace bW := bW.thenB hb
  have z4 := hb.size
  obtain ⟨p2, k2, rfl, r2⟩ := o.shape
  clear o
  clear hb
  have bm_0 := bm.c0
  have bm_1 := bm.c1
  go_wp2_with fail
  refine (weSame_same _ _ _ _ _ _ L L rfl rfl rfl _ r1 r2 (by omega)).mono ?_
  rintro e w5 ⟨rfl, hb⟩
  clear bm_0 bm_1
  replace bm := bm.later hb
  replace rx := rx.below hb
  replace r1 := r1.below hb
  replace r2 := r2.below hb
  replace bW := bW.thenB hb
  have z5 := hb.size
  clear hb
  have bm_0 := bm.c0
  have bm_1 := bm.c1
  cases hok : G
  · subst hok
    go_wp2_with fail
    refine (weSame_same _ _ _ _ _ _ L L rfl rfl rfl _ r1 r2 (by omega)).mono ?_
    rintro e w6 ⟨rfl, hb⟩
    clear bm_0 bm_1
    replace bm := bm.later hb
    replace rx := rx.below hb
    replace r1 := r1.below hb
    replace r2 := r2.below hb
    replace bW := bW.thenB hb
    have z6 := hb.size
    clear hb
    have bm_0 := bm.c0
    have bm_1 := bm.c1
    go_wp2
    go_ret
    exact ⟨rfl, bW⟩
  · subst hok
    obtain ⟨K, law, hch⟩ := HYES.out rfl
    have hk := chB_ok hch
    obtain ⟨n, hsn, n1, n4, hl⟩ := szOf hk
    have hLn : L.length = n := by have := law.size; omega
    subst hLn
    subst hsn
    have hx16 := hk.l16
    have hm0 : massB (L.length : Int) xs = true := by simp only [chB, Bool.and_eq_true] at hch; exact hch.1
    have hall := hk.all
    have hK16 : K.length ≤ 16 := by rw [law.mass.len]; exact Nat.pow_le_pow_right (n := 2) (by omega) n4
    have hML := fun (w : World) (a : Option Addr) (k : Nat) (hx : Reads w a L) => iMassOfLevels_any a k L w hx (by omega)
    simp only [law.mass.gok, law.mass.gval, law.mass.gsize] at hML
    obtain ⟨U, hU⟩ : ∃ U, U = sumL xs := ⟨_, rfl⟩
    have hW := fun (w : World) (hx : Reads w p xs) => iWholeOf_any (L.length : Int) p c xs w hx (by omega)
    simp only [law.wh, ← hU] at hW
    have hMP := fun (w : World) (a : Option Addr) (k : Nat) (hx : Reads w p xs) (hy : Reads w a K) => iMorePossible_any (L.length : Int) p c xs (L.length : Int) a k K w hx hy (by omega) (by omega)
    simp only [law.mp] at hMP
    have hBE := fun (w : World) (hx : Reads w p xs) => iMostBelieved_yes (L.length : Int) p c xs w hx hm0 (ch_sum0 hch)
    have hBV := fun (b : Nat) (h1 : (b : Int) < (L.length : Int)) h2 => ch_best hch law b h1 h2
    rw [← hU] at hBV
    have HORD := Lib.hid law.ord
    have hbx := fun (x : Nat) (hx : x < L.length) => (show bit x < xs.length by rw [hl]; exact bit_lt_pow hx)
    have HBX := Lib.hid hbx
    have HML := Lib.hid hML
    have HW := Lib.hid hW
    have HMP := Lib.hid hMP
    have HBE := Lib.hid hBE
    have HBV := Lib.hid hBV
    clear hML hW hMP hBE hBV hU law HYES HC1 HC2 hk hch hm0 hall hl hbx
    obtain ⟨blq, ofq, rfl, _h1, _h2⟩ := rx (bit 0) (HBX.out 0 (by omega))
    clear _h1 _h2
    obtain ⟨blk, off, rfl, _h1, _h2⟩ := r1 0 (by omega)
    clear _h1 _h2
    clear r2
    go_wp2_with fail
    refine (HML.out _ _ _ r1).mono ?_
    rintro e w6 ⟨v, rfl, o, hb⟩
    clear bm_0 bm_1
    replace bm := bm.later hb
    replace rx := rx.below hb
    replace r1 := r1.below hb
    replace bW := bW.thenB hb
    have z6 := hb.size
    obtain ⟨p3, k3, rfl, r3⟩ := o.shape
    clear o
    clear hb
    have bm_0 := bm.c0
    have bm_1 := bm.c1
    have lt_bm := bm.lt
    go_wp2
    clear lt_bm
    have hb := belowAlloc w6 (.cells #[.int .i64 (L.length : Int), .slice p3 K.length k3] 24)
    clear bm_0 bm_1
    replace bm := bm.later hb
    replace rx := rx.below hb
    replace r1 := r1.below hb
    replace r3 := r3.below hb
    replace bW := bW.thenB hb
    clear hb
    have b3 := VarInv.made w6 ((L.length : Int)) (.slice p3 K.length k3) 24
    have z7 := b3.lt
    generalize hu7 : w6.alloc (.cells #[.int .i64 (L.length : Int), .slice p3 K.length k3] 24) = w7 at *
    clear hu7
    have bm_0 := bm.c0
    have bm_1 := bm.c1
    have b3_0 := b3.c0
    have b3_1 := b3.c1
    go_loopw [10] (fun i wz => ∃ x : Nat, x ≤ L.length ∧ i = .int .i64 x ∧ Below w7.heap.size w7 wz) (fun i _ => L.length - (intOf i).toNat)
    case atStart => exact ⟨0, Nat.zero_le _, rfl, Below.refl _ _⟩
    case round =>
      obtain ⟨x, hx, rfl, hbx⟩ := hrel
      clear bm_0 bm_1 b3_0 b3_1
      replace bm := bm.later hbx
      replace b3 := b3.later hbx
      replace rx := rx.below hbx
      replace r1 := r1.below hbx
      replace r3 := r3.below hbx
      replace bW := bW.thenB hbx
      have z8 := hbx.size
      have bm_0 := bm.c0
      have bm_1 := bm.c1
      have b3_0 := b3.c0
      have b3_1 := b3.c1
      by_cases hltx : x < L.length
      · skip
        go_wp2
        go_loopw [11] (fun i wz => ∃ y : Nat, y ≤ L.length ∧ i = .int .i64 y ∧ Below wr.heap.size wr wz) (fun i _ => L.length - (intOf i).toNat)
        case atStart => exact ⟨0, Nat.zero_le _, rfl, Below.refl _ _⟩
        case round =>
          obtain ⟨y, hy, rfl, hby⟩ := hrel
          clear bm_0 bm_1 b3_0 b3_1
          replace bm := bm.later hby
          replace b3 := b3.later hby
          replace rx := rx.below hby
          replace r1 := r1.below hby
          replace r3 := r3.below hby
          replace bW := bW.thenB hby
          replace hbx := hbx.thenB hby
          have z9 := hby.size
          have bm_0 := bm.c0
          have bm_1 := bm.c1
          have b3_0 := b3.c0
          have b3_1 := b3.c1
          by_cases hlty : y < L.length
          · skip
            have hord := HORD.out x y hltx hlty
            have hxb := HBX.out x hltx
            have hyb := HBX.out y hlty
            have hwx := bit_wrapN x (by omega)
            have hwx2 := bit_wrap' x (by omega)
            have hwy := bit_wrapN y (by omega)
            have hwy2 := bit_wrap' y (by omega)
            have hx0 : (0 : Int) ≤ ((bit x : Nat) : Int) := Int.natCast_nonneg _
            have hy0 : (0 : Int) ≤ ((bit y : Nat) : Int) := Int.natCast_nonneg _
            have hx1 : ((bit x : Nat) : Int) < (xs.length : Int) := Int.ofNat_lt.2 hxb
            have hy1 : ((bit y : Nat) : Int) < (xs.length : Int) := Int.ofNat_lt.2 hyb
            have hxL : (x : Int) < (L.length : Int) := by omega
            have hyL : (y : Int) < (L.length : Int) := by omega
            obtain ⟨_, _, e1, _, cpx⟩ := rx (bit x) hxb
            cases e1
            obtain ⟨_, _, e1, _, cpy⟩ := rx (bit y) hyb
            cases e1
            obtain ⟨_, _, e1, _, clx⟩ := r1 x hltx
            cases e1
            obtain ⟨_, _, e1, _, cly⟩ := r1 y hlty
            cases e1
            obtain ⟨px, hpx⟩ : ∃ v, v = nth xs (bit x) := ⟨_, rfl⟩
            obtain ⟨py, hpy⟩ : ∃ v, v = nth xs (bit y) := ⟨_, rfl⟩
            obtain ⟨lx, hlx⟩ : ∃ v, v = nth L x := ⟨_, rfl⟩
            obtain ⟨ly, hly⟩ : ∃ v, v = nth L y := ⟨_, rfl⟩
            rw [← hpx] at cpx hord
            rw [← hpy] at cpy hord
            rw [← hlx] at clx hord
            rw [← hly] at cly hord
            have HO := Lib.hid hord
            clear hpx hpy hlx hly hord hxb hyb
            by_cases hlt9 : px < py
            · have hlt8 := HO.out.1 hlt9
              go_wp2
              have qc0 := fun x : LaterW wr.heap.size wr => x.cell (World.block_lt_of_cell? _ _ cpx) cpx
              have qc1 := fun x : LaterW wr.heap.size wr => x.cell (World.block_lt_of_cell? _ _ cpy) cpy
              have qc2 := fun x : LaterW wr.heap.size wr => x.cell (World.block_lt_of_cell? _ _ clx) clx
              have qc3 := fun x : LaterW wr.heap.size wr => x.cell (World.block_lt_of_cell? _ _ cly) cly
              have q0 := fun x : LaterW wr.heap.size wr => x.cell bm.lt bm_0
              have q1 := fun x : LaterW wr.heap.size wr => x.cell bm.lt bm_1
              have q2 := fun x : LaterW wr.heap.size wr => x.cell b3.lt b3_0
              have q3 := fun x : LaterW wr.heap.size wr => x.cell b3.lt b3_1
              refine wp_region_later (by kernel_rfl) (by kernel_rfl) ?_
              repeat (go_big_quiet_step ((first | (go_at_call 22; exact LaterW.call (HW.out _ (LaterW.reads _ (by assumption)))))))
              refine wpQuiet_nil ?_
              intro _ hw'
              obtain ⟨x, rfl⟩ := hw'
              have hb := x.below
              clear q0 q1 q2 q3
              clear qc0 qc1 qc2 qc3 cpx cpy clx cly
              generalize x.w = w10 at *
              clear bm_0 bm_1 b3_0 b3_1
              replace bm := bm.later hb
              replace b3 := b3.later hb
              replace rx := rx.below hb
              replace r1 := r1.below hb
              replace r3 := r3.below hb
              replace bW := bW.thenB hb
              replace hbx := hbx.thenB hb
              replace hby := hby.thenB hb
              have z10 := hb.size
              clear hb
              have bm_0 := bm.c0
              have bm_1 := bm.c1
              have b3_0 := b3.c0
              have b3_1 := b3.c1
              go_wp2
              exact ⟨⟨y + 1, by omega, by go_num, hby⟩, by simp [intOf]; omega⟩
            · have hlt7 : ¬ lx < ly := fun h => hlt9 (HO.out.2 h)
              have hlt8 : ly ≤ lx := by omega
              have hd0 : decide (px < py) = false := by simp; omega
              have hd1 : decide (lx < ly) = false := by simp; omega
              clear hlt7
              go_wp2
              have qc0 := fun x : LaterW wr.heap.size wr => x.cell (World.block_lt_of_cell? _ _ cpx) cpx
              have qc1 := fun x : LaterW wr.heap.size wr => x.cell (World.block_lt_of_cell? _ _ cpy) cpy
              have qc2 := fun x : LaterW wr.heap.size wr => x.cell (World.block_lt_of_cell? _ _ clx) clx
              have qc3 := fun x : LaterW wr.heap.size wr => x.cell (World.block_lt_of_cell? _ _ cly) cly
              have q0 := fun x : LaterW wr.heap.size wr => x.cell bm.lt bm_0
              have q1 := fun x : LaterW wr.heap.size wr => x.cell bm.lt bm_1
              have q2 := fun x : LaterW wr.heap.size wr => x.cell b3.lt b3_0
              have q3 := fun x : LaterW wr.heap.size wr => x.cell b3.lt b3_1
              refine wp_region_later (by kernel_rfl) (by kernel_rfl) ?_
              repeat (go_big_quiet_step ((first | (go_at_call 22; exact LaterW.call (HW.out _ (LaterW.reads _ (by assumption)))))))
              refine wpQuiet_nil ?_
              intro _ hw'
              obtain ⟨x, rfl⟩ := hw'
              have hb := x.below
              clear q0 q1 q2 q3
              clear qc0 qc1 qc2 qc3 cpx cpy clx cly
              generalize x.w = w10 at *
              clear bm_0 bm_1 b3_0 b3_1
              replace bm := bm.later hb
              replace b3 := b3.later hb
              replace rx := rx.below hb
              replace r1 := r1.below hb
              replace r3 := r3.below hb
              replace bW := bW.thenB hb
              replace hbx := hbx.thenB hb
              replace hby := hby.thenB hb
              have z10 := hb.size
              clear hb
              have bm_0 := bm.c0
              have bm_1 := bm.c1
              have b3_0 := b3.c0
              have b3_1 := b3.c1
              go_wp2
              exact ⟨⟨y + 1, by omega, by go_num, hby⟩, by simp [intOf]; omega⟩
          · skip
            go_wp2
            exact ⟨⟨x + 1, by omega, by go_num, hbx⟩, by simp [intOf]; omega⟩
      · skip
        go_wp2_with fail
        refine (HBE.out _ rx).mono ?_
        rintro e w9 ⟨b, rfl, hb0, hbm, hb⟩
        clear bm_0 bm_1 b3_0 b3_1
        replace bm := bm.later hb
        replace b3 := b3.later hb
        replace rx := rx.below hb
        replace r1 := r1.below hb
        replace r3 := r3.below hb
        replace bW := bW.thenB hb
        replace hbx := hbx.thenB hb
        have z9 := hb.size
        clear hb
        have bm_0 := bm.c0
        have bm_1 := bm.c1
        have b3_0 := b3.c0
        have b3_1 := b3.c1
        have hbv := HBV.out b hb0 hbm
        clear hbm
        obtain ⟨_, _, e1, _, clb⟩ := r1 b (by omega)
        cases e1
        rw [hbv] at clb
        have hUU : (U == U) = true := by simp
        clear hbv
        go_wp2
        have qc0 := fun x : LaterW w9.heap.size w9 => x.cell (World.block_lt_of_cell? _ _ clb) clb
        have q0 := fun x : LaterW w9.heap.size w9 => x.cell bm.lt bm_0
        have q1 := fun x : LaterW w9.heap.size w9 => x.cell bm.lt bm_1
        have q2 := fun x : LaterW w9.heap.size w9 => x.cell b3.lt b3_0
        have q3 := fun x : LaterW w9.heap.size w9 => x.cell b3.lt b3_1
        refine wp_region_later (by kernel_rfl) (by kernel_rfl) ?_
        repeat (go_big_quiet_step ((first | (go_at_call 22; exact LaterW.call (HW.out _ (LaterW.reads _ (by assumption)))) | (go_at_call 23; exact LaterW.call (HMP.out _ _ _ (LaterW.reads _ (by assumption)) (LaterW.reads _ (by assumption)))))))
        refine wpQuiet_nil ?_
        intro _ hw'
        obtain ⟨x, rfl⟩ := hw'
        have hb := x.below
        clear q0 q1 q2 q3
        clear qc0 clb
        generalize x.w = w10 at *
        clear bm_0 bm_1 b3_0 b3_1
        replace bm := bm.later hb
        replace b3 := b3.later hb
        replace rx := rx.below hb
        replace r1 := r1.below hb
        replace r3 := r3.below hb
        replace bW := bW.thenB hb
        replace hbx := hbx.thenB hb
        have z10 := hb.size
        clear hb
        have bm_0 := bm.c0
        have bm_1 := bm.c1
        have b3_0 := b3.c0
        have b3_1 := b3.c1
        go_wp2
        go_ret
        exact ⟨rfl, bW⟩

end Go.Proofs.Ytmbipmdflbddbaa
