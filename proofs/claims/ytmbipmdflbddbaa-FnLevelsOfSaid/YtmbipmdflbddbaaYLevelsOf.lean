/- The law on the levels of nested masses: what it computes. -/
import Derived.Test.YtmbipmdflbddbaaD7
import Derived.Test.YtmbipmdflbddbaaZL3
import Derived.Test.YtmbipmdflbddbaaE3
import Derived.Test.YtmbipmdflbddbaaE1
import Derived.Test.YtmbipmdflbddbaaT5
set_option linter.unusedVariables false
set_option linter.unusedSimpArgs false
namespace Go.Proofs.Ytmbipmdflbddbaa
open Go.RowKit

set_option maxHeartbeats 4000000 in
theorem FnLevelsOf_walk (w : World) (a0 : Option Addr) (c0 : Nat) (x0 : List Int) (m0 : x0.length ≤ maxLen) (rd0 : ReadsK .u8 w a0 x0) (wf0 : ∀ n ∈ x0, (Lit.int .u8 n).wf = true) (cp0 : x0.length ≤ c0) :
    Calls Try.prog 6 #[.slice a0 x0.length c0] w fun e w' => e = .returned (.bool true) ∧ Below w.heap.size w w' := by
  by_cases hbig0 : 1048576 < x0.length
  · unfold maxLen at m0
    clear rd0 wf0 cp0
    go_enter Try.func6, Try.ntmps6
    go_wp2
    go_ret
    exact ⟨rfl, Below.refl _ _⟩
  have HD := Lib.hid (DrawLevelsOf_any a0 c0 x0 w rd0 wf0 m0 cp0)
  unfold maxLen at m0
  clear rd0 wf0 cp0
  go_enter Try.func6, Try.ntmps6
  go_wp2_with fail
  refine HD.out.mono ?_
  rintro e w1 ⟨s, p, c, xs, rfl, hxl, rx, bW⟩
  clear HD
  obtain ⟨L, hL⟩ : ∃ L, L = loL s xs := ⟨_, rfl⟩
  have hLl : L.length ≤ 1048576 := by rw [hL]; exact loL_len s xs
  obtain ⟨G, hG⟩ : ∃ G, G = loG s xs := ⟨_, rfl⟩
  obtain ⟨A, hA⟩ : ∃ A, A = neG s xs := ⟨_, rfl⟩
  obtain ⟨B, hB⟩ : ∃ B, B = normB s xs := ⟨_, rfl⟩
  have hGAB : G = (A && B) := by rw [hG, hA, hB, loG]
  have hyes : G = true → NestLaw s xs L ∧ massB s xs = true := fun h => by
    have h2 : loG s xs = true := hG.symm.trans h
    obtain ⟨L', hL'⟩ := nest_law h2
    refine ⟨by rw [hL, hL'.list]; exact hL', ?_⟩
    simp only [loG, neG, Bool.and_eq_true] at h2
    exact h2.1.1
  have hC1 := fun (w : World) (hx : Reads w p xs) => iLevelsOf_any s p c xs w hx (by omega)
  have hC2 := fun (w : World) (hx : Reads w p xs) => sLevelsOf_any s p c xs w hx (by omega)
  have hN := fun (w : World) (hx : Reads w p xs) => iIsNested_any s p c xs w hx (by omega)
  have hM := fun (w : World) (hx : Reads w p xs) => iIsNormal_any s p c xs w hx (by omega)
  simp only [← hG, ← hL] at hC1 hC2
  rw [← hA] at hN
  rw [← hB] at hM
  have HC1 := Lib.hid hC1
  have HC2 := Lib.hid hC2
  have HN := Lib.hid hN
  have HM := Lib.hid hM
  have HYES := Lib.hid hyes
  have HG := Lib.hid hGAB
  clear hC1 hC2 hN hM hyes hL hG hA hB hGAB
  go_wp2_with fail
  have hb := belowAlloc w1 (.cells #[.int .i64 s, .slice p xs.length c] 24)
  replace rx := rx.below hb
  replace bW := bW.thenB hb
  clear hb
  have bm := VarInv.made w1 (s) (.slice p xs.length c) 24
  have z2 := bm.lt
  generalize hu2 : w1.alloc (.cells #[.int .i64 s, .slice p xs.length c] 24) = w2 at *
  clear hu2
  have bm_0 := bm.c0
  have bm_1 := bm.c1
  refine (HC1.out _ rx).mono ?_
  rintro e w3 ⟨v, rfl, o, hb⟩
  clear bm_0 bm_1
  replace bm := bm.later hb
  replace rx := rx.below hb
  replace bW := bW.thenB hb
  have z3 := hb.size
  obtain ⟨p1, k1, rfl, r1⟩ := o.shape
  clear o
  clear hb
  have bm_0 := bm.c0
  have bm_1 := bm.c1
  go_wp2_with fail
  refine (HC2.out _ rx).mono ?_
  rintro e w4 ⟨v, rfl, o, hb⟩
  clear bm_0 bm_1
  replace bm := bm.later hb
  replace rx := rx.below hb
  replace r1 := r1.below hb
  replace bW := bW.thenB hb
  have z4 := hb.size
  obtain ⟨p2, k2, rfl, r2⟩ := o.shape
  clear o
  clear hb
  have bm_0 := bm.c0
  have bm_1 := bm.c1
  cases A
  all_goals cases B
  · have hg := HG.out
    simp only [Bool.and_true, Bool.and_false, Bool.false_and, Bool.true_and] at hg
    subst hg
    go_wp2_with fail
    refine (weSame_same _ _ _ _ _ _ L L rfl rfl rfl _ r1 r2 (by omega)).mono ?_
    rintro e w5 ⟨rfl, hb⟩
    clear bm_0 bm_1
    replace bm := bm.later hb
    replace rx := rx.below hb
    replace r1 := r1.below hb
    replace r2 := r2.below hb
    replace bW := bW.thenB hb
    have z5 := hb.size
    clear hb
    have bm_0 := bm.c0
    have bm_1 := bm.c1
    go_wp2_with fail
    refine (HN.out _ rx).mono ?_
    rintro e w6 ⟨rfl, hb⟩
    clear bm_0 bm_1
    replace bm := bm.later hb
    replace rx := rx.below hb
    replace r1 := r1.below hb
    replace r2 := r2.below hb
    replace bW := bW.thenB hb
    have z6 := hb.size
    clear hb
    have bm_0 := bm.c0
    have bm_1 := bm.c1
    go_wp2_with fail
    refine (weSame_same _ _ _ _ _ _ L L rfl rfl rfl _ r1 r2 (by omega)).mono ?_
    rintro e w7 ⟨rfl, hb⟩
    clear bm_0 bm_1
    replace bm := bm.later hb
    replace rx := rx.below hb
    replace r1 := r1.below hb
    replace r2 := r2.below hb
    replace bW := bW.thenB hb
    have z7 := hb.size
    clear hb
    have bm_0 := bm.c0
    have bm_1 := bm.c1
    go_wp2_with fail
    refine (HN.out _ rx).mono ?_
    rintro e w8 ⟨rfl, hb⟩
    clear bm_0 bm_1
    replace bm := bm.later hb
    replace rx := rx.below hb
    replace r1 := r1.below hb
    replace r2 := r2.below hb
    replace bW := bW.thenB hb
    have z8 := hb.size
    clear hb
    have bm_0 := bm.c0
    have bm_1 := bm.c1
    go_wp2
    go_ret
    exact ⟨rfl, bW⟩
  · have hg := HG.out
    simp only [Bool.and_true, Bool.and_false, Bool.false_and, Bool.true_and] at hg
    subst hg
    go_wp2_with fail
    refine (weSame_same _ _ _ _ _ _ L L rfl rfl rfl _ r1 r2 (by omega)).mono ?_
    rintro e w5 ⟨rfl, hb⟩
    clear bm_0 bm_1
    replace bm := bm.later hb
    replace rx := rx.below hb
    replace r1 := r1.below hb
    replace r2 := r2.below hb
    replace bW := bW.thenB hb
    have z5 := hb.size
    clear hb
    have bm_0 := bm.c0
    have bm_1 := bm.c1
    go_wp2_with fail
    refine (HN.out _ rx).mono ?_
    rintro e w6 ⟨rfl, hb⟩
    clear bm_0 bm_1
    replace bm := bm.later hb
    replace rx := rx.below hb
    replace r1 := r1.below hb
    replace r2 := r2.below hb
    replace bW := bW.thenB hb
    have z6 := hb.size
    clear hb
    have bm_0 := bm.c0
    have bm_1 := bm.c1
    go_wp2_with fail
    refine (weSame_same _ _ _ _ _ _ L L rfl rfl rfl _ r1 r2 (by omega)).mono ?_
    rintro e w7 ⟨rfl, hb⟩
    clear bm_0 bm_1
    replace bm := bm.later hb
    replace rx := rx.below hb
    replace r1 := r1.below hb
    replace r2 := r2.below hb
    replace bW := bW.thenB hb
    have z7 := hb.size
    clear hb
    have bm_0 := bm.c0
    have bm_1 := bm.c1
    go_wp2_with fail
    refine (HN.out _ rx).mono ?_
    rintro e w8 ⟨rfl, hb⟩
    clear bm_0 bm_1
    replace bm := bm.later hb
    replace rx := rx.below hb
    replace r1 := r1.below hb
    replace r2 := r2.below hb
    replace bW := bW.thenB hb
    have z8 := hb.size
    clear hb
    have bm_0 := bm.c0
    have bm_1 := bm.c1
    go_wp2
    go_ret
    exact ⟨rfl, bW⟩
  · have hg := HG.out
    simp only [Bool.and_true, Bool.and_false, Bool.false_and, Bool.true_and] at hg
    subst hg
    go_wp2_with fail
    refine (weSame_same _ _ _ _ _ _ L L rfl rfl rfl _ r1 r2 (by omega)).mono ?_
    rintro e w5 ⟨rfl, hb⟩
    clear bm_0 bm_1
    replace bm := bm.later hb
    replace rx := rx.below hb
    replace r1 := r1.below hb
    replace r2 := r2.below hb
    replace bW := bW.thenB hb
    have z5 := hb.size
    clear hb
    have bm_0 := bm.c0
    have bm_1 := bm.c1
    go_wp2_with fail
    refine (HN.out _ rx).mono ?_
    rintro e w6 ⟨rfl, hb⟩
    clear bm_0 bm_1
    replace bm := bm.later hb
    replace rx := rx.below hb
    replace r1 := r1.below hb
    replace r2 := r2.below hb
    replace bW := bW.thenB hb
    have z6 := hb.size
    clear hb
    have bm_0 := bm.c0
    have bm_1 := bm.c1
    go_wp2_with fail
    refine (HM.out _ rx).mono ?_
    rintro e w7 ⟨rfl, hb⟩
    clear bm_0 bm_1
    replace bm := bm.later hb
    replace rx := rx.below hb
    replace r1 := r1.below hb
    replace r2 := r2.below hb
    replace bW := bW.thenB hb
    have z7 := hb.size
    clear hb
    have bm_0 := bm.c0
    have bm_1 := bm.c1
    go_wp2_with fail
    refine (weSame_same _ _ _ _ _ _ L L rfl rfl rfl _ r1 r2 (by omega)).mono ?_
    rintro e w8 ⟨rfl, hb⟩
    clear bm_0 bm_1
    replace bm := bm.later hb
    replace rx := rx.below hb
    replace r1 := r1.below hb
    replace r2 := r2.below hb
    replace bW := bW.thenB hb
    have z8 := hb.size
    clear hb
    have bm_0 := bm.c0
    have bm_1 := bm.c1
    go_wp2_with fail
    refine (HN.out _ rx).mono ?_
    rintro e w9 ⟨rfl, hb⟩
    clear bm_0 bm_1
    replace bm := bm.later hb
    replace rx := rx.below hb
    replace r1 := r1.below hb
    replace r2 := r2.below hb
    replace bW := bW.thenB hb
    have z9 := hb.size
    clear hb
    have bm_0 := bm.c0
    have bm_1 := bm.c1
    go_wp2_with fail
    refine (HM.out _ rx).mono ?_
    rintro e w10 ⟨rfl, hb⟩
    clear bm_0 bm_1
    replace bm := bm.later hb
    replace rx := rx.below hb
    replace r1 := r1.below hb
    replace r2 := r2.below hb
    replace bW := bW.thenB hb
    have z10 := hb.size
    clear hb
    have bm_0 := bm.c0
    have bm_1 := bm.c1
    go_wp2
    go_ret
    exact ⟨rfl, bW⟩
  · have hg := HG.out
    simp only [Bool.and_true] at hg
    subst hg
    obtain ⟨nl, hmass⟩ := HYES.out rfl
    have hk := massB_ok hmass
    have hx16 := hk.l16
    have hx1 : 1 ≤ xs.length := by rw [nl.len]; exact Nat.one_le_two_pow
    have hlv := lvB_ok nl.lv
    have hL4 := hlv.l4
    have hML := fun (w : World) (q : Option Addr) (d : Nat) (hx : Reads w q L) => iMassOfLevels_any q d L w hx (by omega)
    simp only [nl.gok, nl.gval, nl.gsize] at hML
    obtain ⟨U, hU⟩ : ∃ U, U = sumL xs := ⟨_, rfl⟩
    have hW := fun (w : World) (hx : Reads w p xs) => iWholeOf_any s p c xs w hx (by omega)
    simp only [nl.wh, ← hU] at hW
    have hPL := fun (w : World) (q : Option Addr) (d : Nat) (hx : Reads w q L) => iPossibleLevel_any q d L ((xs.length : Int) - 1) w hx (by omega)
    have htop := nl.top
    rw [← nl.len, ← hU] at htop
    simp only [htop] at hPL
    have hCN := fun (w : World) (hx : Reads w p xs) => iContourOf_yes s p c xs w hx hmass
    simp only [← nl.cn] at hCN
    have hwx : IntKind.i64.wrap ((xs.length : Int) - 1) = (xs.length : Int) - 1 := IntWalk.i64_in _ (by omega)
    have HML := Lib.hid hML
    have HW := Lib.hid hW
    have HPL := Lib.hid hPL
    have HCN := Lib.hid hCN
    clear hML hW hPL hCN hU htop nl hk hlv HYES HG HC1 HC2
    go_wp2_with fail
    refine (weSame_same _ _ _ _ _ _ L L rfl rfl rfl _ r1 r2 (by omega)).mono ?_
    rintro e w5 ⟨rfl, hb⟩
    clear bm_0 bm_1
    replace bm := bm.later hb
    replace rx := rx.below hb
    replace r1 := r1.below hb
    replace r2 := r2.below hb
    replace bW := bW.thenB hb
    have z5 := hb.size
    clear hb
    have bm_0 := bm.c0
    have bm_1 := bm.c1
    go_wp2_with fail
    refine (HN.out _ rx).mono ?_
    rintro e w6 ⟨rfl, hb⟩
    clear bm_0 bm_1
    replace bm := bm.later hb
    replace rx := rx.below hb
    replace r1 := r1.below hb
    replace r2 := r2.below hb
    replace bW := bW.thenB hb
    have z6 := hb.size
    clear hb
    have bm_0 := bm.c0
    have bm_1 := bm.c1
    go_wp2_with fail
    refine (HM.out _ rx).mono ?_
    rintro e w7 ⟨rfl, hb⟩
    clear bm_0 bm_1
    replace bm := bm.later hb
    replace rx := rx.below hb
    replace r1 := r1.below hb
    replace r2 := r2.below hb
    replace bW := bW.thenB hb
    have z7 := hb.size
    clear hb
    have bm_0 := bm.c0
    have bm_1 := bm.c1
    clear r2
    go_wp2_with fail
    refine (HML.out _ _ _ r1).mono ?_
    rintro e w8 ⟨v, rfl, o, hb⟩
    clear bm_0 bm_1
    replace bm := bm.later hb
    replace rx := rx.below hb
    replace r1 := r1.below hb
    replace bW := bW.thenB hb
    have z8 := hb.size
    obtain ⟨p3, k3, rfl, r3⟩ := o.shape
    clear o
    clear hb
    have bm_0 := bm.c0
    have bm_1 := bm.c1
    have lt_bm := bm.lt
    go_wp2_with fail
    clear lt_bm
    have hb := belowAlloc w8 (.cells #[.int .i64 s, .slice p3 xs.length k3] 24)
    clear bm_0 bm_1
    replace bm := bm.later hb
    replace rx := rx.below hb
    replace r1 := r1.below hb
    replace r3 := r3.below hb
    replace bW := bW.thenB hb
    clear hb
    have b3 := VarInv.made w8 (s) (.slice p3 xs.length k3) 24
    have z9 := b3.lt
    generalize hu9 : w8.alloc (.cells #[.int .i64 s, .slice p3 xs.length k3] 24) = w9 at *
    clear hu9
    have bm_0 := bm.c0
    have bm_1 := bm.c1
    have b3_0 := b3.c0
    have b3_1 := b3.c1
    clear bm_0 bm_1 b3_0 b3_1
    replace bm := bm.drew
    replace b3 := b3.drew
    replace rx := rx.drew
    replace r1 := r1.drew
    replace r3 := r3.drew
    replace bW := drewAll bW
    have bm_0 := bm.c0
    have bm_1 := bm.c1
    have b3_0 := b3.c0
    have b3_1 := b3.c1
    have tk0 : True := trivial
    have tk1 : True := trivial
    have tk2 : True := trivial
    have tk3 : True := trivial
    have tk4 : True := trivial
    go_region_held3 (fun w' => w'.cell? ⟨w1.heap.size, 0, none⟩ = some (.int .i64 s) ∧ w'.cell? ⟨w1.heap.size, 1, none⟩ = some (.slice p xs.length c) ∧ w'.cell? ⟨w8.heap.size, 0, none⟩ = some (.int .i64 s) ∧ w'.cell? ⟨w8.heap.size, 1, none⟩ = some (.slice p3 xs.length k3))
      (exact ⟨bm_0, bm_1, b3_0, b3_1⟩)
      (first
        | (go_at_call 33; have _t := tk0; (with_reducible refine (weEqual_same _ _ _ _ _ _ _ _ _ _ (rfl) (rfl) (rfl) (rfl) _ r3 rx (by omega)).mono ?_); rintro e w10 ⟨rfl, hb⟩; clear bm_0 bm_1 b3_0 b3_1; (replace bm := bm.later hb); (replace b3 := b3.later hb); (replace rx := rx.below hb); (replace r1 := r1.below hb); (replace r3 := r3.below hb); (replace bW := bW.thenB hb); (have bm_0 := bm.c0); (have bm_1 := bm.c1); (have b3_0 := b3.c0); (have b3_1 := b3.c1); (have z10 := hb.size); clear hb; clear tk0 _t)
        | (go_at_call 34; have _t := tk1; (with_reducible refine (HCN.out _ rx).mono ?_); rintro e w11 ⟨v, rfl, o, hb⟩; clear bm_0 bm_1 b3_0 b3_1; (replace bm := bm.later hb); (replace b3 := b3.later hb); (replace rx := rx.below hb); (replace r1 := r1.below hb); (replace r3 := r3.below hb); (replace bW := bW.thenB hb); (have bm_0 := bm.c0); (have bm_1 := bm.c1); (have b3_0 := b3.c0); (have b3_1 := b3.c1); (have z11 := hb.size); obtain ⟨p4, k4, rfl, r4⟩ := o.shape; clear o; clear hb; clear tk1 _t)
        | (go_at_call 21; have _t := tk2; (with_reducible refine (weSame_same _ _ _ _ _ _ L L rfl rfl rfl _ r1 r4 (by omega)).mono ?_); rintro e w12 ⟨rfl, hb⟩; clear bm_0 bm_1 b3_0 b3_1; (replace bm := bm.later hb); (replace b3 := b3.later hb); (replace rx := rx.below hb); (replace r1 := r1.below hb); (replace r3 := r3.below hb); (replace r4 := r4.below hb); (replace bW := bW.thenB hb); (have bm_0 := bm.c0); (have bm_1 := bm.c1); (have b3_0 := b3.c0); (have b3_1 := b3.c1); (have z12 := hb.size); clear hb; clear tk2 _t)
        | (go_at_call 35; have _t := tk3; (with_reducible refine (HPL.out _ _ _ r1).mono ?_); rintro e w' ⟨rfl, rfl⟩; clear tk3 _t)
        | (go_at_call 22; have _t := tk4; (with_reducible refine (HW.out _ rx).mono ?_); rintro e w13 ⟨rfl, hb⟩; clear bm_0 bm_1 b3_0 b3_1; (replace bm := bm.later hb); (replace b3 := b3.later hb); (replace rx := rx.below hb); (replace r1 := r1.below hb); (replace r3 := r3.below hb); (replace r4 := r4.below hb); (replace bW := bW.thenB hb); (have bm_0 := bm.c0); (have bm_1 := bm.c1); (have b3_0 := b3.c0); (have b3_1 := b3.c1); (have z13 := hb.size); clear hb; clear tk4 _t))
    all_goals go_wp2
    all_goals go_ret
    all_goals exact ⟨rfl, bW⟩

end Go.Proofs.Ytmbipmdflbddbaa
