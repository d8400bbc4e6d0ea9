/- Fractions that are multiplied, shares of a mass, no evidence. -/
import Derived.Test.YtkpnenbkfphldaaE2
import Derived.Test.YtkpnenbkfphldaaMZ
set_option linter.unusedVariables false
set_option linter.unusedSimpArgs false
namespace Go.Proofs.Ytkpnenbkfphldaa
open Go.RowKit

set_option maxHeartbeats 1000000 in
theorem iTimes_any (n d m k : Int) (w : World) :
    Calls Try.prog 48 #[.agg #[.int .i64 n, .int .i64 d], .agg #[.int .i64 m, .int .i64 k]] w fun e w' => e = .returned (.tuple #[.agg #[.int .i64 (fN (twoF n d m k) (n * m) (d * k)), .int .i64 (fD (twoF n d m k) (n * m) (d * k))], .bool (fOk (twoF n d m k) (n * m) (d * k))]) ∧ Below w.heap.size w w' := by
  obtain ⟨W, hW⟩ : ∃ W : World, W = (((w.alloc (.cells #[.int .i64 n, .int .i64 d] 29)).alloc (.cells #[.int .i64 m, .int .i64 k] 29)).alloc (.cells #[.int .i64 0, .int .i64 0] 29)) := ⟨_, rfl⟩
  have bW : Below w.heap.size w W := by subst hW; exact (((belowAlloc _ _).thenB (belowAlloc _ _)).thenB (belowAlloc _ _))
  have hsz : W.heap.size = w.heap.size + 3 := by subst hW; simp
  have b0 : VarInv W (w.heap.size) (n) (.int .i64 d) := by
    subst hW
    have h := VarInv.made w (n) (.int .i64 d) 29
    exact ((h.later (belowAlloc _ _)).later (belowAlloc _ _))
  have b1 : VarInv W (w.heap.size + 1) (m) (.int .i64 k) := by
    subst hW
    have h := VarInv.made (w.alloc (.cells #[.int .i64 n, .int .i64 d] 29)) (m) (.int .i64 k) 29
    rw [show (w.alloc (.cells #[.int .i64 n, .int .i64 d] 29)).heap.size = w.heap.size + 1 by simp] at h
    exact (h.later (belowAlloc _ _))
  have bR : VarInv W (w.heap.size + 2) (0) (.int .i64 0) := by
    subst hW
    have h := VarInv.made ((w.alloc (.cells #[.int .i64 n, .int .i64 d] 29)).alloc (.cells #[.int .i64 m, .int .i64 k] 29)) (0) (.int .i64 0) 29
    rw [show ((w.alloc (.cells #[.int .i64 n, .int .i64 d] 29)).alloc (.cells #[.int .i64 m, .int .i64 k] 29)).heap.size = w.heap.size + 2 by simp] at h
    exact h
  have HWW := Lib.hid hW
  have HSZ := Lib.hid hsz
  clear hW hsz
  cases h1 : fracB n d
  · skip
    obtain ⟨eN, eD, eO⟩ := fNo (num := n * m) (den := d * k) (g := twoF n d m k) (by simp [twoF, h1])
    have eN := Lib.hid eN
    have eD := Lib.hid eD
    have eO := Lib.hid eO
    go_enter Try.func48, Try.ntmps48
    go_wp2_with fail
    rw [← HWW.out]
    refine (isFraction_any _ _ _).mono ?_
    rintro e w1 ⟨rfl, hb⟩
    replace b0 := b0.later hb
    have b0_0 := b0.c0
    have b0_1 := b0.c1
    replace b1 := b1.later hb
    have b1_0 := b1.c0
    have b1_1 := b1.c1
    replace bR := bR.later hb
    have bR_0 := bR.c0
    have bR_1 := bR.c1
    replace bW := bW.thenB hb
    have z1 := hb.size
    clear hb
    have s0 := bR.c0
    have s1 := bR.c1
    have s2 := bR.f0
    have s3 := bR.f1
    go_wp2
    refine bodyPost_ret (v := .tuple #[.agg #[.int .i64 (0), .int .i64 (0)], .bool (false)]) (by simp [results, Try.results48, go_sem, s0, s1, s2, s3]) rfl ⟨by rw [eN.out, eD.out, eO.out], ?_⟩
    exact ((bW).setCell (by show _ ≤ w.heap.size + 2; omega) _).setCell (by show _ ≤ w.heap.size + 2; omega) _
  · cases h2 : fracB m k
    · skip
      obtain ⟨eN, eD, eO⟩ := fNo (num := n * m) (den := d * k) (g := twoF n d m k) (by simp [twoF, h2])
      have eN := Lib.hid eN
      have eD := Lib.hid eD
      have eO := Lib.hid eO
      go_enter Try.func48, Try.ntmps48
      go_wp2_with fail
      rw [← HWW.out]
      refine (isFraction_any _ _ _).mono ?_
      rintro e w1 ⟨rfl, hb⟩
      replace b0 := b0.later hb
      have b0_0 := b0.c0
      have b0_1 := b0.c1
      replace b1 := b1.later hb
      have b1_0 := b1.c0
      have b1_1 := b1.c1
      replace bR := bR.later hb
      have bR_0 := bR.c0
      have bR_1 := bR.c1
      replace bW := bW.thenB hb
      have z1 := hb.size
      clear hb
      go_wp2_with fail
      refine (isFraction_any _ _ _).mono ?_
      rintro e w2 ⟨rfl, hb⟩
      clear b0_0 b0_1 b1_0 b1_1 bR_0 bR_1
      replace b0 := b0.later hb
      have b0_0 := b0.c0
      have b0_1 := b0.c1
      replace b1 := b1.later hb
      have b1_0 := b1.c0
      have b1_1 := b1.c1
      replace bR := bR.later hb
      have bR_0 := bR.c0
      have bR_1 := bR.c1
      replace bW := bW.thenB hb
      have z2 := hb.size
      clear hb
      have s0 := bR.c0
      have s1 := bR.c1
      have s2 := bR.f0
      have s3 := bR.f1
      go_wp2
      refine bodyPost_ret (v := .tuple #[.agg #[.int .i64 (0), .int .i64 (0)], .bool (false)]) (by simp [results, Try.results48, go_sem, s0, s1, s2, s3]) rfl ⟨by rw [eN.out, eD.out, eO.out], ?_⟩
      exact ((bW).setCell (by show _ ≤ w.heap.size + 2; omega) _).setCell (by show _ ≤ w.heap.size + 2; omega) _
    · skip
      obtain ⟨eN, eD, eO⟩ := fYes (num := n * m) (den := d * k) (g := twoF n d m k) (by simp [twoF, h1, h2])
      have eN := Lib.hid eN
      have eD := Lib.hid eD
      have eO := Lib.hid eO
      obtain ⟨u1, u2, u3, u4⟩ := frac_bd h1
      obtain ⟨v1, v2, v3, v4⟩ := frac_bd h2
      obtain ⟨x1, x2⟩ := mulF n k u1 u2 (by omega) v4
      obtain ⟨y1, y2⟩ := mulF m d v1 v2 (by omega) u4
      obtain ⟨t1, t2⟩ := mulF d k (by omega) u4 (by omega) v4
      obtain ⟨q1, q2⟩ := mulF n m u1 u2 v1 v2
      have hd0 := mulF1 d k u3 v3
      have hw1 : wrap64 (n * k) = n * k := IntWalk.wrap64_in _ ⟨by omega, by omega⟩
      have hw2 : wrap64 (m * d) = m * d := IntWalk.wrap64_in _ ⟨by omega, by omega⟩
      have hw3 : wrap64 (d * k) = d * k := IntWalk.wrap64_in _ ⟨by omega, by omega⟩
      have hw4 : wrap64 (n * k + m * d) = n * k + m * d := IntWalk.wrap64_in _ ⟨by omega, by omega⟩
      have hw5 : wrap64 (n * m) = n * m := IntWalk.wrap64_in _ ⟨by omega, by omega⟩
      go_enter Try.func48, Try.ntmps48
      go_wp2_with fail
      rw [← HWW.out]
      refine (isFraction_any _ _ _).mono ?_
      rintro e w1 ⟨rfl, hb⟩
      replace b0 := b0.later hb
      have b0_0 := b0.c0
      have b0_1 := b0.c1
      replace b1 := b1.later hb
      have b1_0 := b1.c0
      have b1_1 := b1.c1
      replace bR := bR.later hb
      have bR_0 := bR.c0
      have bR_1 := bR.c1
      replace bW := bW.thenB hb
      have z1 := hb.size
      clear hb
      go_wp2_with fail
      refine (isFraction_any _ _ _).mono ?_
      rintro e w2 ⟨rfl, hb⟩
      clear b0_0 b0_1 b1_0 b1_1 bR_0 bR_1
      replace b0 := b0.later hb
      have b0_0 := b0.c0
      have b0_1 := b0.c1
      replace b1 := b1.later hb
      have b1_0 := b1.c0
      have b1_1 := b1.c1
      replace bR := bR.later hb
      have bR_0 := bR.c0
      have bR_1 := bR.c1
      replace bW := bW.thenB hb
      have z2 := hb.size
      clear hb
      go_wp2_with fail
      refine (lowest_any (n * m) (d * k) _ (by omega) (by omega) (by omega) (by omega) hd0).mono ?_
      rintro e w3 ⟨rfl, hb⟩
      clear b0_0 b0_1 b1_0 b1_1 bR_0 bR_1
      replace b0 := b0.later hb
      have b0_0 := b0.c0
      have b0_1 := b0.c1
      replace b1 := b1.later hb
      have b1_0 := b1.c0
      have b1_1 := b1.c1
      replace bR := bR.later hb
      have bR_0 := bR.c0
      have bR_1 := bR.c1
      replace bW := bW.thenB hb
      have z3 := hb.size
      clear hb
      have s0 := bR.c0
      have s1 := bR.c1
      have s2 := bR.f0
      have s3 := bR.f1
      go_wp2
      refine bodyPost_ret (v := .tuple #[.agg #[.int .i64 (lowN (n * m) (d * k)), .int .i64 (lowD (n * m) (d * k))], .bool (lowOk (n * m) (d * k))]) (by simp [results, Try.results48, go_sem, s0, s1, s2, s3]) rfl ⟨by rw [eN.out, eD.out, eO.out], ?_⟩
      exact ((bW).setCell (by show _ ≤ w.heap.size + 2; omega) _).setCell (by show _ ≤ w.heap.size + 2; omega) _

set_option maxHeartbeats 2000000 in
theorem iShareOf_any (s : Int) (p : Option Addr) (c : Nat) (xs : List Int) (a : Int) (w : World) (hx : Reads w p xs) (hxm : xs.length ≤ 1048576) :
    Calls Try.prog 49 #[.agg #[.int .i64 s, .slice p xs.length c], .int .i64 a] w fun e w' => e = .returned (.tuple #[.agg #[.int .i64 (fN (msB s xs a) (nth xs a.toNat) (sumL xs)), .int .i64 (fD (msB s xs a) (nth xs a.toNat) (sumL xs))], .bool (fOk (msB s xs a) (nth xs a.toNat) (sumL xs))]) ∧ Below w.heap.size w w' := by
  obtain ⟨W, hW⟩ : ∃ W : World, W = ((w.alloc (.cells #[.int .i64 s, .slice p xs.length c] 25)).alloc (.cells #[.int .i64 0, .int .i64 0] 29)) := ⟨_, rfl⟩
  have bW : Below w.heap.size w W := by subst hW; exact ((belowAlloc _ _).thenB (belowAlloc _ _))
  have hsz : W.heap.size = w.heap.size + 2 := by subst hW; simp
  have b0 : VarInv W (w.heap.size) (s) (.slice p xs.length c) := by
    subst hW
    have h := VarInv.made w (s) (.slice p xs.length c) 25
    exact (h.later (belowAlloc _ _))
  have bR : VarInv W (w.heap.size + 1) (0) (.int .i64 0) := by
    subst hW
    have h := VarInv.made (w.alloc (.cells #[.int .i64 s, .slice p xs.length c] 25)) (0) (.int .i64 0) 29
    rw [show (w.alloc (.cells #[.int .i64 s, .slice p xs.length c] 25)).heap.size = w.heap.size + 1 by simp] at h
    exact h
  have HWW := Lib.hid hW
  have HSZ := Lib.hid hsz
  clear hW hsz
  cases h1 : massB s xs
  · skip
    obtain ⟨eN, eD, eO⟩ := fNo (num := nth xs a.toNat) (den := sumL xs) (g := msB s xs a) (by simp [msB, h1])
    have eN := Lib.hid eN
    have eD := Lib.hid eD
    have eO := Lib.hid eO
    go_enter Try.func49, Try.ntmps49
    go_wp2_with fail
    rw [← HWW.out]
    refine (isMass_any _ _ _ _ _ (hx.below bW) hxm).mono ?_
    rintro e w1 ⟨rfl, hb⟩
    replace b0 := b0.later hb
    have b0_0 := b0.c0
    have b0_1 := b0.c1
    replace bR := bR.later hb
    have bR_0 := bR.c0
    have bR_1 := bR.c1
    replace bW := bW.thenB hb
    have z1 := hb.size
    clear hb
    have s0 := bR.c0
    have s1 := bR.c1
    have s2 := bR.f0
    have s3 := bR.f1
    go_wp2
    refine bodyPost_ret (v := .tuple #[.agg #[.int .i64 (0), .int .i64 (0)], .bool (false)]) (by simp [results, Try.results49, go_sem, s0, s1, s2, s3]) rfl ⟨by rw [eN.out, eD.out, eO.out], ?_⟩
    exact ((bW).setCell (by show _ ≤ w.heap.size + 1; omega) _).setCell (by show _ ≤ w.heap.size + 1; omega) _
  · have hk := massB_ok h1
    have k1 := hk.s1
    have k4 := hk.s4
    cases h2 : setB s a
    · skip
      obtain ⟨eN, eD, eO⟩ := fNo (num := nth xs a.toNat) (den := sumL xs) (g := msB s xs a) (by simp [msB, h2])
      have eN := Lib.hid eN
      have eD := Lib.hid eD
      have eO := Lib.hid eO
      go_enter Try.func49, Try.ntmps49
      go_wp2_with fail
      rw [← HWW.out]
      refine (isMass_any _ _ _ _ _ (hx.below bW) hxm).mono ?_
      rintro e w1 ⟨rfl, hb⟩
      replace b0 := b0.later hb
      have b0_0 := b0.c0
      have b0_1 := b0.c1
      replace bR := bR.later hb
      have bR_0 := bR.c0
      have bR_1 := bR.c1
      replace bW := bW.thenB hb
      have z1 := hb.size
      clear hb
      go_wp2_with fail
      refine (isSetOf_any _ _ _ k1 k4).mono ?_
      rintro e w' ⟨rfl, rfl⟩
      have s0 := bR.c0
      have s1 := bR.c1
      have s2 := bR.f0
      have s3 := bR.f1
      go_wp2
      refine bodyPost_ret (v := .tuple #[.agg #[.int .i64 (0), .int .i64 (0)], .bool (false)]) (by simp [results, Try.results49, go_sem, s0, s1, s2, s3]) rfl ⟨by rw [eN.out, eD.out, eO.out], ?_⟩
      exact ((bW).setCell (by show _ ≤ w.heap.size + 1; omega) _).setCell (by show _ ≤ w.heap.size + 1; omega) _
    · obtain ⟨na, rfl, ha16, hap⟩ := setB_nat k1 k4 h2
      simp only [Int.toNat_natCast]
      have hx16 := hk.l16
      have hal := hk.all
      have hs1 := hk.sum1
      have hs2 := hk.sum2
      obtain ⟨eN, eD, eO⟩ := fYes (num := nth xs na) (den := sumL xs) (g := msB s xs (na : Int)) (by simp [msB, h1, h2])
      have eN := Lib.hid eN
      have eD := Lib.hid eD
      have eO := Lib.hid eO
      have hna : na < xs.length := by have := hk.len; omega
      have hna0 : (0 : Int) ≤ (na : Int) := by omega
      have hnal : (na : Int) < (xs.length : Int) := by omega
      obtain ⟨u1, u2⟩ := allB_nth hal na hna
      obtain ⟨blk, off, rfl, hbl, hc⟩ := hx na hna
      have hd0 : ¬ sumL xs = 0 := by omega
      go_enter Try.func49, Try.ntmps49
      replace hc := cellKeep bW hc
      go_wp2_with fail
      rw [← HWW.out]
      refine (isMass_any _ _ _ _ _ (hx.below bW) hxm).mono ?_
      rintro e w1 ⟨rfl, hb⟩
      replace b0 := b0.later hb
      have b0_0 := b0.c0
      have b0_1 := b0.c1
      replace bR := bR.later hb
      have bR_0 := bR.c0
      have bR_1 := bR.c1
      replace hc := cellKeep hb hc
      replace bW := bW.thenB hb
      have z1 := hb.size
      clear hb
      go_wp2_with fail
      refine (isSetOf_any _ _ _ k1 k4).mono ?_
      rintro e w' ⟨rfl, rfl⟩
      go_wp2_with fail
      have tk1_0 : True := trivial
      have tk2_1 : True := trivial
      go_region_held3 (fun w' => w'.cell? ⟨blk, off + na, none⟩ = some (.int .i64 (nth xs na)) ∧ w'.cell? ⟨w.heap.size, 0, none⟩ = some (.int .i64 s) ∧ w'.cell? ⟨w.heap.size, 1, none⟩ = some (.slice (some ⟨blk, off, none⟩) xs.length c))
        (first | exact ⟨hc, b0_0, b0_1⟩ | exact ⟨cellStore2 hc (by omega), cellStore2 b0_0 (by omega), cellStore2 b0_1 (by omega)⟩)
        (first
          | (go_at_call 104; have _t := tk1_0; (with_reducible refine (wholeOf_any _ _ _ _ _ (by first | exact hx.below bW | exact ReadsK.drew (hx.below bW)) (by omega) hal).mono ?_); rintro e w2 ⟨rfl, hb⟩; (replace hb := undrew hb); clear b0_0 b0_1 bR_0 bR_1; (replace b0 := b0.later hb); (have b0_0 := b0.c0); (have b0_1 := b0.c1); (replace bR := bR.later hb); (have bR_0 := bR.c0); (have bR_1 := bR.c1); (replace hc := cellKeep hb hc); (replace bW := bW.thenB hb); (have z2 := hb.size); clear hb; clear tk1_0 _t)
          | (go_at_call 66; have _t := tk2_1; (with_reducible refine (lowest_any (nth xs na) (sumL xs) _ (by omega) (by omega) (by omega) (by omega) hd0).mono ?_); rintro e w3 ⟨rfl, hb⟩; clear b0_0 b0_1 bR_0 bR_1; (replace b0 := b0.later hb); (have b0_0 := b0.c0); (have b0_1 := b0.c1); (replace bR := bR.later hb); (have bR_0 := bR.c0); (have bR_1 := bR.c1); (replace hc := cellKeep hb hc); (replace bW := bW.thenB hb); (have z3 := hb.size); clear hb; (have s0 := bR.c0); (have s1 := bR.c1); (have s2 := bR.f0); (have s3 := bR.f1); clear tk2_1 _t))
      go_wp2
      refine bodyPost_ret (v := .tuple #[.agg #[.int .i64 (lowN (nth xs na) (sumL xs)), .int .i64 (lowD (nth xs na) (sumL xs))], .bool (lowOk (nth xs na) (sumL xs))]) (by simp [results, Try.results49, go_sem, s0, s1, s2, s3]) rfl ⟨by rw [eN.out, eD.out, eO.out], ?_⟩
      exact ((bW).setCell (by show _ ≤ w.heap.size + 1; omega) _).setCell (by show _ ≤ w.heap.size + 1; omega) _

def neS (s : Int) : Int := if szB s = true then s else 0
def neL (s : Int) : List Int := if szB s = true then sureL (pow2 s).toNat ((pow2 s).toNat - 1) else []

set_option maxHeartbeats 1000000 in
theorem iNoEvidence_any (s : Int) (w : World) :
    Calls Try.prog 50 #[.int .i64 s] w fun e w' => ∃ v, e = .returned (.tuple #[.agg #[.int .i64 (neS s), v], .bool (szB s)]) ∧ Own w.heap.size w' v (neL s) ∧ Below w.heap.size w w' := by
  obtain ⟨W, hW⟩ : ∃ W : World, W = w.alloc (.cells #[.int .i64 0, .slice none 0 0] 25) := ⟨_, rfl⟩
  have hbW : Below w.heap.size w W := by subst hW; exact belowAlloc _ _
  have hsz : W.heap.size = w.heap.size + 1 := by subst hW; simp
  have hR : VarInv W w.heap.size 0 (.slice none 0 0) := by subst hW; exact VarInv.made _ _ _ _
  have HWW := Lib.hid hW
  have HSZ := Lib.hid hsz
  have s0 := hR.c0
  have s1 := hR.c1
  have s2 := hR.f0
  have s3 := hR.f1
  clear hW hsz
  cases h1 : szB s
  · have HS : Hid (neS s = 0 ∧ neL s = []) := Lib.hid (by simp [neS, neL, h1])
    have H1 := Lib.hid h1
    clear h1
    go_enter Try.func50, Try.ntmps50
    go_wp2_with fail
    rw [← HWW.out]
    refine (isSize_any _ _).mono ?_
    rintro e w' ⟨rfl, rfl⟩
    rw [H1.out]
    go_wp2
    refine bodyPost_ret (v := .tuple #[.agg #[.int .i64 0, .slice none 0 0], .bool false]) (by simp [results, Try.results50, go_sem, s0, s1, s2, s3]) rfl ⟨_, by rw [HS.out.1], by rw [HS.out.2]; exact Own.nil _ _, ?_⟩
    exact (hbW.setCell (by show _ ≤ w.heap.size; omega) _).setCell (by show _ ≤ w.heap.size; omega) _
  · have k14 : 1 ≤ s ∧ s ≤ 4 := by simpa [szB, inB] using h1
    obtain ⟨k1, k4⟩ := k14
    have HS : Hid (neS s = s ∧ neL s = sureL (pow2 s).toNat ((pow2 s).toNat - 1)) := Lib.hid (by simp [neS, neL, h1])
    have hpb := pow2_bd s k1 k4
    obtain ⟨N, hN⟩ : ∃ N : Nat, (N : Int) = pow2 s := ⟨(pow2 s).toNat, by omega⟩
    have hN16 : N ≤ 16 := by omega
    have hNt : Hid ((pow2 s).toNat = N) := Lib.hid (by omega)
    have HN := Lib.hid hN
    have hN2 : 2 ≤ N := by omega
    have HT : Hid (pow2 s - 1 = ((N - 1 : Nat) : Int)) := Lib.hid (by omega)
    have H1 := Lib.hid h1
    clear h1 hN hpb
    go_enter Try.func50, Try.ntmps50
    go_wp2_with fail
    rw [← HWW.out]
    refine (isSize_any _ _).mono ?_
    rintro e w' ⟨rfl, rfl⟩
    rw [H1.out]
    go_wp2_with fail
    refine (fullSetR_any s _ k1 k4).mono ?_
    rintro e w' ⟨rfl, rfl⟩
    go_wp2_with fail
    refine (sureMass_v s (pow2 s - 1) (N - 1) N _ HT.out k1 k4 HN.out (by omega) hN16).mono ?_
    rintro e w1 ⟨v, rfl, ho, hb1⟩
    obtain ⟨p2, c2, rfl, _hr⟩ := ho.shape
    have jR := hR.later hb1
    clear s0 s1 s2 s3 _hr
    have s0 := jR.c0
    have s1 := jR.c1
    have s2 := jR.f0
    have s3 := jR.f1
    have z1 := hb1.size
    go_wp2
    refine bodyPost_ret (v := .tuple #[.agg #[.int .i64 s, .slice p2 (sureL N (N - 1)).length c2], .bool true]) (by simp [results, Try.results50, go_sem, s0, s1, s2, s3]) rfl ⟨_, by rw [HS.out.1], ?_, ?_⟩
    · rw [HS.out.2, hNt.out]; exact ((ho.setBelow (by show w.heap.size < _; have := HSZ.out; omega) _).setBelow (by show w.heap.size < _; have := HSZ.out; omega) _).mono (by have := HSZ.out; omega)
    · exact ((hbW.thenB hb1).setCell (by show _ ≤ w.heap.size; omega) _).setCell (by show _ ≤ w.heap.size; omega) _

end Go.Proofs.Ytkpnenbkfphldaa
