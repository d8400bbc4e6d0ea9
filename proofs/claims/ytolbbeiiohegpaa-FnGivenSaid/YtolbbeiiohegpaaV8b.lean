/- What is believed, given a set: the reference's walk. -/
import Derived.Test.YtolbbeiiohegpaaV8
set_option linter.unusedVariables false
set_option linter.unusedSimpArgs false
namespace Go.Proofs.Ytolbbeiiohegpaa
open Go.RowKit


/-- The parts of two functions' answers, the second's test failed. -/
theorem sPG_no (s : Int) (p : Option Addr) (c : Nat) (xs : List Int) (b a : Int) (w : World) (hx : Reads w p xs) (hxm : xs.length ≤ 1048576) (h : pgG s xs b a = false) :
    Calls Try.prog 38 #[.agg #[.int .i64 s, .slice p xs.length c], .int .i64 b, .int .i64 a] w fun e w' => e = .returned (.tuple #[.agg #[.int .i64 0, .int .i64 0], .bool false]) ∧ Below w.heap.size w w' := by
  have hp := sPossibleGiven_any s p c xs b a w hx hxm
  obtain ⟨e1, e2, e3⟩ := fNo (num := possS (a.toNat &&& b.toNat) xs) (den := possS a.toNat xs) h
  rw [e1, e2, e3] at hp
  exact hp

theorem sPG_yes (s : Int) (p : Option Addr) (c : Nat) (xs : List Int) (b a num den n d : Int) (w : World) (hx : Reads w p xs) (hxm : xs.length ≤ 1048576) (h : pgG s xs b a = true) (hn : possS (a.toNat &&& b.toNat) xs = num) (hd : possS a.toNat xs = den) (hok : lowOk num den = true) (hN : lowN num den = n) (hD : lowD num den = d) :
    Calls Try.prog 38 #[.agg #[.int .i64 s, .slice p xs.length c], .int .i64 b, .int .i64 a] w fun e w' => e = .returned (.tuple #[.agg #[.int .i64 n, .int .i64 d], .bool true]) ∧ Below w.heap.size w w' := by
  have hp := sPossibleGiven_any s p c xs b a w hx hxm
  subst hn hd hN hD
  obtain ⟨e1, e2, e3⟩ := fYes (num := possS (a.toNat &&& b.toNat) xs) (den := possS a.toNat xs) h
  rw [e1, e2, e3, hok] at hp
  exact hp

set_option maxHeartbeats 2000000 in
theorem sBelievedGiven_any (s : Int) (p : Option Addr) (c : Nat) (xs : List Int) (b a : Int) (w : World) (hx : Reads w p xs) (hxm : xs.length ≤ 1048576) :
    Calls Try.prog 37 #[.agg #[.int .i64 s, .slice p xs.length c], .int .i64 b, .int .i64 a] w fun e w' => e = .returned (.tuple #[.agg #[.int .i64 (fN (pgG s xs b a) (possS a.toNat xs - possS (dif a.toNat b.toNat) xs) (possS a.toNat xs)), .int .i64 (fD (pgG s xs b a) (possS a.toNat xs - possS (dif a.toNat b.toNat) xs) (possS a.toNat xs))], .bool (fOk (pgG s xs b a) (possS a.toNat xs - possS (dif a.toNat b.toNat) xs) (possS a.toNat xs))]) ∧ Below w.heap.size w w' := by
  obtain ⟨W, hW⟩ : ∃ W : World, W = ((w.alloc (.cells #[.int .i64 s, .slice p xs.length c] 33)).alloc (.cells #[.int .i64 0, .int .i64 0] 37)) := ⟨_, rfl⟩
  have bW : Below w.heap.size w W := by subst hW; exact ((belowAlloc _ _).thenB (belowAlloc _ _))
  have hsz : W.heap.size = w.heap.size + 2 := by subst hW; simp
  have b0 : VarInv W (w.heap.size) (s) (.slice p xs.length c) := by
    subst hW
    have h := VarInv.made w (s) (.slice p xs.length c) 33
    exact (h.later (belowAlloc _ _))
  have bR : VarInv W (w.heap.size + 1) (0) (.int .i64 0) := by
    subst hW
    have h := VarInv.made (w.alloc (.cells #[.int .i64 s, .slice p xs.length c] 33)) (0) (.int .i64 0) 37
    rw [show (w.alloc (.cells #[.int .i64 s, .slice p xs.length c] 33)).heap.size = w.heap.size + 1 by simp] at h
    exact h
  have HWW := Lib.hid hW
  have HSZ := Lib.hid hsz
  clear hW hsz
  by_cases hg : pgG s xs b a = true
  rotate_left
  · have hg1 : pgG s xs b a = false := by simpa using hg
    have hg2 : pgG s xs (othP s xs b) a = false := by rw [pgG_oth]; exact hg1
    obtain ⟨eN, eD, eO⟩ := fNo (num := possS a.toNat xs - possS (dif a.toNat b.toNat) xs) (den := possS a.toNat xs) hg1
    have eN := Lib.hid eN
    have eD := Lib.hid eD
    have eO := Lib.hid eO
    go_enter Try.func37, Try.ntmps37
    go_wp2_with fail
    rw [← HWW.out]
    replace b0 := b0.drew
    replace bR := bR.drew
    replace bW := drewAll bW
    have zD : W.drew.heap.size = w.heap.size + 2 := HSZ.out
    have b0_0 := b0.c0
    have b0_1 := b0.c1
    have bR_0 := bR.c0
    have bR_1 := bR.c1
    have tkA : True := trivial
    have tkB : True := trivial
    go_region_held3 (fun w' => w'.cell? ⟨w.heap.size, 0, none⟩ = some (.int .i64 s) ∧ w'.cell? ⟨w.heap.size, 1, none⟩ = some (.slice p xs.length c))
      (first | exact ⟨b0_0, b0_1⟩ | exact ⟨cellKeep (belowAlloc _ _) b0_0, cellKeep (belowAlloc _ _) b0_1⟩ | (refine ⟨cellStore2 b0_0 ?_, cellStore2 b0_1 ?_⟩ <;> omega) | (refine ⟨cellStore2 (cellKeep (belowAlloc _ _) b0_0) ?_, cellStore2 (cellKeep (belowAlloc _ _) b0_1) ?_⟩ <;> omega))
      (first
        | (go_at_call 83; have _t := tkA; (with_reducible refine (l7Other_any _ _ _ _ _ _ (hx.below bW) hxm).mono ?_); rintro e w1 ⟨rfl, hb⟩; clear b0_0 b0_1 bR_0 bR_1; (replace b0 := b0.later hb); (have b0_0 := b0.c0); (have b0_1 := b0.c1); (replace bR := bR.later hb); (have bR_0 := bR.c0); (have bR_1 := bR.c1); (replace bW := bW.thenB hb); (have z1 := hb.size); clear hb; clear tkA _t)
        | (go_at_call 83; have _t := tkA; (have hA : Below W.drew.heap.size W.drew (W.alloc (.cells #[.int .i64 0, .int .i64 0] 37)).drew := belowAlloc W.drew _); clear b0_0 b0_1 bR_0 bR_1; (replace b0 := b0.later hA); (have b0_0 := b0.c0); (have b0_1 := b0.c1); (replace bR := bR.later hA); (have bR_0 := bR.c0); (have bR_1 := bR.c1); (replace bW := bW.thenB hA); (have zA := hA.size); (have bF : VarInv (W.alloc (.cells #[.int .i64 0, .int .i64 0] 37)).drew (w.heap.size + 2) 0 (.int .i64 0) := (by have h := (VarInv.made W 0 (.int .i64 0) 37).drew; rw [HSZ.out] at h; exact h)); (have F0 := bF.c0); (have F1 := bF.c1); (have F2 := bF.f0); (have F3 := bF.f1); clear hA; (with_reducible refine (l7Other_any _ _ _ _ _ _ (hx.below bW) hxm).mono ?_); rintro e w1 ⟨rfl, hb⟩; clear b0_0 b0_1 bR_0 bR_1; (replace b0 := b0.later hb); (have b0_0 := b0.c0); (have b0_1 := b0.c1); (replace bR := bR.later hb); (have bR_0 := bR.c0); (have bR_1 := bR.c1); (replace bW := bW.thenB hb); (replace bF := bF.later hb); clear F0 F1 F2 F3; (have F0 := bF.c0); (have F1 := bF.c1); (have F2 := bF.f0); (have F3 := bF.f1); (have z1 := hb.size); clear hb; clear tkA _t)
        | (go_at_call 38; have _t := tkB; (have _q := bF); (with_reducible refine (sPG_no _ _ _ _ _ _ _ (hx.below bW) hxm hg2).mono ?_); rintro e w2 ⟨rfl, hb⟩; clear b0_0 b0_1 bR_0 bR_1; (replace b0 := b0.later hb); (have b0_0 := b0.c0); (have b0_1 := b0.c1); (replace bR := bR.later hb); (have bR_0 := bR.c0); (have bR_1 := bR.c1); (replace bW := bW.thenB hb); (replace bF := bF.later hb); clear F0 F1 F2 F3; (have F0 := bF.c0); (have F1 := bF.c1); (have F2 := bF.f0); (have F3 := bF.f1); (have z2 := hb.size); clear hb; clear tkB _t)
        | (go_at_call 38; have _t := tkB; (with_reducible refine (sPG_no _ _ _ _ _ _ _ (hx.below bW) hxm hg2).mono ?_); rintro e w2 ⟨rfl, hb⟩; clear b0_0 b0_1 bR_0 bR_1; (replace b0 := b0.later hb); (have b0_0 := b0.c0); (have b0_1 := b0.c1); (replace bR := bR.later hb); (have bR_0 := bR.c0); (have bR_1 := bR.c1); (replace bW := bW.thenB hb); (have z2 := hb.size); clear hb; clear tkB _t)
        | (go_at_call 38; have _t := tkB; (have hA : Below w1.heap.size w1 (w1.alloc (.cells #[.int .i64 0, .int .i64 0] 37)) := belowAlloc w1 _); clear b0_0 b0_1 bR_0 bR_1; (replace b0 := b0.later hA); (have b0_0 := b0.c0); (have b0_1 := b0.c1); (replace bR := bR.later hA); (have bR_0 := bR.c0); (have bR_1 := bR.c1); (replace bW := bW.thenB hA); (have zA := hA.size); (have bF := VarInv.made w1 0 (.int .i64 0) 37); (have F0 := bF.c0); (have F1 := bF.c1); (have F2 := bF.f0); (have F3 := bF.f1); clear hA; (with_reducible refine (sPG_no _ _ _ _ _ _ _ (hx.below bW) hxm hg2).mono ?_); rintro e w2 ⟨rfl, hb⟩; clear b0_0 b0_1 bR_0 bR_1; (replace b0 := b0.later hb); (have b0_0 := b0.c0); (have b0_1 := b0.c1); (replace bR := bR.later hb); (have bR_0 := bR.c0); (have bR_1 := bR.c1); (replace bW := bW.thenB hb); (replace bF := bF.later hb); clear F0 F1 F2 F3; (have F0 := bF.c0); (have F1 := bF.c1); (have F2 := bF.f0); (have F3 := bF.f1); (have z2 := hb.size); clear hb; clear tkB _t))
    · skip
      have hA : Below w2.heap.size w2 (w2.alloc (.cells #[.int .i64 (0), .int .i64 (0)] 37)) := belowAlloc w2 _
      clear b0_0 b0_1 bR_0 bR_1
      replace b0 := b0.later hA
      have b0_0 := b0.c0
      have b0_1 := b0.c1
      replace bR := bR.later hA
      have bR_0 := bR.c0
      have bR_1 := bR.c1
      replace bW := bW.thenB hA
      have zA := hA.size
      have bF := VarInv.made w2 (0) (.int .i64 (0)) 37
      clear hA
      have F0 := bF.c0
      have F1 := bF.c1
      have s0 := bR.c0
      have s1 := bR.c1
      have s2 := bR.f0
      have s3 := bR.f1
      go_wp2
      refine bodyPost_ret (v := .tuple #[.agg #[.int .i64 0, .int .i64 0], .bool false]) (by simp [results, Try.results37, go_sem, s0, s1, s2, s3]) rfl ⟨by rw [eN.out, eD.out, eO.out], ?_⟩
      exact (bW.setCell (by show _ ≤ w.heap.size + 1; omega) _).setCell (by show _ ≤ w.heap.size + 1; omega) _
    · skip
      clear b0_0 b0_1 bR_0 bR_1 F0 F1 F2 F3
      replace b0 := b0.other2 (w1.heap.size) (by omega) (.int .i64 (0)) (.int .i64 (0))
      have b0_0 := b0.c0
      have b0_1 := b0.c1
      replace bR := bR.other2 (w1.heap.size) (by omega) (.int .i64 (0)) (.int .i64 (0))
      have bR_0 := bR.c0
      have bR_1 := bR.c1
      replace bF := bF.two (0) (.int .i64 (0))
      replace bW := (bW.setCell (p := ⟨w1.heap.size, 0, none⟩) (by show _ ≤ w1.heap.size; omega) (.int .i64 (0))).setCell (p := ⟨w1.heap.size, 1, none⟩) (by show _ ≤ w1.heap.size; omega) (.int .i64 (0))
      have F0 := bF.c0
      have F1 := bF.c1
      have s0 := bR.c0
      have s1 := bR.c1
      have s2 := bR.f0
      have s3 := bR.f1
      go_wp2
      refine bodyPost_ret (v := .tuple #[.agg #[.int .i64 0, .int .i64 0], .bool false]) (by simp [results, Try.results37, go_sem, s0, s1, s2, s3]) rfl ⟨by rw [eN.out, eD.out, eO.out], ?_⟩
      exact (bW.setCell (by show _ ≤ w.heap.size + 1; omega) _).setCell (by show _ ≤ w.heap.size + 1; omega) _
    · skip
      clear b0_0 b0_1 bR_0 bR_1 F0 F1 F2 F3
      replace b0 := b0.other2 (w.heap.size + 2) (by omega) (.int .i64 (0)) (.int .i64 (0))
      have b0_0 := b0.c0
      have b0_1 := b0.c1
      replace bR := bR.other2 (w.heap.size + 2) (by omega) (.int .i64 (0)) (.int .i64 (0))
      have bR_0 := bR.c0
      have bR_1 := bR.c1
      replace bF := bF.two (0) (.int .i64 (0))
      replace bW := (bW.setCell (p := ⟨w.heap.size + 2, 0, none⟩) (by show _ ≤ w.heap.size + 2; omega) (.int .i64 (0))).setCell (p := ⟨w.heap.size + 2, 1, none⟩) (by show _ ≤ w.heap.size + 2; omega) (.int .i64 (0))
      have F0 := bF.c0
      have F1 := bF.c1
      have s0 := bR.c0
      have s1 := bR.c1
      have s2 := bR.f0
      have s3 := bR.f1
      go_wp2
      refine bodyPost_ret (v := .tuple #[.agg #[.int .i64 0, .int .i64 0], .bool false]) (by simp [results, Try.results37, go_sem, s0, s1, s2, s3]) rfl ⟨by rw [eN.out, eD.out, eO.out], ?_⟩
      exact (bW.setCell (by show _ ≤ w.heap.size + 1; omega) _).setCell (by show _ ≤ w.heap.size + 1; omega) _
  · have hg' := hg
    rw [pgG] at hg'
    simp only [Bool.and_eq_true] at hg'
    obtain ⟨e2, e3, hz⟩ := hg'
    have hk := massB_ok (by simpa [msB] using e2 : massB s xs = true ∧ _).1
    have k1 := hk.s1
    have k4 := hk.s4
    obtain ⟨na, rfl, ha16, hal⟩ := setB_nat k1 k4 (by simpa [msB] using e2 : _ ∧ setB s a = true).2
    obtain ⟨nb, rfl, hb16, hbl⟩ := setB_nat k1 k4 (by simpa [msB] using e3 : _ ∧ setB s b = true).2
    have hz0 : ¬ possS na xs = 0 := by simpa using hz
    have hg2 : pgG s xs (othP s xs nb) na = true := by rw [pgG_oth]; exact hg
    obtain ⟨_, hoth⟩ := oth_ok hk na nb hal hbl
    have ho := othYes e3
    obtain ⟨u1, u2⟩ := possS_bd na hk
    obtain ⟨u3, u4⟩ := possS_bd (dif na nb) hk
    have hx16 := hk.l16
    have u5 : possS (dif na nb) xs ≤ possS na xs := subIn_bd na nb ha16 hb16 xs hk.all hx16 _ (Nat.le_refl _)
    obtain ⟨o1, o2, o3, o4, o5, o6, o7, o8⟩ := lowOther (possS (dif na nb) xs) (possS na xs) u3 u5 (by omega) (by omega)
    obtain ⟨eN, eD, eO⟩ := fYes (num := possS na xs - possS (dif na nb) xs) (den := possS na xs) hg
    obtain ⟨n, hN⟩ : ∃ n, lowN (possS (dif na nb) xs) (possS na xs) = n := ⟨_, rfl⟩
    obtain ⟨d, hD⟩ : ∃ d, lowD (possS (dif na nb) xs) (possS na xs) = d := ⟨_, rfl⟩
    rw [hN, hD] at o6 o7 o8
    rw [hD] at o4 o5
    rw [hN] at o2
    rw [hN, hD] at o3
    have hE : possS ((na : Int).toNat &&& (othP s xs nb).toNat) xs = possS (dif na nb) xs := by rw [ho, Int.toNat_natCast, hoth]
    have eN := Lib.hid (eN.trans o7.symm)
    have eD := Lib.hid (eD.trans o8.symm)
    have eO := Lib.hid (eO.trans o6.symm)
    have HD0 : ¬ d = 0 := by omega
    have HOK := Lib.hid o1
    have o9 : d ≤ 16000000 := by omega
    simp only [Int.toNat_natCast]
    clear ho o1 o6 o7 o8 u1 u2 u3 u4 u5 hz hz0 hoth hk k1 k4 hal hbl
    go_enter Try.func37, Try.ntmps37
    go_wp2_with fail
    rw [← HWW.out]
    replace b0 := b0.drew
    replace bR := bR.drew
    replace bW := drewAll bW
    have zD : W.drew.heap.size = w.heap.size + 2 := HSZ.out
    have b0_0 := b0.c0
    have b0_1 := b0.c1
    have bR_0 := bR.c0
    have bR_1 := bR.c1
    have tkA : True := trivial
    have tkB : True := trivial
    go_region_held3 (fun w' => w'.cell? ⟨w.heap.size, 0, none⟩ = some (.int .i64 s) ∧ w'.cell? ⟨w.heap.size, 1, none⟩ = some (.slice p xs.length c))
      (first | exact ⟨b0_0, b0_1⟩ | exact ⟨cellKeep (belowAlloc _ _) b0_0, cellKeep (belowAlloc _ _) b0_1⟩ | (refine ⟨cellStore2 b0_0 ?_, cellStore2 b0_1 ?_⟩ <;> omega) | (refine ⟨cellStore2 (cellKeep (belowAlloc _ _) b0_0) ?_, cellStore2 (cellKeep (belowAlloc _ _) b0_1) ?_⟩ <;> omega))
      (first
        | (go_at_call 83; have _t := tkA; (with_reducible refine (l7Other_any _ _ _ _ _ _ (hx.below bW) hxm).mono ?_); rintro e w1 ⟨rfl, hb⟩; clear b0_0 b0_1 bR_0 bR_1; (replace b0 := b0.later hb); (have b0_0 := b0.c0); (have b0_1 := b0.c1); (replace bR := bR.later hb); (have bR_0 := bR.c0); (have bR_1 := bR.c1); (replace bW := bW.thenB hb); (have z1 := hb.size); clear hb; clear tkA _t)
        | (go_at_call 83; have _t := tkA; (have hA : Below W.drew.heap.size W.drew (W.alloc (.cells #[.int .i64 0, .int .i64 0] 37)).drew := belowAlloc W.drew _); clear b0_0 b0_1 bR_0 bR_1; (replace b0 := b0.later hA); (have b0_0 := b0.c0); (have b0_1 := b0.c1); (replace bR := bR.later hA); (have bR_0 := bR.c0); (have bR_1 := bR.c1); (replace bW := bW.thenB hA); (have zA := hA.size); (have bF : VarInv (W.alloc (.cells #[.int .i64 0, .int .i64 0] 37)).drew (w.heap.size + 2) 0 (.int .i64 0) := (by have h := (VarInv.made W 0 (.int .i64 0) 37).drew; rw [HSZ.out] at h; exact h)); (have F0 := bF.c0); (have F1 := bF.c1); (have F2 := bF.f0); (have F3 := bF.f1); clear hA; (with_reducible refine (l7Other_any _ _ _ _ _ _ (hx.below bW) hxm).mono ?_); rintro e w1 ⟨rfl, hb⟩; clear b0_0 b0_1 bR_0 bR_1; (replace b0 := b0.later hb); (have b0_0 := b0.c0); (have b0_1 := b0.c1); (replace bR := bR.later hb); (have bR_0 := bR.c0); (have bR_1 := bR.c1); (replace bW := bW.thenB hb); (replace bF := bF.later hb); clear F0 F1 F2 F3; (have F0 := bF.c0); (have F1 := bF.c1); (have F2 := bF.f0); (have F3 := bF.f1); (have z1 := hb.size); clear hb; clear tkA _t)
        | (go_at_call 38; have _t := tkB; (have _q := bF); (with_reducible refine (sPG_yes _ _ _ _ _ _ (possS (dif na nb) xs) (possS na xs) n d _ (hx.below bW) hxm hg2 hE (by rw [Int.toNat_natCast]) HOK.out hN hD).mono ?_); rintro e w2 ⟨rfl, hb⟩; clear b0_0 b0_1 bR_0 bR_1; (replace b0 := b0.later hb); (have b0_0 := b0.c0); (have b0_1 := b0.c1); (replace bR := bR.later hb); (have bR_0 := bR.c0); (have bR_1 := bR.c1); (replace bW := bW.thenB hb); (replace bF := bF.later hb); clear F0 F1 F2 F3; (have F0 := bF.c0); (have F1 := bF.c1); (have F2 := bF.f0); (have F3 := bF.f1); (have z2 := hb.size); clear hb; clear tkB _t)
        | (go_at_call 38; have _t := tkB; (with_reducible refine (sPG_yes _ _ _ _ _ _ (possS (dif na nb) xs) (possS na xs) n d _ (hx.below bW) hxm hg2 hE (by rw [Int.toNat_natCast]) HOK.out hN hD).mono ?_); rintro e w2 ⟨rfl, hb⟩; clear b0_0 b0_1 bR_0 bR_1; (replace b0 := b0.later hb); (have b0_0 := b0.c0); (have b0_1 := b0.c1); (replace bR := bR.later hb); (have bR_0 := bR.c0); (have bR_1 := bR.c1); (replace bW := bW.thenB hb); (have z2 := hb.size); clear hb; clear tkB _t)
        | (go_at_call 38; have _t := tkB; (have hA : Below w1.heap.size w1 (w1.alloc (.cells #[.int .i64 0, .int .i64 0] 37)) := belowAlloc w1 _); clear b0_0 b0_1 bR_0 bR_1; (replace b0 := b0.later hA); (have b0_0 := b0.c0); (have b0_1 := b0.c1); (replace bR := bR.later hA); (have bR_0 := bR.c0); (have bR_1 := bR.c1); (replace bW := bW.thenB hA); (have zA := hA.size); (have bF := VarInv.made w1 0 (.int .i64 0) 37); (have F0 := bF.c0); (have F1 := bF.c1); (have F2 := bF.f0); (have F3 := bF.f1); clear hA; (with_reducible refine (sPG_yes _ _ _ _ _ _ (possS (dif na nb) xs) (possS na xs) n d _ (hx.below bW) hxm hg2 hE (by rw [Int.toNat_natCast]) HOK.out hN hD).mono ?_); rintro e w2 ⟨rfl, hb⟩; clear b0_0 b0_1 bR_0 bR_1; (replace b0 := b0.later hb); (have b0_0 := b0.c0); (have b0_1 := b0.c1); (replace bR := bR.later hb); (have bR_0 := bR.c0); (have bR_1 := bR.c1); (replace bW := bW.thenB hb); (replace bF := bF.later hb); clear F0 F1 F2 F3; (have F0 := bF.c0); (have F1 := bF.c1); (have F2 := bF.f0); (have F3 := bF.f1); (have z2 := hb.size); clear hb; clear tkB _t))
    · skip
      have hA : Below w2.heap.size w2 (w2.alloc (.cells #[.int .i64 (n), .int .i64 (d)] 37)) := belowAlloc w2 _
      clear b0_0 b0_1 bR_0 bR_1
      replace b0 := b0.later hA
      have b0_0 := b0.c0
      have b0_1 := b0.c1
      replace bR := bR.later hA
      have bR_0 := bR.c0
      have bR_1 := bR.c1
      replace bW := bW.thenB hA
      have zA := hA.size
      have bF := VarInv.made w2 (n) (.int .i64 (d)) 37
      clear hA
      have F0 := bF.c0
      have F1 := bF.c1
      go_wp2_with fail
      refine (l3Set_any _ _ _ _ _ _ (hx.below bW) hxm).mono ?_
      rintro e w3 ⟨rfl, hb⟩
      clear b0_0 b0_1 bR_0 bR_1 F0 F1
      replace b0 := b0.later hb
      have b0_0 := b0.c0
      have b0_1 := b0.c1
      replace bR := bR.later hb
      have bR_0 := bR.c0
      have bR_1 := bR.c1
      replace bF := bF.later hb
      have F0 := bF.c0
      have F1 := bF.c1
      replace bW := bW.thenB hb
      clear hb
      go_wp2_with fail
      refine (l2Made_any (d - n) d _ (by omega) (by omega) (by omega) (by omega) HD0).mono ?_
      rintro e w4 ⟨rfl, hb⟩
      clear b0_0 b0_1 bR_0 bR_1 F0 F1
      replace b0 := b0.later hb
      have b0_0 := b0.c0
      have b0_1 := b0.c1
      replace bR := bR.later hb
      have bR_0 := bR.c0
      have bR_1 := bR.c1
      replace bF := bF.later hb
      have F0 := bF.c0
      have F1 := bF.c1
      replace bW := bW.thenB hb
      clear hb
      have s0 := bR.c0
      have s1 := bR.c1
      have s2 := bR.f0
      have s3 := bR.f1
      go_wp2
      refine bodyPost_ret (v := .tuple #[.agg #[.int .i64 (lowN (d - n) d), .int .i64 (lowD (d - n) d)], .bool (lowOk (d - n) d)]) (by simp [results, Try.results37, go_sem, s0, s1, s2, s3]) rfl ⟨by rw [eN.out, eD.out, eO.out], ?_⟩
      exact (bW.setCell (by show _ ≤ w.heap.size + 1; omega) _).setCell (by show _ ≤ w.heap.size + 1; omega) _
    · skip
      clear b0_0 b0_1 bR_0 bR_1 F0 F1 F2 F3
      replace b0 := b0.other2 (w1.heap.size) (by omega) (.int .i64 (n)) (.int .i64 (d))
      have b0_0 := b0.c0
      have b0_1 := b0.c1
      replace bR := bR.other2 (w1.heap.size) (by omega) (.int .i64 (n)) (.int .i64 (d))
      have bR_0 := bR.c0
      have bR_1 := bR.c1
      replace bF := bF.two (n) (.int .i64 (d))
      replace bW := (bW.setCell (p := ⟨w1.heap.size, 0, none⟩) (by show _ ≤ w1.heap.size; omega) (.int .i64 (n))).setCell (p := ⟨w1.heap.size, 1, none⟩) (by show _ ≤ w1.heap.size; omega) (.int .i64 (d))
      have F0 := bF.c0
      have F1 := bF.c1
      go_wp2_with fail
      refine (l3Set_any _ _ _ _ _ _ (hx.below bW) hxm).mono ?_
      rintro e w3 ⟨rfl, hb⟩
      clear b0_0 b0_1 bR_0 bR_1 F0 F1
      replace b0 := b0.later hb
      have b0_0 := b0.c0
      have b0_1 := b0.c1
      replace bR := bR.later hb
      have bR_0 := bR.c0
      have bR_1 := bR.c1
      replace bF := bF.later hb
      have F0 := bF.c0
      have F1 := bF.c1
      replace bW := bW.thenB hb
      clear hb
      go_wp2_with fail
      refine (l2Made_any (d - n) d _ (by omega) (by omega) (by omega) (by omega) HD0).mono ?_
      rintro e w4 ⟨rfl, hb⟩
      clear b0_0 b0_1 bR_0 bR_1 F0 F1
      replace b0 := b0.later hb
      have b0_0 := b0.c0
      have b0_1 := b0.c1
      replace bR := bR.later hb
      have bR_0 := bR.c0
      have bR_1 := bR.c1
      replace bF := bF.later hb
      have F0 := bF.c0
      have F1 := bF.c1
      replace bW := bW.thenB hb
      clear hb
      have s0 := bR.c0
      have s1 := bR.c1
      have s2 := bR.f0
      have s3 := bR.f1
      go_wp2
      refine bodyPost_ret (v := .tuple #[.agg #[.int .i64 (lowN (d - n) d), .int .i64 (lowD (d - n) d)], .bool (lowOk (d - n) d)]) (by simp [results, Try.results37, go_sem, s0, s1, s2, s3]) rfl ⟨by rw [eN.out, eD.out, eO.out], ?_⟩
      exact (bW.setCell (by show _ ≤ w.heap.size + 1; omega) _).setCell (by show _ ≤ w.heap.size + 1; omega) _
    · skip
      clear b0_0 b0_1 bR_0 bR_1 F0 F1 F2 F3
      replace b0 := b0.other2 (w.heap.size + 2) (by omega) (.int .i64 (n)) (.int .i64 (d))
      have b0_0 := b0.c0
      have b0_1 := b0.c1
      replace bR := bR.other2 (w.heap.size + 2) (by omega) (.int .i64 (n)) (.int .i64 (d))
      have bR_0 := bR.c0
      have bR_1 := bR.c1
      replace bF := bF.two (n) (.int .i64 (d))
      replace bW := (bW.setCell (p := ⟨w.heap.size + 2, 0, none⟩) (by show _ ≤ w.heap.size + 2; omega) (.int .i64 (n))).setCell (p := ⟨w.heap.size + 2, 1, none⟩) (by show _ ≤ w.heap.size + 2; omega) (.int .i64 (d))
      have F0 := bF.c0
      have F1 := bF.c1
      go_wp2_with fail
      refine (l3Set_any _ _ _ _ _ _ (hx.below bW) hxm).mono ?_
      rintro e w3 ⟨rfl, hb⟩
      clear b0_0 b0_1 bR_0 bR_1 F0 F1
      replace b0 := b0.later hb
      have b0_0 := b0.c0
      have b0_1 := b0.c1
      replace bR := bR.later hb
      have bR_0 := bR.c0
      have bR_1 := bR.c1
      replace bF := bF.later hb
      have F0 := bF.c0
      have F1 := bF.c1
      replace bW := bW.thenB hb
      clear hb
      go_wp2_with fail
      refine (l2Made_any (d - n) d _ (by omega) (by omega) (by omega) (by omega) HD0).mono ?_
      rintro e w4 ⟨rfl, hb⟩
      clear b0_0 b0_1 bR_0 bR_1 F0 F1
      replace b0 := b0.later hb
      have b0_0 := b0.c0
      have b0_1 := b0.c1
      replace bR := bR.later hb
      have bR_0 := bR.c0
      have bR_1 := bR.c1
      replace bF := bF.later hb
      have F0 := bF.c0
      have F1 := bF.c1
      replace bW := bW.thenB hb
      clear hb
      have s0 := bR.c0
      have s1 := bR.c1
      have s2 := bR.f0
      have s3 := bR.f1
      go_wp2
      refine bodyPost_ret (v := .tuple #[.agg #[.int .i64 (lowN (d - n) d), .int .i64 (lowD (d - n) d)], .bool (lowOk (d - n) d)]) (by simp [results, Try.results37, go_sem, s0, s1, s2, s3]) rfl ⟨by rw [eN.out, eD.out, eO.out], ?_⟩
      exact (bW.setCell (by show _ ≤ w.heap.size + 1; omega) _).setCell (by show _ ≤ w.heap.size + 1; omega) _

end Go.Proofs.Ytolbbeiiohegpaa
