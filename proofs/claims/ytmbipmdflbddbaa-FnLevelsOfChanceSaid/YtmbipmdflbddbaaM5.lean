/- The mass of levels: both packages. -/
import Derived.Test.YtmbipmdflbddbaaZM
import Derived.Test.YtmbipmdflbddbaaK3
import Derived.Test.YtmbipmdflbddbaaL6
set_option linter.unusedVariables false
set_option linter.unusedSimpArgs false
namespace Go.Proofs.Ytmbipmdflbddbaa
open Go.RowKit

theorem Own.one (w : World) (x : Int) (B : Nat) (hB : B ≤ w.heap.size) : Own B (w.alloc (.cells #[.int .i64 x] 3)) (.slice (some ⟨w.heap.size, 0, none⟩) 1 1) [x] :=
  ⟨rfl, .inr ⟨w.heap.size, 1, #[.int .i64 x], rfl, hB, heap_alloc_new w _, by simp, by unfold maxLen; omega, rfl, rfl⟩⟩

theorem Own.formC {B : Nat} {w : World} {v : Value} {xs : List Int} (h : Own B w v xs) (hn : 0 < xs.length) : ∃ g c, v = .slice (some ⟨g, 0, none⟩) xs.length c ∧ B ≤ g ∧ g < w.heap.size ∧ xs.length ≤ c := by
  unfold Own at h
  rcases h.2 with ⟨rfl, h0⟩ | ⟨g, cap, cur, rfl, hb, hg, hnc, hcm, hcs, ht⟩
  · omega
  · exact ⟨g, cap, rfl, hb, (Array.getElem?_eq_some_iff.1 hg).1, hnc⟩

theorem ReadsK.setOff {q : IntKind} {w : World} {b o : Nat} {xs : List Int} (h : ReadsK q w (some ⟨b, o, none⟩) xs) (a : Addr) (ha : a.block ≠ b) (u : Value) : ReadsK q (w.setCell a u) (some ⟨b, o, none⟩) xs := by
  intro k hk
  obtain ⟨b', o', e, hlt, hc⟩ := h k hk
  cases e
  refine ⟨b, o, rfl, by simpa using hlt, ?_⟩
  rw [World.cell?_setCell_other _ _ _ _ (by intro e; subst e; exact ha rfl)]
  exact hc

theorem pow2_len (n : Nat) : pow2 (n : Int) = ((2 ^ n : Nat) : Int) := by simp [pow2]

set_option maxHeartbeats 4000000 in
set_option maxRecDepth 100000 in
theorem iMassOfLevels_any (p : Option Addr) (c : Nat) (xs : List Int) (w : World) (hx : Reads w p xs) (hxm : xs.length ≤ 1048576) :
    Calls Try.prog 12 #[.slice p xs.length c] w fun e w' => ∃ v, e = .returned (.tuple #[.agg #[.int .i64 (gS (lvB xs) xs.length (lvP xs)), v], .bool (gOk (lvB xs) xs.length (lvP xs))]) ∧ Own w.heap.size w' v (gL (lvB xs) xs.length (lvP xs)) ∧ Below w.heap.size w w' := by
  obtain ⟨W, hW⟩ : ∃ W : World, W = w.alloc (.cells #[.int .i64 0, .slice none 0 0] 24) := ⟨_, rfl⟩
  have hbW : Below w.heap.size w W := by subst hW; exact belowAlloc _ _
  have hsz : W.heap.size = w.heap.size + 1 := by subst hW; simp
  have hR : VarInv W w.heap.size 0 (.slice none 0 0) := by subst hW; exact VarInv.made _ _ _ _
  have hxW := hx.below hbW
  have HWW := Lib.hid hW
  have HSZ := Lib.hid hsz
  clear hW hsz hx
  cases h1 : lvB xs
  · obtain ⟨hS, hO, hL⟩ := gNo (s := xs.length) (L := lvP xs) (g := false) rfl
    have hS := Lib.hid hS
    have hO := Lib.hid hO
    have hL := Lib.hid hL
    have s0 := hR.c0
    have s1 := hR.c1
    have s2 := hR.f0
    have s3 := hR.f1
    go_enter Try.func12, Try.ntmps12
    go_wp2_with fail
    rw [← HWW.out]
    refine (areLevels_any p c xs W hxW hxm).mono ?_
    rintro e w1 ⟨rfl, rfl⟩
    go_wp2
    refine bodyPost_ret (v := .tuple #[.agg #[.int .i64 0, .slice none 0 0], .bool false]) (by simp [results, Try.results12, go_sem, s0, s1, s2, s3]) rfl ⟨_, by rw [hS.out, hO.out], by rw [hL.out]; exact Own.nil _ _, ?_⟩
    exact (hbW.setCell (by show _ ≤ w.heap.size; omega) _).setCell (by show _ ≤ w.heap.size; omega) _
  · obtain ⟨hS, hO, hL⟩ := gYes (s := xs.length) (L := lvP xs) (g := true) rfl
    have hS := Lib.hid hS
    have hO := Lib.hid hO
    have hL := Lib.hid hL
    have hk := lvB_ok h1
    have l1 := hk.l1
    have l4 := hk.l4
    have hal := Lib.hid hk.all
    obtain ⟨blk, off, rfl, hbl, _hc⟩ := hxW 0 (by omega)
    obtain ⟨N, hN⟩ : ∃ N, N = 2 ^ xs.length := ⟨_, rfl⟩
    have hN16 : N ≤ 16 := by rw [hN]; exact Nat.pow_le_pow_right (n := 2) (by omega) l4
    have hpw : wrap64 (2 ^ xs.length) = (N : Int) := by
      have := pow2_wrap (xs.length : Int) (by omega) (by omega)
      rw [pow2_len] at this
      rw [hN]; simpa using this
    have HN := Lib.hid hN
    clear hN hk _hc
    have oE := Own.one W 0 W.heap.size (Nat.le_refl _)
    have bE := belowAlloc W (.cells #[.int .i64 0] 3)
    have hxE := hxW.below bE
    go_enter Try.func12, Try.ntmps12
    go_wp2_with fail
    rw [← HWW.out]
    refine (areLevels_any _ c xs W hxW hxm).mono ?_
    rintro e w1 ⟨rfl, rfl⟩
    rw [h1]
    go_wp2_with (at_builtin; refine wpList_appendAll _ rfl _ _ rfl W.heap.size _ [0] xs (by rfl) oE blk off c (by rfl) hxE (by simp; omega) l1 (by simp) ?_)
    intro v2 w2 o2 b2
    have bL : Below W.heap.size W w2 := bE.trans b2
    obtain ⟨g, c2, rfl, hg, hg2, hc2⟩ := o2.formC (by simp)
    have hln : ((0 : Int) :: xs).length = xs.length + 1 := by simp
    rw [hln] at o2 hc2 ⊢
    have z2 := bL.size
    clear oE bE hxE b2
    go_wp2_with fail
    refine (sort_any W.heap.size g (xs.length + 1) c2 (0 :: xs) w2 hln o2 (by omega) (by omega) hg).mono ?_
    rintro e w3 ⟨rfl, zs, hzl, hso, hva, o3, b3⟩
    replace bL := bL.trans b3
    have z3 := b3.size
    clear o2 b3
    go_wp2_with fail
    refine (compact_any W.heap.size g (xs.length + 1) c2 zs w3 hzl o3 hso (by omega) (by omega) hc2 hg).mono ?_
    rintro e w4 ⟨us, k, rfl, hul, hk1, hk2, hun, hru, b4⟩
    replace bL := bL.trans b4
    have z4 := b4.size
    have HU := Lib.hid (lvU_of (us := us) (xs := xs) ⟨hun.inc, hun.vals.trans hva⟩)
    have HK := Lib.hid hul
    clear hul o3 hso hva hun hzl b4 hln hc2
    go_wp2_with (at_make; refine wpList_makeInts _ rfl _ _ rfl w4.heap.size _ _ _ _ N rfl rfl hpw hpw (by omega) (Nat.le_refl _) ?_)
    intro w5 ho5 hb5 hlt5
    have bT : Below W.heap.size W w5 := bL.trans (hb5.mono (by omega))
    have hxT := hxW.below bT
    have hru5 := hru.below hb5
    have jR := hR.later bT
    have g5 : g < w4.heap.size := by omega
    clear hpw hb5 hru hxW hR bL
    go_wp2
    go_loopw [6] (fun i wr => ∃ (j : Nat) (P : List Int), 1 ≤ j ∧ j ≤ k ∧ i = .int .i64 j ∧ P.length = N ∧ (∀ a, a < N → nth P a = lvF xs a (nth us (j - 1)).toNat) ∧ Own w4.heap.size wr (.slice (some ⟨w4.heap.size, 0, none⟩) N N) P ∧ Reads wr (some ⟨g, 0, none⟩) us ∧ Reads wr (some ⟨blk, off, none⟩) xs ∧ VarInv wr w.heap.size 0 (.slice none 0 0) ∧ Below W.heap.size W wr ∧ w4.heap.size < wr.heap.size) (fun i _ => k - (intOf i).toNat)
    case atStart => exact ⟨1, zeros N, Nat.le_refl _, hk1, rfl, zeros_len N, fun a _ => by rw [zeros_nth0, HU.out.zero hal.out]; rfl, ho5, hru5, hxT, jR, bT, hlt5⟩
    case round =>
      clear ho5 hru5 hxT jR bT hlt5
      obtain ⟨j, P, hj1, hjk, rfl, hPl, hP, ho, hru, hxr, jR, bT, hlt⟩ := hrel
      have HP := Lib.hid hP
      have HPL := Lib.hid hPl
      clear hP hPl
      by_cases hjlt : j < k
      · obtain ⟨_, _, eg1, _, c1⟩ := hru j (by rw [HK.out]; exact hjlt)
        obtain ⟨_, _, eg0, _, c0⟩ := hru (j - 1) (by rw [HK.out]; omega)
        cases eg1
        cases eg0
        rw [Nat.zero_add] at c1 c0
        have u1 := HU.out.bd hal.out j (by rw [HK.out]; exact hjlt)
        have v1 := HU.out.bd hal.out (j - 1) (by rw [HK.out]; omega)
        have uv := HU.out.inc (j - 1) j (by omega) (by rw [HK.out]; exact hjlt)
        have hst := fun a => HU.out.step hal.out a j hj1 (by rw [HK.out]; exact hjlt)
        generalize hu : nth us j = u at c1 u1 uv hst
        generalize hv : nth us (j - 1) = v at c0 v1 uv hst
        have HX := Lib.hid hu
        have HY := Lib.hid hv
        have HST := Lib.hid hst
        clear hu hv hst
        have hcut := fun (w' : World) (h : Reads w' (some ⟨blk, off, none⟩) xs) => cutLevels_any (some ⟨blk, off, none⟩) c xs u w' h l4
        obtain ⟨A, hA⟩ : ∃ A, A = cutTo xs u xs.length := ⟨_, rfl⟩
        have hAN : A < N := by rw [hA, HN.out]; exact cutTo_lt _ _ _
        rw [← hA] at hcut
        have HA := Lib.hid hA
        have HCUT := Lib.hid hcut
        clear hA hcut
        obtain ⟨q1, q2⟩ := ho.cellAt HPL.out A hAN
        have pb := lvF_bd xs A v.toNat
        rw [← HY.out, ← HP.out A hAN, HY.out] at pb
        have hA0 : (0 : Int) ≤ (A : Int) := by omega
        have hA1 : (A : Int) < (N : Int) := by omega
        have hw1 : IntKind.i64.wrap (u - v) = u - v := IntWalk.i64_in _ (by omega)
        have hw2 : IntKind.i64.wrap (nth P A + (u - v)) = nth P A + (u - v) := IntWalk.i64_in _ (by omega)
        have hkl : us.length = k := HK.out
        have hjk2 : (j : Int) < (k : Int) := by omega
        obtain ⟨q, hq⟩ : ∃ q, q = j - 1 := ⟨_, rfl⟩
        rw [← hq] at c0
        have hq2 : (q : Int) < (k : Int) := by omega
        have hgb : w4.heap.size ≠ g := by omega
        have hw0 : IntKind.i64.wrap ((j : Int) - 1) = (q : Int) := by rw [IntWalk.i64_in _ (by omega)]; omega
        have HQ := Lib.hid hq
        clear hq
        clear pb hkl
        have HRU := Lib.hid hru
        clear hru
        go_wp2_with fail
        go_still_tail 21, (by kernel_rfl)
        still_call ((HCUT.out wr.drew hxr.drew).mono fun _ _ h => ⟨h.1, h.2.symm⟩)
        repeat still_step
        refine wpStill_nil ?_
        change wpList _ _ _ _ _ wr.drew
        clear c1 c0
        have hst := ho.storedAt HPL.out A (nth P A + (u - v))
        have hP2 : ∀ a, a < N → nth (P.set A (nth P A + (u - v))) a = lvF xs a (nth us (j + 1 - 1)).toNat := by
          intro a ha
          rw [Nat.add_sub_cancel, HX.out, HST.out a, ← HY.out, ← HP.out a ha]
          by_cases e : a = A
          · subst e
            rw [nth_set_at _ _ _ (by rw [HPL.out]; exact hAN), if_pos HA.out.symm, HY.out]
          · rw [nth_set_no _ _ _ _ e, if_neg (fun h => e (by rw [HA.out]; exact h.symm))]; omega
        have HP2 := Lib.hid hP2
        have HS := Lib.hid hst
        clear hst hP2 ho
        go_wp2
        exact ⟨⟨j + 1, P.set A (nth P A + (u - v)), by omega, by omega, by go_num, by rw [List.length_set]; exact HPL.out, HP2.out, HS.out.drew, (HRU.out.setOff _ (by show w4.heap.size ≠ g; omega) _).drew, (hxr.setOff _ (by show w4.heap.size ≠ blk; omega) _).drew, (jR.other _ (by show w4.heap.size ≠ w.heap.size; have := HSZ.out; omega) _).drew, (bT.setCell (by show _ ≤ w4.heap.size; omega) _).drew, by simpa using hlt⟩, by simp [intOf]; omega⟩
      · have hjk2 : j = k := by omega
        subst hjk2
        have hkl : us.length = j := HK.out
        have hPe : P = lvP xs := by
          refine nth_ext2 _ _ (by rw [HPL.out, lvP_len, HN.out]) fun a ha => ?_
          rw [HPL.out] at ha
          rw [HP.out a ha, lvP_nth xs a (by rw [← HN.out]; exact ha), ← HU.out.top hal.out, hkl]
        subst hPe
        have hal2 := Lib.hid (allB_wider (lvP_all hal.out) (low' := 0) (high' := 4611686018427387904) (by omega) (by omega))
        have r1 := jR.c0
        have r2 := jR.c1
        clear hru hkl
        go_wp2_with fail
        refine (makeMass_n _ _ _ _ _ _ HPL.out ho.reads (by rw [HPL.out]; omega) hal2.out).mono ?_
        rintro e w6 ⟨v, rfl, ho2, hb2⟩
        have jR2 := jR.later hb2
        have s0 := jR2.c0
        have s1 := jR2.c1
        have s2 := jR2.f0
        have s3 := jR2.f1
        have z6 := hb2.size
        obtain ⟨pv, cv, rfl, _hv⟩ := ho2.shape
        clear r1 r2 _hv
        go_wp2
        refine bodyPost_ret (v := .tuple #[.agg #[.int .i64 (mkS (xs.length : Int) (lvP xs)), .slice pv (mkL (xs.length : Int) (lvP xs)).length cv], .bool (mkOk (xs.length : Int) (lvP xs))]) (by simp [results, Try.results12, go_sem, s0, s1, s2, s3]) rfl ⟨_, by rw [hS.out, hO.out], ?_, ?_⟩
        · rw [hL.out]; exact ((ho2.setBelow (by show w.heap.size < _; have := HSZ.out; omega) _).setBelow (by show w.heap.size < _; have := HSZ.out; omega) _).mono (by have := HSZ.out; omega)
        · exact (((hbW.trans (bT.mono (by have := HSZ.out; omega))).trans (hb2.mono (by have := HSZ.out; omega))).setCell (by show _ ≤ w.heap.size; omega) _).setCell (by show _ ≤ w.heap.size; omega) _

end Go.Proofs.Ytmbipmdflbddbaa
