/- The mass of levels: the reference. -/
import Derived.Test.YtmbipmdflbddbaaM5
set_option linter.unusedVariables false
set_option linter.unusedSimpArgs false
namespace Go.Proofs.Ytmbipmdflbddbaa
open Go.RowKit

theorem refF_succ (xs : List Int) (a k : Nat) : refF xs a (k + 1) = refF xs a k + if firTo xs k xs.length = true then (if cutTo xs (nth xs k) xs.length = a then nth xs k - belTo xs (nth xs k) xs.length else 0) else 0 := by
  simp only [refF, sm]

theorem refF_bd {xs : List Int} (hx : allB 0 1000000 xs = true) (a : Nat) : ∀ k, k ≤ xs.length → 0 ≤ refF xs a k ∧ refF xs a k ≤ 1000000 * k
  | 0, _ => by simp [refF, sm]
  | k + 1, h => by
    obtain ⟨h0, h1⟩ := refF_bd hx a k (by omega)
    obtain ⟨b0, b1, b2⟩ := belTo_parts xs (nth xs k) xs.length
    obtain ⟨v0, v1⟩ := allB_nth hx k (by omega)
    have hle : belTo xs (nth xs k) xs.length ≤ nth xs k := by
      rcases b2 with e | ⟨z, _, hz, e⟩ <;> omega
    rw [refF_succ]
    split
    · split <;> omega
    · omega

set_option maxHeartbeats 4000000 in
set_option maxRecDepth 100000 in
theorem sMassOfLevels_any (p : Option Addr) (c : Nat) (xs : List Int) (w : World) (hx : Reads w p xs) (hxm : xs.length ≤ 1048576) :
    Calls Try.prog 10 #[.slice p xs.length c] w fun e w' => ∃ v, e = .returned (.tuple #[.agg #[.int .i64 (gS (lvB xs) xs.length (lvP xs)), v], .bool (gOk (lvB xs) xs.length (lvP xs))]) ∧ Own w.heap.size w' v (gL (lvB xs) xs.length (lvP xs)) ∧ Below w.heap.size w w' := by
  obtain ⟨W, hW⟩ : ∃ W : World, W = w.alloc (.cells #[.int .i64 0, .slice none 0 0] 24) := ⟨_, rfl⟩
  have hbW : Below w.heap.size w W := by subst hW; exact belowAlloc _ _
  have hsz : W.heap.size = w.heap.size + 1 := by subst hW; simp
  have hR : VarInv W w.heap.size 0 (.slice none 0 0) := by subst hW; exact VarInv.made _ _ _ _
  have hxW := hx.below hbW
  have HWW := Lib.hid hW
  have HSZ := Lib.hid hsz
  clear hW hsz hx
  cases h1 : lvB xs
  · obtain ⟨hS, hO, hL⟩ := gNo (s := xs.length) (L := lvP xs) (g := false) rfl
    have hS := Lib.hid hS
    have hO := Lib.hid hO
    have hL := Lib.hid hL
    have s0 := hR.c0
    have s1 := hR.c1
    have s2 := hR.f0
    have s3 := hR.f1
    go_enter Try.func10, Try.ntmps10
    go_wp2_with fail
    rw [← HWW.out]
    refine (sLevelsValid_any p c xs W hxW hxm).mono ?_
    rintro e w1 ⟨rfl, rfl⟩
    go_wp2
    refine bodyPost_ret (v := .tuple #[.agg #[.int .i64 0, .slice none 0 0], .bool false]) (by simp [results, Try.results10, go_sem, s0, s1, s2, s3]) rfl ⟨_, by rw [hS.out, hO.out], by rw [hL.out]; exact Own.nil _ _, ?_⟩
    exact (hbW.setCell (by show _ ≤ w.heap.size; omega) _).setCell (by show _ ≤ w.heap.size; omega) _
  · obtain ⟨hS, hO, hL⟩ := gYes (s := xs.length) (L := lvP xs) (g := true) rfl
    have hS := Lib.hid hS
    have hO := Lib.hid hO
    have hL := Lib.hid hL
    have hk := lvB_ok h1
    have l1 := hk.l1
    have l4 := hk.l4
    have hal := Lib.hid hk.all
    obtain ⟨blk, off, rfl, hbl, _hc⟩ := hxW 0 (by omega)
    obtain ⟨N, hN⟩ : ∃ N, N = 2 ^ xs.length := ⟨_, rfl⟩
    have hN16 : N ≤ 16 := by rw [hN]; exact Nat.pow_le_pow_right (n := 2) (by omega) l4
    have hpw : wrap64 (2 ^ xs.length) = (N : Int) := by
      have := pow2_wrap (xs.length : Int) (by omega) (by omega)
      rw [pow2_len] at this
      rw [hN]; simpa using this
    have HN := Lib.hid hN
    clear hN hk _hc
    go_enter Try.func10, Try.ntmps10
    go_wp2_with fail
    rw [← HWW.out]
    refine (sLevelsValid_any _ c xs W hxW hxm).mono ?_
    rintro e w1 ⟨rfl, rfl⟩
    rw [h1]
    go_wp2_with (at_make; refine wpList_makeInts _ rfl _ _ rfl W.heap.size _ _ _ _ N rfl rfl hpw hpw (by omega) (Nat.le_refl _) ?_)
    intro w5 ho5 hb5 hlt5
    have hxT := hxW.below hb5
    have jR := hR.later hb5
    have bT := hbW.thenB hb5
    clear hpw hb5 hxW hR hbW
    go_wp2
    go_loopw [5] (fun i wr => ∃ (k : Nat) (P : List Int), k ≤ xs.length ∧ i = .int .i64 k ∧ P.length = N ∧ (∀ a, a < N → nth P a = refF xs a k) ∧ Own W.heap.size wr (.slice (some ⟨W.heap.size, 0, none⟩) N N) P ∧ Reads wr (some ⟨blk, off, none⟩) xs ∧ VarInv wr w.heap.size 0 (.slice none 0 0) ∧ Below w.heap.size w wr ∧ W.heap.size < wr.heap.size) (fun i _ => xs.length - (intOf i).toNat)
    case atStart => exact ⟨0, zeros N, Nat.zero_le _, rfl, zeros_len N, fun a _ => by rw [zeros_nth0]; rfl, ho5, hxT, jR, bT, hlt5⟩
    case round =>
      clear ho5 hxT jR bT hlt5
      obtain ⟨k, P, hk, rfl, hPl, hP, ho, hxr, jR, bT, hlt⟩ := hrel
      have HP := Lib.hid hP
      have HPL := Lib.hid hPl
      clear hP hPl
      by_cases hlk : k < xs.length
      · have hck : wr.cell? ⟨blk, off + k, none⟩ = some (.int .i64 (nth xs k)) := by
          obtain ⟨_, _, eg1, _, c1⟩ := hxr k hlk
          cases eg1; exact c1
        have vk := allB_nth hal.out k hlk
        have HX := Lib.hid hxr
        have HO := Lib.hid ho
        clear hxr ho
        obtain ⟨vx, hvx⟩ : ∃ v, v = nth xs k := ⟨_, rfl⟩
        rw [← hvx] at hck vk
        have HV := Lib.hid hvx
        clear hvx
        go_wp2
        go_loopw [6, 7, 8] (fun m f i wz => ∃ j : Nat, j ≤ xs.length ∧ i = .int .i64 j ∧ m = .int .i64 (belTo xs vx j) ∧ f = .bool (firTo xs k j) ∧ Below wr.heap.size wr wz) (fun _ _ i _ => xs.length - (intOf i).toNat)
        case atStart => exact ⟨0, Nat.zero_le _, rfl, rfl, rfl, Below.refl _ _⟩
        case round =>
          obtain ⟨j, hj, rfl, rfl, rfl, hbz⟩ := hrel
          by_cases hlj : j < xs.length
          · obtain ⟨_, _, eg1, _, hcj⟩ := (HX.out.below hbz) j hlj
            cases eg1
            have hckz := cellKeep hbz hck
            have vj := allB_nth hal.out j hlj
            have bl := belTo_parts xs vx j
            have bl0 := bl.1
            have hbs := belTo_succ xs vx j
            have hfs := firTo_succ xs k j
            rw [← HV.out] at hfs
            clear bl hck
            obtain ⟨vy, hvy⟩ : ∃ v, v = nth xs j := ⟨_, rfl⟩
            rw [← hvy] at hcj vj hbs hfs
            obtain ⟨m, hm⟩ : ∃ v, v = belTo xs vx j := ⟨_, rfl⟩
            rw [← hm] at bl0 hbs ⊢
            obtain ⟨f, hf⟩ : ∃ v, v = firTo xs k j := ⟨_, rfl⟩
            rw [← hf] at hfs ⊢
            have HBS := Lib.hid hbs
            have HFS := Lib.hid hfs
            clear hvy hm hf hbs hfs
            have hj0 : (0 : Int) ≤ (j : Int) := by omega
            have hj1 : (j : Int) < (xs.length : Int) := by omega
            have hk1 : (k : Int) < (xs.length : Int) := by omega
            have hfin : ∀ (B0 : Nat) (W0 wq : World) (m2 : Int) (f2 : Bool), Below B0 W0 wr → m2 = belTo xs vx (j + 1) → f2 = firTo xs k (j + 1) → (∃ a, wq = wr.drewN a) → (∃ j' : Nat, j' ≤ xs.length ∧ Value.int .i64 ((j : Int) + 1) = .int .i64 j' ∧ Value.int .i64 m2 = .int .i64 (belTo xs vx j') ∧ Value.bool f2 = .bool (firTo xs k j') ∧ Below B0 W0 wq) ∧ xs.length - (intOf (.int .i64 ((j : Int) + 1))).toNat < xs.length - (intOf (.int .i64 (j : Int))).toNat := by
              rintro B0 W0 wq m2 f2 hbz rfl rfl ⟨a, rfl⟩
              exact ⟨⟨j + 1, by omega, by go_num, rfl, rfl, below_drewN hbz a⟩, by simp [intOf]; omega⟩
            have HFIN := Lib.hid hfin
            clear hfin
            by_cases e : vy < vx
            · have HBS := Lib.hid (HBS.out.trans (if_pos e))
              go_wp2_with fail
              go_quiet (fail)
              by_cases mc : m < vy
              · go_wp2_with fail
                cases f
                · go_quiet (fail)
                  go_wp2
                  exact HFIN.out _ _ _ _ _ hbz (by rw [HBS.out]; omega) (by rw [HFS.out]; rfl) ⟨_, rfl⟩
                · by_cases ge : (k : Int) ≤ (j : Int)
                  · have ge2 : decide (k ≤ j) = true := by simp; omega
                    go_quiet (fail)
                    go_wp2
                    exact HFIN.out _ _ _ _ _ hbz (by rw [HBS.out]; omega) (by rw [HFS.out, ge2]; rfl) ⟨_, rfl⟩
                  · have ge2 : decide (k ≤ j) = false := by simp; omega
                    clear ge
                    go_quiet (fail)
                    go_wp2
                    exact HFIN.out _ _ _ _ _ hbz (by rw [HBS.out]; omega) (by rw [HFS.out, ge2]; simp) ⟨_, rfl⟩
              · go_wp2_with fail
                cases f
                · go_quiet (fail)
                  go_wp2
                  exact HFIN.out _ _ _ _ _ hbz (by rw [HBS.out]; omega) (by rw [HFS.out]; rfl) ⟨_, rfl⟩
                · by_cases ge : (k : Int) ≤ (j : Int)
                  · have ge2 : decide (k ≤ j) = true := by simp; omega
                    go_quiet (fail)
                    go_wp2
                    exact HFIN.out _ _ _ _ _ hbz (by rw [HBS.out]; omega) (by rw [HFS.out, ge2]; rfl) ⟨_, rfl⟩
                  · have ge2 : decide (k ≤ j) = false := by simp; omega
                    clear ge
                    go_quiet (fail)
                    go_wp2
                    exact HFIN.out _ _ _ _ _ hbz (by rw [HBS.out]; omega) (by rw [HFS.out, ge2]; simp) ⟨_, rfl⟩
            · have HBS := Lib.hid (HBS.out.trans (if_neg e))
              go_wp2_with fail
              go_quiet (fail)
              go_wp2_with fail
              cases f
              · go_quiet (fail)
                go_wp2
                exact HFIN.out _ _ _ _ _ hbz HBS.out.symm (by rw [HFS.out]; rfl) ⟨_, rfl⟩
              · by_cases ge : (k : Int) ≤ (j : Int)
                · have ge2 : decide (k ≤ j) = true := by simp; omega
                  go_quiet (fail)
                  go_wp2
                  exact HFIN.out _ _ _ _ _ hbz HBS.out.symm (by rw [HFS.out, ge2]; rfl) ⟨_, rfl⟩
                · have ge2 : decide (k ≤ j) = false := by simp; omega
                  clear ge
                  go_quiet (fail)
                  go_wp2
                  exact HFIN.out _ _ _ _ _ hbz HBS.out.symm (by rw [HFS.out, ge2]; simp) ⟨_, rfl⟩
          · have hjn : j = xs.length := by omega
            subst hjn
            have hbx := cellKeep hbz hck
            have fc : firTo xs k xs.length = true ∨ firTo xs k xs.length = false := by cases firTo xs k xs.length <;> simp
            have hfk := refF_succ xs
            have hob := HO.out.later hbz
            have hxb := HX.out.below hbz
            have jRb := jR.later hbz
            have bTb := bT.thenB hbz
            have zb := hbz.size
            clear hck bT jR hbz
            rcases fc with fc | fc
            · have hcut := fun (w' : World) (h : Reads w' (some ⟨blk, off, none⟩) xs) => l9Cut_any (some ⟨blk, off, none⟩) c xs vx w' h l4
              obtain ⟨A, hA⟩ : ∃ A, A = cutTo xs vx xs.length := ⟨_, rfl⟩
              have hAN : A < N := by rw [hA, HN.out]; exact cutTo_lt _ _ _
              rw [← hA] at hcut
              have HA := Lib.hid hA
              have HCUT := Lib.hid hcut
              clear hA hcut
              obtain ⟨q1, q2⟩ := hob.cellAt HPL.out A hAN
              obtain ⟨m, hm⟩ : ∃ m, m = belTo xs vx xs.length := ⟨_, rfl⟩
              rw [← hm]
              have bp := belTo_parts xs vx xs.length
              rw [← hm] at bp
              have hmle : m ≤ vx := by rcases bp.2.2 with e | ⟨z, _, hz, e⟩ <;> omega
              have bp0 := bp.1
              have HM := Lib.hid hm
              clear hm bp
              have pb := refF_bd hal.out A k (by omega)
              rw [← HP.out A hAN] at pb
              have hA0 : (0 : Int) ≤ (A : Int) := by omega
              have hA1 : (A : Int) < (N : Int) := by omega
              have hw1 : IntKind.i64.wrap (nth P A + vx) = nth P A + vx := IntWalk.i64_in _ (by omega)
              have hw2 : IntKind.i64.wrap (nth P A + vx - m) = nth P A + vx - m := IntWalk.i64_in _ (by omega)
              have hk1 : (k : Int) < (xs.length : Int) := by omega
              have hk0 : (0 : Int) ≤ (k : Int) := by omega
              have HFC := Lib.hid fc
              have HFK := Lib.hid hfk
              clear hfk
              rw [fc]
              clear fc
              go_wp2_with fail
              refine (HCUT.out _ hxb).mono ?_
              rintro e w' ⟨rfl, rfl⟩
              have hst := hob.storedAt HPL.out A (nth P A + vx - m)
              have hP2 : ∀ a, a < N → nth (P.set A (nth P A + vx - m)) a = refF xs a (k + 1) := by
                intro a ha
                rw [HFK.out, if_pos HFC.out, ← HV.out, ← HM.out, ← HA.out, ← HP.out a ha]
                by_cases e : a = A
                · subst e
                  rw [nth_set_at _ _ _ (by rw [HPL.out]; exact hAN), if_pos rfl]; omega
                · rw [nth_set_no _ _ _ _ e, if_neg (fun h => e h.symm)]; omega
              have HP2 := Lib.hid hP2
              have HS := Lib.hid hst
              clear hst hP2 hob pb
              go_wp2_with fail
              go_region
              all_goals go_wp2
              all_goals exact ⟨⟨k + 1, P.set A (nth P A + vx - m), by omega, by go_num, by rw [List.length_set]; exact HPL.out, HP2.out, HS.out.drew, (hxb.setOff _ (by show W.heap.size ≠ blk; omega) _).drew, (jRb.other _ (by show W.heap.size ≠ w.heap.size; have := HSZ.out; omega) _).drew, (bTb.setCell (by show _ ≤ W.heap.size; have := HSZ.out; omega) _).drew, by simpa using (by omega)⟩, by simp [intOf]; omega⟩
            · have HFC := Lib.hid fc
              have HFK := Lib.hid hfk
              clear hfk
              rw [fc]
              clear fc
              go_wp2
              exact ⟨⟨k + 1, P, by omega, by go_num, HPL.out, fun a ha => by rw [HFK.out, if_neg (by rw [HFC.out]; simp), HP.out a ha]; omega, hob, hxb, jRb, bTb, by omega⟩, by simp [intOf]; omega⟩
      · have hkn : k = xs.length := by omega
        subst hkn
        have hPe : P = lvP xs := by
          refine nth_ext2 _ _ (by rw [HPL.out, lvP_len, HN.out]) fun a ha => ?_
          rw [HPL.out] at ha
          rw [HP.out a ha, lvP_nth xs a (by rw [← HN.out]; exact ha), ref_all xs hal.out]
        subst hPe
        have hal2 := Lib.hid (allB_wider (lvP_all hal.out) (low' := 0) (high' := 4611686018427387904) (by omega) (by omega))
        have r1 := jR.c0
        have r2 := jR.c1
        clear hxr
        go_wp2_with fail
        refine (l3Made_n _ _ _ _ _ _ HPL.out ho.reads (by rw [HPL.out]; omega) hal2.out).mono ?_
        rintro e w6 ⟨v, rfl, ho2, hb2⟩
        have jR2 := jR.later hb2
        have s0 := jR2.c0
        have s1 := jR2.c1
        have s2 := jR2.f0
        have s3 := jR2.f1
        have z6 := hb2.size
        have zT := bT.size
        obtain ⟨pv, cv, rfl, _hv⟩ := ho2.shape
        clear r1 r2 _hv
        go_wp2
        refine bodyPost_ret (v := .tuple #[.agg #[.int .i64 (mkS (xs.length : Int) (lvP xs)), .slice pv (mkL (xs.length : Int) (lvP xs)).length cv], .bool (mkOk (xs.length : Int) (lvP xs))]) (by simp [results, Try.results10, go_sem, s0, s1, s2, s3]) rfl ⟨_, by rw [hS.out, hO.out], ?_, ?_⟩
        · rw [hL.out]; exact ((ho2.setBelow (by show w.heap.size < _; have := HSZ.out; omega) _).setBelow (by show w.heap.size < _; have := HSZ.out; omega) _).mono (by have := HSZ.out; omega)
        · exact ((bT.thenB hb2).setCell (by show _ ≤ w.heap.size; omega) _).setCell (by show _ ≤ w.heap.size; omega) _

theorem lvR_len (xs : List Int) : (gL (lvB xs) (xs.length : Int) (lvP xs)).length ≤ 1048576 := by
  cases h : lvB xs
  · simp [gL]
  · have hk := lvB_ok h
    have := gL_len true (xs.length : Int) (lvP xs)
    rw [lvP_len] at this
    have : 2 ^ xs.length ≤ 2 ^ 4 := Nat.pow_le_pow_right (by omega) hk.l4
    omega

end Go.Proofs.Ytmbipmdflbddbaa
