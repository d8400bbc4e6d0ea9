/- Whether a list tells how parts are moved: the program. -/
import Derived.Deep.Cut
import Derived.Test.YtjmfjgoehicgcaaMgDD
set_option linter.unusedVariables false
set_option linter.unusedSimpArgs false
namespace Go.Proofs.Ytjmfjgoehicgcaa
open Go.RowKit

set_option maxHeartbeats 4000000 in
theorem iIsMoved_any (s : Int) (p : Option Addr) (c : Nat) (xs : List Int) (t : Int) (q : Option Addr) (d : Nat) (ys : List Int) (r : Option Addr) (e : Nat) (ls : List Int) (w : World) (hx : Reads w p xs) (hy : Reads w q ys) (hl : Reads w r ls) (hxm : xs.length ≤ 1048576) (hym : ys.length ≤ 1048576) (hlm : ls.length ≤ 1048576) :
    Calls Try.prog 49 #[.agg #[.int .i64 s, .slice p xs.length c], .agg #[.int .i64 t, .slice q ys.length d], .slice r ls.length e] w fun e w' => e = .returned (.bool (imB s xs t ys ls)) ∧ Below w.heap.size w w' := by
  obtain ⟨W, hW⟩ : ∃ W : World, W = ((w.alloc (.cells #[.int .i64 s, .slice p xs.length c] 27)).alloc (.cells #[.int .i64 t, .slice q ys.length d] 27)) := ⟨_, rfl⟩
  have bW : Below w.heap.size w W := by subst hW; exact ((belowAlloc _ _).thenB (belowAlloc _ _))
  have hsz : W.heap.size = w.heap.size + 2 := by subst hW; simp
  have b0 : VarInv W (w.heap.size) (s) (.slice p xs.length c) := by
    subst hW
    have h := VarInv.made w (s) (.slice p xs.length c) 27
    exact (h.later (belowAlloc _ _))
  have b1 : VarInv W (w.heap.size + 1) (t) (.slice q ys.length d) := by
    subst hW
    have h := VarInv.made (w.alloc (.cells #[.int .i64 s, .slice p xs.length c] 27)) (t) (.slice q ys.length d) 27
    rw [show (w.alloc (.cells #[.int .i64 s, .slice p xs.length c] 27)).heap.size = w.heap.size + 1 by simp] at h
    exact h
  have HWW := Lib.hid hW
  have HSZ := Lib.hid hsz
  clear hW hsz
  by_cases h1 : bothB s xs t ys = true
  rotate_left
  · have h1 : bothB s xs t ys = false := by simpa using h1
    have hr : Hid (imB s xs t ys ls = false) := Lib.hid (by simp [imB, h1])
    go_enter Try.func49, Try.ntmps49
    go_wp2_with fail
    rw [← HWW.out]
    refine (ofOneQuestion_any _ _ _ _ _ _ _ _ _ (hx.below bW) (hy.below bW) hxm hym).mono ?_
    rintro e w1 ⟨rfl, hb⟩
    replace b0 := b0.later hb
    have b0_0 := b0.c0
    have b0_1 := b0.c1
    replace b1 := b1.later hb
    have b1_0 := b1.c0
    have b1_1 := b1.c1
    replace bW := bW.thenB hb
    have z1 := hb.size
    clear hb
    go_wp2
    go_ret
    exact ⟨ret_bool hr.out.symm, bW⟩
  obtain ⟨k1, k2, k3, k4⟩ := bothB_ok h1
  have K4 := Lib.hid k4
  have HM := Lib.hid k1
  have HN := Lib.hid k2
  have hl16 := k1.l16
  have hN0 : 0 < xs.length := by have h := pow2_bd s k1.s1 k1.s4; have h2 := k1.len; omega
  obtain ⟨nn, hnn⟩ : ∃ nn : Nat, nn = xs.length * xs.length := ⟨_, rfl⟩
  have hnn256 : nn ≤ 256 := by rw [hnn]; exact Nat.mul_le_mul hl16 hl16
  have hwn : wrap64 ((xs.length : Int) * (xs.length : Int)) = ((nn : Nat) : Int) := by rw [hnn, Int.natCast_mul]; exact IntWalk.wrap64_in _ ⟨by rw [← Int.natCast_mul, ← hnn]; omega, by rw [← Int.natCast_mul, ← hnn]; omega⟩
  have HNN := Lib.hid hnn
  clear k1 k2 k3 k4 hnn
  by_cases h2 : ls.length = nn
  rotate_left
  · have hr : Hid (imB s xs t ys ls = false) := Lib.hid (by rw [HNN.out] at h2; simp [imB, h2])
    have hne : ((ls.length : Int) != (nn : Int)) = true := by simp; omega
    clear h2
    go_enter Try.func49, Try.ntmps49
    go_wp2_with fail
    rw [← HWW.out]
    refine (ofOneQuestion_any _ _ _ _ _ _ _ _ _ (hx.below bW) (hy.below bW) hxm hym).mono ?_
    rintro e w1 ⟨rfl, hb⟩
    replace b0 := b0.later hb
    have b0_0 := b0.c0
    have b0_1 := b0.c1
    replace b1 := b1.later hb
    have b1_0 := b1.c0
    have b1_1 := b1.c1
    replace bW := bW.thenB hb
    have z1 := hb.size
    clear hb
    go_wp2
    go_ret
    exact ⟨ret_bool hr.out.symm, bW⟩
  have hr : Hid (imB s xs t ys ls = mvB xs ys ls) := Lib.hid (by rw [HNN.out] at h2; simp [imB, h1, h2])
  have hne : ((ls.length : Int) != (nn : Int)) = false := by simp [h2]
  have HLL := Lib.hid h2
  clear h2
  go_enter Try.func49, Try.ntmps49
  go_wp2_with fail
  rw [← HWW.out]
  refine (ofOneQuestion_any _ _ _ _ _ _ _ _ _ (hx.below bW) (hy.below bW) hxm hym).mono ?_
  rintro e w1 ⟨rfl, hb⟩
  replace b0 := b0.later hb
  have b0_0 := b0.c0
  have b0_1 := b0.c1
  replace b1 := b1.later hb
  have b1_0 := b1.c0
  have b1_1 := b1.c1
  replace bW := bW.thenB hb
  have z1 := hb.size
  clear hb
  obtain ⟨mf, hmf⟩ := makeFn xs.length (by omega)
  have hrun := fun w => (hmf w).1
  have HMF := Lib.hid hmf
  clear hmf
  go_wp2_with fail
  have BW0 := bW
  clear b0_0 b0_1 b1_0 b1_1
  go_region
  · skip
    obtain ⟨-, hoA, hbA, hlA⟩ := HMF.out w1.drew
    obtain ⟨-, hoB, hbB, hlB⟩ := HMF.out (mf w1.drew)
    replace hbA := undrew hbA
    replace hoA := (hoA w1.heap.size (Nat.le_refl _)).later hbB
    replace hlA : w1.heap.size < (mf w1.drew).heap.size := hlA
    replace hoB := hoB w1.heap.size (Nat.le_of_lt hlA)
    replace b0 := (b0.later hbA).later hbB
    replace b1 := (b1.later hbA).later hbB
    replace bW := (bW.thenB hbA).thenB hbB
    have hbAB := hbA.thenB hbB
    have BW := BW0
    clear HMF hrun hbA hbB
    generalize mf w1.drew = wA at *
    generalize mf wA = wB at *
    clear hwn hne
    try generalize wrap64 ((xs.length : Int) * (xs.length : Int)) = q29 at *
    obtain ⟨G, hG⟩ : ∃ G : Nat, G = w1.heap.size := ⟨_, rfl⟩
    obtain ⟨T, hT⟩ : ∃ T : Nat, T = wA.heap.size := ⟨_, rfl⟩
    have hoG : Own w1.heap.size wB (.slice (some ⟨G, 0, none⟩) xs.length xs.length) (zeros xs.length) := by rw [hG]; first | exact hoA | exact hoB
    have hoT : Own w1.heap.size wB (.slice (some ⟨T, 0, none⟩) xs.length xs.length) (zeros xs.length) := by rw [hT]; first | exact hoA | exact hoB
    have hGT : G ≠ T := by omega
    have hGl : w1.heap.size ≤ G := by omega
    have hTl : w1.heap.size ≤ T := by omega
    have hGw : G < wB.heap.size := by omega
    have hTw : T < wB.heap.size := by omega
    rw [← hG, ← hT]
    clear hG hT hoA hoB hlA hlB
    have hMR := HM.out.all
    have hNR := HN.out.all
    have hly : ys.length ≤ 16 := by rw [← K4.out]; exact hl16
    have hAB0 : allB 0 1000000000000 (zeros xs.length) = true := allB_wider (zeros_all _) (by omega) (by omega)
    have b0_0 := b0.c0
    have b0_1 := b0.c1
    go_wp2_with fail
    clear b0_0 b0_1
    go_loopw [41] (fun i wr => ∃ k : Nat, k ≤ nn ∧ i = .int .i64 k ∧ Own w1.heap.size wr (.slice (some ⟨G, 0, none⟩) xs.length xs.length) (gvT xs.length ls k) ∧ Own w1.heap.size wr (.slice (some ⟨T, 0, none⟩) xs.length xs.length) (gtT xs.length ls k) ∧ VarInv wr w.heap.size s (.slice p xs.length c) ∧ VarInv wr (w.heap.size + 1) t (.slice q ys.length d) ∧ rngTo xs.length ls k = true ∧ allB 0 1000000000000 (gvT xs.length ls k) = true ∧ allB 0 1000000000000 (gtT xs.length ls k) = true ∧ Below w1.heap.size w1 wr ∧ G < wr.heap.size ∧ T < wr.heap.size) (fun i _ => nn - (intOf i).toNat)
    case atStart => exact ⟨0, Nat.zero_le _, rfl, hoG, hoT, b0, b1, rfl, hAB0, hAB0, hbAB, hGw, hTw⟩
    case round =>
      clear hoG hoT b0 b1 hbAB hGw hTw bW
      obtain ⟨k, hk, rfl, hoG, hoT, b0, b1, hrg, hag, hat, hb, hGw, hTw⟩ := hrel
      have HRG := Lib.hid hrg
      have HAG := Lib.hid hag
      have HAT := Lib.hid hat
      clear hrg hag hat
      have bW := BW.thenB hb
      by_cases hlt : k < nn
      · skip
        have hlt2 : k < xs.length * xs.length := by rw [← HNN.out]; exact hlt
        obtain ⟨bl, off, rfl, hbl, hc0⟩ := hl k (by rw [HLL.out]; exact hlt)
        have hc := (bW.cell (p := ⟨bl, off + k, none⟩) hbl).trans hc0
        have hqN : k / xs.length < xs.length := (Nat.div_lt_iff_lt_mul hN0).mpr hlt2
        have hrN : k % xs.length < xs.length := Nat.mod_lt _ hN0
        have hnl := mvB_no_l (xs := xs) (ys := ys) (ls := ls) hlt2 hN0
        have HNL := Lib.hid hnl
        have hnr := mvB_no_r (xs := xs) (ys := ys) (ls := ls) hlt2
        have HNR := Lib.hid hnr
        clear hnl hnr
        have HRS := Lib.hid (rngTo_succ xs.length ls k)
        have HGS := Lib.hid (gvT_succ xs.length ls k)
        have HTS := Lib.hid (gtT_succ xs.length ls k)
        have hgn := gvT_nth ls hqN k
        have htn := gtT_nth ls hrN k
        have hxq : nth (gvT xs.length ls k) (k / xs.length) = frM xs.length ls (k / xs.length) k := hgn
        obtain ⟨ga1, ga2⟩ := allB_nth HAG.out (k / xs.length) (by rw [gvT_len]; exact hqN)
        obtain ⟨ta1, ta2⟩ := allB_nth HAT.out (k % xs.length) (by rw [gtT_len]; exact hrN)
        rw [hgn] at ga1 ga2
        rw [htn] at ta1 ta2
        obtain ⟨⟨p1, p2⟩, _⟩ := apA_bd HN.out HM.out K4.out.symm (k / xs.length) (by rw [← K4.out]; exact hqN)
        obtain ⟨⟨r1, r2⟩, _⟩ := apA_bd HM.out HN.out K4.out (k % xs.length) hrN
        obtain ⟨bx, ox, ex, hbx, hcx0⟩ := (hx.below BW) (k % xs.length) hrN
        obtain ⟨by', oy, ey, hby, hcy0⟩ := (hy.below BW) (k / xs.length) (by rw [← K4.out]; exact hqN)
        have hcx := (hb.cell (p := ⟨bx, ox + k % xs.length, none⟩) hbx).trans hcx0
        have hcy := (hb.cell (p := ⟨by', oy + k / xs.length, none⟩) hby).trans hcy0
        have hlt3 : k < ls.length := by rw [HLL.out]; exact hlt
        have HOG := Lib.hid hoG
        have HOT := Lib.hid hoT
        rw [hgn] at HGS
        rw [htn] at HTS
        have HGN := Lib.hid hgn
        have HTN := Lib.hid htn
        clear hgn htn hxq hoG hoT hc0 hcx0 hcy0
        obtain ⟨qq, hqq⟩ : ∃ qq : Nat, qq = k / xs.length := ⟨_, rfl⟩
        obtain ⟨rr, hrr⟩ : ∃ rr : Nat, rr = k % xs.length := ⟨_, rfl⟩
        have hd1 : (k : Int) / (xs.length : Int) = (qq : Int) := by rw [hqq]; rfl
        have hd2 : (k : Int) % (xs.length : Int) = (rr : Int) := by rw [hrr]; rfl
        have hd3 : (k : Int).tdiv (xs.length : Int) = (qq : Int) := by rw [hqq]; rfl
        have hd4 : (k : Int).tmod (xs.length : Int) = (rr : Int) := by rw [hrr]; rfl
        have hq16 : qq < 16 := by omega
        have hr16 : rr < 16 := by omega
        have HQ := Lib.hid hqq
        have HR := Lib.hid hrr
        rw [← hqq] at hqN hcy HGS HNL HGN p1 p2 ga1 ga2
        rw [← hrr] at hrN hcx HTS HNL HTN r1 r2 ta1 ta2
        rw [← hqq, ← hrr] at HNR HRS
        obtain ⟨gv, hgv⟩ : ∃ gv, gv = frM xs.length ls qq k := ⟨_, rfl⟩
        obtain ⟨tv, htv⟩ : ∃ tv, tv = toM xs.length ls rr k := ⟨_, rfl⟩
        rw [← hgv] at HNL HGS HGN ga1 ga2
        rw [← htv] at HNL HTS HTN ta1 ta2
        clear hqq hrr hgv htv
        have hne0 : ¬ (xs.length : Int) = 0 := by omega
        have l0 : w.heap.size < wr.heap.size := b0.lt
        have l1 : w.heap.size + 1 < wr.heap.size := b1.lt
        obtain ⟨P, hP⟩ : ∃ P, P = nth ys qq * sumL xs := ⟨_, rfl⟩
        obtain ⟨R, hR2⟩ : ∃ R, R = nth xs rr * sumL ys := ⟨_, rfl⟩
        rw [← hP] at HNL p1 p2
        rw [← hR2] at HNL r1 r2
        have hw1 : wrap64 (nth ys qq * sumL xs) = P := by rw [← hP]; exact IntWalk.wrap64_in _ ⟨by omega, by omega⟩
        have hw2 : wrap64 (nth xs rr * sumL ys) = R := by rw [← hR2]; exact IntWalk.wrap64_in _ ⟨by omega, by omega⟩
        obtain ⟨U, hU⟩ : ∃ U, U = P - gv := ⟨_, rfl⟩
        obtain ⟨V, hV⟩ : ∃ V, V = R - tv := ⟨_, rfl⟩
        have hw3 : wrap64 (P - gv) = U := by rw [hU]; exact IntWalk.wrap64_in _ ⟨by omega, by omega⟩
        have hw4 : wrap64 (R - tv) = V := by rw [hV]; exact IntWalk.wrap64_in _ ⟨by omega, by omega⟩
        rw [← hU, ← hV] at HNL
        have HBD := Lib.hid (show (0 ≤ gv ∧ 0 ≤ tv) ∧ (P ≤ 1000000000000 ∧ R ≤ 1000000000000) ∧ U = P - gv ∧ V = R - tv from ⟨⟨ga1, ta1⟩, ⟨p2, r2⟩, hU, hV⟩)
        clear hP hR2 hU hV p1 p2 r1 r2 ga1 ga2 ta1 ta2
        cases ex
        cases ey
        obtain ⟨qg1, qg2⟩ := HOG.out.cellAt (gvT_len _ _ _) qq hqN
        obtain ⟨qt1, qt2⟩ := HOT.out.cellAt (gtT_len _ _ _) rr hrN
        rw [HGN.out] at qg1
        rw [HTN.out] at qt1
        have hqy : qq < ys.length := by rw [← K4.out]; exact hqN
        have hxr := ((hx.below BW).below hb).drew
        have hyr := ((hy.below BW).below hb).drew
        have hbd := hb.drew
        have b0d := b0.drew
        have b1d := b1.drew
        have hcxd := cellDrew hcx
        have hcyd := cellDrew hcy
        have qgd := cellDrew qg1
        have qtd := cellDrew qt1
        have hOGd := HOG.out.drew
        have hOTd := HOT.out.drew
        have HD := Lib.hid (And.intro hxr (And.intro hyr (And.intro hbd (And.intro b0d (And.intro b1d (And.intro hcxd (And.intro hcyd (And.intro qgd (And.intro qtd (And.intro hOGd hOTd))))))))))
        have HXL := Lib.hid (And.intro (Nat.lt_of_lt_of_le hbx hb.size) (Nat.lt_of_lt_of_le hby hb.size))
        clear hxr hyr hbd b0d b1d hcxd hcyd qgd qtd hOGd hOTd qg1 qg2 qt1 qt2 hx hy hl
        have b0_0 := b0.c0
        have b0_1 := b0.c1
        go_wp2_with fail
        go_region
        go_wp2_with fail
        clear b0_0 b0_1
        change Code.wp _ _ _ _ wr.drew
        obtain ⟨hxr, hyr, hbd, b0d, b1d, hcxd, hcyd, qgd, qtd, hOGd, hOTd⟩ := HD.out
        obtain ⟨lx, ly⟩ := HXL.out
        have hsz : wr.drew.heap.size = wr.heap.size := rfl
        clear HD HXL HOG HOT b0 b1 hb hcx hcy bW
        rw [← hsz] at lx ly l0 l1 hGw hTw
        clear hsz
        generalize wr.drew = wd at *
        have d0 := fun x : LaterW wd.heap.size wd => x.cell l0 b0d.c0
        have d1 := fun x : LaterW wd.heap.size wd => x.cell l0 b0d.c1
        have d2 := fun x : LaterW wd.heap.size wd => x.cell l1 b1d.c0
        have d3 := fun x : LaterW wd.heap.size wd => x.cell l1 b1d.c1
        have d4 := fun x : LaterW wd.heap.size wd => x.cell lx hcxd
        have d5 := fun x : LaterW wd.heap.size wd => x.cell ly hcyd
        have d6 := fun x : LaterW wd.heap.size wd => x.cell hGw qgd
        have d7 := fun x : LaterW wd.heap.size wd => x.cell hTw qtd
        have HDD := Lib.hid (And.intro hbd (And.intro b0d (And.intro b1d (And.intro hOGd hOTd))))
        clear hbd b0d b1d hOGd hOTd hcxd hcyd qgd qtd
        by_cases hVU : V < U
        · skip
          have HLM : Hid (nth ls k ≤ V → nth ls k ≤ U) := Lib.hid (by intro h; omega)
          have HGE : Hid (V < nth ls k → U < nth ls k ∨ V < nth ls k) := Lib.hid (by intro h; first | exact .inl h | exact .inr h)
          refine wp_region_later (by kernel_rfl) (by kernel_rfl) ?_
          repeat (go_big_quiet_step ((go_at_call 78; exact LaterW.call (wholeOf_any _ _ _ _ _ (LaterW.reads _ (by assumption)) (by omega) (by assumption)))))
          refine wpQuiet_nil ?_
          intro _ hw'
          obtain ⟨x, rfl⟩ := hw'
          have hbx2 := x.below
          generalize x.w = wz at *
          have hzz : wd.heap.size ≤ wz.heap.size := hbx2.size
          clear d0 d1 d2 d3 d4 d5 d6 d7 hVU
          obtain ⟨hbd, b0d, b1d, hOGd, hOTd⟩ := HDD.out
          have HB2 := Lib.hid (hbd.thenB hbx2)
          have HBW := Lib.hid (BW.thenB (hbd.thenB hbx2))
          have HB0 := Lib.hid (b0d.later hbx2)
          have HB1 := Lib.hid (b1d.later hbx2)
          have HG2 := Lib.hid (hOGd.later hbx2)
          have HT2 := Lib.hid (hOTd.later hbx2)
          clear hbd b0d b1d hOGd hOTd HDD hbx2 hxr hyr
          by_cases hneg : nth ls k < 0
          · skip
            have hF : Hid (mvB xs ys ls = false) := Lib.hid (HNR.out (fun h => by have := h.1.1; omega))
            go_wp2
            go_ret
            exact ⟨ret_bool (by rw [hr.out, hF.out]), HBW.out⟩
          have hpos : 0 ≤ nth ls k := by omega
          clear hneg
          by_cases hgt : V < nth ls k
          · skip
            have hF : Hid (mvB xs ys ls = false) := Lib.hid (HNL.out (HGE.out hgt))
            go_wp2
            go_ret
            exact ⟨ret_bool (by rw [hr.out, hF.out]), HBW.out⟩
          have hle : nth ls k ≤ V := by omega
          clear hgt
          obtain ⟨⟨e1, e2⟩, ⟨e3, e4⟩, e5, e6⟩ := HBD.out
          have hoth := HLM.out hle
          have hx1 : gv + nth ls k ≤ 1000000000000 := by omega
          have hx2 : tv + nth ls k ≤ 1000000000000 := by omega
          have HIN : Hid (inB (nth ls k) 0 1000000000000 = true) := Lib.hid (by simp [inB]; omega)
          have ht : (bits BinOp.andNot IntKind.i64 (rr : Int) (qq : Int) != 0) = !subB rr qq := by rw [← sub_test rr qq hr16 hq16]; rfl
          clear e3 e4 e5 e6 hoth
          by_cases hz : nth ls k = 0
          · have hz0 : ¬ 0 < nth ls k := by omega
            have HZ := Lib.hid hz
            clear hz ht
            have HRK : Hid (rngTo xs.length ls (k + 1) = true) := Lib.hid (by rw [HRS.out, HRG.out, HIN.out, Bool.true_and, Bool.true_and]; rw [HZ.out]; simp)
            have HAK : Hid (allB 0 1000000000000 (gvT xs.length ls (k + 1)) = true) := Lib.hid (accM_all (f := fun i => i / xs.length) HAG.out (by show 0 ≤ nth (gvT xs.length ls k) (k / xs.length) + _; rw [← HQ.out, HGN.out]; omega) (by show nth (gvT xs.length ls k) (k / xs.length) + _ ≤ _; rw [← HQ.out, HGN.out]; omega))
            have HTK : Hid (allB 0 1000000000000 (gtT xs.length ls (k + 1)) = true) := Lib.hid (accM_all (f := fun i => i % xs.length) HAT.out (by show 0 ≤ nth (gtT xs.length ls k) (k % xs.length) + _; rw [← HR.out, HTN.out]; omega) (by show nth (gtT xs.length ls k) (k % xs.length) + _ ≤ _; rw [← HR.out, HTN.out]; omega))
            obtain ⟨u1, u2⟩ := HG2.out.cellAt (gvT_len _ _ _) qq hqN
            rw [HGN.out] at u1
            have hG1 := HG2.out.storedAt (gvT_len _ _ _) qq (gv + nth ls k)
            rw [← HGS.out] at hG1
            have hT3 := HT2.out.setOther ⟨G, qq, none⟩ (by exact hGT) (.int .i64 (gv + nth ls k))
            have b0n := HB0.out.other ⟨G, qq, none⟩ (by show G ≠ w.heap.size; have := HSZ.out; omega) (.int .i64 (gv + nth ls k))
            have b1n := HB1.out.other ⟨G, qq, none⟩ (by show G ≠ w.heap.size + 1; have := HSZ.out; omega) (.int .i64 (gv + nth ls k))
            have hbn := HB2.out.setCell (p := ⟨G, qq, none⟩) (by exact hGl) (.int .i64 (gv + nth ls k))
            have hsn : (wz.setCell ⟨G, qq, none⟩ (.int .i64 (gv + nth ls k))).heap.size = wz.heap.size := by simp
            have HALL := Lib.hid (And.intro hG1 (And.intro hT3 (And.intro b0n (And.intro b1n (And.intro hbn hsn)))))
            clear hG1 hT3 b0n b1n hbn hsn
            go_upto_region 13 with fail
            generalize wz.setCell ⟨G, qq, none⟩ (.int .i64 (gv + nth ls k)) = wy at *
            obtain ⟨hG1, hT3, b0n, b1n, hbn, hsn⟩ := HALL.out
            obtain ⟨v1, v2⟩ := hT3.cellAt (gtT_len _ _ _) rr hrN
            rw [HTN.out] at v1
            have hT4 := hT3.storedAt (gtT_len _ _ _) rr (tv + nth ls k)
            rw [← HTS.out] at hT4
            have hG5 := hG1.setOther ⟨T, rr, none⟩ (by exact fun h => hGT h.symm) (.int .i64 (tv + nth ls k))
            have b0m := b0n.other ⟨T, rr, none⟩ (by show T ≠ w.heap.size; have := HSZ.out; omega) (.int .i64 (tv + nth ls k))
            have b1m := b1n.other ⟨T, rr, none⟩ (by show T ≠ w.heap.size + 1; have := HSZ.out; omega) (.int .i64 (tv + nth ls k))
            have HAL2 := Lib.hid (And.intro hG5 (And.intro hT4 (And.intro b0m (And.intro b1m (And.intro (hbn.setCell (p := ⟨T, rr, none⟩) (by exact hTl) (.int .i64 (tv + nth ls k))) (And.intro (show G < wy.heap.size by omega) (show T < wy.heap.size by omega)))))))
            clear hG1 hT3 hT4 hG5 b0n b1n b0m b1m hbn hsn HALL u1 u2
            go_upto_region 14 with fail
            iterate 9 go_step
            obtain ⟨y1, y2, y3, y4, y5, y6, y7⟩ := HAL2.out
            refine And.intro ?_ ?_
            · repeat apply Exists.intro
              refine And.intro ?_ rfl
              exact ⟨k + 1, by omega, by go_num, y1, y2, y3, y4, HRK.out, HAK.out, HTK.out, y5, by first | (simpa using y6) | (simp; omega), by first | (simpa using y7) | (simp; omega)⟩
            · show nn - (intOf (.int .i64 ((k : Int) + 1))).toNat < nn - (intOf (.int .i64 (k : Int))).toNat
              simp [intOf]; omega
          have hzp : 0 < nth ls k := by omega
          clear hz
          by_cases hs : subB rr qq = true
          · have HS := Lib.hid hs
            rw [hs] at ht
            clear hs
            have HRK : Hid (rngTo xs.length ls (k + 1) = true) := Lib.hid (by rw [HRS.out, HRG.out, HIN.out, Bool.true_and, Bool.true_and]; rw [HS.out]; rfl)
            have HAK : Hid (allB 0 1000000000000 (gvT xs.length ls (k + 1)) = true) := Lib.hid (accM_all (f := fun i => i / xs.length) HAG.out (by show 0 ≤ nth (gvT xs.length ls k) (k / xs.length) + _; rw [← HQ.out, HGN.out]; omega) (by show nth (gvT xs.length ls k) (k / xs.length) + _ ≤ _; rw [← HQ.out, HGN.out]; omega))
            have HTK : Hid (allB 0 1000000000000 (gtT xs.length ls (k + 1)) = true) := Lib.hid (accM_all (f := fun i => i % xs.length) HAT.out (by show 0 ≤ nth (gtT xs.length ls k) (k % xs.length) + _; rw [← HR.out, HTN.out]; omega) (by show nth (gtT xs.length ls k) (k % xs.length) + _ ≤ _; rw [← HR.out, HTN.out]; omega))
            obtain ⟨u1, u2⟩ := HG2.out.cellAt (gvT_len _ _ _) qq hqN
            rw [HGN.out] at u1
            have hG1 := HG2.out.storedAt (gvT_len _ _ _) qq (gv + nth ls k)
            rw [← HGS.out] at hG1
            have hT3 := HT2.out.setOther ⟨G, qq, none⟩ (by exact hGT) (.int .i64 (gv + nth ls k))
            have b0n := HB0.out.other ⟨G, qq, none⟩ (by show G ≠ w.heap.size; have := HSZ.out; omega) (.int .i64 (gv + nth ls k))
            have b1n := HB1.out.other ⟨G, qq, none⟩ (by show G ≠ w.heap.size + 1; have := HSZ.out; omega) (.int .i64 (gv + nth ls k))
            have hbn := HB2.out.setCell (p := ⟨G, qq, none⟩) (by exact hGl) (.int .i64 (gv + nth ls k))
            have hsn : (wz.setCell ⟨G, qq, none⟩ (.int .i64 (gv + nth ls k))).heap.size = wz.heap.size := by simp
            have HALL := Lib.hid (And.intro hG1 (And.intro hT3 (And.intro b0n (And.intro b1n (And.intro hbn hsn)))))
            clear hG1 hT3 b0n b1n hbn hsn
            go_upto_region 13 with fail
            generalize wz.setCell ⟨G, qq, none⟩ (.int .i64 (gv + nth ls k)) = wy at *
            obtain ⟨hG1, hT3, b0n, b1n, hbn, hsn⟩ := HALL.out
            obtain ⟨v1, v2⟩ := hT3.cellAt (gtT_len _ _ _) rr hrN
            rw [HTN.out] at v1
            have hT4 := hT3.storedAt (gtT_len _ _ _) rr (tv + nth ls k)
            rw [← HTS.out] at hT4
            have hG5 := hG1.setOther ⟨T, rr, none⟩ (by exact fun h => hGT h.symm) (.int .i64 (tv + nth ls k))
            have b0m := b0n.other ⟨T, rr, none⟩ (by show T ≠ w.heap.size; have := HSZ.out; omega) (.int .i64 (tv + nth ls k))
            have b1m := b1n.other ⟨T, rr, none⟩ (by show T ≠ w.heap.size + 1; have := HSZ.out; omega) (.int .i64 (tv + nth ls k))
            have HAL2 := Lib.hid (And.intro hG5 (And.intro hT4 (And.intro b0m (And.intro b1m (And.intro (hbn.setCell (p := ⟨T, rr, none⟩) (by exact hTl) (.int .i64 (tv + nth ls k))) (And.intro (show G < wy.heap.size by omega) (show T < wy.heap.size by omega)))))))
            clear hG1 hT3 hT4 hG5 b0n b1n b0m b1m hbn hsn HALL u1 u2
            go_upto_region 14 with fail
            iterate 9 go_step
            obtain ⟨y1, y2, y3, y4, y5, y6, y7⟩ := HAL2.out
            refine And.intro ?_ ?_
            · repeat apply Exists.intro
              refine And.intro ?_ rfl
              exact ⟨k + 1, by omega, by go_num, y1, y2, y3, y4, HRK.out, HAK.out, HTK.out, y5, by first | (simpa using y6) | (simp; omega), by first | (simpa using y7) | (simp; omega)⟩
            · show nn - (intOf (.int .i64 ((k : Int) + 1))).toNat < nn - (intOf (.int .i64 (k : Int))).toNat
              simp [intOf]; omega
          · replace hs : subB rr qq = false := by simpa using hs
            have HS := Lib.hid hs
            have HZP := Lib.hid hzp
            rw [hs] at ht
            clear hs
            have hF : Hid (mvB xs ys ls = false) := Lib.hid (HNR.out (fun h => h.2.elim (fun h3 => by rw [HS.out] at h3; cases h3) (fun h3 => by have := HZP.out; omega)))
            go_wp2
            go_ret
            exact ⟨ret_bool (by rw [hr.out, hF.out]), HBW.out⟩
        · skip
          have HLM : Hid (nth ls k ≤ U → nth ls k ≤ V) := Lib.hid (by intro h; omega)
          have HGE : Hid (U < nth ls k → U < nth ls k ∨ V < nth ls k) := Lib.hid (by intro h; first | exact .inl h | exact .inr h)
          refine wp_region_later (by kernel_rfl) (by kernel_rfl) ?_
          repeat (go_big_quiet_step ((go_at_call 78; exact LaterW.call (wholeOf_any _ _ _ _ _ (LaterW.reads _ (by assumption)) (by omega) (by assumption)))))
          refine wpQuiet_nil ?_
          intro _ hw'
          obtain ⟨x, rfl⟩ := hw'
          have hbx2 := x.below
          generalize x.w = wz at *
          have hzz : wd.heap.size ≤ wz.heap.size := hbx2.size
          clear d0 d1 d2 d3 d4 d5 d6 d7 hVU
          obtain ⟨hbd, b0d, b1d, hOGd, hOTd⟩ := HDD.out
          have HB2 := Lib.hid (hbd.thenB hbx2)
          have HBW := Lib.hid (BW.thenB (hbd.thenB hbx2))
          have HB0 := Lib.hid (b0d.later hbx2)
          have HB1 := Lib.hid (b1d.later hbx2)
          have HG2 := Lib.hid (hOGd.later hbx2)
          have HT2 := Lib.hid (hOTd.later hbx2)
          clear hbd b0d b1d hOGd hOTd HDD hbx2 hxr hyr
          by_cases hneg : nth ls k < 0
          · skip
            have hF : Hid (mvB xs ys ls = false) := Lib.hid (HNR.out (fun h => by have := h.1.1; omega))
            go_wp2
            go_ret
            exact ⟨ret_bool (by rw [hr.out, hF.out]), HBW.out⟩
          have hpos : 0 ≤ nth ls k := by omega
          clear hneg
          by_cases hgt : U < nth ls k
          · skip
            have hF : Hid (mvB xs ys ls = false) := Lib.hid (HNL.out (HGE.out hgt))
            go_wp2
            go_ret
            exact ⟨ret_bool (by rw [hr.out, hF.out]), HBW.out⟩
          have hle : nth ls k ≤ U := by omega
          clear hgt
          obtain ⟨⟨e1, e2⟩, ⟨e3, e4⟩, e5, e6⟩ := HBD.out
          have hoth := HLM.out hle
          have hx1 : gv + nth ls k ≤ 1000000000000 := by omega
          have hx2 : tv + nth ls k ≤ 1000000000000 := by omega
          have HIN : Hid (inB (nth ls k) 0 1000000000000 = true) := Lib.hid (by simp [inB]; omega)
          have ht : (bits BinOp.andNot IntKind.i64 (rr : Int) (qq : Int) != 0) = !subB rr qq := by rw [← sub_test rr qq hr16 hq16]; rfl
          clear e3 e4 e5 e6 hoth
          by_cases hz : nth ls k = 0
          · have hz0 : ¬ 0 < nth ls k := by omega
            have HZ := Lib.hid hz
            clear hz ht
            have HRK : Hid (rngTo xs.length ls (k + 1) = true) := Lib.hid (by rw [HRS.out, HRG.out, HIN.out, Bool.true_and, Bool.true_and]; rw [HZ.out]; simp)
            have HAK : Hid (allB 0 1000000000000 (gvT xs.length ls (k + 1)) = true) := Lib.hid (accM_all (f := fun i => i / xs.length) HAG.out (by show 0 ≤ nth (gvT xs.length ls k) (k / xs.length) + _; rw [← HQ.out, HGN.out]; omega) (by show nth (gvT xs.length ls k) (k / xs.length) + _ ≤ _; rw [← HQ.out, HGN.out]; omega))
            have HTK : Hid (allB 0 1000000000000 (gtT xs.length ls (k + 1)) = true) := Lib.hid (accM_all (f := fun i => i % xs.length) HAT.out (by show 0 ≤ nth (gtT xs.length ls k) (k % xs.length) + _; rw [← HR.out, HTN.out]; omega) (by show nth (gtT xs.length ls k) (k % xs.length) + _ ≤ _; rw [← HR.out, HTN.out]; omega))
            obtain ⟨u1, u2⟩ := HG2.out.cellAt (gvT_len _ _ _) qq hqN
            rw [HGN.out] at u1
            have hG1 := HG2.out.storedAt (gvT_len _ _ _) qq (gv + nth ls k)
            rw [← HGS.out] at hG1
            have hT3 := HT2.out.setOther ⟨G, qq, none⟩ (by exact hGT) (.int .i64 (gv + nth ls k))
            have b0n := HB0.out.other ⟨G, qq, none⟩ (by show G ≠ w.heap.size; have := HSZ.out; omega) (.int .i64 (gv + nth ls k))
            have b1n := HB1.out.other ⟨G, qq, none⟩ (by show G ≠ w.heap.size + 1; have := HSZ.out; omega) (.int .i64 (gv + nth ls k))
            have hbn := HB2.out.setCell (p := ⟨G, qq, none⟩) (by exact hGl) (.int .i64 (gv + nth ls k))
            have hsn : (wz.setCell ⟨G, qq, none⟩ (.int .i64 (gv + nth ls k))).heap.size = wz.heap.size := by simp
            have HALL := Lib.hid (And.intro hG1 (And.intro hT3 (And.intro b0n (And.intro b1n (And.intro hbn hsn)))))
            clear hG1 hT3 b0n b1n hbn hsn
            go_upto_region 13 with fail
            generalize wz.setCell ⟨G, qq, none⟩ (.int .i64 (gv + nth ls k)) = wy at *
            obtain ⟨hG1, hT3, b0n, b1n, hbn, hsn⟩ := HALL.out
            obtain ⟨v1, v2⟩ := hT3.cellAt (gtT_len _ _ _) rr hrN
            rw [HTN.out] at v1
            have hT4 := hT3.storedAt (gtT_len _ _ _) rr (tv + nth ls k)
            rw [← HTS.out] at hT4
            have hG5 := hG1.setOther ⟨T, rr, none⟩ (by exact fun h => hGT h.symm) (.int .i64 (tv + nth ls k))
            have b0m := b0n.other ⟨T, rr, none⟩ (by show T ≠ w.heap.size; have := HSZ.out; omega) (.int .i64 (tv + nth ls k))
            have b1m := b1n.other ⟨T, rr, none⟩ (by show T ≠ w.heap.size + 1; have := HSZ.out; omega) (.int .i64 (tv + nth ls k))
            have HAL2 := Lib.hid (And.intro hG5 (And.intro hT4 (And.intro b0m (And.intro b1m (And.intro (hbn.setCell (p := ⟨T, rr, none⟩) (by exact hTl) (.int .i64 (tv + nth ls k))) (And.intro (show G < wy.heap.size by omega) (show T < wy.heap.size by omega)))))))
            clear hG1 hT3 hT4 hG5 b0n b1n b0m b1m hbn hsn HALL u1 u2
            go_upto_region 14 with fail
            iterate 9 go_step
            obtain ⟨y1, y2, y3, y4, y5, y6, y7⟩ := HAL2.out
            refine And.intro ?_ ?_
            · repeat apply Exists.intro
              refine And.intro ?_ rfl
              exact ⟨k + 1, by omega, by go_num, y1, y2, y3, y4, HRK.out, HAK.out, HTK.out, y5, by first | (simpa using y6) | (simp; omega), by first | (simpa using y7) | (simp; omega)⟩
            · show nn - (intOf (.int .i64 ((k : Int) + 1))).toNat < nn - (intOf (.int .i64 (k : Int))).toNat
              simp [intOf]; omega
          have hzp : 0 < nth ls k := by omega
          clear hz
          by_cases hs : subB rr qq = true
          · have HS := Lib.hid hs
            rw [hs] at ht
            clear hs
            have HRK : Hid (rngTo xs.length ls (k + 1) = true) := Lib.hid (by rw [HRS.out, HRG.out, HIN.out, Bool.true_and, Bool.true_and]; rw [HS.out]; rfl)
            have HAK : Hid (allB 0 1000000000000 (gvT xs.length ls (k + 1)) = true) := Lib.hid (accM_all (f := fun i => i / xs.length) HAG.out (by show 0 ≤ nth (gvT xs.length ls k) (k / xs.length) + _; rw [← HQ.out, HGN.out]; omega) (by show nth (gvT xs.length ls k) (k / xs.length) + _ ≤ _; rw [← HQ.out, HGN.out]; omega))
            have HTK : Hid (allB 0 1000000000000 (gtT xs.length ls (k + 1)) = true) := Lib.hid (accM_all (f := fun i => i % xs.length) HAT.out (by show 0 ≤ nth (gtT xs.length ls k) (k % xs.length) + _; rw [← HR.out, HTN.out]; omega) (by show nth (gtT xs.length ls k) (k % xs.length) + _ ≤ _; rw [← HR.out, HTN.out]; omega))
            obtain ⟨u1, u2⟩ := HG2.out.cellAt (gvT_len _ _ _) qq hqN
            rw [HGN.out] at u1
            have hG1 := HG2.out.storedAt (gvT_len _ _ _) qq (gv + nth ls k)
            rw [← HGS.out] at hG1
            have hT3 := HT2.out.setOther ⟨G, qq, none⟩ (by exact hGT) (.int .i64 (gv + nth ls k))
            have b0n := HB0.out.other ⟨G, qq, none⟩ (by show G ≠ w.heap.size; have := HSZ.out; omega) (.int .i64 (gv + nth ls k))
            have b1n := HB1.out.other ⟨G, qq, none⟩ (by show G ≠ w.heap.size + 1; have := HSZ.out; omega) (.int .i64 (gv + nth ls k))
            have hbn := HB2.out.setCell (p := ⟨G, qq, none⟩) (by exact hGl) (.int .i64 (gv + nth ls k))
            have hsn : (wz.setCell ⟨G, qq, none⟩ (.int .i64 (gv + nth ls k))).heap.size = wz.heap.size := by simp
            have HALL := Lib.hid (And.intro hG1 (And.intro hT3 (And.intro b0n (And.intro b1n (And.intro hbn hsn)))))
            clear hG1 hT3 b0n b1n hbn hsn
            go_upto_region 13 with fail
            generalize wz.setCell ⟨G, qq, none⟩ (.int .i64 (gv + nth ls k)) = wy at *
            obtain ⟨hG1, hT3, b0n, b1n, hbn, hsn⟩ := HALL.out
            obtain ⟨v1, v2⟩ := hT3.cellAt (gtT_len _ _ _) rr hrN
            rw [HTN.out] at v1
            have hT4 := hT3.storedAt (gtT_len _ _ _) rr (tv + nth ls k)
            rw [← HTS.out] at hT4
            have hG5 := hG1.setOther ⟨T, rr, none⟩ (by exact fun h => hGT h.symm) (.int .i64 (tv + nth ls k))
            have b0m := b0n.other ⟨T, rr, none⟩ (by show T ≠ w.heap.size; have := HSZ.out; omega) (.int .i64 (tv + nth ls k))
            have b1m := b1n.other ⟨T, rr, none⟩ (by show T ≠ w.heap.size + 1; have := HSZ.out; omega) (.int .i64 (tv + nth ls k))
            have HAL2 := Lib.hid (And.intro hG5 (And.intro hT4 (And.intro b0m (And.intro b1m (And.intro (hbn.setCell (p := ⟨T, rr, none⟩) (by exact hTl) (.int .i64 (tv + nth ls k))) (And.intro (show G < wy.heap.size by omega) (show T < wy.heap.size by omega)))))))
            clear hG1 hT3 hT4 hG5 b0n b1n b0m b1m hbn hsn HALL u1 u2
            go_upto_region 14 with fail
            iterate 9 go_step
            obtain ⟨y1, y2, y3, y4, y5, y6, y7⟩ := HAL2.out
            refine And.intro ?_ ?_
            · repeat apply Exists.intro
              refine And.intro ?_ rfl
              exact ⟨k + 1, by omega, by go_num, y1, y2, y3, y4, HRK.out, HAK.out, HTK.out, y5, by first | (simpa using y6) | (simp; omega), by first | (simpa using y7) | (simp; omega)⟩
            · show nn - (intOf (.int .i64 ((k : Int) + 1))).toNat < nn - (intOf (.int .i64 (k : Int))).toNat
              simp [intOf]; omega
          · replace hs : subB rr qq = false := by simpa using hs
            have HS := Lib.hid hs
            have HZP := Lib.hid hzp
            rw [hs] at ht
            clear hs
            have hF : Hid (mvB xs ys ls = false) := Lib.hid (HNR.out (fun h => h.2.elim (fun h3 => by rw [HS.out] at h3; cases h3) (fun h3 => by have := HZP.out; omega)))
            go_wp2
            go_ret
            exact ⟨ret_bool (by rw [hr.out, hF.out]), HBW.out⟩
      · have hkn : k = nn := by omega
        have hge : ¬ k < ls.length := by rw [HLL.out]; omega
        subst hkn
        have HOG := Lib.hid hoG
        have HOT := Lib.hid hoT
        have hNs : (xs.length : Int) ≤ 16 := by omega
        clear hoG hoT hl
        have b0_0 := b0.c0
        have b0_1 := b0.c1
        go_wp2_with fail
        clear b0_0 b0_1
        have B0 := b0
        have B1 := b1
        have BW2 := bW
        go_loopw [112] (fun i wr2 => ∃ a : Nat, a ≤ xs.length ∧ i = .int .i64 a ∧ eqTo xs ys ls a = true ∧ Below wr.heap.size wr wr2) (fun i _ => xs.length - (intOf i).toNat)
        case atStart => exact ⟨0, Nat.zero_le _, rfl, rfl, Below.refl _ _⟩
        case round =>
          clear b0 b1 bW
          obtain ⟨a, ha, rfl, heq, hb2⟩ := hrel
          have HEQ := Lib.hid heq
          clear heq
          have b0 := B0.later hb2
          have b1 := B1.later hb2
          have bW := BW2.thenB hb2
          by_cases hla : a < xs.length
          · skip
            have HES := Lib.hid (eqTo_succ xs ys ls a)
            have hne := mvB_no_e (xs := xs) (ys := ys) (ls := ls) hla
            have HNE := Lib.hid hne
            clear hne
            rw [← HNN.out] at HES HNE
            obtain ⟨qg1, qg2⟩ := (HOG.out.later hb2).cellAt (gvT_len _ _ _) a hla
            obtain ⟨qt1, qt2⟩ := (HOT.out.later hb2).cellAt (gtT_len _ _ _) a hla
            rw [gvT_nth ls hla] at qg1
            rw [gtT_nth ls hla] at qt1
            have hgG : G < wr.heap.size := by have := hb2.size; omega
            have htT : T < wr.heap.size := by have := hb2.size; omega
            obtain ⟨⟨p1, p2⟩, _⟩ := apA_bd HN.out HM.out K4.out.symm a (by rw [← K4.out]; exact hla)
            obtain ⟨⟨r1, r2⟩, _⟩ := apA_bd HM.out HN.out K4.out a hla
            obtain ⟨bx, ox, ex, hbx, hcx⟩ := ((hx.below BW2).below hb2) a hla
            obtain ⟨by', oy, ey, hby, hcy⟩ := ((hy.below BW2).below hb2) a (by rw [← K4.out]; exact hla)
            have hay : a < ys.length := by rw [← K4.out]; exact hla
            cases ex
            cases ey
            have hxr := hx.below bW
            have hyr := hy.below bW
            obtain ⟨P, hP⟩ : ∃ P, P = nth ys a * sumL xs := ⟨_, rfl⟩
            obtain ⟨R, hR2⟩ : ∃ R, R = nth xs a * sumL ys := ⟨_, rfl⟩
            rw [← hP] at HES HNE p1 p2
            rw [← hR2] at HES HNE r1 r2
            have hP0 : nth ys a * sumL xs = P := hP.symm
            have hP0 := Lib.hid hP0
            have hw1 : wrap64 (nth ys a * sumL xs) = P := by rw [← hP]; exact IntWalk.wrap64_in _ ⟨by omega, by omega⟩
            have hw2 : wrap64 (nth xs a * sumL ys) = R := by rw [← hR2]; exact IntWalk.wrap64_in _ ⟨by omega, by omega⟩
            have hw3 : IntKind.i64.wrap (nth ys a * sumL xs) = P := by rw [← hP]; exact IntWalk.i64_in _ ⟨by omega, by omega⟩
            have hw4 : IntKind.i64.wrap (nth xs a * sumL ys) = R := by rw [← hR2]; exact IntWalk.i64_in _ ⟨by omega, by omega⟩
            obtain ⟨gv, hgv⟩ : ∃ gv, gv = frM xs.length ls a k := ⟨_, rfl⟩
            obtain ⟨tv, htv⟩ : ∃ tv, tv = toM xs.length ls a k := ⟨_, rfl⟩
            rw [← hgv] at HES HNE qg1
            rw [← htv] at HES HNE qt1
            clear hP hR2 hgv htv p1 p2 r1 r2 hx hy
            have hsb := hb2.size
            have b0_0 := b0.c0
            have b0_1 := b0.c1
            have b1_0 := b1.c0
            have b1_1 := b1.c1
            clear qg2 qt2 B0 B1 b0 b1
            by_cases h3 : gv = P
            rotate_left
            · have H3 := Lib.hid h3
              have h3b : (gv != P) = true := by simp [h3]
              clear h3
              have lt0 := World.block_lt_of_cell? _ _ b0_0
              have lt1 := World.block_lt_of_cell? _ _ b0_1
              have lt2 := World.block_lt_of_cell? _ _ b1_0
              have lt3 := World.block_lt_of_cell? _ _ b1_1
              have lt4 := World.block_lt_of_cell? _ _ hcx
              have lt5 := World.block_lt_of_cell? _ _ hcy
              have lt6 := World.block_lt_of_cell? _ _ qg1
              have lt7 := World.block_lt_of_cell? _ _ qt1
              have d0 := fun x : LaterW wr.heap.size wr => x.cell lt0 b0_0
              have d1 := fun x : LaterW wr.heap.size wr => x.cell lt1 b0_1
              have d2 := fun x : LaterW wr.heap.size wr => x.cell lt2 b1_0
              have d3 := fun x : LaterW wr.heap.size wr => x.cell lt3 b1_1
              have d4 := fun x : LaterW wr.heap.size wr => x.cell lt4 hcx
              have d5 := fun x : LaterW wr.heap.size wr => x.cell lt5 hcy
              have d6 := fun x : LaterW wr.heap.size wr => x.cell lt6 qg1
              have d7 := fun x : LaterW wr.heap.size wr => x.cell lt7 qt1
              go_wp2_with fail
              refine wp_region_later (by kernel_rfl) (by kernel_rfl) ?_
              repeat (go_big_quiet_step ((go_at_call 78; exact LaterW.call (wholeOf_any _ _ _ _ _ (LaterW.reads _ (by assumption)) (by omega) (by assumption)))))
              refine wpQuiet_nil ?_
              intro _ hw'
              obtain ⟨x, rfl⟩ := hw'
              have bX := bW.thenB x.below
              clear d0 lt0 d1 lt1 d2 lt2 d3 lt3 d4 lt4 d5 lt5 d6 lt6 d7 lt7
              have hF : Hid (mvB xs ys ls = false) := Lib.hid (HNE.out (fun h => H3.out h.1))
              go_wp2
              go_ret
              exact ⟨ret_bool (by rw [hr.out, hF.out]), bX⟩
            have H3 := Lib.hid h3
            have h3b : (gv != P) = false := by simp [h3]
            clear h3
            by_cases h4 : tv = R
            rotate_left
            · have H4 := Lib.hid h4
              have h4b : (tv != R) = true := by simp [h4]
              clear h4
              have lt0 := World.block_lt_of_cell? _ _ b0_0
              have lt1 := World.block_lt_of_cell? _ _ b0_1
              have lt2 := World.block_lt_of_cell? _ _ b1_0
              have lt3 := World.block_lt_of_cell? _ _ b1_1
              have lt4 := World.block_lt_of_cell? _ _ hcx
              have lt5 := World.block_lt_of_cell? _ _ hcy
              have lt6 := World.block_lt_of_cell? _ _ qg1
              have lt7 := World.block_lt_of_cell? _ _ qt1
              have d0 := fun x : LaterW wr.heap.size wr => x.cell lt0 b0_0
              have d1 := fun x : LaterW wr.heap.size wr => x.cell lt1 b0_1
              have d2 := fun x : LaterW wr.heap.size wr => x.cell lt2 b1_0
              have d3 := fun x : LaterW wr.heap.size wr => x.cell lt3 b1_1
              have d4 := fun x : LaterW wr.heap.size wr => x.cell lt4 hcx
              have d5 := fun x : LaterW wr.heap.size wr => x.cell lt5 hcy
              have d6 := fun x : LaterW wr.heap.size wr => x.cell lt6 qg1
              have d7 := fun x : LaterW wr.heap.size wr => x.cell lt7 qt1
              go_wp2_with fail
              refine wp_region_later (by kernel_rfl) (by kernel_rfl) ?_
              repeat (go_big_quiet_step ((go_at_call 78; exact LaterW.call (wholeOf_any _ _ _ _ _ (LaterW.reads _ (by assumption)) (by omega) (by assumption)))))
              refine wpQuiet_nil ?_
              intro _ hw'
              obtain ⟨x, rfl⟩ := hw'
              have bX := bW.thenB x.below
              clear d0 lt0 d1 lt1 d2 lt2 d3 lt3 d4 lt4 d5 lt5 d6 lt6 d7 lt7
              have hF : Hid (mvB xs ys ls = false) := Lib.hid (HNE.out (fun h => H4.out h.2))
              go_wp2
              go_ret
              exact ⟨ret_bool (by rw [hr.out, hF.out]), bX⟩
            have H4 := Lib.hid h4
            have h4b : (tv != R) = false := by simp [h4]
            clear h4
            have HT3 : Hid (eqTo xs ys ls (a + 1) = true) := Lib.hid (by rw [HES.out, HEQ.out, H3.out, H4.out]; simp)
            have hsb2 := hb2
            have lt0 := World.block_lt_of_cell? _ _ b0_0
            have lt1 := World.block_lt_of_cell? _ _ b0_1
            have lt2 := World.block_lt_of_cell? _ _ b1_0
            have lt3 := World.block_lt_of_cell? _ _ b1_1
            have lt4 := World.block_lt_of_cell? _ _ hcx
            have lt5 := World.block_lt_of_cell? _ _ hcy
            have lt6 := World.block_lt_of_cell? _ _ qg1
            have lt7 := World.block_lt_of_cell? _ _ qt1
            have d0 := fun x : LaterW wr.heap.size wr => x.cell lt0 b0_0
            have d1 := fun x : LaterW wr.heap.size wr => x.cell lt1 b0_1
            have d2 := fun x : LaterW wr.heap.size wr => x.cell lt2 b1_0
            have d3 := fun x : LaterW wr.heap.size wr => x.cell lt3 b1_1
            have d4 := fun x : LaterW wr.heap.size wr => x.cell lt4 hcx
            have d5 := fun x : LaterW wr.heap.size wr => x.cell lt5 hcy
            have d6 := fun x : LaterW wr.heap.size wr => x.cell lt6 qg1
            have d7 := fun x : LaterW wr.heap.size wr => x.cell lt7 qt1
            go_wp2_with fail
            refine wp_region_later (by kernel_rfl) (by kernel_rfl) ?_
            repeat (go_big_quiet_step ((go_at_call 78; exact LaterW.call (wholeOf_any _ _ _ _ _ (LaterW.reads _ (by assumption)) (by omega) (by assumption)))))
            refine wpQuiet_nil ?_
            intro _ hw'
            obtain ⟨x, rfl⟩ := hw'
            have bX := bW.thenB x.below
            clear d0 lt0 d1 lt1 d2 lt2 d3 lt3 d4 lt4 d5 lt5 d6 lt6 d7 lt7
            have hbx2 := hsb2.thenB x.below
            go_wp2
            exact ⟨⟨a + 1, by omega, by go_num, HT3.out, hbx2⟩, by simp [intOf]; omega⟩
          · have haN : a = xs.length := by omega
            subst haN
            have hT : Hid (mvB xs ys ls = true) := Lib.hid (by rw [mvB, HEQ.out, ← HNN.out, HRG.out]; rfl)
            go_wp2
            go_ret
            exact ⟨ret_bool (by rw [hr.out, hT.out]), bW⟩
  · skip
    obtain ⟨-, hoA, hbA, hlA⟩ := HMF.out w1.drew
    obtain ⟨-, hoB, hbB, hlB⟩ := HMF.out (mf w1.drew)
    replace hbA := undrew hbA
    replace hoA := (hoA w1.heap.size (Nat.le_refl _)).later hbB
    replace hlA : w1.heap.size < (mf w1.drew).heap.size := hlA
    replace hoB := hoB w1.heap.size (Nat.le_of_lt hlA)
    replace b0 := (b0.later hbA).later hbB
    replace b1 := (b1.later hbA).later hbB
    replace bW := (bW.thenB hbA).thenB hbB
    have hbAB := hbA.thenB hbB
    have BW := BW0
    clear HMF hrun hbA hbB
    generalize mf w1.drew = wA at *
    generalize mf wA = wB at *
    clear hwn hne
    try generalize wrap64 ((xs.length : Int) * (xs.length : Int)) = q29 at *
    obtain ⟨G, hG⟩ : ∃ G : Nat, G = wA.heap.size := ⟨_, rfl⟩
    obtain ⟨T, hT⟩ : ∃ T : Nat, T = w1.heap.size := ⟨_, rfl⟩
    have hoG : Own w1.heap.size wB (.slice (some ⟨G, 0, none⟩) xs.length xs.length) (zeros xs.length) := by rw [hG]; first | exact hoA | exact hoB
    have hoT : Own w1.heap.size wB (.slice (some ⟨T, 0, none⟩) xs.length xs.length) (zeros xs.length) := by rw [hT]; first | exact hoA | exact hoB
    have hGT : G ≠ T := by omega
    have hGl : w1.heap.size ≤ G := by omega
    have hTl : w1.heap.size ≤ T := by omega
    have hGw : G < wB.heap.size := by omega
    have hTw : T < wB.heap.size := by omega
    rw [← hG, ← hT]
    clear hG hT hoA hoB hlA hlB
    have hMR := HM.out.all
    have hNR := HN.out.all
    have hly : ys.length ≤ 16 := by rw [← K4.out]; exact hl16
    have hAB0 : allB 0 1000000000000 (zeros xs.length) = true := allB_wider (zeros_all _) (by omega) (by omega)
    have b0_0 := b0.c0
    have b0_1 := b0.c1
    go_wp2_with fail
    clear b0_0 b0_1
    go_loopw [41] (fun i wr => ∃ k : Nat, k ≤ nn ∧ i = .int .i64 k ∧ Own w1.heap.size wr (.slice (some ⟨G, 0, none⟩) xs.length xs.length) (gvT xs.length ls k) ∧ Own w1.heap.size wr (.slice (some ⟨T, 0, none⟩) xs.length xs.length) (gtT xs.length ls k) ∧ VarInv wr w.heap.size s (.slice p xs.length c) ∧ VarInv wr (w.heap.size + 1) t (.slice q ys.length d) ∧ rngTo xs.length ls k = true ∧ allB 0 1000000000000 (gvT xs.length ls k) = true ∧ allB 0 1000000000000 (gtT xs.length ls k) = true ∧ Below w1.heap.size w1 wr ∧ G < wr.heap.size ∧ T < wr.heap.size) (fun i _ => nn - (intOf i).toNat)
    case atStart => exact ⟨0, Nat.zero_le _, rfl, hoG, hoT, b0, b1, rfl, hAB0, hAB0, hbAB, hGw, hTw⟩
    case round =>
      clear hoG hoT b0 b1 hbAB hGw hTw bW
      obtain ⟨k, hk, rfl, hoG, hoT, b0, b1, hrg, hag, hat, hb, hGw, hTw⟩ := hrel
      have HRG := Lib.hid hrg
      have HAG := Lib.hid hag
      have HAT := Lib.hid hat
      clear hrg hag hat
      have bW := BW.thenB hb
      by_cases hlt : k < nn
      · skip
        have hlt2 : k < xs.length * xs.length := by rw [← HNN.out]; exact hlt
        obtain ⟨bl, off, rfl, hbl, hc0⟩ := hl k (by rw [HLL.out]; exact hlt)
        have hc := (bW.cell (p := ⟨bl, off + k, none⟩) hbl).trans hc0
        have hqN : k / xs.length < xs.length := (Nat.div_lt_iff_lt_mul hN0).mpr hlt2
        have hrN : k % xs.length < xs.length := Nat.mod_lt _ hN0
        have hnl := mvB_no_l (xs := xs) (ys := ys) (ls := ls) hlt2 hN0
        have HNL := Lib.hid hnl
        have hnr := mvB_no_r (xs := xs) (ys := ys) (ls := ls) hlt2
        have HNR := Lib.hid hnr
        clear hnl hnr
        have HRS := Lib.hid (rngTo_succ xs.length ls k)
        have HGS := Lib.hid (gvT_succ xs.length ls k)
        have HTS := Lib.hid (gtT_succ xs.length ls k)
        have hgn := gvT_nth ls hqN k
        have htn := gtT_nth ls hrN k
        have hxq : nth (gvT xs.length ls k) (k / xs.length) = frM xs.length ls (k / xs.length) k := hgn
        obtain ⟨ga1, ga2⟩ := allB_nth HAG.out (k / xs.length) (by rw [gvT_len]; exact hqN)
        obtain ⟨ta1, ta2⟩ := allB_nth HAT.out (k % xs.length) (by rw [gtT_len]; exact hrN)
        rw [hgn] at ga1 ga2
        rw [htn] at ta1 ta2
        obtain ⟨⟨p1, p2⟩, _⟩ := apA_bd HN.out HM.out K4.out.symm (k / xs.length) (by rw [← K4.out]; exact hqN)
        obtain ⟨⟨r1, r2⟩, _⟩ := apA_bd HM.out HN.out K4.out (k % xs.length) hrN
        obtain ⟨bx, ox, ex, hbx, hcx0⟩ := (hx.below BW) (k % xs.length) hrN
        obtain ⟨by', oy, ey, hby, hcy0⟩ := (hy.below BW) (k / xs.length) (by rw [← K4.out]; exact hqN)
        have hcx := (hb.cell (p := ⟨bx, ox + k % xs.length, none⟩) hbx).trans hcx0
        have hcy := (hb.cell (p := ⟨by', oy + k / xs.length, none⟩) hby).trans hcy0
        have hlt3 : k < ls.length := by rw [HLL.out]; exact hlt
        have HOG := Lib.hid hoG
        have HOT := Lib.hid hoT
        rw [hgn] at HGS
        rw [htn] at HTS
        have HGN := Lib.hid hgn
        have HTN := Lib.hid htn
        clear hgn htn hxq hoG hoT hc0 hcx0 hcy0
        obtain ⟨qq, hqq⟩ : ∃ qq : Nat, qq = k / xs.length := ⟨_, rfl⟩
        obtain ⟨rr, hrr⟩ : ∃ rr : Nat, rr = k % xs.length := ⟨_, rfl⟩
        have hd1 : (k : Int) / (xs.length : Int) = (qq : Int) := by rw [hqq]; rfl
        have hd2 : (k : Int) % (xs.length : Int) = (rr : Int) := by rw [hrr]; rfl
        have hd3 : (k : Int).tdiv (xs.length : Int) = (qq : Int) := by rw [hqq]; rfl
        have hd4 : (k : Int).tmod (xs.length : Int) = (rr : Int) := by rw [hrr]; rfl
        have hq16 : qq < 16 := by omega
        have hr16 : rr < 16 := by omega
        have HQ := Lib.hid hqq
        have HR := Lib.hid hrr
        rw [← hqq] at hqN hcy HGS HNL HGN p1 p2 ga1 ga2
        rw [← hrr] at hrN hcx HTS HNL HTN r1 r2 ta1 ta2
        rw [← hqq, ← hrr] at HNR HRS
        obtain ⟨gv, hgv⟩ : ∃ gv, gv = frM xs.length ls qq k := ⟨_, rfl⟩
        obtain ⟨tv, htv⟩ : ∃ tv, tv = toM xs.length ls rr k := ⟨_, rfl⟩
        rw [← hgv] at HNL HGS HGN ga1 ga2
        rw [← htv] at HNL HTS HTN ta1 ta2
        clear hqq hrr hgv htv
        have hne0 : ¬ (xs.length : Int) = 0 := by omega
        have l0 : w.heap.size < wr.heap.size := b0.lt
        have l1 : w.heap.size + 1 < wr.heap.size := b1.lt
        obtain ⟨P, hP⟩ : ∃ P, P = nth ys qq * sumL xs := ⟨_, rfl⟩
        obtain ⟨R, hR2⟩ : ∃ R, R = nth xs rr * sumL ys := ⟨_, rfl⟩
        rw [← hP] at HNL p1 p2
        rw [← hR2] at HNL r1 r2
        have hw1 : wrap64 (nth ys qq * sumL xs) = P := by rw [← hP]; exact IntWalk.wrap64_in _ ⟨by omega, by omega⟩
        have hw2 : wrap64 (nth xs rr * sumL ys) = R := by rw [← hR2]; exact IntWalk.wrap64_in _ ⟨by omega, by omega⟩
        obtain ⟨U, hU⟩ : ∃ U, U = P - gv := ⟨_, rfl⟩
        obtain ⟨V, hV⟩ : ∃ V, V = R - tv := ⟨_, rfl⟩
        have hw3 : wrap64 (P - gv) = U := by rw [hU]; exact IntWalk.wrap64_in _ ⟨by omega, by omega⟩
        have hw4 : wrap64 (R - tv) = V := by rw [hV]; exact IntWalk.wrap64_in _ ⟨by omega, by omega⟩
        rw [← hU, ← hV] at HNL
        have HBD := Lib.hid (show (0 ≤ gv ∧ 0 ≤ tv) ∧ (P ≤ 1000000000000 ∧ R ≤ 1000000000000) ∧ U = P - gv ∧ V = R - tv from ⟨⟨ga1, ta1⟩, ⟨p2, r2⟩, hU, hV⟩)
        clear hP hR2 hU hV p1 p2 r1 r2 ga1 ga2 ta1 ta2
        cases ex
        cases ey
        obtain ⟨qg1, qg2⟩ := HOG.out.cellAt (gvT_len _ _ _) qq hqN
        obtain ⟨qt1, qt2⟩ := HOT.out.cellAt (gtT_len _ _ _) rr hrN
        rw [HGN.out] at qg1
        rw [HTN.out] at qt1
        have hqy : qq < ys.length := by rw [← K4.out]; exact hqN
        have hxr := ((hx.below BW).below hb).drew
        have hyr := ((hy.below BW).below hb).drew
        have hbd := hb.drew
        have b0d := b0.drew
        have b1d := b1.drew
        have hcxd := cellDrew hcx
        have hcyd := cellDrew hcy
        have qgd := cellDrew qg1
        have qtd := cellDrew qt1
        have hOGd := HOG.out.drew
        have hOTd := HOT.out.drew
        have HD := Lib.hid (And.intro hxr (And.intro hyr (And.intro hbd (And.intro b0d (And.intro b1d (And.intro hcxd (And.intro hcyd (And.intro qgd (And.intro qtd (And.intro hOGd hOTd))))))))))
        have HXL := Lib.hid (And.intro (Nat.lt_of_lt_of_le hbx hb.size) (Nat.lt_of_lt_of_le hby hb.size))
        clear hxr hyr hbd b0d b1d hcxd hcyd qgd qtd hOGd hOTd qg1 qg2 qt1 qt2 hx hy hl
        have b0_0 := b0.c0
        have b0_1 := b0.c1
        go_wp2_with fail
        go_region
        go_wp2_with fail
        clear b0_0 b0_1
        change Code.wp _ _ _ _ wr.drew
        obtain ⟨hxr, hyr, hbd, b0d, b1d, hcxd, hcyd, qgd, qtd, hOGd, hOTd⟩ := HD.out
        obtain ⟨lx, ly⟩ := HXL.out
        have hsz : wr.drew.heap.size = wr.heap.size := rfl
        clear HD HXL HOG HOT b0 b1 hb hcx hcy bW
        rw [← hsz] at lx ly l0 l1 hGw hTw
        clear hsz
        generalize wr.drew = wd at *
        have d0 := fun x : LaterW wd.heap.size wd => x.cell l0 b0d.c0
        have d1 := fun x : LaterW wd.heap.size wd => x.cell l0 b0d.c1
        have d2 := fun x : LaterW wd.heap.size wd => x.cell l1 b1d.c0
        have d3 := fun x : LaterW wd.heap.size wd => x.cell l1 b1d.c1
        have d4 := fun x : LaterW wd.heap.size wd => x.cell lx hcxd
        have d5 := fun x : LaterW wd.heap.size wd => x.cell ly hcyd
        have d6 := fun x : LaterW wd.heap.size wd => x.cell hGw qgd
        have d7 := fun x : LaterW wd.heap.size wd => x.cell hTw qtd
        have HDD := Lib.hid (And.intro hbd (And.intro b0d (And.intro b1d (And.intro hOGd hOTd))))
        clear hbd b0d b1d hOGd hOTd hcxd hcyd qgd qtd
        by_cases hVU : V < U
        · skip
          have HLM : Hid (nth ls k ≤ V → nth ls k ≤ U) := Lib.hid (by intro h; omega)
          have HGE : Hid (V < nth ls k → U < nth ls k ∨ V < nth ls k) := Lib.hid (by intro h; first | exact .inl h | exact .inr h)
          refine wp_region_later (by kernel_rfl) (by kernel_rfl) ?_
          repeat (go_big_quiet_step ((go_at_call 78; exact LaterW.call (wholeOf_any _ _ _ _ _ (LaterW.reads _ (by assumption)) (by omega) (by assumption)))))
          refine wpQuiet_nil ?_
          intro _ hw'
          obtain ⟨x, rfl⟩ := hw'
          have hbx2 := x.below
          generalize x.w = wz at *
          have hzz : wd.heap.size ≤ wz.heap.size := hbx2.size
          clear d0 d1 d2 d3 d4 d5 d6 d7 hVU
          obtain ⟨hbd, b0d, b1d, hOGd, hOTd⟩ := HDD.out
          have HB2 := Lib.hid (hbd.thenB hbx2)
          have HBW := Lib.hid (BW.thenB (hbd.thenB hbx2))
          have HB0 := Lib.hid (b0d.later hbx2)
          have HB1 := Lib.hid (b1d.later hbx2)
          have HG2 := Lib.hid (hOGd.later hbx2)
          have HT2 := Lib.hid (hOTd.later hbx2)
          clear hbd b0d b1d hOGd hOTd HDD hbx2 hxr hyr
          by_cases hneg : nth ls k < 0
          · skip
            have hF : Hid (mvB xs ys ls = false) := Lib.hid (HNR.out (fun h => by have := h.1.1; omega))
            go_wp2
            go_ret
            exact ⟨ret_bool (by rw [hr.out, hF.out]), HBW.out⟩
          have hpos : 0 ≤ nth ls k := by omega
          clear hneg
          by_cases hgt : V < nth ls k
          · skip
            have hF : Hid (mvB xs ys ls = false) := Lib.hid (HNL.out (HGE.out hgt))
            go_wp2
            go_ret
            exact ⟨ret_bool (by rw [hr.out, hF.out]), HBW.out⟩
          have hle : nth ls k ≤ V := by omega
          clear hgt
          obtain ⟨⟨e1, e2⟩, ⟨e3, e4⟩, e5, e6⟩ := HBD.out
          have hoth := HLM.out hle
          have hx1 : gv + nth ls k ≤ 1000000000000 := by omega
          have hx2 : tv + nth ls k ≤ 1000000000000 := by omega
          have HIN : Hid (inB (nth ls k) 0 1000000000000 = true) := Lib.hid (by simp [inB]; omega)
          have ht : (bits BinOp.andNot IntKind.i64 (rr : Int) (qq : Int) != 0) = !subB rr qq := by rw [← sub_test rr qq hr16 hq16]; rfl
          clear e3 e4 e5 e6 hoth
          by_cases hz : nth ls k = 0
          · have hz0 : ¬ 0 < nth ls k := by omega
            have HZ := Lib.hid hz
            clear hz ht
            have HRK : Hid (rngTo xs.length ls (k + 1) = true) := Lib.hid (by rw [HRS.out, HRG.out, HIN.out, Bool.true_and, Bool.true_and]; rw [HZ.out]; simp)
            have HAK : Hid (allB 0 1000000000000 (gvT xs.length ls (k + 1)) = true) := Lib.hid (accM_all (f := fun i => i / xs.length) HAG.out (by show 0 ≤ nth (gvT xs.length ls k) (k / xs.length) + _; rw [← HQ.out, HGN.out]; omega) (by show nth (gvT xs.length ls k) (k / xs.length) + _ ≤ _; rw [← HQ.out, HGN.out]; omega))
            have HTK : Hid (allB 0 1000000000000 (gtT xs.length ls (k + 1)) = true) := Lib.hid (accM_all (f := fun i => i % xs.length) HAT.out (by show 0 ≤ nth (gtT xs.length ls k) (k % xs.length) + _; rw [← HR.out, HTN.out]; omega) (by show nth (gtT xs.length ls k) (k % xs.length) + _ ≤ _; rw [← HR.out, HTN.out]; omega))
            obtain ⟨u1, u2⟩ := HG2.out.cellAt (gvT_len _ _ _) qq hqN
            rw [HGN.out] at u1
            have hG1 := HG2.out.storedAt (gvT_len _ _ _) qq (gv + nth ls k)
            rw [← HGS.out] at hG1
            have hT3 := HT2.out.setOther ⟨G, qq, none⟩ (by exact hGT) (.int .i64 (gv + nth ls k))
            have b0n := HB0.out.other ⟨G, qq, none⟩ (by show G ≠ w.heap.size; have := HSZ.out; omega) (.int .i64 (gv + nth ls k))
            have b1n := HB1.out.other ⟨G, qq, none⟩ (by show G ≠ w.heap.size + 1; have := HSZ.out; omega) (.int .i64 (gv + nth ls k))
            have hbn := HB2.out.setCell (p := ⟨G, qq, none⟩) (by exact hGl) (.int .i64 (gv + nth ls k))
            have hsn : (wz.setCell ⟨G, qq, none⟩ (.int .i64 (gv + nth ls k))).heap.size = wz.heap.size := by simp
            have HALL := Lib.hid (And.intro hG1 (And.intro hT3 (And.intro b0n (And.intro b1n (And.intro hbn hsn)))))
            clear hG1 hT3 b0n b1n hbn hsn
            go_upto_region 13 with fail
            generalize wz.setCell ⟨G, qq, none⟩ (.int .i64 (gv + nth ls k)) = wy at *
            obtain ⟨hG1, hT3, b0n, b1n, hbn, hsn⟩ := HALL.out
            obtain ⟨v1, v2⟩ := hT3.cellAt (gtT_len _ _ _) rr hrN
            rw [HTN.out] at v1
            have hT4 := hT3.storedAt (gtT_len _ _ _) rr (tv + nth ls k)
            rw [← HTS.out] at hT4
            have hG5 := hG1.setOther ⟨T, rr, none⟩ (by exact fun h => hGT h.symm) (.int .i64 (tv + nth ls k))
            have b0m := b0n.other ⟨T, rr, none⟩ (by show T ≠ w.heap.size; have := HSZ.out; omega) (.int .i64 (tv + nth ls k))
            have b1m := b1n.other ⟨T, rr, none⟩ (by show T ≠ w.heap.size + 1; have := HSZ.out; omega) (.int .i64 (tv + nth ls k))
            have HAL2 := Lib.hid (And.intro hG5 (And.intro hT4 (And.intro b0m (And.intro b1m (And.intro (hbn.setCell (p := ⟨T, rr, none⟩) (by exact hTl) (.int .i64 (tv + nth ls k))) (And.intro (show G < wy.heap.size by omega) (show T < wy.heap.size by omega)))))))
            clear hG1 hT3 hT4 hG5 b0n b1n b0m b1m hbn hsn HALL u1 u2
            go_upto_region 14 with fail
            iterate 9 go_step
            obtain ⟨y1, y2, y3, y4, y5, y6, y7⟩ := HAL2.out
            refine And.intro ?_ ?_
            · repeat apply Exists.intro
              refine And.intro ?_ rfl
              exact ⟨k + 1, by omega, by go_num, y1, y2, y3, y4, HRK.out, HAK.out, HTK.out, y5, by first | (simpa using y6) | (simp; omega), by first | (simpa using y7) | (simp; omega)⟩
            · show nn - (intOf (.int .i64 ((k : Int) + 1))).toNat < nn - (intOf (.int .i64 (k : Int))).toNat
              simp [intOf]; omega
          have hzp : 0 < nth ls k := by omega
          clear hz
          by_cases hs : subB rr qq = true
          · have HS := Lib.hid hs
            rw [hs] at ht
            clear hs
            have HRK : Hid (rngTo xs.length ls (k + 1) = true) := Lib.hid (by rw [HRS.out, HRG.out, HIN.out, Bool.true_and, Bool.true_and]; rw [HS.out]; rfl)
            have HAK : Hid (allB 0 1000000000000 (gvT xs.length ls (k + 1)) = true) := Lib.hid (accM_all (f := fun i => i / xs.length) HAG.out (by show 0 ≤ nth (gvT xs.length ls k) (k / xs.length) + _; rw [← HQ.out, HGN.out]; omega) (by show nth (gvT xs.length ls k) (k / xs.length) + _ ≤ _; rw [← HQ.out, HGN.out]; omega))
            have HTK : Hid (allB 0 1000000000000 (gtT xs.length ls (k + 1)) = true) := Lib.hid (accM_all (f := fun i => i % xs.length) HAT.out (by show 0 ≤ nth (gtT xs.length ls k) (k % xs.length) + _; rw [← HR.out, HTN.out]; omega) (by show nth (gtT xs.length ls k) (k % xs.length) + _ ≤ _; rw [← HR.out, HTN.out]; omega))
            obtain ⟨u1, u2⟩ := HG2.out.cellAt (gvT_len _ _ _) qq hqN
            rw [HGN.out] at u1
            have hG1 := HG2.out.storedAt (gvT_len _ _ _) qq (gv + nth ls k)
            rw [← HGS.out] at hG1
            have hT3 := HT2.out.setOther ⟨G, qq, none⟩ (by exact hGT) (.int .i64 (gv + nth ls k))
            have b0n := HB0.out.other ⟨G, qq, none⟩ (by show G ≠ w.heap.size; have := HSZ.out; omega) (.int .i64 (gv + nth ls k))
            have b1n := HB1.out.other ⟨G, qq, none⟩ (by show G ≠ w.heap.size + 1; have := HSZ.out; omega) (.int .i64 (gv + nth ls k))
            have hbn := HB2.out.setCell (p := ⟨G, qq, none⟩) (by exact hGl) (.int .i64 (gv + nth ls k))
            have hsn : (wz.setCell ⟨G, qq, none⟩ (.int .i64 (gv + nth ls k))).heap.size = wz.heap.size := by simp
            have HALL := Lib.hid (And.intro hG1 (And.intro hT3 (And.intro b0n (And.intro b1n (And.intro hbn hsn)))))
            clear hG1 hT3 b0n b1n hbn hsn
            go_upto_region 13 with fail
            generalize wz.setCell ⟨G, qq, none⟩ (.int .i64 (gv + nth ls k)) = wy at *
            obtain ⟨hG1, hT3, b0n, b1n, hbn, hsn⟩ := HALL.out
            obtain ⟨v1, v2⟩ := hT3.cellAt (gtT_len _ _ _) rr hrN
            rw [HTN.out] at v1
            have hT4 := hT3.storedAt (gtT_len _ _ _) rr (tv + nth ls k)
            rw [← HTS.out] at hT4
            have hG5 := hG1.setOther ⟨T, rr, none⟩ (by exact fun h => hGT h.symm) (.int .i64 (tv + nth ls k))
            have b0m := b0n.other ⟨T, rr, none⟩ (by show T ≠ w.heap.size; have := HSZ.out; omega) (.int .i64 (tv + nth ls k))
            have b1m := b1n.other ⟨T, rr, none⟩ (by show T ≠ w.heap.size + 1; have := HSZ.out; omega) (.int .i64 (tv + nth ls k))
            have HAL2 := Lib.hid (And.intro hG5 (And.intro hT4 (And.intro b0m (And.intro b1m (And.intro (hbn.setCell (p := ⟨T, rr, none⟩) (by exact hTl) (.int .i64 (tv + nth ls k))) (And.intro (show G < wy.heap.size by omega) (show T < wy.heap.size by omega)))))))
            clear hG1 hT3 hT4 hG5 b0n b1n b0m b1m hbn hsn HALL u1 u2
            go_upto_region 14 with fail
            iterate 9 go_step
            obtain ⟨y1, y2, y3, y4, y5, y6, y7⟩ := HAL2.out
            refine And.intro ?_ ?_
            · repeat apply Exists.intro
              refine And.intro ?_ rfl
              exact ⟨k + 1, by omega, by go_num, y1, y2, y3, y4, HRK.out, HAK.out, HTK.out, y5, by first | (simpa using y6) | (simp; omega), by first | (simpa using y7) | (simp; omega)⟩
            · show nn - (intOf (.int .i64 ((k : Int) + 1))).toNat < nn - (intOf (.int .i64 (k : Int))).toNat
              simp [intOf]; omega
          · replace hs : subB rr qq = false := by simpa using hs
            have HS := Lib.hid hs
            have HZP := Lib.hid hzp
            rw [hs] at ht
            clear hs
            have hF : Hid (mvB xs ys ls = false) := Lib.hid (HNR.out (fun h => h.2.elim (fun h3 => by rw [HS.out] at h3; cases h3) (fun h3 => by have := HZP.out; omega)))
            go_wp2
            go_ret
            exact ⟨ret_bool (by rw [hr.out, hF.out]), HBW.out⟩
        · skip
          have HLM : Hid (nth ls k ≤ U → nth ls k ≤ V) := Lib.hid (by intro h; omega)
          have HGE : Hid (U < nth ls k → U < nth ls k ∨ V < nth ls k) := Lib.hid (by intro h; first | exact .inl h | exact .inr h)
          refine wp_region_later (by kernel_rfl) (by kernel_rfl) ?_
          repeat (go_big_quiet_step ((go_at_call 78; exact LaterW.call (wholeOf_any _ _ _ _ _ (LaterW.reads _ (by assumption)) (by omega) (by assumption)))))
          refine wpQuiet_nil ?_
          intro _ hw'
          obtain ⟨x, rfl⟩ := hw'
          have hbx2 := x.below
          generalize x.w = wz at *
          have hzz : wd.heap.size ≤ wz.heap.size := hbx2.size
          clear d0 d1 d2 d3 d4 d5 d6 d7 hVU
          obtain ⟨hbd, b0d, b1d, hOGd, hOTd⟩ := HDD.out
          have HB2 := Lib.hid (hbd.thenB hbx2)
          have HBW := Lib.hid (BW.thenB (hbd.thenB hbx2))
          have HB0 := Lib.hid (b0d.later hbx2)
          have HB1 := Lib.hid (b1d.later hbx2)
          have HG2 := Lib.hid (hOGd.later hbx2)
          have HT2 := Lib.hid (hOTd.later hbx2)
          clear hbd b0d b1d hOGd hOTd HDD hbx2 hxr hyr
          by_cases hneg : nth ls k < 0
          · skip
            have hF : Hid (mvB xs ys ls = false) := Lib.hid (HNR.out (fun h => by have := h.1.1; omega))
            go_wp2
            go_ret
            exact ⟨ret_bool (by rw [hr.out, hF.out]), HBW.out⟩
          have hpos : 0 ≤ nth ls k := by omega
          clear hneg
          by_cases hgt : U < nth ls k
          · skip
            have hF : Hid (mvB xs ys ls = false) := Lib.hid (HNL.out (HGE.out hgt))
            go_wp2
            go_ret
            exact ⟨ret_bool (by rw [hr.out, hF.out]), HBW.out⟩
          have hle : nth ls k ≤ U := by omega
          clear hgt
          obtain ⟨⟨e1, e2⟩, ⟨e3, e4⟩, e5, e6⟩ := HBD.out
          have hoth := HLM.out hle
          have hx1 : gv + nth ls k ≤ 1000000000000 := by omega
          have hx2 : tv + nth ls k ≤ 1000000000000 := by omega
          have HIN : Hid (inB (nth ls k) 0 1000000000000 = true) := Lib.hid (by simp [inB]; omega)
          have ht : (bits BinOp.andNot IntKind.i64 (rr : Int) (qq : Int) != 0) = !subB rr qq := by rw [← sub_test rr qq hr16 hq16]; rfl
          clear e3 e4 e5 e6 hoth
          by_cases hz : nth ls k = 0
          · have hz0 : ¬ 0 < nth ls k := by omega
            have HZ := Lib.hid hz
            clear hz ht
            have HRK : Hid (rngTo xs.length ls (k + 1) = true) := Lib.hid (by rw [HRS.out, HRG.out, HIN.out, Bool.true_and, Bool.true_and]; rw [HZ.out]; simp)
            have HAK : Hid (allB 0 1000000000000 (gvT xs.length ls (k + 1)) = true) := Lib.hid (accM_all (f := fun i => i / xs.length) HAG.out (by show 0 ≤ nth (gvT xs.length ls k) (k / xs.length) + _; rw [← HQ.out, HGN.out]; omega) (by show nth (gvT xs.length ls k) (k / xs.length) + _ ≤ _; rw [← HQ.out, HGN.out]; omega))
            have HTK : Hid (allB 0 1000000000000 (gtT xs.length ls (k + 1)) = true) := Lib.hid (accM_all (f := fun i => i % xs.length) HAT.out (by show 0 ≤ nth (gtT xs.length ls k) (k % xs.length) + _; rw [← HR.out, HTN.out]; omega) (by show nth (gtT xs.length ls k) (k % xs.length) + _ ≤ _; rw [← HR.out, HTN.out]; omega))
            obtain ⟨u1, u2⟩ := HG2.out.cellAt (gvT_len _ _ _) qq hqN
            rw [HGN.out] at u1
            have hG1 := HG2.out.storedAt (gvT_len _ _ _) qq (gv + nth ls k)
            rw [← HGS.out] at hG1
            have hT3 := HT2.out.setOther ⟨G, qq, none⟩ (by exact hGT) (.int .i64 (gv + nth ls k))
            have b0n := HB0.out.other ⟨G, qq, none⟩ (by show G ≠ w.heap.size; have := HSZ.out; omega) (.int .i64 (gv + nth ls k))
            have b1n := HB1.out.other ⟨G, qq, none⟩ (by show G ≠ w.heap.size + 1; have := HSZ.out; omega) (.int .i64 (gv + nth ls k))
            have hbn := HB2.out.setCell (p := ⟨G, qq, none⟩) (by exact hGl) (.int .i64 (gv + nth ls k))
            have hsn : (wz.setCell ⟨G, qq, none⟩ (.int .i64 (gv + nth ls k))).heap.size = wz.heap.size := by simp
            have HALL := Lib.hid (And.intro hG1 (And.intro hT3 (And.intro b0n (And.intro b1n (And.intro hbn hsn)))))
            clear hG1 hT3 b0n b1n hbn hsn
            go_upto_region 13 with fail
            generalize wz.setCell ⟨G, qq, none⟩ (.int .i64 (gv + nth ls k)) = wy at *
            obtain ⟨hG1, hT3, b0n, b1n, hbn, hsn⟩ := HALL.out
            obtain ⟨v1, v2⟩ := hT3.cellAt (gtT_len _ _ _) rr hrN
            rw [HTN.out] at v1
            have hT4 := hT3.storedAt (gtT_len _ _ _) rr (tv + nth ls k)
            rw [← HTS.out] at hT4
            have hG5 := hG1.setOther ⟨T, rr, none⟩ (by exact fun h => hGT h.symm) (.int .i64 (tv + nth ls k))
            have b0m := b0n.other ⟨T, rr, none⟩ (by show T ≠ w.heap.size; have := HSZ.out; omega) (.int .i64 (tv + nth ls k))
            have b1m := b1n.other ⟨T, rr, none⟩ (by show T ≠ w.heap.size + 1; have := HSZ.out; omega) (.int .i64 (tv + nth ls k))
            have HAL2 := Lib.hid (And.intro hG5 (And.intro hT4 (And.intro b0m (And.intro b1m (And.intro (hbn.setCell (p := ⟨T, rr, none⟩) (by exact hTl) (.int .i64 (tv + nth ls k))) (And.intro (show G < wy.heap.size by omega) (show T < wy.heap.size by omega)))))))
            clear hG1 hT3 hT4 hG5 b0n b1n b0m b1m hbn hsn HALL u1 u2
            go_upto_region 14 with fail
            iterate 9 go_step
            obtain ⟨y1, y2, y3, y4, y5, y6, y7⟩ := HAL2.out
            refine And.intro ?_ ?_
            · repeat apply Exists.intro
              refine And.intro ?_ rfl
              exact ⟨k + 1, by omega, by go_num, y1, y2, y3, y4, HRK.out, HAK.out, HTK.out, y5, by first | (simpa using y6) | (simp; omega), by first | (simpa using y7) | (simp; omega)⟩
            · show nn - (intOf (.int .i64 ((k : Int) + 1))).toNat < nn - (intOf (.int .i64 (k : Int))).toNat
              simp [intOf]; omega
          have hzp : 0 < nth ls k := by omega
          clear hz
          by_cases hs : subB rr qq = true
          · have HS := Lib.hid hs
            rw [hs] at ht
            clear hs
            have HRK : Hid (rngTo xs.length ls (k + 1) = true) := Lib.hid (by rw [HRS.out, HRG.out, HIN.out, Bool.true_and, Bool.true_and]; rw [HS.out]; rfl)
            have HAK : Hid (allB 0 1000000000000 (gvT xs.length ls (k + 1)) = true) := Lib.hid (accM_all (f := fun i => i / xs.length) HAG.out (by show 0 ≤ nth (gvT xs.length ls k) (k / xs.length) + _; rw [← HQ.out, HGN.out]; omega) (by show nth (gvT xs.length ls k) (k / xs.length) + _ ≤ _; rw [← HQ.out, HGN.out]; omega))
            have HTK : Hid (allB 0 1000000000000 (gtT xs.length ls (k + 1)) = true) := Lib.hid (accM_all (f := fun i => i % xs.length) HAT.out (by show 0 ≤ nth (gtT xs.length ls k) (k % xs.length) + _; rw [← HR.out, HTN.out]; omega) (by show nth (gtT xs.length ls k) (k % xs.length) + _ ≤ _; rw [← HR.out, HTN.out]; omega))
            obtain ⟨u1, u2⟩ := HG2.out.cellAt (gvT_len _ _ _) qq hqN
            rw [HGN.out] at u1
            have hG1 := HG2.out.storedAt (gvT_len _ _ _) qq (gv + nth ls k)
            rw [← HGS.out] at hG1
            have hT3 := HT2.out.setOther ⟨G, qq, none⟩ (by exact hGT) (.int .i64 (gv + nth ls k))
            have b0n := HB0.out.other ⟨G, qq, none⟩ (by show G ≠ w.heap.size; have := HSZ.out; omega) (.int .i64 (gv + nth ls k))
            have b1n := HB1.out.other ⟨G, qq, none⟩ (by show G ≠ w.heap.size + 1; have := HSZ.out; omega) (.int .i64 (gv + nth ls k))
            have hbn := HB2.out.setCell (p := ⟨G, qq, none⟩) (by exact hGl) (.int .i64 (gv + nth ls k))
            have hsn : (wz.setCell ⟨G, qq, none⟩ (.int .i64 (gv + nth ls k))).heap.size = wz.heap.size := by simp
            have HALL := Lib.hid (And.intro hG1 (And.intro hT3 (And.intro b0n (And.intro b1n (And.intro hbn hsn)))))
            clear hG1 hT3 b0n b1n hbn hsn
            go_upto_region 13 with fail
            generalize wz.setCell ⟨G, qq, none⟩ (.int .i64 (gv + nth ls k)) = wy at *
            obtain ⟨hG1, hT3, b0n, b1n, hbn, hsn⟩ := HALL.out
            obtain ⟨v1, v2⟩ := hT3.cellAt (gtT_len _ _ _) rr hrN
            rw [HTN.out] at v1
            have hT4 := hT3.storedAt (gtT_len _ _ _) rr (tv + nth ls k)
            rw [← HTS.out] at hT4
            have hG5 := hG1.setOther ⟨T, rr, none⟩ (by exact fun h => hGT h.symm) (.int .i64 (tv + nth ls k))
            have b0m := b0n.other ⟨T, rr, none⟩ (by show T ≠ w.heap.size; have := HSZ.out; omega) (.int .i64 (tv + nth ls k))
            have b1m := b1n.other ⟨T, rr, none⟩ (by show T ≠ w.heap.size + 1; have := HSZ.out; omega) (.int .i64 (tv + nth ls k))
            have HAL2 := Lib.hid (And.intro hG5 (And.intro hT4 (And.intro b0m (And.intro b1m (And.intro (hbn.setCell (p := ⟨T, rr, none⟩) (by exact hTl) (.int .i64 (tv + nth ls k))) (And.intro (show G < wy.heap.size by omega) (show T < wy.heap.size by omega)))))))
            clear hG1 hT3 hT4 hG5 b0n b1n b0m b1m hbn hsn HALL u1 u2
            go_upto_region 14 with fail
            iterate 9 go_step
            obtain ⟨y1, y2, y3, y4, y5, y6, y7⟩ := HAL2.out
            refine And.intro ?_ ?_
            · repeat apply Exists.intro
              refine And.intro ?_ rfl
              exact ⟨k + 1, by omega, by go_num, y1, y2, y3, y4, HRK.out, HAK.out, HTK.out, y5, by first | (simpa using y6) | (simp; omega), by first | (simpa using y7) | (simp; omega)⟩
            · show nn - (intOf (.int .i64 ((k : Int) + 1))).toNat < nn - (intOf (.int .i64 (k : Int))).toNat
              simp [intOf]; omega
          · replace hs : subB rr qq = false := by simpa using hs
            have HS := Lib.hid hs
            have HZP := Lib.hid hzp
            rw [hs] at ht
            clear hs
            have hF : Hid (mvB xs ys ls = false) := Lib.hid (HNR.out (fun h => h.2.elim (fun h3 => by rw [HS.out] at h3; cases h3) (fun h3 => by have := HZP.out; omega)))
            go_wp2
            go_ret
            exact ⟨ret_bool (by rw [hr.out, hF.out]), HBW.out⟩
      · have hkn : k = nn := by omega
        have hge : ¬ k < ls.length := by rw [HLL.out]; omega
        subst hkn
        have HOG := Lib.hid hoG
        have HOT := Lib.hid hoT
        have hNs : (xs.length : Int) ≤ 16 := by omega
        clear hoG hoT hl
        have b0_0 := b0.c0
        have b0_1 := b0.c1
        go_wp2_with fail
        clear b0_0 b0_1
        have B0 := b0
        have B1 := b1
        have BW2 := bW
        go_loopw [112] (fun i wr2 => ∃ a : Nat, a ≤ xs.length ∧ i = .int .i64 a ∧ eqTo xs ys ls a = true ∧ Below wr.heap.size wr wr2) (fun i _ => xs.length - (intOf i).toNat)
        case atStart => exact ⟨0, Nat.zero_le _, rfl, rfl, Below.refl _ _⟩
        case round =>
          clear b0 b1 bW
          obtain ⟨a, ha, rfl, heq, hb2⟩ := hrel
          have HEQ := Lib.hid heq
          clear heq
          have b0 := B0.later hb2
          have b1 := B1.later hb2
          have bW := BW2.thenB hb2
          by_cases hla : a < xs.length
          · skip
            have HES := Lib.hid (eqTo_succ xs ys ls a)
            have hne := mvB_no_e (xs := xs) (ys := ys) (ls := ls) hla
            have HNE := Lib.hid hne
            clear hne
            rw [← HNN.out] at HES HNE
            obtain ⟨qg1, qg2⟩ := (HOG.out.later hb2).cellAt (gvT_len _ _ _) a hla
            obtain ⟨qt1, qt2⟩ := (HOT.out.later hb2).cellAt (gtT_len _ _ _) a hla
            rw [gvT_nth ls hla] at qg1
            rw [gtT_nth ls hla] at qt1
            have hgG : G < wr.heap.size := by have := hb2.size; omega
            have htT : T < wr.heap.size := by have := hb2.size; omega
            obtain ⟨⟨p1, p2⟩, _⟩ := apA_bd HN.out HM.out K4.out.symm a (by rw [← K4.out]; exact hla)
            obtain ⟨⟨r1, r2⟩, _⟩ := apA_bd HM.out HN.out K4.out a hla
            obtain ⟨bx, ox, ex, hbx, hcx⟩ := ((hx.below BW2).below hb2) a hla
            obtain ⟨by', oy, ey, hby, hcy⟩ := ((hy.below BW2).below hb2) a (by rw [← K4.out]; exact hla)
            have hay : a < ys.length := by rw [← K4.out]; exact hla
            cases ex
            cases ey
            have hxr := hx.below bW
            have hyr := hy.below bW
            obtain ⟨P, hP⟩ : ∃ P, P = nth ys a * sumL xs := ⟨_, rfl⟩
            obtain ⟨R, hR2⟩ : ∃ R, R = nth xs a * sumL ys := ⟨_, rfl⟩
            rw [← hP] at HES HNE p1 p2
            rw [← hR2] at HES HNE r1 r2
            have hP0 : nth ys a * sumL xs = P := hP.symm
            have hP0 := Lib.hid hP0
            have hw1 : wrap64 (nth ys a * sumL xs) = P := by rw [← hP]; exact IntWalk.wrap64_in _ ⟨by omega, by omega⟩
            have hw2 : wrap64 (nth xs a * sumL ys) = R := by rw [← hR2]; exact IntWalk.wrap64_in _ ⟨by omega, by omega⟩
            have hw3 : IntKind.i64.wrap (nth ys a * sumL xs) = P := by rw [← hP]; exact IntWalk.i64_in _ ⟨by omega, by omega⟩
            have hw4 : IntKind.i64.wrap (nth xs a * sumL ys) = R := by rw [← hR2]; exact IntWalk.i64_in _ ⟨by omega, by omega⟩
            obtain ⟨gv, hgv⟩ : ∃ gv, gv = frM xs.length ls a k := ⟨_, rfl⟩
            obtain ⟨tv, htv⟩ : ∃ tv, tv = toM xs.length ls a k := ⟨_, rfl⟩
            rw [← hgv] at HES HNE qg1
            rw [← htv] at HES HNE qt1
            clear hP hR2 hgv htv p1 p2 r1 r2 hx hy
            have hsb := hb2.size
            have b0_0 := b0.c0
            have b0_1 := b0.c1
            have b1_0 := b1.c0
            have b1_1 := b1.c1
            clear qg2 qt2 B0 B1 b0 b1
            by_cases h3 : gv = P
            rotate_left
            · have H3 := Lib.hid h3
              have h3b : (gv != P) = true := by simp [h3]
              clear h3
              have lt0 := World.block_lt_of_cell? _ _ b0_0
              have lt1 := World.block_lt_of_cell? _ _ b0_1
              have lt2 := World.block_lt_of_cell? _ _ b1_0
              have lt3 := World.block_lt_of_cell? _ _ b1_1
              have lt4 := World.block_lt_of_cell? _ _ hcx
              have lt5 := World.block_lt_of_cell? _ _ hcy
              have lt6 := World.block_lt_of_cell? _ _ qg1
              have lt7 := World.block_lt_of_cell? _ _ qt1
              have d0 := fun x : LaterW wr.heap.size wr => x.cell lt0 b0_0
              have d1 := fun x : LaterW wr.heap.size wr => x.cell lt1 b0_1
              have d2 := fun x : LaterW wr.heap.size wr => x.cell lt2 b1_0
              have d3 := fun x : LaterW wr.heap.size wr => x.cell lt3 b1_1
              have d4 := fun x : LaterW wr.heap.size wr => x.cell lt4 hcx
              have d5 := fun x : LaterW wr.heap.size wr => x.cell lt5 hcy
              have d6 := fun x : LaterW wr.heap.size wr => x.cell lt6 qg1
              have d7 := fun x : LaterW wr.heap.size wr => x.cell lt7 qt1
              go_wp2_with fail
              refine wp_region_later (by kernel_rfl) (by kernel_rfl) ?_
              repeat (go_big_quiet_step ((go_at_call 78; exact LaterW.call (wholeOf_any _ _ _ _ _ (LaterW.reads _ (by assumption)) (by omega) (by assumption)))))
              refine wpQuiet_nil ?_
              intro _ hw'
              obtain ⟨x, rfl⟩ := hw'
              have bX := bW.thenB x.below
              clear d0 lt0 d1 lt1 d2 lt2 d3 lt3 d4 lt4 d5 lt5 d6 lt6 d7 lt7
              have hF : Hid (mvB xs ys ls = false) := Lib.hid (HNE.out (fun h => H3.out h.1))
              go_wp2
              go_ret
              exact ⟨ret_bool (by rw [hr.out, hF.out]), bX⟩
            have H3 := Lib.hid h3
            have h3b : (gv != P) = false := by simp [h3]
            clear h3
            by_cases h4 : tv = R
            rotate_left
            · have H4 := Lib.hid h4
              have h4b : (tv != R) = true := by simp [h4]
              clear h4
              have lt0 := World.block_lt_of_cell? _ _ b0_0
              have lt1 := World.block_lt_of_cell? _ _ b0_1
              have lt2 := World.block_lt_of_cell? _ _ b1_0
              have lt3 := World.block_lt_of_cell? _ _ b1_1
              have lt4 := World.block_lt_of_cell? _ _ hcx
              have lt5 := World.block_lt_of_cell? _ _ hcy
              have lt6 := World.block_lt_of_cell? _ _ qg1
              have lt7 := World.block_lt_of_cell? _ _ qt1
              have d0 := fun x : LaterW wr.heap.size wr => x.cell lt0 b0_0
              have d1 := fun x : LaterW wr.heap.size wr => x.cell lt1 b0_1
              have d2 := fun x : LaterW wr.heap.size wr => x.cell lt2 b1_0
              have d3 := fun x : LaterW wr.heap.size wr => x.cell lt3 b1_1
              have d4 := fun x : LaterW wr.heap.size wr => x.cell lt4 hcx
              have d5 := fun x : LaterW wr.heap.size wr => x.cell lt5 hcy
              have d6 := fun x : LaterW wr.heap.size wr => x.cell lt6 qg1
              have d7 := fun x : LaterW wr.heap.size wr => x.cell lt7 qt1
              go_wp2_with fail
              refine wp_region_later (by kernel_rfl) (by kernel_rfl) ?_
              repeat (go_big_quiet_step ((go_at_call 78; exact LaterW.call (wholeOf_any _ _ _ _ _ (LaterW.reads _ (by assumption)) (by omega) (by assumption)))))
              refine wpQuiet_nil ?_
              intro _ hw'
              obtain ⟨x, rfl⟩ := hw'
              have bX := bW.thenB x.below
              clear d0 lt0 d1 lt1 d2 lt2 d3 lt3 d4 lt4 d5 lt5 d6 lt6 d7 lt7
              have hF : Hid (mvB xs ys ls = false) := Lib.hid (HNE.out (fun h => H4.out h.2))
              go_wp2
              go_ret
              exact ⟨ret_bool (by rw [hr.out, hF.out]), bX⟩
            have H4 := Lib.hid h4
            have h4b : (tv != R) = false := by simp [h4]
            clear h4
            have HT3 : Hid (eqTo xs ys ls (a + 1) = true) := Lib.hid (by rw [HES.out, HEQ.out, H3.out, H4.out]; simp)
            have hsb2 := hb2
            have lt0 := World.block_lt_of_cell? _ _ b0_0
            have lt1 := World.block_lt_of_cell? _ _ b0_1
            have lt2 := World.block_lt_of_cell? _ _ b1_0
            have lt3 := World.block_lt_of_cell? _ _ b1_1
            have lt4 := World.block_lt_of_cell? _ _ hcx
            have lt5 := World.block_lt_of_cell? _ _ hcy
            have lt6 := World.block_lt_of_cell? _ _ qg1
            have lt7 := World.block_lt_of_cell? _ _ qt1
            have d0 := fun x : LaterW wr.heap.size wr => x.cell lt0 b0_0
            have d1 := fun x : LaterW wr.heap.size wr => x.cell lt1 b0_1
            have d2 := fun x : LaterW wr.heap.size wr => x.cell lt2 b1_0
            have d3 := fun x : LaterW wr.heap.size wr => x.cell lt3 b1_1
            have d4 := fun x : LaterW wr.heap.size wr => x.cell lt4 hcx
            have d5 := fun x : LaterW wr.heap.size wr => x.cell lt5 hcy
            have d6 := fun x : LaterW wr.heap.size wr => x.cell lt6 qg1
            have d7 := fun x : LaterW wr.heap.size wr => x.cell lt7 qt1
            go_wp2_with fail
            refine wp_region_later (by kernel_rfl) (by kernel_rfl) ?_
            repeat (go_big_quiet_step ((go_at_call 78; exact LaterW.call (wholeOf_any _ _ _ _ _ (LaterW.reads _ (by assumption)) (by omega) (by assumption)))))
            refine wpQuiet_nil ?_
            intro _ hw'
            obtain ⟨x, rfl⟩ := hw'
            have bX := bW.thenB x.below
            clear d0 lt0 d1 lt1 d2 lt2 d3 lt3 d4 lt4 d5 lt5 d6 lt6 d7 lt7
            have hbx2 := hsb2.thenB x.below
            go_wp2
            exact ⟨⟨a + 1, by omega, by go_num, HT3.out, hbx2⟩, by simp [intOf]; omega⟩
          · have haN : a = xs.length := by omega
            subst haN
            have hT : Hid (mvB xs ys ls = true) := Lib.hid (by rw [mvB, HEQ.out, ← HNN.out, HRG.out]; rfl)
            go_wp2
            go_ret
            exact ⟨ret_bool (by rw [hr.out, hT.out]), bW⟩

end Go.Proofs.Ytjmfjgoehicgcaa
