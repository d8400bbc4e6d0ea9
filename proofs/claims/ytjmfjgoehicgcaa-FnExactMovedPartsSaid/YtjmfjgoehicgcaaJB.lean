/- Parts are pushed along a way: the reference. -/
import Derived.Test.YtjmfjgoehicgcaaJB0
set_option linter.unusedVariables false
set_option linter.unusedSimpArgs false
namespace Go.Proofs.Ytjmfjgoehicgcaa
open Go.RowKit

set_option maxHeartbeats 16000000 in
set_option maxRecDepth 100000 in
theorem l8Push_any (B N nn fb lb db cf cl cd : Nat) (Fl lf du : List Int) (w : World) (h16 : N ≤ 16) (hfm : FM B w N nn fb lb db cf cl cd Fl lf du) (G T : Nat) (pf pt : List Int) (hG : Reads w (some ⟨G, 0, none⟩) pf) (hT : Reads w (some ⟨T, 0, none⟩) pt) (hgl : pf.length = N) (htl : pt.length = N)
    (ng : G ≠ fb ∧ G ≠ lb ∧ G ≠ db) (nt : T ≠ fb ∧ T ≠ lb ∧ T ≠ db) (hr : Rchd N (tab N Fl) (nth lf) (nth pf) (nth pt)) (en : Nat) (hen : en < N) (he1 : 0 < nth pt en) (he2 : 0 < nth du en) (hdu : nth du en ≤ 10000000000000) (hlf : ∀ b, b < N → nth lf b ≤ 10000000000000)
    (hF : ∀ b a, b < N → a < N → 0 ≤ tab N Fl b a) (hB : ∀ b, b < N → sm N (fun a => tab N Fl b a) ≤ 10000000000000) :
    Calls Try.prog 95 #[.agg #[.int .i64 (N : Int), .slice (some ⟨fb, 0, none⟩) nn cf, .slice (some ⟨lb, 0, none⟩) N cl, .slice (some ⟨db, 0, none⟩) N cd], .agg #[.slice (some ⟨G, 0, none⟩) N N, .slice (some ⟨T, 0, none⟩) N N], .int .i64 en] w (PushedR B N nn fb lb db cf cl cd Fl lf du en w) := by
  obtain ⟨tg, tc, TT, hrc⟩ := hr.rch
  have hRR : Reached N subO (tab N Fl) (rtR lf) (gvR pt) (gvR pf) tg tc := hrc.R
  have HR := Lib.hid hRR
  have HRC := Lib.hid hrc
  have HF := Lib.hid hF
  have HB := Lib.hid hB
  have HFM := Lib.hid hfm
  have HG := Lib.hid hG
  have HT := Lib.hid hT
  have HGL := Lib.hid hgl
  have HTL := Lib.hid htl
  have HNG := Lib.hid ng
  have HNT := Lib.hid nt
  have HLF := Lib.hid hlf
  obtain ⟨W, hW⟩ : ∃ W : World, W = ((w.alloc (.cells #[.int .i64 (N : Int), .slice (some ⟨fb, 0, none⟩) nn cf, .slice (some ⟨lb, 0, none⟩) N cl, .slice (some ⟨db, 0, none⟩) N cd] 64)).alloc (.cells #[.slice (some ⟨G, 0, none⟩) N N, .slice (some ⟨T, 0, none⟩) N N] 97)).alloc (.cells #[.int .i64 0, .slice none 0 0, .slice none 0 0, .slice none 0 0] 64) := ⟨_, rfl⟩
  have hpm : PM B N nn fb lb db cf cl cd G T w W Fl lf du pf pt := by
    obtain ⟨⟨-, l1⟩, ⟨-, l2⟩, -, l3⟩ := hfm.lts
    have e1 := belowAlloc w (.cells #[.int .i64 (N : Int), .slice (some ⟨fb, 0, none⟩) nn cf, .slice (some ⟨lb, 0, none⟩) N cl, .slice (some ⟨db, 0, none⟩) N cd] 64)
    have e2 := belowAlloc (w.alloc (.cells #[.int .i64 (N : Int), .slice (some ⟨fb, 0, none⟩) nn cf, .slice (some ⟨lb, 0, none⟩) N cl, .slice (some ⟨db, 0, none⟩) N cd] 64)) (.cells #[.slice (some ⟨G, 0, none⟩) N N, .slice (some ⟨T, 0, none⟩) N N] 97)
    have e3 := belowAlloc ((w.alloc (.cells #[.int .i64 (N : Int), .slice (some ⟨fb, 0, none⟩) nn cf, .slice (some ⟨lb, 0, none⟩) N cl, .slice (some ⟨db, 0, none⟩) N cd] 64)).alloc (.cells #[.slice (some ⟨G, 0, none⟩) N N, .slice (some ⟨T, 0, none⟩) N N] 97)) (.cells #[.int .i64 0, .slice none 0 0, .slice none 0 0, .slice none 0 0] 64)
    have b1 := Bx.made w (.int .i64 (N : Int)) (.slice (some ⟨fb, 0, none⟩) nn cf) (.slice (some ⟨lb, 0, none⟩) N cl) (.slice (some ⟨db, 0, none⟩) N cd) 64
    have b3 := Bx.made ((w.alloc (.cells #[.int .i64 (N : Int), .slice (some ⟨fb, 0, none⟩) nn cf, .slice (some ⟨lb, 0, none⟩) N cl, .slice (some ⟨db, 0, none⟩) N cd] 64)).alloc (.cells #[.slice (some ⟨G, 0, none⟩) N N, .slice (some ⟨T, 0, none⟩) N N] 97)) (.int .i64 0) (.slice none 0 0) (.slice none 0 0) (.slice none 0 0) 64
    have f3 := newFroz ((w.alloc (.cells #[.int .i64 (N : Int), .slice (some ⟨fb, 0, none⟩) nn cf, .slice (some ⟨lb, 0, none⟩) N cl, .slice (some ⟨db, 0, none⟩) N cd] 64)).alloc (.cells #[.slice (some ⟨G, 0, none⟩) N N, .slice (some ⟨T, 0, none⟩) N N] 97)) #[.int .i64 0, .slice none 0 0, .slice none 0 0, .slice none 0 0] 64
    have p2 := newCell0 (w.alloc (.cells #[.int .i64 (N : Int), .slice (some ⟨fb, 0, none⟩) nn cf, .slice (some ⟨lb, 0, none⟩) N cl, .slice (some ⟨db, 0, none⟩) N cd] 64)) (.slice (some ⟨G, 0, none⟩) N N) (.slice (some ⟨T, 0, none⟩) N N) 97
    have p3 := newCell1 (w.alloc (.cells #[.int .i64 (N : Int), .slice (some ⟨fb, 0, none⟩) nn cf, .slice (some ⟨lb, 0, none⟩) N cl, .slice (some ⟨db, 0, none⟩) N cd] 64)) (.slice (some ⟨G, 0, none⟩) N N) (.slice (some ⟨T, 0, none⟩) N N) 97
    simp only [allocSz] at b3 f3 p2 p3
    have ex := e1.thenB (e2.thenB e3)
    rw [hW]
    exact ⟨hfm.later ex, (b1.later e2).later e3, cellKeep e3 p2, cellKeep e3 p3, b3, f3, hG.below ex, hT.below ex, Ex3.ofBelow ex, ⟨l1, l2, l3⟩, ng, nt⟩
  have HPM := Lib.hid hpm
  have HW := Lib.hid hW
  clear hpm hW
  clear hrc hRR hF hB hfm hG hT hgl htl ng nt hr hlf
  go_enter Try.func95, Try.ntmps95
  go_upto_region 1 with fail
  rw [← HW.out]
  clear HW
  have hpm := HPM.out
  have c0 := hpm.bx.c0
  have c1 := hpm.bx.c1
  have c2 := hpm.bx.c2
  have c3 := hpm.bx.c3
  have p0 := hpm.p0
  have p1 := hpm.p1
  obtain ⟨d1, d2⟩ := hpm.fm.od.cellAt hpm.fm.dl en hen
  have t1 := rdAt hpm.ot en (by rw [HTL.out]; exact hen)
  obtain ⟨M0, hM0⟩ : ∃ x, x = nth du en := ⟨_, rfl⟩
  rw [← hM0] at d1 he2 hdu
  have hz0 : (0 : Int) ≤ gvR pt en := by show 0 ≤ nth pt en - 1; omega
  obtain ⟨g1, g2, g3, g4⟩ := HR.out.cg en hen hz0
  obtain ⟨be, hbn⟩ := Int.eq_ofNat_of_zero_le hz0
  have hbeN : be < N := by rw [hbn] at g1; omega
  obtain ⟨PT, hPT⟩ : ∃ x, x = nth pt en := ⟨_, rfl⟩
  have hsb : PT - 1 = (be : Int) := by rw [hPT]; exact hbn
  rw [← hPT] at t1
  have hPTb : 1 ≤ PT ∧ PT ≤ 100 := by have := HRC.out.tb2 en hen; rw [hPT]; omega
  have hnz : (en : Int) < (N : Int) := by omega
  have HBN := Lib.hid hbn
  have HM0 := Lib.hid hM0
  clear g1 g2 g3 g4 hbn hPT hM0 hpm he1 HFM HG HT HNG HNT
  go_wp2_with fail
  clear hsb hPTb t1 d1 d2
  go_loop [7, 8, 9] (fun m a b => ∃ (an bn : Nat) (mi : Int), m = .int .i64 mi ∧ a = .int .i64 an ∧ b = .int .i64 bn ∧ bn < N ∧ gvR pt an = (bn : Int) ∧ Most N (tab N Fl) (rtR lf) (gvR pt) (gvR pf) en M0 an mi ∧ (∀ x, RootAt (rtR lf) (gvR pt) (gvR pf) an x → RootAt (rtR lf) (gvR pt) (gvR pf) en x)) (fun _ a _ => tc (intOf a).toNat)
  case atStart => exact ⟨en, be, M0, rfl, rfl, rfl, hbeN, HBN.out, Most.first hen hz0 (by omega), fun _ h => h⟩
  case round =>
    obtain ⟨an, bn, mi, rfl, rfl, rfl, hbN, hgv, hmo, hra⟩ := hrel
    have HRA := Lib.hid hra
    clear hra
    have han := hmo.an
    have hlo := hmo.lo
    have hhi := hmo.hi
    have hpm := HPM.out
    have q1 := rdAt hpm.og bn (by rw [HGL.out]; exact hbN)
    have hpb := HRC.out.pb bn hbN
    have HGV := Lib.hid hgv
    have HMO := Lib.hid hmo
    have hbz : (bn : Int) < (N : Int) := by omega
    have hanz : (an : Int) < (N : Int) := by omega
    clear hgv hmo
    by_cases hr : 0 < nth lf bn
    rotate_left
    · have hne : nth pf bn ≠ 100 := fun e => hr ((HRC.out.root bn hbN).1 e)
      obtain ⟨PF, hPF⟩ : ∃ x, x = nth pf bn := ⟨_, rfl⟩
      have hrt : rtR lf (gvR pt an).toNat = false := by rw [HGV.out]; exact decide_eq_false hr
      obtain ⟨g1, g2, g3, g4⟩ := HR.out.cg an han HMO.out.ar
      have g5 := g4 hrt
      rw [HGV.out, Int.toNat_natCast] at g5
      obtain ⟨k1, k2, k3, k4, k5⟩ := HR.out.cb bn hbN (decide_eq_false hr) g5
      obtain ⟨gc, hgc⟩ := Int.eq_ofNat_of_zero_le g5
      rw [hgc, Int.toNat_natCast] at k2 k3 k4 k5
      have hgcN : gc < N := by rw [hgc] at k1; omega
      have hsc : PF - 1 = (gc : Int) := by rw [hPF]; exact hgc
      have hst := HMO.out.step HR.out hrt
      rw [HGV.out, Int.toNat_natCast, hgc, Int.toNat_natCast] at hst
      have hra2 : Hid (∀ x, RootAt (rtR lf) (gvR pt) (gvR pf) gc x → RootAt (rtR lf) (gvR pt) (gvR pf) en x) := Lib.hid (fun x hx => HRA.out x (.step hrt (by rw [HGV.out, Int.toNat_natCast, hgc, Int.toNat_natCast]; exact hx)))
      obtain ⟨nb, i1, hnb, hi1, hilt, HWX⟩ := idx_facts h16 hgcN hbN
      obtain ⟨V, hV⟩ : ∃ x, x = tab N Fl bn gc := ⟨_, rfl⟩
      have hix : i1 < nn := by rw [hpm.fm.hn]; exact hilt
      obtain ⟨v1, v2⟩ := hpm.fm.of.cellAt hpm.fm.fl i1 hix
      have hVn : nth Fl i1 = V := by rw [hV, hi1, tab_at hbN hgcN]
      rw [hVn] at v1
      rw [← hV] at hst
      rw [← hPF] at q1 hne hpb
      have hPFz : PF < 100 := by omega
      have t1 := rdAt hpm.ot gc (by rw [HTL.out]; exact hgcN)
      obtain ⟨b2, hb2⟩ := Int.eq_ofNat_of_zero_le k2
      obtain ⟨l1, l2, l3, l4⟩ := HR.out.cg gc hgcN k2
      have hb2N : b2 < N := by rw [hb2] at l1; omega
      obtain ⟨PT, hPT⟩ : ∃ x, x = nth pt gc := ⟨_, rfl⟩
      have hsb : PT - 1 = (b2 : Int) := by rw [hPT]; exact hb2
      have hPTb := HRC.out.tb2 gc hgcN
      rw [← hPT] at t1 hPTb
      have hiz : (i1 : Int) < (nn : Int) := Int.ofNat_lt.2 hix
      have hcz : (gc : Int) < (N : Int) := by omega
      have HB2 := Lib.hid hb2
      have HST := Lib.hid hst
      clear k1 k2 k3 k4 k5 g1 g2 g3 g4 g5 l1 l2 l3 l4 hgc hst hrt hne hPF hPT hVn hV hb2 hpm hnb hi1 hilt v2
      by_cases hmin : V < mi
      · have e1 : (V < mi) = True := by simp [hmin]
        have e2 : (mi < V) = False := by simp; omega
        obtain ⟨hwb, hsum, -, -⟩ := HWX.out
        go_wp2
        clear hwb hsum
        go_round
        case rel => exact ⟨gc, b2, V, rfl, rfl, rfl, hb2N, HB2.out, (HST.out V (.inr ⟨rfl, by omega⟩)).1, hra2.out⟩
        case measure => exact (HST.out V (.inr ⟨rfl, by omega⟩)).2
      · have e1 : (V < mi) = False := by simp [hmin]
        obtain ⟨hwb, hsum, -, -⟩ := HWX.out
        go_wp2
        clear hwb hsum
        go_round
        case rel => exact ⟨gc, b2, mi, rfl, rfl, rfl, hb2N, HB2.out, (HST.out mi (.inl ⟨rfl, by omega⟩)).1, hra2.out⟩
        case measure => exact (HST.out mi (.inl ⟨rfl, by omega⟩)).2
    · have hq : nth pf bn = 100 := (HRC.out.root bn hbN).2 hr
      have hr0 := hr
      rw [hq] at q1
      obtain ⟨LF, hLF⟩ : ∃ x, x = nth lf bn := ⟨_, rfl⟩
      obtain ⟨l1, l2⟩ := hpm.fm.ol.cellAt hpm.fm.ll bn hbN
      have hlf1 := HLF.out bn hbN
      have hway : ∀ k, k ≤ mi → Way (tab N Fl) (rtR lf) (gvR pt) (gvR pf) k en := fun k hk => HMO.out.way k hk (.last HMO.out.ar (by rw [HGV.out]; exact decide_eq_true hr))
      rw [← hLF] at l1 hr hlf1
      have HLF1 := Lib.hid hLF
      have hroot : RootAt (rtR lf) (gvR pt) (gvR pf) en bn := HRA.out bn (by
        have e := RootAt.last (root := rtR lf) (giv := gvR pt) (get := gvR pf) (a := an) (by rw [HGV.out]; exact decide_eq_true hr0)
        rw [HGV.out, Int.toNat_natCast] at e; exact e)
      have HRO := Lib.hid hroot
      clear hroot hr0
      have HWAY := Lib.hid hway
      clear hq hLF hpm hway hpb
      by_cases hmin : LF < mi
      · have e1 : (LF < mi) = True := by simp [hmin]
        have e2 : (mi < LF) = False := by simp; omega
        have hm1 : (1 : Int) ≤ LF := by omega
        have hmM : LF ≤ M0 := by omega
        have HY : Hid (0 = nth lf bn - LF) := Lib.hid (by have e := HLF1.out; omega)
        have HWY : Hid (Way (tab N Fl) (rtR lf) (gvR pt) (gvR pf) LF en) := Lib.hid (HWAY.out LF (by omega))
        have HML : Hid (LF ≤ nth lf bn) := Lib.hid (by have e := HLF1.out; omega)
        go_wp2
        clear q1
        go_region
        have hp1 : PM B N nn fb lb db cf cl cd G T w (W.setCell ⟨lb, bn, none⟩ (.int .i64 (0))).drew Fl (lf.set bn (0)) du pf pt := (HPM.out.setL bn (0)).drew
        clear e1 hmin l1 l2 c0 c1 c2 c3 p0 p1 HRA HMO HGV HWAY HPM
        generalize (W.setCell ⟨lb, bn, none⟩ (.int .i64 (0))).drew = w1 at *
        have c3 := hp1.bx.c3
        obtain ⟨d1, d2⟩ := hp1.fm.od.cellAt hp1.fm.dl en hen
        rw [← HM0.out] at d1
        have HP1 := Lib.hid hp1
        clear hp1
        go_wp2
        go_region
        have hp2 : PM B N nn fb lb db cf cl cd G T w (w1.setCell ⟨db, en, none⟩ (.int .i64 (M0 - LF))).drew Fl (lf.set bn (0)) (du.set en (M0 - LF)) pf pt := (HP1.out.setD en (M0 - LF)).drew
        clear c3 d1 d2 HP1
        generalize (w1.setCell ⟨db, en, none⟩ (.int .i64 (M0 - LF))).drew = w2 at *
        obtain ⟨PT, hPT⟩ : ∃ x, x = nth pt en := ⟨_, rfl⟩
        have hsb : PT - 1 = (be : Int) := by rw [hPT]; exact HBN.out
        have hPTb := HRC.out.tb2 en hen
        have t1 := rdAt hp2.ot en (by rw [HTL.out]; exact hen)
        rw [← hPT] at t1 hPTb
        have p1 := hp2.p1
        have c0 := hp2.bx.c0
        have c1 := hp2.bx.c1
        obtain ⟨nb, i1, hnb, hi1, hilt, HWX⟩ := idx_facts h16 hen hbeN
        obtain ⟨V, hV⟩ : ∃ x, x = tab N Fl be en := ⟨_, rfl⟩
        have hix : i1 < nn := by rw [hp2.fm.hn]; exact hilt
        obtain ⟨v1, v2⟩ := hp2.fm.of.cellAt hp2.fm.fl i1 hix
        have hVn : nth Fl i1 = V := by rw [hV, hi1, tab_at hbeN hen]
        rw [hVn] at v1
        have hV0 : 0 ≤ V := by rw [hV]; exact HF.out be en hbeN hen
        have hV1 : V ≤ 10000000000000 := by
          have a1 := sm_pick (f := fun y => tab N Fl be y) (fun k hk => HF.out be k hbeN hk) en hen
          have a3 := HB.out be hbeN
          rw [hV]; omega
        have hiz : (i1 : Int) < (nn : Int) := Int.ofNat_lt.2 hix
        have hbez : (be : Int) < (N : Int) := by omega
        have hps : PushSt N subO (tab N Fl) (rtR lf) (gvR pt) (gvR pf) tg tc en LF en (tab N Fl) := PushSt.first hen hz0 HWY.out HF.out
        have hft : tab N (Fl.set i1 (V + LF)) = upd (tab N Fl) be en (tab N Fl be en + LF) := by rw [hi1, tab_set (by rw [hp2.fm.fl, hp2.fm.hn]) hbeN hen, ← hV]
        have HPS := Lib.hid hps
        have HFT := Lib.hid hft
        have HP2 := Lib.hid hp2
        clear hps hft hp2 hPT hnb hi1 hilt hV hVn
        obtain ⟨hwb, hsum, hwb2, hsum2⟩ := HWX.out
        go_wp2
        go_region
        clear hwb hsum hwb2 hsum2
        have hp3 : PM B N nn fb lb db cf cl cd G T w (w2.setCell ⟨fb, i1, none⟩ (.int .i64 (V + LF))).drew (Fl.set i1 (V + LF)) (lf.set bn (0)) (du.set en (M0 - LF)) pf pt := (HP2.out.setF i1 (V + LF)).drew
        have HP3 := Lib.hid hp3
        clear hp3 HP2 hsb hPTb t1 p1 c0 c1 v1 v2
        generalize (w2.setCell ⟨fb, i1, none⟩ (.int .i64 (V + LF))).drew = w3 at *
        go_wp2_with fail
        refine l2Loop B N nn fb lb db cf cl cd G T w Fl lf (lf.set bn (0)) (du.set en (M0 - LF)) pf pt tg tc TT en bn LF h16 hen HR HRC HF HB HGL HTL hm1 (by omega) _ _ _ _ _ _ _ _ _ _ _ _ _ _ _ _ _ _ _ _ _ _ _ _ _ _ _ _ _ _ _ _ _ _ _ _ _ _ _ _ _ _ _ _ _ _ _ _ _ _ _ _ _ _ _ _ _ _ _ _ _ _ _ _ _ _ _ _ _ _ _ _ _ _ _ _ _ _ _ _ _ _ _ _ _ _ _ _ _ _ _ _ _ _ _ _ _ _ _ _ _ _ _ _ _ _ ?_ _ _ _ _ _ _ _ _ _ _ _ _ _ _ _ _ _ _ _ _ _ _ _ _ _ _ _ _ _ _ _ _ _ _ _ _ _ _ _ _ _ _ _ _ _ _ _ _ _ _ _ _ _ _ _ _ _ _ _ _ _ _ _ ⟨en, be, _, _, rfl, rfl, hbeN, HBN.out, HPS.out, HFT.out, HRO.out, HP3.out⟩
        apply Lib.hid
        intro u8 u9 u109 u110 u111 u112 u113 u114 u115 u116 u117 u118 u119 u120 u121 u122 u123 u124 u125 u126 u127 u128 u129 u130 u131 u132 u133 u134 u135 u136 u137 u138 u139 u140 u141 u142 u143 u144 u145 u146 u147 u148 u149 u150 u151 u152 u153 u154 u155 u156 u157 u158 u159 u160 u161 u162 u163 u164 u165 u166 u167 u168 w9 hx
        clear HPS HFT HP3
        obtain ⟨Fl1, hend, hpm⟩ := hx
        have c0 := hpm.bx.c0
        have c1 := hpm.bx.c1
        have c2 := hpm.bx.c2
        have c3 := hpm.bx.c3
        have r0 := hpm.rx.c0
        have r1 := hpm.rx.c1
        have r2 := hpm.rx.c2
        have r3 := hpm.rx.c3
        have f0 := hpm.rf 0
        have f1 := hpm.rf 1
        have f2 := hpm.rf 2
        have f3 := hpm.rf 3
        have HEND := Lib.hid hend
        have HPM := Lib.hid hpm
        obtain ⟨x1, x2, x3⟩ := hpm.lt
        clear hend hpm
        go_wp2
        refine bodyPost_ret (v := .agg #[.int .i64 (N : Int), .slice (some ⟨fb, 0, none⟩) nn cf, .slice (some ⟨lb, 0, none⟩) N cl, .slice (some ⟨db, 0, none⟩) N cd]) (by simp [results, Try.results95, go_sem, r0, r1, r2, r3, f0, f1, f2, f3]) rfl ⟨LF, bn, Fl1, rfl, hm1, HML.out, by rw [← HM0.out]; exact hmM, HEND.out, ?_, ?_⟩
        · rw [← HY.out, ← HM0.out]
          exact (((HPM.out.fm.other ⟨w.heap.size + 1 + 1, 0, none⟩ (by show w.heap.size + 1 + 1 ≠ _; omega) (by show w.heap.size + 1 + 1 ≠ _; omega) (by show w.heap.size + 1 + 1 ≠ _; omega) _).other ⟨w.heap.size + 1 + 1, 1, none⟩ (by show w.heap.size + 1 + 1 ≠ _; omega) (by show w.heap.size + 1 + 1 ≠ _; omega) (by show w.heap.size + 1 + 1 ≠ _; omega) _).other ⟨w.heap.size + 1 + 1, 2, none⟩ (by show w.heap.size + 1 + 1 ≠ _; omega) (by show w.heap.size + 1 + 1 ≠ _; omega) (by show w.heap.size + 1 + 1 ≠ _; omega) _).other ⟨w.heap.size + 1 + 1, 3, none⟩ (by show w.heap.size + 1 + 1 ≠ _; omega) (by show w.heap.size + 1 + 1 ≠ _; omega) (by show w.heap.size + 1 + 1 ≠ _; omega) _
        · exact (((HPM.out.ex.setCell ⟨w.heap.size + 1 + 1, 0, none⟩ (.inr (.inr (.inr (by show _ ≤ w.heap.size + 1 + 1; omega)))) _).setCell ⟨w.heap.size + 1 + 1, 1, none⟩ (.inr (.inr (.inr (by show _ ≤ w.heap.size + 1 + 1; omega)))) _).setCell ⟨w.heap.size + 1 + 1, 2, none⟩ (.inr (.inr (.inr (by show _ ≤ w.heap.size + 1 + 1; omega)))) _).setCell ⟨w.heap.size + 1 + 1, 3, none⟩ (.inr (.inr (.inr (by show _ ≤ w.heap.size + 1 + 1; omega)))) _
      · have e1 : (LF < mi) = False := by simp [hmin]
        have hm1 : (1 : Int) ≤ mi := by omega
        have hmM : mi ≤ M0 := by omega
        have HY : Hid (LF - mi = nth lf bn - mi) := Lib.hid (by have e := HLF1.out; omega)
        have HWY : Hid (Way (tab N Fl) (rtR lf) (gvR pt) (gvR pf) mi en) := Lib.hid (HWAY.out mi (by omega))
        have HML : Hid (mi ≤ nth lf bn) := Lib.hid (by have e := HLF1.out; omega)
        go_wp2
        clear q1
        go_region
        have hp1 : PM B N nn fb lb db cf cl cd G T w (W.setCell ⟨lb, bn, none⟩ (.int .i64 (LF - mi))).drew Fl (lf.set bn (LF - mi)) du pf pt := (HPM.out.setL bn (LF - mi)).drew
        clear e1 hmin l1 l2 c0 c1 c2 c3 p0 p1 HRA HMO HGV HWAY HPM
        generalize (W.setCell ⟨lb, bn, none⟩ (.int .i64 (LF - mi))).drew = w1 at *
        have c3 := hp1.bx.c3
        obtain ⟨d1, d2⟩ := hp1.fm.od.cellAt hp1.fm.dl en hen
        rw [← HM0.out] at d1
        have HP1 := Lib.hid hp1
        clear hp1
        go_wp2
        go_region
        have hp2 : PM B N nn fb lb db cf cl cd G T w (w1.setCell ⟨db, en, none⟩ (.int .i64 (M0 - mi))).drew Fl (lf.set bn (LF - mi)) (du.set en (M0 - mi)) pf pt := (HP1.out.setD en (M0 - mi)).drew
        clear c3 d1 d2 HP1
        generalize (w1.setCell ⟨db, en, none⟩ (.int .i64 (M0 - mi))).drew = w2 at *
        obtain ⟨PT, hPT⟩ : ∃ x, x = nth pt en := ⟨_, rfl⟩
        have hsb : PT - 1 = (be : Int) := by rw [hPT]; exact HBN.out
        have hPTb := HRC.out.tb2 en hen
        have t1 := rdAt hp2.ot en (by rw [HTL.out]; exact hen)
        rw [← hPT] at t1 hPTb
        have p1 := hp2.p1
        have c0 := hp2.bx.c0
        have c1 := hp2.bx.c1
        obtain ⟨nb, i1, hnb, hi1, hilt, HWX⟩ := idx_facts h16 hen hbeN
        obtain ⟨V, hV⟩ : ∃ x, x = tab N Fl be en := ⟨_, rfl⟩
        have hix : i1 < nn := by rw [hp2.fm.hn]; exact hilt
        obtain ⟨v1, v2⟩ := hp2.fm.of.cellAt hp2.fm.fl i1 hix
        have hVn : nth Fl i1 = V := by rw [hV, hi1, tab_at hbeN hen]
        rw [hVn] at v1
        have hV0 : 0 ≤ V := by rw [hV]; exact HF.out be en hbeN hen
        have hV1 : V ≤ 10000000000000 := by
          have a1 := sm_pick (f := fun y => tab N Fl be y) (fun k hk => HF.out be k hbeN hk) en hen
          have a3 := HB.out be hbeN
          rw [hV]; omega
        have hiz : (i1 : Int) < (nn : Int) := Int.ofNat_lt.2 hix
        have hbez : (be : Int) < (N : Int) := by omega
        have hps : PushSt N subO (tab N Fl) (rtR lf) (gvR pt) (gvR pf) tg tc en mi en (tab N Fl) := PushSt.first hen hz0 HWY.out HF.out
        have hft : tab N (Fl.set i1 (V + mi)) = upd (tab N Fl) be en (tab N Fl be en + mi) := by rw [hi1, tab_set (by rw [hp2.fm.fl, hp2.fm.hn]) hbeN hen, ← hV]
        have HPS := Lib.hid hps
        have HFT := Lib.hid hft
        have HP2 := Lib.hid hp2
        clear hps hft hp2 hPT hnb hi1 hilt hV hVn
        obtain ⟨hwb, hsum, hwb2, hsum2⟩ := HWX.out
        go_wp2
        go_region
        clear hwb hsum hwb2 hsum2
        have hp3 : PM B N nn fb lb db cf cl cd G T w (w2.setCell ⟨fb, i1, none⟩ (.int .i64 (V + mi))).drew (Fl.set i1 (V + mi)) (lf.set bn (LF - mi)) (du.set en (M0 - mi)) pf pt := (HP2.out.setF i1 (V + mi)).drew
        have HP3 := Lib.hid hp3
        clear hp3 HP2 hsb hPTb t1 p1 c0 c1 v1 v2
        generalize (w2.setCell ⟨fb, i1, none⟩ (.int .i64 (V + mi))).drew = w3 at *
        go_wp2_with fail
        refine l2Loop B N nn fb lb db cf cl cd G T w Fl lf (lf.set bn (LF - mi)) (du.set en (M0 - mi)) pf pt tg tc TT en bn mi h16 hen HR HRC HF HB HGL HTL hm1 (by omega) _ _ _ _ _ _ _ _ _ _ _ _ _ _ _ _ _ _ _ _ _ _ _ _ _ _ _ _ _ _ _ _ _ _ _ _ _ _ _ _ _ _ _ _ _ _ _ _ _ _ _ _ _ _ _ _ _ _ _ _ _ _ _ _ _ _ _ _ _ _ _ _ _ _ _ _ _ _ _ _ _ _ _ _ _ _ _ _ _ _ _ _ _ _ _ _ _ _ _ _ _ _ _ _ _ _ ?_ _ _ _ _ _ _ _ _ _ _ _ _ _ _ _ _ _ _ _ _ _ _ _ _ _ _ _ _ _ _ _ _ _ _ _ _ _ _ _ _ _ _ _ _ _ _ _ _ _ _ _ _ _ _ _ _ _ _ _ _ _ _ _ ⟨en, be, _, _, rfl, rfl, hbeN, HBN.out, HPS.out, HFT.out, HRO.out, HP3.out⟩
        apply Lib.hid
        intro u8 u9 u109 u110 u111 u112 u113 u114 u115 u116 u117 u118 u119 u120 u121 u122 u123 u124 u125 u126 u127 u128 u129 u130 u131 u132 u133 u134 u135 u136 u137 u138 u139 u140 u141 u142 u143 u144 u145 u146 u147 u148 u149 u150 u151 u152 u153 u154 u155 u156 u157 u158 u159 u160 u161 u162 u163 u164 u165 u166 u167 u168 w9 hx
        clear HPS HFT HP3
        obtain ⟨Fl1, hend, hpm⟩ := hx
        have c0 := hpm.bx.c0
        have c1 := hpm.bx.c1
        have c2 := hpm.bx.c2
        have c3 := hpm.bx.c3
        have r0 := hpm.rx.c0
        have r1 := hpm.rx.c1
        have r2 := hpm.rx.c2
        have r3 := hpm.rx.c3
        have f0 := hpm.rf 0
        have f1 := hpm.rf 1
        have f2 := hpm.rf 2
        have f3 := hpm.rf 3
        have HEND := Lib.hid hend
        have HPM := Lib.hid hpm
        obtain ⟨x1, x2, x3⟩ := hpm.lt
        clear hend hpm
        go_wp2
        refine bodyPost_ret (v := .agg #[.int .i64 (N : Int), .slice (some ⟨fb, 0, none⟩) nn cf, .slice (some ⟨lb, 0, none⟩) N cl, .slice (some ⟨db, 0, none⟩) N cd]) (by simp [results, Try.results95, go_sem, r0, r1, r2, r3, f0, f1, f2, f3]) rfl ⟨mi, bn, Fl1, rfl, hm1, HML.out, by rw [← HM0.out]; exact hmM, HEND.out, ?_, ?_⟩
        · rw [← HY.out, ← HM0.out]
          exact (((HPM.out.fm.other ⟨w.heap.size + 1 + 1, 0, none⟩ (by show w.heap.size + 1 + 1 ≠ _; omega) (by show w.heap.size + 1 + 1 ≠ _; omega) (by show w.heap.size + 1 + 1 ≠ _; omega) _).other ⟨w.heap.size + 1 + 1, 1, none⟩ (by show w.heap.size + 1 + 1 ≠ _; omega) (by show w.heap.size + 1 + 1 ≠ _; omega) (by show w.heap.size + 1 + 1 ≠ _; omega) _).other ⟨w.heap.size + 1 + 1, 2, none⟩ (by show w.heap.size + 1 + 1 ≠ _; omega) (by show w.heap.size + 1 + 1 ≠ _; omega) (by show w.heap.size + 1 + 1 ≠ _; omega) _).other ⟨w.heap.size + 1 + 1, 3, none⟩ (by show w.heap.size + 1 + 1 ≠ _; omega) (by show w.heap.size + 1 + 1 ≠ _; omega) (by show w.heap.size + 1 + 1 ≠ _; omega) _
        · exact (((HPM.out.ex.setCell ⟨w.heap.size + 1 + 1, 0, none⟩ (.inr (.inr (.inr (by show _ ≤ w.heap.size + 1 + 1; omega)))) _).setCell ⟨w.heap.size + 1 + 1, 1, none⟩ (.inr (.inr (.inr (by show _ ≤ w.heap.size + 1 + 1; omega)))) _).setCell ⟨w.heap.size + 1 + 1, 2, none⟩ (.inr (.inr (.inr (by show _ ≤ w.heap.size + 1 + 1; omega)))) _).setCell ⟨w.heap.size + 1 + 1, 3, none⟩ (.inr (.inr (.inr (by show _ ≤ w.heap.size + 1 + 1; omega)))) _

end Go.Proofs.Ytjmfjgoehicgcaa
