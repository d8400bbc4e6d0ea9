/- Parts are pushed along a way: the reference. -/
import Derived.Test.YtjmfjgoehicgcaaJB0
set_option linter.unusedVariables false
set_option linter.unusedSimpArgs false
namespace Go.Proofs.Ytjmfjgoehicgcaa
open Go.RowKit

set_option maxHeartbeats 16000000 in
set_option maxRecDepth 100000 in
theorem l8Push_any (B N nn fb lb db cf cl cd : Nat) (Fl lf du : List Int) (w : World) (h16 : N ≤ 16) (hfm : FM B w N nn fb lb db cf cl cd Fl lf du) (G T : Nat) (pf pt : List Int) (hG : Reads w (some ⟨G, 0, none⟩) pf) (hT : Reads w (some ⟨T, 0, none⟩) pt) (hgl : pf.length = N) (htl : pt.length = N)
    (ng : G ≠ fb ∧ G ≠ lb ∧ G ≠ db) (nt : T ≠ fb ∧ T ≠ lb ∧ T ≠ db) (hr : Rchd N (tab N Fl) (nth lf) (nth pf) (nth pt)) (en : Nat) (hen : en < N) (he1 : 0 < nth pt en) (he2 : 0 < nth du en) (hdu : nth du en ≤ 10000000000000) (hlf : ∀ b, b < N → nth lf b ≤ 10000000000000)
    (hF : ∀ b a, b < N → a < N → 0 ≤ tab N Fl b a) (hB : ∀ b, b < N → sm N (fun a => tab N Fl b a) ≤ 10000000000000) :
    Calls Try.prog 95 #[.agg #[.int .i64 (N : Int), .slice (some ⟨fb, 0, none⟩) nn cf, .slice (some ⟨lb, 0, none⟩) N cl, .slice (some ⟨db, 0, none⟩) N cd], .agg #[.slice (some ⟨G, 0, none⟩) N N, .slice (some ⟨T, 0, none⟩) N N], .int .i64 en] w (PushedR B N nn fb lb db cf cl cd Fl lf du en w) := by
  obtain ⟨tg, tc, TT, hrc⟩ := hr.rch
  have hRR : Reached N subO (tab N Fl) (rtR lf) (gvR pt) (gvR pf) tg tc := hrc.R
  have HR := Lib.hid hRR
  have HRC := Lib.hid hrc
  have HF := Lib.hid hF
  have HB := Lib.hid hB
  have HFM := Lib.hid hfm
  have HG := Lib.hid hG
  have HT := Lib.hid hT
  have HGL := Lib.hid hgl
  have HTL := Lib.hid htl
  have HNG := Lib.hid ng
  have HNT := Lib.hid nt
  have HLF := Lib.hid hlf
  obtain ⟨W, hW⟩ : ∃ W : World, W = ((w.alloc (.cells #[.int .i64 (N : Int), .slice (some ⟨fb, 0, none⟩) nn cf, .slice (some ⟨lb, 0, none⟩) N cl, .slice (some ⟨db, 0, none⟩) N cd] 64)).alloc (.cells #[.slice (some ⟨G, 0, none⟩) N N, .slice (some ⟨T, 0, none⟩) N N] 97)).alloc (.cells #[.int .i64 0, .slice none 0 0, .slice none 0 0, .slice none 0 0] 64) := ⟨_, rfl⟩
  have hpm : PM B N nn fb lb db cf cl cd G T w W Fl lf du pf pt := by
    obtain ⟨⟨-, l1⟩, ⟨-, l2⟩, -, l3⟩ := hfm.lts
    have e1 := belowAlloc w (.cells #[.int .i64 (N : Int), .slice (some ⟨fb, 0, none⟩) nn cf, .slice (some ⟨lb, 0, none⟩) N cl, .slice (some ⟨db, 0, none⟩) N cd] 64)
    have e2 := belowAlloc (w.alloc (.cells #[.int .i64 (N : Int), .slice (some ⟨fb, 0, none⟩) nn cf, .slice (some ⟨lb, 0, none⟩) N cl, .slice (some ⟨db, 0, none⟩) N cd] 64)) (.cells #[.slice (some ⟨G, 0, none⟩) N N, .slice (some ⟨T, 0, none⟩) N N] 97)
    have e3 := belowAlloc ((w.alloc (.cells #[.int .i64 (N : Int), .slice (some ⟨fb, 0, none⟩) nn cf, .slice (some ⟨lb, 0, none⟩) N cl, .slice (some ⟨db, 0, none⟩) N cd] 64)).alloc (.cells #[.slice (some ⟨G, 0, none⟩) N N, .slice (some ⟨T, 0, none⟩) N N] 97)) (.cells #[.int .i64 0, .slice none 0 0, .slice none 0 0, .slice none 0 0] 64)
    have b1 := Bx.made w (.int .i64 (N : Int)) (.slice (some ⟨fb, 0, none⟩) nn cf) (.slice (some ⟨lb, 0, none⟩) N cl) (.slice (some ⟨db, 0, none⟩) N cd) 64
    have b3 := Bx.made ((w.alloc (.cells #[.int .i64 (N : Int), .slice (some ⟨fb, 0, none⟩) nn cf, .slice (some ⟨lb, 0, none⟩) N cl, .slice (some ⟨db, 0, none⟩) N cd] 64)).alloc (.cells #[.slice (some ⟨G, 0, none⟩) N N, .slice (some ⟨T, 0, none⟩) N N] 97)) (.int .i64 0) (.slice none 0 0) (.slice none 0 0) (.slice none 0 0) 64
    have f3 := newFroz ((w.alloc (.cells #[.int .i64 (N : Int), .slice (some ⟨fb, 0, none⟩) nn cf, .slice (some ⟨lb, 0, none⟩) N cl, .slice (some ⟨db, 0, none⟩) N cd] 64)).alloc (.cells #[.slice (some ⟨G, 0, none⟩) N N, .slice (some ⟨T, 0, none⟩) N N] 97)) #[.int .i64 0, .slice none 0 0, .slice none 0 0, .slice none 0 0] 64
    have p2 := newCell0 (w.alloc (.cells #[.int .i64 (N : Int), .slice (some ⟨fb, 0, none⟩) nn cf, .slice (some ⟨lb, 0, none⟩) N cl, .slice (some ⟨db, 0, none⟩) N cd] 64)) (.slice (some ⟨G, 0, none⟩) N N) (.slice (some ⟨T, 0, none⟩) N N) 97
    have p3 := newCell1 (w.alloc (.cells #[.int .i64 (N : Int), .slice (some ⟨fb, 0, none⟩) nn cf, .slice (some ⟨lb, 0, none⟩) N cl, .slice (some ⟨db, 0, none⟩) N cd] 64)) (.slice (some ⟨G, 0, none⟩) N N) (.slice (some ⟨T, 0, none⟩) N N) 97
    simp only [allocSz] at b3 f3 p2 p3
    have ex := e1.thenB (e2.thenB e3)
    rw [hW]
    exact ⟨hfm.later ex, (b1.later e2).later e3, cellKeep e3 p2, cellKeep e3 p3, b3, f3, hG.below ex, hT.below ex, Ex3.ofBelow ex, ⟨l1, l2, l3⟩, ng, nt⟩
  have HPM := Lib.hid hpm
  have HW := Lib.hid hW
  clear hpm hW
  clear hrc hRR hF hB hfm hG hT hgl htl ng nt hr hlf
  go_enter Try.func95, Try.ntmps95
  go_upto_region 1 with fail
  rw [← HW.out]
  clear HW
  have hpm := HPM.out
  have c0 := hpm.bx.c0
  have c1 := hpm.bx.c1
  have c2 := hpm.bx.c2
  have c3 := hpm.bx.c3
  have p0 := hpm.p0
  have p1 := hpm.p1
  obtain ⟨d1, d2⟩ := hpm.fm.od.cellAt hpm.fm.dl en hen
  have t1 := rdAt hpm.ot en (by rw [HTL.out]; exact hen)
  obtain ⟨M0, hM0⟩ : ∃ x, x = nth du en := ⟨_, rfl⟩
  rw [← hM0] at d1 he2 hdu
  have hz0 : (0 : Int) ≤ gvR pt en := by show 0 ≤ nth pt en - 1; omega
  obtain ⟨g1, g2, g3, g4⟩ := HR.out.cg en hen hz0
  obtain ⟨be, hbn⟩ := Int.eq_ofNat_of_zero_le hz0
  have hbeN : be < N := by rw [hbn] at g1; omega
  obtain ⟨PT, hPT⟩ : ∃ x, x = nth pt en := ⟨_, rfl⟩
  have hsb : PT - 1 = (be : Int) := by rw [hPT]; exact hbn
  rw [← hPT] at t1
  have hPTb : 1 ≤ PT ∧ PT ≤ 100 := by have := HRC.out.tb2 en hen; rw [hPT]; omega
  have hnz : (en : Int) < (N : Int) := by omega
  have HBN := Lib.hid hbn
  have HM0 := Lib.hid hM0
  clear g1 g2 g3 g4 hbn hPT hM0 hpm he1 HFM HG HT HNG HNT
  go_wp2_with fail
  clear hsb hPTb t1 d1 d2
  go_loop [7, 8, 9] (fun m a b => ∃ (an bn : Nat) (mi : Int), m = .int .i64 mi ∧ a = .int .i64 an ∧ b = .int .i64 bn ∧ bn < N ∧ gvR pt an = (bn : Int) ∧ Most N (tab N Fl) (rtR lf) (gvR pt) (gvR pf) en M0 an mi ∧ (∀ x, RootAt (rtR lf) (gvR pt) (gvR pf) an x → RootAt (rtR lf) (gvR pt) (gvR pf) en x)) (fun _ a _ => tc (intOf a).toNat)
  case atStart => exact ⟨en, be, M0, rfl, rfl, rfl, hbeN, HBN.out, Most.first hen hz0 (by omega), fun _ h => h⟩
  case round =>
    obtain ⟨an, bn, mi, rfl, rfl, rfl, hbN, hgv, hmo, hra⟩ := hrel
    have HRA := Lib.hid hra
    clear hra
    have han := hmo.an
    have hlo := hmo.lo
    have hhi := hmo.hi
    have hpm := HPM.out
    have q1 := rdAt hpm.og bn (by rw [HGL.out]; exact hbN)
    have hpb := HRC.out.pb bn hbN
    have HGV := Lib.hid hgv
    have HMO := Lib.hid hmo
    have hbz : (bn : Int) < (N : Int) := by omega
    have hanz : (an : Int) < (N : Int) := by omega
    clear hgv hmo
    by_cases hr : 0 < nth lf bn
    rotate_left
    · have hne : nth pf bn ≠ 100 := fun e => hr ((HRC.out.root bn hbN).1 e)
      obtain ⟨PF, hPF⟩ : ∃ x, x = nth pf bn := ⟨_, rfl⟩
      have hrt : rtR lf (gvR pt an).toNat = false := by rw [HGV.out]; exact decide_eq_false hr
      obtain ⟨g1, g2, g3, g4⟩ := HR.out.cg an han HMO.out.ar
      have g5 := g4 hrt
      rw [HGV.out, Int.toNat_natCast] at g5
      obtain ⟨k1, k2, k3, k4, k5⟩ := HR.out.cb bn hbN (decide_eq_false hr) g5
      obtain ⟨gc, hgc⟩ := Int.eq_ofNat_of_zero_le g5
      rw [hgc, Int.toNat_natCast] at k2 k3 k4 k5
      have hgcN : gc < N := by rw [hgc] at k1; omega
      have hsc : PF - 1 = (gc : Int) := by rw [hPF]; exact hgc
      have hst := HMO.out.step HR.out hrt
      rw [HGV.out, Int.toNat_natCast, hgc, Int.toNat_natCast] at hst
      have hra2 : Hid (∀ x, RootAt (rtR lf) (gvR pt) (gvR pf) gc x → RootAt (rtR lf) (gvR pt) (gvR pf) en x) := Lib.hid (fun x hx => HRA.out x (.step hrt (by rw [HGV.out, Int.toNat_natCast, hgc, Int.toNat_natCast]; exact hx)))
      obtain ⟨nb, i1, hnb, hi1, hilt, HWX⟩ := idx_facts h16 hgcN hbN
      obtain ⟨V, hV⟩ : ∃ x, x = tab N Fl bn gc := ⟨_, rfl⟩
      have hix : i1 < nn := by rw [hpm.fm.hn]; exact hilt
      obtain ⟨v1, v2⟩ := hpm.fm.of.cellAt hpm.fm.fl i1 hix
      have hVn : nth Fl i1 = V := by rw [hV, hi1, tab_at hbN hgcN]
      rw [hVn] at v1
      rw [← hV] at hst
      rw [← hPF] at q1 hne hpb
      have hPFz : PF < 100 := by omega
      have t1 := rdAt hpm.ot gc (by rw [HTL.out]; exact hgcN)
      obtain ⟨b2, hb2⟩ := Int.eq_ofNat_of_zero_le k2
      obtain ⟨l1, l2, l3, l4⟩ := HR.out.cg gc hgcN k2
      have hb2N : b2 < N := by rw [hb2] at l1; omega
      obtain ⟨PT, hPT⟩ : ∃ x, x = nth pt gc := ⟨_, rfl⟩
      have hsb : PT - 1 = (b2 : Int) := by rw [hPT]; exact hb2
      have hPTb := HRC.out.tb2 gc hgcN
      rw [← hPT] at t1 hPTb
      have hiz : (i1 : Int) < (nn : Int) := Int.ofNat_lt.2 hix
      have hcz : (gc : Int) < (N : Int) := by omega
      have HB2 := Lib.hid hb2
      have HST := Lib.hid hst
      clear k1 k2 k3 k4 k5 g1 g2 g3 g4 g5 l1 l2 l3 l4 hgc hst hrt hne hPF hPT hVn hV hb2 hpm hnb hi1 hilt v2
      by_cases hmin : V < mi
      · have e1 : (V < mi) = True := by simp [hmin]
        have e2 : (mi < V) = False := by simp; omega
        obtain ⟨hwb, hsum, -, -⟩ := HWX.out
        go_wp2
        clear hwb hsum
        go_round
        case rel => exact ⟨gc, b2, V, rfl, rfl, rfl, hb2N, HB2.out, (HST.out V (.inr ⟨rfl, by omega⟩)).1, hra2.out⟩
        case measure => exact (HST.out V (.inr ⟨rfl, by omega⟩)).2
      · have e1 : (V < mi) = False := by simp [hmin]
        obtain ⟨hwb, hsum, -, -⟩ := HWX.out
        go_wp2
        clear hwb hsum
        go_round
        case rel => exact ⟨gc, b2, mi, rfl, rfl, rfl, hb2N, HB2.out, (HST.out mi (.inl ⟨rfl, by omega⟩)).1, hra2.out⟩
        case measure => exact (HST.out mi (.inl ⟨rfl, by omega⟩)).2
    · have hq : nth pf bn = 100 := (HRC.out.root bn hbN).2 hr
      have hr0 := hr
      rw [hq] at q1
      obtain ⟨LF, hLF⟩ : ∃ x, x = nth lf bn := ⟨_, rfl⟩
      obtain ⟨l1, l2⟩ := hpm.fm.ol.cellAt hpm.fm.ll bn hbN
      have hlf1 := HLF.out bn hbN
      have hway : ∀ k, k ≤ mi → Way (tab N Fl) (rtR lf) (gvR pt) (gvR pf) k en := fun k hk => HMO.out.way k hk (.last HMO.out.ar (by rw [HGV.out]; exact decide_eq_true hr))
      rw [← hLF] at l1 hr hlf1
      have HLF1 := Lib.hid hLF
      have hroot : RootAt (rtR lf) (gvR pt) (gvR pf) en bn := HRA.out bn (by
        have e := RootAt.last (root := rtR lf) (giv := gvR pt) (get := gvR pf) (a := an) (by rw [HGV.out]; exact decide_eq_true hr0)
        rw [HGV.out, Int.toNat_natCast] at e; exact e)
      have HRO := Lib.hid hroot
      clear hroot hr0
      have HWAY := Lib.hid hway
      clear hq hLF hpm hway hpb
      by_cases hmin : LF < mi
      · have e1 : (LF < mi) = True := by simp [hmin]
        have e2 : (mi < LF) = False := by simp; omega
        have hm1 : (1 : Int) ≤ LF := by omega
        have hmM : LF ≤ M0 := by omega
        have HY : Hid (0 = nth lf bn - LF) := Lib.hid (by have e := HLF1.out; omega)
        have HWY : Hid (Way (tab N Fl) (rtR lf) (gvR pt) (gvR pf) LF en) := Lib.hid (HWAY.out LF (by omega))
        have HML : Hid (LF ≤ nth lf bn) := Lib.hid (by have e := HLF1.out; omega)
        go_wp2
        clear q1
        go_region
        have hp1 : PM B N nn fb lb db cf cl cd G T w (W.setCell ⟨lb, bn, none⟩ (.int .i64 (0))).drew Fl (lf.set bn (0)) du pf pt := (HPM.out.setL bn (0)).drew
        clear e1 hmin l1 l2 c0 c1 c2 c3 p0 p1 HRA HMO HGV HWAY HPM
        generalize (W.setCell ⟨lb, bn, none⟩ (.int .i64 (0))).drew = w1 at *
        have c3 := hp1.bx.c3
        obtain ⟨d1, d2⟩ := hp1.fm.od.cellAt hp1.fm.dl en hen
        rw [← HM0.out] at d1
        have HP1 := Lib.hid hp1
        clear hp1
        go_wp2
        go_region
        have hp2 : PM B N nn fb lb db cf cl cd G T w (w1.setCell ⟨db, en, none⟩ (.int .i64 (M0 - LF))).drew Fl (lf.set bn (0)) (du.set en (M0 - LF)) pf pt := (HP1.out.setD en (M0 - LF)).drew
        clear c3 d1 d2 HP1
        generalize (w1.setCell ⟨db, en, none⟩ (.int .i64 (M0 - LF))).drew = w2 at *
        obtain ⟨PT, hPT⟩ : ∃ x, x = nth pt en := ⟨_, rfl⟩
        have hsb : PT - 1 = (be : Int) := by rw [hPT]; exact HBN.out
        have hPTb := HRC.out.tb2 en hen
        have t1 := rdAt hp2.ot en (by rw [HTL.out]; exact hen)
        rw [← hPT] at t1 hPTb
        have p1 := hp2.p1
        have c0 := hp2.bx.c0
        have c1 := hp2.bx.c1
        obtain ⟨nb, i1, hnb, hi1, hilt, HWX⟩ := idx_facts h16 hen hbeN
        obtain ⟨V, hV⟩ : ∃ x, x = tab N Fl be en := ⟨_, rfl⟩
        have hix : i1 < nn := by rw [hp2.fm.hn]; exact hilt
        obtain ⟨v1, v2⟩ := hp2.fm.of.cellAt hp2.fm.fl i1 hix
        have hVn : nth Fl i1 = V := by rw [hV, hi1, tab_at hbeN hen]
        rw [hVn] at v1
        have hV0 : 0 ≤ V := by rw [hV]; exact HF.out be en hbeN hen
        have hV1 : V ≤ 10000000000000 := by
          have a1 := sm_pick (f := fun y => tab N Fl be y) (fun k hk => HF.out be k hbeN hk) en hen
          have a3 := HB.out be hbeN
          rw [hV]; omega
        have hiz : (i1 : Int) < (nn : Int) := Int.ofNat_lt.2 hix
        have hbez : (be : Int) < (N : Int) := by omega
        have hps : PushSt N subO (tab N Fl) (rtR lf) (gvR pt) (gvR pf) tg tc en LF en (tab N Fl) := PushSt.first hen hz0 HWY.out HF.out
        have hft : tab N (Fl.set i1 (V + LF)) = upd (tab N Fl) be en (tab N Fl be en + LF) := by rw [hi1, tab_set (by rw [hp2.fm.fl, hp2.fm.hn]) hbeN hen, ← hV]
        have HPS := Lib.hid hps
        have HFT := Lib.hid hft
        have HP2 := Lib.hid hp2
        clear hps hft hp2 hPT hnb hi1 hilt hV hVn
        obtain ⟨hwb, hsum, hwb2, hsum2⟩ := HWX.out
        go_wp2
        go_region
        clear hwb hsum hwb2 hsum2
        have hp3 : PM B N nn fb lb db cf cl cd G T w (w2.setCell ⟨fb, i1, none⟩ (.int .i64 (V + LF))).drew (Fl.set i1 (V + LF)) (lf.set bn (0)) (du.set en (M0 - LF)) pf pt := (HP2.out.setF i1 (V + LF)).drew
        have HP3 := Lib.hid hp3
        clear hp3 HP2 hsb hPTb t1 p1 c0 c1 v1 v2
        generalize (w2.setCell ⟨fb, i1, none⟩ (.int .i64 (V + LF))).drew = w3 at *
        go_wp2_with fail
        refine l2Loop B N nn fb lb db cf cl cd G T w Fl lf (lf.set bn (0)) (du.set en (M0 - LF)) pf pt tg tc TT en bn LF h16 hen HR HRC HF HB HGL HTL hm1 (by omega) _ _ _ _ _ _ _ _ _ _ _ _ _ _ _ _ _ _ _ _ _ _ _ _ _ _ _ _ _ _ _ _ _ _ _ _ _ _ _ _ _ _ _ _ _ _ _ _ _ _ _ _ _ _ _ _ _ _ _ _ _ _ _ _ _ _ _ _ _ _ _ _ _ _ _ _ _ _ _ _ _ _ _ _ _ _ _ _ _ _ _ _ _ _ _ _ _ _ _ _ _ _ _ _ _ _ ?_ _ _ _ _ _ _ _ _ _ _ _ _ _ _ _ _ _ _ _ _ _ _ _ _ _ _ _ _ _ _ _ _ _ _ _ _ _ _ _ _ _ _ _ _ _ _ _ _ _ _ _ _ _ _ _ _ _ _ _ _ _ _ _ ⟨en, be, _, _, rfl, rfl, hbeN, HBN.out, HPS.out, HFT.out, HRO.out, HP3.out⟩
        apply Lib.hid
        intro u8 u9 u109 u110 u111 u112 u113 u114 u115 u116 u117 u118 u119 u120 u121 u122 u123 u124 u125 u126 u127 u128 u129 u130 u131 u132 u133 u134 u135 u136 u137 u138 u139 u140 u141 u142 u143 u144 u145 u146 u147 u148 u149 u150 u151 u152 u153 u154 u155 u156 u157 u158 u159 u160 u161 u162 u163 u164 u165 u166 u167 u168 w9 hx
        clear HPS HFT HP3
        obtain ⟨Fl1, hend, hpm⟩ := hx
        have c0 := hpm.bx.c0
        have c1 := hpm.bx.c1
        have c2 := hpm.bx.c2
        have c3 := hpm.bx.c3
        have r0 := hpm.rx.c0
        have r1 := hpm.rx.c1
        have r2 := hpm.rx.c2
        have r3 := hpm.rx.c3
        have f0 := hpm.rf 0
        have f1 := hpm.rf 1
        have f2 := hpm.rf 2
        have f3 := hpm.rf 3
        have HEND := Lib.hid hend
        have HPM := Lib.hid hpm
        obtain ⟨x1, x2, x3⟩ := hpm.lt
        clear hend hpm
        go_wp2
        refine bodyPost_ret (v := .agg #[.int .i64 (N : Int), .slice (some ⟨fb, 0, none⟩) nn cf, .slice (some ⟨lb, 0, none⟩) N cl, .slice (some ⟨db, 0, none⟩) N cd]) (by simp [results, Try.results95, go_sem, r0, r1, r2, r3, f0, f1, f2, f3]) rfl ⟨LF, bn, Fl1, rfl, hm1, HML.out, by rw [← HM0.out]; exact hmM, HEND.out, ?_, ?_⟩
        · rw [← HY.out, ← HM0.out]
          exact (((HPM.out.fm.other ⟨w.heap.size + 1 + 1, 0, none⟩ (by show w.heap.size + 1 + 1 ≠ _; omega) (by show w.heap.size + 1 + 1 ≠ _; omega) (by show w.heap.size + 1 + 1 ≠ _; omega) _).other ⟨w.heap.size + 1 + 1, 1, none⟩ (by show w.heap.size + 1 + 1 ≠ _; omega) (by show w.heap.size + 1 + 1 ≠ _; omega) (by show w.heap.size + 1 + 1 ≠ _; omega) _).other ⟨w.heap.size + 1 + 1, 2, none⟩ (by show w.heap.size + 1 + 1 ≠ _; omega) (by show w.heap.size + 1 + 1 ≠ _; omega) (by show w.heap.size + 1 + 1 ≠ _; omega) _).other ⟨w.heap.size + 1 + 1, 3, none⟩ (by show w.heap.size + 1 + 1 ≠ _; omega) (by show w.heap.size + 1 + 1 ≠ _; omega) (by show w.heap.size + 1 + 1 ≠ _; omega) _
        · exact (((HPM.out.ex.setCell ⟨w.heap.size + 1 + 1, 0, none⟩ (.inr (.inr (.inr (by show _ ≤ w.heap.size + 1 + 1; omega)))) _).setCell ⟨w.heap.size + 1 + 1, 1, none⟩ (.inr (.inr (.inr (by show _ ≤ w.heap.size + 1 + 1; omega)))) _).setCell ⟨w.heap.size + 1 + 1, 2, none⟩ (.inr (.inr (.inr (by show _ ≤ w.heap.size + 1 + 1; omega)))) _).setCell ⟨w.heap.size + 1 + 1, 3, none⟩ (.inr (.inr (.inr (by show _ ≤ w.heap.size + 1 + 1; omega)))) _
      · have e1 : (LF < mi) = False := by simp [hmin]
        have hm1 : (1 : Int) ≤ mi := by omega
        have hmM : mi ≤ M0 := by omega
        have HY : Hid (LF - mi = nth lf bn - mi) := Lib.hid (by have e := HLF1.out; omega)
        have HWY : Hid (Way (tab N Fl) (rtR lf) (gvR pt) (gvR pf) mi en) := Lib.hid (HWAY.out mi (by omega))
        have HML : Hid (mi ≤ nth lf bn) := Lib.hid (by have e := HLF1.out; omega)
        go_wp2
        clear q1
        go_region
        have hp1 : PM B N nn fb lb db cf cl cd G T w (W.setCell ⟨lb, bn, none⟩ (.int .i64 (LF - mi))).drew Fl (lf.set bn (LF - mi)) du pf pt := (HPM.out.setL bn (LF - mi)).drew
        clear e1 hmin l1 l2 c0 c1 c2 c3 p0 p1 HRA HMO HGV HWAY HPM
        generalize (W.setCell ⟨lb, bn, none⟩ (.int .i64 (LF - mi))).drew = w1 at *
        have c3 := hp1.bx.c3
        obtain ⟨d1, d2⟩ := hp1.fm.od.cellAt hp1.fm.dl en hen
        rw [← HM0.out] at d1
        have HP1 := Lib.hid hp1
        clear hp1
        go_wp2
        go_region
        have hp2 : PM B N nn fb lb db cf cl cd G T w (w1.setCell ⟨db, en, none⟩ (.int .i64 (M0 - mi))).drew Fl (lf.set bn (LF - mi)) (du.set en (M0 - mi)) pf pt := (HP1.out.setD en (M0 - mi)).drew
        clear c3 d1 d2 HP1
        generalize (w1.setCell ⟨db, en, none⟩ (.int .i64 (M0 - mi))).drew = w2 at *
        obtain ⟨PT, hPT⟩ : ∃ x, x = nth pt en := ⟨_, rfl⟩
        have hsb : PT - 1 = (be : Int) := by rw [hPT]; exact HBN.out
        have hPTb := HRC.out.tb2 en hen
        have t1 := rdAt hp2.ot en (by rw [HTL.out]; exact hen)
        rw [← hPT] at t1 hPTb
        have p1 := hp2.p1
        have c0 := hp2.bx.c0
        have c1 := hp2.bx.c1
        obtain ⟨nb, i1, hnb, hi1, hilt, HWX⟩ := idx_facts h16 hen hbeN
        obtain ⟨V, hV⟩ : ∃ x, x = tab N Fl be en := ⟨_, rfl⟩
        have hix : i1 < nn := by rw [hp2.fm.hn]; exact hilt
        obtain ⟨v1, v2⟩ := hp2.fm.of.cellAt hp2.fm.fl i1 hix
        have hVn : nth Fl i1 = V := by rw [hV, hi1, tab_at hbeN hen]
        rw [hVn] at v1
        have hV0 : 0 ≤ V := by rw [hV]; exact HF.out be en hbeN hen
        have hV1 : V ≤ 10000000000000 := by
          have a1 := sm_pick (f := fun y => tab N Fl be y) (fun k hk => HF.out be k hbeN hk) en hen
          have a3 := HB.out be hbeN
          rw [hV]; omega
        have hiz : (i1 : Int) < (nn : Int) := Int.ofNat_lt.2 hix
        have hbez : (be : Int) < (N : Int) := by omega
        have hps : PushSt N subO (tab N Fl) (rtR lf) (gvR pt) (gvR pf) tg tc en mi en (tab N Fl) := PushSt.first hen hz0 HWY.out HF.out
        have hft : tab N (Fl.set i1 (V + mi)) = upd (tab N Fl) be en (tab N Fl be en + mi) := by rw [hi1, tab_set (by rw [hp2.fm.fl, hp2.fm.hn]) hbeN hen, ← hV]
        have HPS := Lib.hid hps
        have HFT := Lib.hid hft
        have HP2 := Lib.hid hp2
        clear hps hft hp2 hPT hnb hi1 hilt hV hVn
        obtain ⟨hwb, hsum, hwb2, hsum2⟩ := HWX.out
        go_wp2
        go_region
        clear hwb hsum hwb2 hsum2
        have hp3 : PM B N nn fb lb db cf cl cd G T w (w2.setCell ⟨fb, i1, none⟩ (.int .i64 (V + mi))).drew (Fl.set i1 (V + mi)) (lf.set bn (LF - mi)) (du.set en (M0 - mi)) pf pt := (HP2.out.setF i1 (V + mi)).drew
        have HP3 := Lib.hid hp3
        clear hp3 HP2 hsb hPTb t1 p1 c0 c1 v1 v2
        generalize (w2.setCell ⟨fb, i1, none⟩ (.int .i64 (V + mi))).drew = w3 at *
        go_wp2_with fail
        refine l2Loop B N nn fb lb db cf cl cd G T w Fl lf (lf.set bn (LF - mi)) (du.set en (M0 - mi)) pf pt tg tc TT en bn mi h16 hen HR HRC HF HB HGL HTL hm1 (by omega) _ _ _ _ _ _ _ _ _ _ _ _ _ _ _ _ _ _ _ _ _ _ _ _ _ _ _ _ _ _ _ _ _ _ _ _ _ _ _ _ _ _ _ _ _ _ _ _ _ _ _ _ _ _ _ _ _ _ _ _ _ _ _ _ _ _ _ _ _ _ _ _ _ _ _ _ _ _ _ _ _ _ _ _ _ _ _ _ _ _ _ _ _ _ _ _ _ _ _ _ _ _ _ _ _ _ ?_ _ _ _ _ _ _ _ _ _ _ _ _ _ _ _ _ _ _ _ _ _ _ _ _ _ _ _ _ _ _ _ _ _ _ _ _ _ _ _ _ _ _ _ _ _ _ _ _ _ _ _ _ _ _ _ _ _ _ _ _ _ _ _ ⟨en, be, _, _, rfl, rfl, hbeN, HBN.out, HPS.out, HFT.out, HRO.out, HP3.out⟩
        apply Lib.hid
        intro u8 u9 u109 u110 u111 u112 u113 u114 u115 u116 u117 u118 u119 u120 u121 u122 u123 u124 u125 u126 u127 u128 u129 u130 u131 u132 u133 u134 u135 u136 u137 u138 u139 u140 u141 u142 u143 u144 u145 u146 u147 u148 u149 u150 u151 u152 u153 u154 u155 u156 u157 u158 u159 u160 u161 u162 u163 u164 u165 u166 u167 u168 w9 hx
        clear HPS HFT HP3
        obtain ⟨Fl1, hend, hpm⟩ := hx
        have c0 := hpm.bx.c0
        have c1 := hpm.bx.c1
        have c2 := hpm.bx.c2
        have c3 := hpm.bx.c3
        have r0 := hpm.rx.c0
        have r1 := hpm.rx.c1
        have r2 := hpm.rx.c2
        have r3 := hpm.rx.c3
        have f0 := hpm.rf 0
        have f1 := hpm.rf 1
        have f2 := hpm.rf 2
        have f3 := hpm.rf 3
        have HEND := Lib.hid hend
        have HPM := Lib.hid hpm
        obtain ⟨x1, x2, x3⟩ := hpm.lt
        clear hend hpm
        go_wp2
        refine bodyPost_ret (v := .agg #[.int .i64 (N : Int), .slice (some ⟨fb, 0, none⟩) nn cf, .slice (some ⟨lb, 0, none⟩) N cl, .slice (some ⟨db, 0, none⟩) N cd]) (by simp [results, Try.results95, go_sem, r0, r1, r2, r3, f0, f1, f2, f3]) rfl ⟨mi, bn, Fl1, rfl, hm1, HML.out, by rw [← HM0.out]; exact hmM, HEND.out, ?_, ?_⟩
        · rw [← HY.out, ← HM0.out]
          exact (((HPM.out.fm.other ⟨w.heap.size + 1 + 1, 0, none⟩ (by show w.heap.size + 1 + 1 ≠ _; omega) (by show w.heap.size + 1 + 1 ≠ _; omega) (by show w.heap.size + 1 + 1 ≠ _; omega) _).other ⟨w.heap.size + 1 + 1, 1, none⟩ (by show w.heap.size + 1 + 1 ≠ _; omega) (by show w.heap.size + 1 + 1 ≠ _; omega) (by show w.heap.size + 1 + 1 ≠ _; omega) _).other ⟨w.heap.size + 1 + 1, 2, none⟩ (by show w.heap.size + 1 + 1 ≠ _; omega) (by show w.heap.size + 1 + 1 ≠ _; omega) (by show w.heap.size + 1 + 1 ≠ _; omega) _).other ⟨w.heap.size + 1 + 1, 3, none⟩ (by show w.heap.size + 1 + 1 ≠ _; omega) (by show w.heap.size + 1 + 1 ≠ _; omega) (by show w.heap.size + 1 + 1 ≠ _; omega) _
        · exact (((HPM.out.ex.setCell ⟨w.heap.size + 1 + 1, 0, none⟩ (.inr (.inr (.inr (by show _ ≤ w.heap.size + 1 + 1; omega)))) _).setCell ⟨w.heap.size + 1 + 1, 1, none⟩ (.inr (.inr (.inr (by show _ ≤ w.heap.size + 1 + 1; omega)))) _).setCell ⟨w.heap.size + 1 + 1, 2, none⟩ (.inr (.inr (.inr (by show _ ≤ w.heap.size + 1 + 1; omega)))) _).setCell ⟨w.heap.size + 1 + 1, 3, none⟩ (.inr (.inr (.inr (by show _ ≤ w.heap.size + 1 + 1; omega)))) _

end Go.Proofs.Ytjmfjgoehicgcaa

/- Parts are sent as long as possible: the reference. -/
set_option linter.unusedVariables false
set_option linter.unusedSimpArgs false
namespace Go.Proofs.Ytjmfjgoehicgcaa
open Go.RowKit

def doneB (N : Nat) (du : List Int) : Bool := (List.range N).all fun a => decide (nth du a ≤ 0)
theorem doneB_iff {N : Nat} {du : List Int} : doneB N du = true ↔ ∀ a, a < N → nth du a ≤ 0 := by
  unfold doneB
  rw [List.all_eq_true]
  constructor
  · intro h a ha; exact of_decide_eq_true (h a (List.mem_range.2 ha))
  · intro h a ha; exact decide_eq_true (h a (List.mem_range.1 ha))

set_option maxHeartbeats 4000000 in
theorem l8Done_any (N : Nat) (w : World) (h16 : N ≤ 16) (v1 v2 : Value) (h1c : v1.oneCell' = true) (h2c : v2.oneCell' = true) (pD : Option Addr) (cD : Nat) (du : List Int) (hD : Reads w pD du) (hdl : du.length = N) :
    Calls Try.prog 55 #[.agg #[.int .i64 (N : Int), v1, v2, .slice pD N cD]] w fun e w' => e = .returned (.bool (doneB N du)) ∧ Below w.heap.size w w' := by
  have HDL := Lib.hid hdl
  have HD := Lib.hid hD
  have c0 := newAt w #[.int .i64 (N : Int), v1, v2, .slice pD N cD] 64 0 _ rfl
  have c3 := newAt w #[.int .i64 (N : Int), v1, v2, .slice pD N cD] 64 3 _ rfl
  have hb := belowAlloc w (.cells #[.int .i64 (N : Int), v1, v2, .slice pD N cD] 64)
  have HB := Lib.hid hb
  clear hdl hD hb
  go_enter Try.func55, Try.ntmps55
  go_wp2_with fail
  generalize w.alloc (.cells #[.int .i64 (N : Int), v1, v2, .slice pD N cD] 64) = W at *
  go_loop [3] (fun i => ∃ k : Nat, k ≤ N ∧ i = .int .i64 k ∧ Hid (∀ x, x < k → nth du x ≤ 0)) (fun i => N - (intOf i).toNat)
  case atStart => exact ⟨0, Nat.zero_le _, rfl, Lib.hid (fun x hx => absurd hx (Nat.not_lt_zero _))⟩
  case round =>
    obtain ⟨k, hk, rfl, hall⟩ := hrel
    by_cases hkN : k < N
    · have hkz : (k : Int) < (N : Int) := by omega
      obtain ⟨bb, oo, rfl, hlt, hc⟩ := (HD.out.below HB.out) k (by rw [HDL.out]; exact hkN)
      obtain ⟨V, hV⟩ : ∃ x, x = nth du k := ⟨_, rfl⟩
      rw [← hV] at hc
      have HV := Lib.hid hV
      clear hV
      by_cases hv : 0 < V
      · have hr : Hid (doneB N du = false) := Lib.hid (by
          cases e : doneB N du
          · rfl
          · have := doneB_iff.1 e k hkN; rw [← HV.out] at this; omega)
        go_wp2
        go_ret
        exact ⟨ret_bool hr.out.symm, HB.out⟩
      · go_wp2
        go_round
        case rel => exact ⟨k + 1, by omega, by go_num, Lib.hid (fun x hx => by
          by_cases e : x = k
          · subst e; rw [← HV.out]; omega
          · exact hall.out x (by omega))⟩
        case measure => simp [intOf]; omega
    · have hkE : N = k := by omega
      subst hkE
      have hr : Hid (doneB N du = true) := Lib.hid (doneB_iff.2 hall.out)
      go_wp2
      go_ret
      exact ⟨ret_bool hr.out.symm, HB.out⟩

/-- What is to go, and how it can: what a run leaves. -/
def RunPost (B N nn fb lb db cf cl cd : Nat) (sup dem : Nat → Int) (w : World) (e : Ending) (w' : World) : Prop :=
  ∃ (Fl lf du : List Int), e = .returned (.agg #[.int .i64 (N : Int), .slice (some ⟨fb, 0, none⟩) nn cf, .slice (some ⟨lb, 0, none⟩) N cl, .slice (some ⟨db, 0, none⟩) N cd]) ∧ FM B w' N nn fb lb db cf cl cd Fl lf du ∧
    PFlow N sup dem (tab N Fl) (nth lf) (nth du) ∧ ((∀ a, a < N → nth du a ≤ 0) → Flow N sup dem (tab N Fl)) ∧ ((∃ a, a < N ∧ 0 < nth du a) → ¬ ∃ G, Flow N sup dem G) ∧ Ex3 fb lb db w w'

theorem l8Reach_at (N nn : Nat) (w : World) (h1 : 1 ≤ N) (h16 : N ≤ 16) (pF pL pD : Option Addr) (cF cL cD nD : Nat) (Fl Lf : List Int) (hF : Reads w pF Fl) (hL : Reads w pL Lf) (hn : nn = N * N) (hFl : Fl.length = nn) (hLl : Lf.length = N) (hs : ∀ b a, b < N → a < N → subB a b = false → tab N Fl b a = 0) :
    Calls Try.prog 94 #[.agg #[.int .i64 N, .slice pF nn cF, .slice pL N cL, .slice pD nD cD]] w (ReachPost N (tab N Fl) (nth Lf) w) := by
  have h := l8Reach_any N w h1 h16 pF pL pD cF cL cD nD Fl Lf hF hL (by rw [hFl, hn]) hLl hs
  rw [hFl, hLl] at h
  exact h

/-- The memory of a run. -/
structure RN (B N nn fb lb db cf cl cd : Nat) (w wr : World) (Fl lf du : List Int) : Prop where
  fm : FM B wr N nn fb lb db cf cl cd Fl lf du
  bx : Bx wr w.heap.size (.int .i64 (N : Int)) (.slice (some ⟨fb, 0, none⟩) nn cf) (.slice (some ⟨lb, 0, none⟩) N cl) (.slice (some ⟨db, 0, none⟩) N cd)
  bf : ∀ o, wr.frozen? ⟨w.heap.size, o, none⟩ = false
  rx : Bx wr (w.heap.size + 1) (.int .i64 0) (.slice none 0 0) (.slice none 0 0) (.slice none 0 0)
  rf : ∀ o, wr.frozen? ⟨w.heap.size + 1, o, none⟩ = false
  ex : Ex3 fb lb db w wr
  lt : fb < w.heap.size ∧ lb < w.heap.size ∧ db < w.heap.size

section
variable {B N nn fb lb db cf cl cd : Nat} {w wr wr' : World} {Fl lf du : List Int}
theorem Bx.ex3 {b : Nat} {v0 v1 v2 v3 : Value} {f l d : Nat} {w w' : World} (h : Bx w b v0 v1 v2 v3) (e : Ex3 f l d w w') (h1 : b ≠ f) (h2 : b ≠ l) (h3 : b ≠ d) : Bx w' b v0 v1 v2 v3 := ⟨e.cell h.c0 h1 h2 h3, e.cell h.c1 h1 h2 h3, e.cell h.c2 h1 h2 h3, e.cell h.c3 h1 h2 h3⟩
theorem RN.step {Fl' lf' du' : List Int} (h : RN B N nn fb lb db cf cl cd w wr Fl lf du) (e : Ex3 fb lb db wr wr') (hf : FM B wr' N nn fb lb db cf cl cd Fl' lf' du') : RN B N nn fb lb db cf cl cd w wr' Fl' lf' du' := by
  obtain ⟨l1, l2, l3⟩ := h.lt
  have z0 := h.bx.lt
  have z1 := h.rx.lt
  exact ⟨hf, h.bx.ex3 e (by omega) (by omega) (by omega), fun o => e.froz z0 (h.bf o) (by omega) (by omega) (by omega), h.rx.ex3 e (by omega) (by omega) (by omega), fun o => e.froz z1 (h.rf o) (by omega) (by omega) (by omega), h.ex.trans e, h.lt⟩
theorem RN.later (h : RN B N nn fb lb db cf cl cd w wr Fl lf du) (e : Below wr.heap.size wr wr') : RN B N nn fb lb db cf cl cd w wr' Fl lf du := h.step (Ex3.ofBelow e) (h.fm.later e)
end

theorem Bx.put4 {w : World} {b : Nat} {v0 v1 v2 v3 u0 u1 u2 u3 : Value} (h : Bx w b v0 v1 v2 v3) : Bx ((((w.setCell ⟨b, 0, none⟩ u0).setCell ⟨b, 1, none⟩ u1).setCell ⟨b, 2, none⟩ u2).setCell ⟨b, 3, none⟩ u3) b u0 u1 u2 u3 := by
  have ne : ∀ i j : Nat, i ≠ j → (⟨b, i, none⟩ : Addr) ≠ ⟨b, j, none⟩ := fun i j h e => h (by injection e)
  refine ⟨?_, ?_, ?_, ?_⟩
  · exact cellOff (cellOff (cellOff (World.cell?_setCell_same _ _ _ h.c0) (ne _ _ (by decide))) (ne _ _ (by decide))) (ne _ _ (by decide))
  · exact cellOff (cellOff (World.cell?_setCell_same _ _ _ (cellOff h.c1 (ne _ _ (by decide)))) (ne _ _ (by decide))) (ne _ _ (by decide))
  · exact cellOff (World.cell?_setCell_same _ _ _ (cellOff (cellOff h.c2 (ne _ _ (by decide))) (ne _ _ (by decide)))) (ne _ _ (by decide))
  · exact World.cell?_setCell_same _ _ _ (cellOff (cellOff (cellOff h.c3 (ne _ _ (by decide))) (ne _ _ (by decide))) (ne _ _ (by decide)))

theorem FM.other4 {B : Nat} {w : World} {N nn fb lb db cf cl cd : Nat} {Fl lf du : List Int} (h : FM B w N nn fb lb db cf cl cd Fl lf du) (b : Nat) (h1 : b ≠ fb) (h2 : b ≠ lb) (h3 : b ≠ db) (u0 u1 u2 u3 : Value) :
    FM B ((((w.setCell ⟨b, 0, none⟩ u0).setCell ⟨b, 1, none⟩ u1).setCell ⟨b, 2, none⟩ u2).setCell ⟨b, 3, none⟩ u3) N nn fb lb db cf cl cd Fl lf du :=
  (((h.other _ h1 h2 h3 _).other _ h1 h2 h3 _).other _ h1 h2 h3 _).other _ h1 h2 h3 _

theorem Ex3.put4 {f l d : Nat} {a w : World} (h : Ex3 f l d a w) (b : Nat) (hb : a.heap.size ≤ b) (u0 u1 u2 u3 : Value) : Ex3 f l d a ((((w.setCell ⟨b, 0, none⟩ u0).setCell ⟨b, 1, none⟩ u1).setCell ⟨b, 2, none⟩ u2).setCell ⟨b, 3, none⟩ u3) :=
  (((h.setCell _ (.inr (.inr (.inr hb))) _).setCell _ (.inr (.inr (.inr hb))) _).setCell _ (.inr (.inr (.inr hb))) _).setCell _ (.inr (.inr (.inr hb))) _

theorem RN.reput {B N nn fb lb db cf cl cd : Nat} {w wr : World} {Fl lf du : List Int} (h : RN B N nn fb lb db cf cl cd w wr Fl lf du) :
    RN B N nn fb lb db cf cl cd w ((((wr.setCell ⟨w.heap.size, 0, none⟩ (.int .i64 (N : Int))).setCell ⟨w.heap.size, 1, none⟩ (.slice (some ⟨fb, 0, none⟩) nn cf)).setCell ⟨w.heap.size, 2, none⟩ (.slice (some ⟨lb, 0, none⟩) N cl)).setCell ⟨w.heap.size, 3, none⟩ (.slice (some ⟨db, 0, none⟩) N cd)) Fl lf du := by
  obtain ⟨l1, l2, l3⟩ := h.lt
  have ne : ∀ o, (⟨w.heap.size, o, none⟩ : Addr).block ≠ w.heap.size + 1 := fun o => by show w.heap.size ≠ _; omega
  exact ⟨h.fm.other4 _ (by omega) (by omega) (by omega) _ _ _ _, h.bx.put4, fun o => by simp only [World.frozen?_setCell]; exact h.bf o,
    ⟨cellOf (cellOf (cellOf (cellOf h.rx.c0 (ne _)) (ne _)) (ne _)) (ne _), cellOf (cellOf (cellOf (cellOf h.rx.c1 (ne _)) (ne _)) (ne _)) (ne _), cellOf (cellOf (cellOf (cellOf h.rx.c2 (ne _)) (ne _)) (ne _)) (ne _), cellOf (cellOf (cellOf (cellOf h.rx.c3 (ne _)) (ne _)) (ne _)) (ne _)⟩,
    fun o => by simp only [World.frozen?_setCell]; exact h.rf o, h.ex.put4 _ (Nat.le_refl _) _ _ _ _, h.lt⟩

theorem sent_R {N : Nat} {sup dem : Nat → Int} {F F' : Nat → Nat → Int} {lf du : List Int} {en bn : Nat} {m : Int} (h : PFlow N sup dem F (nth lf) (nth du)) (p : PushEnd N subO F en m bn F') (hl : lf.length = N) (hd : du.length = N) (he : en < N) (h1 : m ≤ nth lf bn) (h2 : m ≤ nth du en) :
    PFlow N sup dem F' (nth (lf.set bn (nth lf bn - m))) (nth (du.set en (nth du en - m))) ∧ sm N (nth (du.set en (nth du en - m))) = sm N (nth du) - m := by
  have e1 : nth (lf.set bn (nth lf bn - m)) = fun k => if k = bn then nth lf k - m else nth lf k := by
    rw [nth_setv _ _ _ (by rw [hl]; exact p.bn)]
    funext x
    by_cases e : x = bn
    · subst e; rw [upv_same, if_pos rfl]
    · rw [upv_off _ _ _ _ e, if_neg e]
  have e2 : nth (du.set en (nth du en - m)) = fun k => if k = en then nth du k - m else nth du k := by
    rw [nth_setv _ _ _ (by rw [hd]; exact he)]
    funext x
    by_cases e : x = en
    · subst e; rw [upv_same, if_pos rfl]
    · rw [upv_off _ _ _ _ e, if_neg e]
  rw [e1, e2]
  exact ⟨h.sent (op := subO) (fun _ _ q => q) p he h1 h2, PFlow.less he⟩

set_option maxHeartbeats 16000000 in
theorem l8Run_any (B N nn fb lb db cf cl cd : Nat) (Fl lf du : List Int) (w : World) (h1 : 1 ≤ N) (h16 : N ≤ 16) (hfm : FM B w N nn fb lb db cf cl cd Fl lf du) (sup dem : Nat → Int) (hpf : PFlow N sup dem (tab N Fl) (nth lf) (nth du)) (hsm : sm N sup = sm N dem)
    (hsb : ∀ b, b < N → sup b ≤ 10000000000000) (hdb : ∀ b, b < N → dem b ≤ 10000000000000) :
    Calls Try.prog 56 #[.agg #[.int .i64 (N : Int), .slice (some ⟨fb, 0, none⟩) nn cf, .slice (some ⟨lb, 0, none⟩) N cl, .slice (some ⟨db, 0, none⟩) N cd]] w (RunPost B N nn fb lb db cf cl cd sup dem w) := by
  obtain ⟨W, hW⟩ : ∃ W : World, W = (w.alloc (.cells #[.int .i64 (N : Int), .slice (some ⟨fb, 0, none⟩) nn cf, .slice (some ⟨lb, 0, none⟩) N cl, .slice (some ⟨db, 0, none⟩) N cd] 64)).alloc (.cells #[.int .i64 0, .slice none 0 0, .slice none 0 0, .slice none 0 0] 64) := ⟨_, rfl⟩
  have hrn : RN B N nn fb lb db cf cl cd w W Fl lf du := by
    obtain ⟨⟨-, l1⟩, ⟨-, l2⟩, -, l3⟩ := hfm.lts
    have e1 := belowAlloc w (.cells #[.int .i64 (N : Int), .slice (some ⟨fb, 0, none⟩) nn cf, .slice (some ⟨lb, 0, none⟩) N cl, .slice (some ⟨db, 0, none⟩) N cd] 64)
    have e2 := belowAlloc (w.alloc (.cells #[.int .i64 (N : Int), .slice (some ⟨fb, 0, none⟩) nn cf, .slice (some ⟨lb, 0, none⟩) N cl, .slice (some ⟨db, 0, none⟩) N cd] 64)) (.cells #[.int .i64 0, .slice none 0 0, .slice none 0 0, .slice none 0 0] 64)
    have b1 := Bx.made w (.int .i64 (N : Int)) (.slice (some ⟨fb, 0, none⟩) nn cf) (.slice (some ⟨lb, 0, none⟩) N cl) (.slice (some ⟨db, 0, none⟩) N cd) 64
    have b3 := Bx.made (w.alloc (.cells #[.int .i64 (N : Int), .slice (some ⟨fb, 0, none⟩) nn cf, .slice (some ⟨lb, 0, none⟩) N cl, .slice (some ⟨db, 0, none⟩) N cd] 64)) (.int .i64 0) (.slice none 0 0) (.slice none 0 0) (.slice none 0 0) 64
    have f1 := newFroz w #[.int .i64 (N : Int), .slice (some ⟨fb, 0, none⟩) nn cf, .slice (some ⟨lb, 0, none⟩) N cl, .slice (some ⟨db, 0, none⟩) N cd] 64
    have f3 := newFroz (w.alloc (.cells #[.int .i64 (N : Int), .slice (some ⟨fb, 0, none⟩) nn cf, .slice (some ⟨lb, 0, none⟩) N cl, .slice (some ⟨db, 0, none⟩) N cd] 64)) #[.int .i64 0, .slice none 0 0, .slice none 0 0, .slice none 0 0] 64
    simp only [allocSz] at b3 f3
    have ex := e1.thenB e2
    rw [hW]
    exact ⟨hfm.later ex, b1.later e2, fun o => frozKeep e2 (by simp) (f1 o), b3, f3, Ex3.ofBelow ex, ⟨l1, l2, l3⟩⟩
  have HRN := Lib.hid hrn
  have HW := Lib.hid hW
  have HPF := Lib.hid hpf
  have HSM := Lib.hid hsm
  have HSB := Lib.hid hsb
  have HDB := Lib.hid hdb
  clear hrn hW hpf hsm hsb hdb hfm
  go_enter Try.func56, Try.ntmps56
  go_wp2_with fail
  rw [← HW.out]
  clear HW
  go_loopg [4] ((sm N (nth du)).toNat + 1) (fun gm i wr => ∃ (Fl lf du : List Int), RN B N nn fb lb db cf cl cd w wr Fl lf du ∧ PFlow N sup dem (tab N Fl) (nth lf) (nth du) ∧ (sm N (nth du)).toNat ≤ gm)
  case atStart => exact ⟨Fl, lf, du, HRN.out, HPF.out, by omega⟩
  case round =>
    clear HRN HPF
    obtain ⟨Fl, lf, du, hrn, hpf, hgm⟩ := hrel
    have c0 := hrn.bx.c0
    have c1 := hrn.bx.c1
    have c2 := hrn.bx.c2
    have c3 := hrn.bx.c3
    have HRN := Lib.hid hrn
    have HPF := Lib.hid hpf
    have HGM := Lib.hid hgm
    clear hrn hpf hgm
    go_wp2_with fail
    refine (l8Reach_at N nn wr h1 h16 _ _ _ cf cl cd N Fl lf HRN.out.fm.of.reads HRN.out.fm.ol.reads HRN.out.fm.hn HRN.out.fm.fl HRN.out.fm.ll HPF.out.sub).mono ?_
    rintro e w1 ⟨G, T, pf, pt, rfl, hgl, htl, hog, hot, hrd, hb⟩
    have zg := hog.blockLt G rfl
    have zt := hot.blockLt T rfl
    have hrn2 := (HRN.out.later hb).later (belowAlloc w1 (.cells #[.slice (some ⟨G, 0, none⟩) N N, .slice (some ⟨T, 0, none⟩) N N] 97))
    have hG := hog.reads.below (belowAlloc w1 (.cells #[.slice (some ⟨G, 0, none⟩) N N, .slice (some ⟨T, 0, none⟩) N N] 97))
    have hT := hot.reads.below (belowAlloc w1 (.cells #[.slice (some ⟨G, 0, none⟩) N N, .slice (some ⟨T, 0, none⟩) N N] 97))
    have d0 := newCell0 w1 (.slice (some ⟨G, 0, none⟩) N N) (.slice (some ⟨T, 0, none⟩) N N) 97
    have d1 := newCell1 w1 (.slice (some ⟨G, 0, none⟩) N N) (.slice (some ⟨T, 0, none⟩) N N) 97
    have hzz := HRN.out.ex.size
    obtain ⟨l1, l2, l3⟩ := HRN.out.lt
    have HNG : Hid (G ≠ fb ∧ G ≠ lb ∧ G ≠ db) := Lib.hid (by omega)
    have HNT : Hid (T ≠ fb ∧ T ≠ lb ∧ T ≠ db) := Lib.hid (by omega)
    have HGL := Lib.hid hgl
    have HTL := Lib.hid htl
    have HRD := Lib.hid hrd
    have hP : ∃ P : Nat, P = w1.heap.size := ⟨_, rfl⟩
    obtain ⟨P, hP⟩ := hP
    rw [← hP] at d0 d1
    have HRN2 := Lib.hid hrn2
    have HG := Lib.hid hG
    have HT := Lib.hid hT
    clear hgl htl hog hot hrd hb zg zt hrn2 hG hT hzz l1 l2 l3 c0 c1 c2 c3 HRN
    go_wp2_with fail
    rw [← hP]
    clear hP
    generalize w1.alloc (.cells #[.slice (some ⟨G, 0, none⟩) N N, .slice (some ⟨T, 0, none⟩) N N] 97) = w2 at *
    have hrn := HRN2.out
    have c0 := hrn.bx.c0
    have c1 := hrn.bx.c1
    have c2 := hrn.bx.c2
    have c3 := hrn.bx.c3
    clear hrn
    go_loop [4] (fun i => ∃ k : Nat, k ≤ N ∧ i = .int .i64 k ∧ Hid (∀ x, x < k → nth pt x = 0 ∨ nth du x = 0)) (fun i => N - (intOf i).toNat)
    case atStart => exact ⟨0, Nat.zero_le _, rfl, Lib.hid (fun x hx => absurd hx (Nat.not_lt_zero _))⟩
    case round =>
      obtain ⟨k, hk, rfl, hall⟩ := hrel
      have hkz : (k : Int) ≤ (N : Int) := by omega
      have finish : True := trivial
      by_cases hkN : k < N
      · have hkz2 : (k : Int) < (N : Int) := by omega
        have t1 := rdAt HT.out k (by rw [HTL.out]; exact hkN)
        obtain ⟨q1, q2⟩ := HRN2.out.fm.od.cellAt HRN2.out.fm.dl k hkN
        obtain ⟨tg, tc, TT, hrc⟩ := HRD.out.rch
        have hPT0 := hrc.tb2 k hkN
        have hDU0 := HPF.out.dn k hkN
        obtain ⟨PT, hPT⟩ : ∃ x, x = nth pt k := ⟨_, rfl⟩
        obtain ⟨DU, hDU⟩ : ∃ x, x = nth du k := ⟨_, rfl⟩
        rw [← hPT] at t1 hPT0
        rw [← hDU] at q1 hDU0
        have HPT := Lib.hid hPT
        have HDU := Lib.hid hDU
        clear hPT hDU hrc
        rcases (show PT = 0 ∨ 0 < PT by omega) with rfl | hp
        · go_wp2
          go_round
          case rel => exact ⟨k + 1, by omega, by go_num, Lib.hid (fun x hx => by
            by_cases e : x = k
            · subst e; exact .inl HPT.out.symm
            · exact hall.out x (by omega))⟩
          case measure => simp [intOf]; omega
        · have ep : (PT == 0) = false := by simp; omega
          rcases (show DU = 0 ∨ 0 < DU by omega) with rfl | hd
          · go_wp2
            go_round
            case rel => exact ⟨k + 1, by omega, by go_num, Lib.hid (fun x hx => by
              by_cases e : x = k
              · subst e; exact .inr HDU.out.symm
              · exact hall.out x (by omega))⟩
            case measure => simp [intOf]; omega
          · have ed : (DU == 0) = false := by simp; omega
            have ek : ((k : Int) == (N : Int)) = false := by simp; omega
            have hDUb : nth du k ≤ 10000000000000 := by
              have a1 := HPF.out.col k hkN
              have a2 := HDB.out k hkN
              have a3 : 0 ≤ sm N (fun b => tab N Fl b k) := sm_nonneg fun b hb => HPF.out.nn b k hb hkN
              omega
            have hrow : ∀ b, b < N → sm N (fun a => tab N Fl b a) ≤ 10000000000000 ∧ nth lf b ≤ 10000000000000 := fun b hb => by
              have a1 := HPF.out.row b hb
              have a2 := HSB.out b hb
              have a3 : 0 ≤ sm N (fun a => tab N Fl b a) := sm_nonneg fun a ha => HPF.out.nn b a hb ha
              have a4 := HPF.out.ln b hb
              omega
            have hpu := l8Push_any B N nn fb lb db cf cl cd Fl lf du w2 h16 HRN2.out.fm G T pf pt HG.out HT.out HGL.out HTL.out HNG.out HNT.out HRD.out k hkN (by rw [← HPT.out]; exact hp) (by rw [← HDU.out]; exact hd) hDUb (fun b hb => (hrow b hb).2) HPF.out.nn (fun b hb => (hrow b hb).1)
            have HPU := Lib.hid hpu
            clear hpu hDUb hrow
            go_wp2_with fail
            refine HPU.out.mono ?_
            rintro e w3 ⟨m, bn, Fl2, rfl, hm1, hm2, hm3, hpe, hfm, hex⟩
            have hse := sent_R HPF.out hpe HRN2.out.fm.ll HRN2.out.fm.dl hkN hm2 hm3
            have hrn3 := HRN2.out.step hex hfm
            have b0 := hrn3.bx.c0
            have b1 := hrn3.bx.c1
            have b2 := hrn3.bx.c2
            have b3 := hrn3.bx.c3
            have f0 := hrn3.bf 0
            have f1 := hrn3.bf 1
            have f2 := hrn3.bf 2
            have f3 := hrn3.bf 3
            have HSE := Lib.hid hse
            have HRN3 := Lib.hid hrn3
            have HM1 := Lib.hid hm1
            have HM3 := Lib.hid hm3
            clear HPU hpe hfm hex hse hrn3 hm1 hm2 hm3 c0 c1 c2 c3 t1 q1 q2 d0 d1
            go_wp2_with fail
            go_roundg (sm N (nth (du.set k (nth du k - m)))).toNat
            case measure =>
              have e1 := HSE.out.2
              have e2 := HGM.out
              have e3 := HM1.out
              have e4 : nth du k ≤ sm N (nth du) := sm_pick (f := nth du) (fun a ha => HPF.out.dn a ha) k hkN
              have e5 := HM3.out
              omega
            case rel => exact ⟨Fl2, _, _, HRN3.out.reput, HSE.out.1, Nat.le_refl _⟩
      · have hkE : N = k := by omega
        subst hkE
        have ek : ((N : Int) == (N : Int)) = true := by simp
        have hre := run_end HPF.out HSM.out HRD.out hall.out
        have HRE := Lib.hid hre
        have r0 := HRN2.out.rx.c0
        have r1 := HRN2.out.rx.c1
        have r2 := HRN2.out.rx.c2
        have r3 := HRN2.out.rx.c3
        have f0 := HRN2.out.rf 0
        have f1 := HRN2.out.rf 1
        have f2 := HRN2.out.rf 2
        have f3 := HRN2.out.rf 3
        obtain ⟨l1, l2, l3⟩ := HRN2.out.lt
        clear hre d0 d1
        go_wp2
        refine bodyPost_ret (v := .agg #[.int .i64 (N : Int), .slice (some ⟨fb, 0, none⟩) nn cf, .slice (some ⟨lb, 0, none⟩) N cl, .slice (some ⟨db, 0, none⟩) N cd]) (by simp [results, Try.results56, go_sem, r0, r1, r2, r3, f0, f1, f2, f3]) rfl ⟨Fl, lf, du, rfl, ?_, HPF.out, HRE.out.1, HRE.out.2, ?_⟩
        · exact (((HRN2.out.fm.other ⟨w.heap.size + 1, 0, none⟩ (by show w.heap.size + 1 ≠ _; omega) (by show w.heap.size + 1 ≠ _; omega) (by show w.heap.size + 1 ≠ _; omega) _).other ⟨w.heap.size + 1, 1, none⟩ (by show w.heap.size + 1 ≠ _; omega) (by show w.heap.size + 1 ≠ _; omega) (by show w.heap.size + 1 ≠ _; omega) _).other ⟨w.heap.size + 1, 2, none⟩ (by show w.heap.size + 1 ≠ _; omega) (by show w.heap.size + 1 ≠ _; omega) (by show w.heap.size + 1 ≠ _; omega) _).other ⟨w.heap.size + 1, 3, none⟩ (by show w.heap.size + 1 ≠ _; omega) (by show w.heap.size + 1 ≠ _; omega) (by show w.heap.size + 1 ≠ _; omega) _
        · exact (((HRN2.out.ex.setCell ⟨w.heap.size + 1, 0, none⟩ (.inr (.inr (.inr (by show _ ≤ w.heap.size + 1; omega)))) _).setCell ⟨w.heap.size + 1, 1, none⟩ (.inr (.inr (.inr (by show _ ≤ w.heap.size + 1; omega)))) _).setCell ⟨w.heap.size + 1, 2, none⟩ (.inr (.inr (.inr (by show _ ≤ w.heap.size + 1; omega)))) _).setCell ⟨w.heap.size + 1, 3, none⟩ (.inr (.inr (.inr (by show _ ≤ w.heap.size + 1; omega)))) _

end Go.Proofs.Ytjmfjgoehicgcaa
