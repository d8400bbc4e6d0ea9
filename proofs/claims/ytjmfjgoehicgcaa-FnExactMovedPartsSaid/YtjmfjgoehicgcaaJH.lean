/- As much as leaves a way for the rest: the reference. -/
import Derived.Test.YtjmfjgoehicgcaaJG
set_option linter.unusedVariables false
set_option linter.unusedSimpArgs false
namespace Go.Proofs.Ytjmfjgoehicgcaa
open Go.RowKit

/-- Whether the rest can go if so much goes from one set to another one. -/
def CanG (N : Nat) (lf du : List Int) (b a : Nat) (n : Int) : Prop := ∃ G, Flow N (less (nth lf) b n) (less (nth du) a n) G

/-- While the greatest amount is looked for. -/
structure Bin (N : Nat) (lf du : List Int) (b a : Nat) (lo hi : Int) : Prop where
  l0 : 0 ≤ lo
  lh : lo ≤ hi
  h1 : hi ≤ nth lf b
  h2 : hi ≤ nth du a
  can : CanG N lf du b a lo
  no : ∀ m, hi < m → m ≤ nth lf b → m ≤ nth du a → ¬ CanG N lf du b a m

theorem Bin.up {N : Nat} {lf du : List Int} {b a : Nat} {lo hi mid : Int} (h : Bin N lf du b a lo hi) (h1 : lo ≤ mid) (h2 : mid ≤ hi) (hc : CanG N lf du b a mid) : Bin N lf du b a mid hi := ⟨by have := h.l0; omega, h2, h.h1, h.h2, hc, h.no⟩
theorem Bin.down {N : Nat} {lf du : List Int} {b a : Nat} {lo hi mid : Int} (h : Bin N lf du b a lo hi) (h1 : lo < mid) (h2 : mid ≤ hi) (hc : ¬ CanG N lf du b a mid) (hm : ∀ n m, 0 ≤ n → n ≤ m → CanG N lf du b a m → CanG N lf du b a n) : Bin N lf du b a lo (mid - 1) :=
  ⟨h.l0, by omega, by have := h.h1; omega, by have := h.h2; omega, h.can, fun m m1 _ _ hc2 => hc (hm mid m (by have := h.l0; omega) (by omega) hc2)⟩

/-- What 'l8Most' gives. -/
def MostPost (N nn : Nat) (Fl lf du : List Int) (b a : Nat) (w : World) (e : Ending) (w' : World) : Prop :=
  ∃ (fb lb db cf cl cd : Nat) (n : Int), e = .returned (.agg #[.int .i64 (N : Int), .slice (some ⟨fb, 0, none⟩) nn cf, .slice (some ⟨lb, 0, none⟩) N cl, .slice (some ⟨db, 0, none⟩) N cd]) ∧ Bin N lf du b a n n ∧
    FM w.heap.size w' N nn fb lb db cf cl cd (Fl.set (N * b + a) n) (lf.set b (nth lf b - n)) (du.set a (nth du a - n)) ∧ Below w.heap.size w w'

set_option maxHeartbeats 4000000 in
set_option maxRecDepth 100000 in
theorem l8Most_any (B N nn fb lb db cf cl cd : Nat) (Fl lf du : List Int) (w : World) (h1 : 1 ≤ N) (h16 : N ≤ 16) (hfm : FM B w N nn fb lb db cf cl cd Fl lf du) (hfn : FN N lf du) (b a : Nat) (hb : b < N) (ha : a < N)
    (hcan : CanG N lf du b a 0) (hmono : ∀ n m, 0 ≤ n → n ≤ m → CanG N lf du b a m → CanG N lf du b a n) :
    Calls Try.prog 86 #[.agg #[.int .i64 (N : Int), .slice (some ⟨fb, 0, none⟩) nn cf, .slice (some ⟨lb, 0, none⟩) N cl, .slice (some ⟨db, 0, none⟩) N cd], .int .i64 b, .int .i64 a] w (MostPost N nn Fl lf du b a w) := by
  obtain ⟨W, hW⟩ : ∃ W : World, W = (w.alloc (.cells #[.int .i64 (N : Int), .slice (some ⟨fb, 0, none⟩) nn cf, .slice (some ⟨lb, 0, none⟩) N cl, .slice (some ⟨db, 0, none⟩) N cd] 64)).alloc (.cells #[.int .i64 0, .slice none 0 0, .slice none 0 0, .slice none 0 0] 64) := ⟨_, rfl⟩
  have hbW : Below w.heap.size w W := by rw [hW]; exact (belowAlloc w _).thenB (belowAlloc _ _)
  have hsz : W.heap.size = w.heap.size + 2 := by rw [hW]; simp
  have bx : Bx W w.heap.size (.int .i64 (N : Int)) (.slice (some ⟨fb, 0, none⟩) nn cf) (.slice (some ⟨lb, 0, none⟩) N cl) (.slice (some ⟨db, 0, none⟩) N cd) := by rw [hW]; exact (Bx.made _ _ _ _ _ _).later (belowAlloc _ _)
  have rx : Bx W (w.heap.size + 1) (.int .i64 0) (.slice none 0 0) (.slice none 0 0) (.slice none 0 0) := by
    have e := Bx.made (w.alloc (.cells #[.int .i64 (N : Int), .slice (some ⟨fb, 0, none⟩) nn cf, .slice (some ⟨lb, 0, none⟩) N cl, .slice (some ⟨db, 0, none⟩) N cd] 64)) (.int .i64 0) (.slice none 0 0) (.slice none 0 0) (.slice none 0 0) 64
    rw [allocSz] at e
    rw [hW]; exact e
  have rf : ∀ o, W.frozen? ⟨w.heap.size + 1, o, none⟩ = false := by
    have e := newFroz (w.alloc (.cells #[.int .i64 (N : Int), .slice (some ⟨fb, 0, none⟩) nn cf, .slice (some ⟨lb, 0, none⟩) N cl, .slice (some ⟨db, 0, none⟩) N cd] 64)) #[.int .i64 0, .slice none 0 0, .slice none 0 0, .slice none 0 0] 64
    rw [allocSz] at e
    rw [hW]; exact e
  have hfm2 := hfm.later hbW
  have HFM := Lib.hid hfm2
  have HFN := Lib.hid hfn
  have HRX := Lib.hid (And.intro rx rf)
  have HBX := Lib.hid bx
  have HSZ := Lib.hid hsz
  have HBW := Lib.hid hbW
  have HMO := Lib.hid hmono
  have HCA := Lib.hid hcan
  have HW := Lib.hid hW
  have hnn2 : nn ≤ 256 := by rw [hfm.hn]; exact Nat.mul_le_mul h16 h16
  have HNN := Lib.hid hfm.hn
  have c2 := bx.c2
  have c3 := bx.c3
  obtain ⟨l1, l2⟩ := hfm2.ol.cellAt hfm2.ll b hb
  obtain ⟨d1, d2⟩ := hfm2.od.cellAt hfm2.dl a ha
  obtain ⟨LF, hLF⟩ : ∃ x, x = nth lf b := ⟨_, rfl⟩
  obtain ⟨DU, hDU⟩ : ∃ x, x = nth du a := ⟨_, rfl⟩
  have hlf := hfn.l0 b hb
  have hdu := hfn.d0 a ha
  rw [← hLF] at l1 hlf
  rw [← hDU] at d1 hdu
  have HLF := Lib.hid hLF
  have HDU := Lib.hid hDU
  have hbz : (b : Int) < (N : Int) := by omega
  have haz : (a : Int) < (N : Int) := by omega
  clear hW hsz hbW bx rx rf hfm hfm2 hfn hcan hmono hLF hDU
  go_enter Try.func86, Try.ntmps86
  go_wp2_with fail
  rw [← HW.out]
  clear HW
  obtain ⟨M, hM⟩ : ∃ M : Int, M = if DU < LF then DU else LF := ⟨_, rfl⟩
  have hM2 : 0 ≤ M ∧ M ≤ 1000000000000 ∧ M ≤ LF ∧ M ≤ DU ∧ (∀ m, M < m → m ≤ LF → ¬ m ≤ DU) := by
    rw [hM]; split
    · exact ⟨by omega, by omega, by omega, by omega, fun m _ _ _ => by omega⟩
    · exact ⟨by omega, by omega, by omega, by omega, fun m _ _ _ => by omega⟩
  have HM2 := Lib.hid hM2
  have hbin : Bin N lf du b a 0 M := ⟨Int.le_refl _, hM2.1, by rw [← HLF.out]; exact hM2.2.2.1, by rw [← HDU.out]; exact hM2.2.2.2.1, HCA.out, fun m m1 m2 m3 => absurd (by rw [HDU.out]; exact m3) (hM2.2.2.2.2 m m1 (by rw [HLF.out]; exact m2))⟩
  have HBI := Lib.hid hbin
  have HM := Lib.hid hM
  clear hM hM2 hbin
  have hstep : ∀ v : Int, M = v → Hid (Bin N lf du b a 0 v) := fun v e => Lib.hid (by rw [← e]; exact HBI.out)
  have HST := Lib.hid hstep
  clear hstep
  by_cases hmin : DU < LF
  case pos =>
    have e1 : (DU < LF) = True := by simp [hmin]
    have e2 : (LF < DU) = False := by simp; omega
    have HBI := HST.out DU (by rw [HM.out, if_pos hmin])
    go_region
    clear HST HM HM2 hmin e1
    go_wp2_with fail
    go_loopw [7, 8] (fun lo hi wr => ∃ (l h : Int), lo = .int .i64 l ∧ hi = .int .i64 h ∧ Bin N lf du b a l h ∧ Below W.heap.size W wr) (fun lo hi _ => (intOf hi - intOf lo).toNat)
    case atStart => exact ⟨_, _, rfl, rfl, HBI.out, (Below.refl _ _).drew⟩
    case round =>
      clear HBI
      obtain ⟨l, h, rfl, rfl, hbi, hbl⟩ := hrel
      have bx := HBX.out.later hbl
      have x0 := bx.c0
      have x1 := bx.c1
      have x2 := bx.c2
      have x3 := bx.c3
      have i0 := hbi.l0
      have i1 := hbi.lh
      have i2 := hbi.h1
      rw [← HLF.out] at i2
      have HB2 := Lib.hid hbi
      clear hbi bx
      by_cases hlt : l < h
      · have hmb : l < (l + h + 1) / 2 ∧ (l + h + 1) / 2 ≤ h := by omega
        have HMB := Lib.hid hmb
        have hc := l8Can_any B N nn fb lb db cf cl cd Fl lf du wr h1 h16 (HFM.out.later hbl) HFN.out b a hb ha ((l + h + 1) / 2) (by omega) (by have := HB2.out.h1; omega) (by have := HB2.out.h2; omega)
        have HC := Lib.hid hc
        clear hc hmb
        cases hfl : flB N (less (nth lf) b ((l + h + 1) / 2)) (less (nth du) a ((l + h + 1) / 2))
        · have hno := Lib.hid (HB2.out.down HMB.out.1 HMB.out.2 (flB_no.1 hfl) HMO.out)
          rw [hfl] at HC
          clear hfl
          go_wp2_with fail
          refine HC.out.mono ?_
          rintro e w1 ⟨rfl, b1⟩
          clear HC x0 x1 x2 x3
          have hb1 := Lib.hid (hbl.thenB b1)
          go_wp2
          obtain ⟨m1, m2⟩ := HMB.out
          exact ⟨⟨_, _, rfl, rfl, hno.out, hb1.out⟩, by simp [intOf]; omega⟩
        · have hup := Lib.hid (HB2.out.up (Int.le_of_lt HMB.out.1) HMB.out.2 (flB_iff.1 hfl))
          rw [hfl] at HC
          clear hfl
          go_wp2_with fail
          refine HC.out.mono ?_
          rintro e w1 ⟨rfl, b1⟩
          clear HC x0 x1 x2 x3
          have hb1 := Lib.hid (hbl.thenB b1)
          go_wp2
          obtain ⟨m1, m2⟩ := HMB.out
          exact ⟨⟨_, _, rfl, rfl, hup.out, hb1.out⟩, by simp [intOf]; omega⟩
      · have hle : h = l := by omega
        subst hle
        have hcp := l8Copy_any B N nn fb lb db cf cl cd Fl lf du wr h1 h16 (HFM.out.later hbl)
        have HCP := Lib.hid hcp
        clear hcp
        go_wp2_with fail
        refine HCP.out.mono ?_
        rintro e w1 ⟨gb, kb, eb, jf, jl, jd, rfl, hfm, b1⟩
        have hlts := hfm.lts
        have b2 := belowAlloc w1 (.cells #[.int .i64 (N : Int), .slice (some ⟨gb, 0, none⟩) nn jf, .slice (some ⟨kb, 0, none⟩) N jl, .slice (some ⟨eb, 0, none⟩) N jd] 64)
        have x0' := Bx.made w1 (.int .i64 (N : Int)) (.slice (some ⟨gb, 0, none⟩) nn jf) (.slice (some ⟨kb, 0, none⟩) N jl) (.slice (some ⟨eb, 0, none⟩) N jd) 64
        have hsz1 := hbl.size
        have hsz2 := b1.size
        have hcm : CM N nn gb kb eb jf jl jd w1.heap.size W (w1.alloc (.cells #[.int .i64 (N : Int), .slice (some ⟨gb, 0, none⟩) nn jf, .slice (some ⟨kb, 0, none⟩) N jl, .slice (some ⟨eb, 0, none⟩) N jd] 64)) Fl lf du :=
          ⟨(hfm.mono (by omega)).later b2, x0', by omega, by omega, by omega, (hbl.thenB b1).thenB b2⟩
        have HCM := Lib.hid hcm
        clear hcm b2 x0' hlts hfm b1 HCP x0 x1 x2 x3 hsz1 hsz2
        go_wp2_with fail
        generalize w1.alloc (.cells #[.int .i64 (N : Int), .slice (some ⟨gb, 0, none⟩) nn jf, .slice (some ⟨kb, 0, none⟩) N jl, .slice (some ⟨eb, 0, none⟩) N jd] 64) = w2 at *
        generalize w1.heap.size = P at *
        have c2' := HCM.out.bx.c2
        obtain ⟨l1', l2'⟩ := HCM.out.fm.ol.cellAt HCM.out.fm.ll b hb
        rw [← HLF.out] at l1'
        go_region
        have hcm2 := (HCM.out.setL b (LF - h)).drew
        have HC2 := Lib.hid hcm2
        clear hcm2 c2' l1' l2' HCM
        generalize (w2.setCell ⟨kb, b, none⟩ (.int .i64 (LF - h))).drew = w3 at *
        have c3' := HC2.out.bx.c3
        obtain ⟨d1', d2'⟩ := HC2.out.fm.od.cellAt HC2.out.fm.dl a ha
        rw [← HDU.out] at d1'
        go_wp2_with fail
        go_region
        have hcm3 := (HC2.out.setD a (DU - h)).drew
        have HC3 := Lib.hid hcm3
        clear hcm3 c3' d1' d2' HC2
        generalize (w3.setCell ⟨eb, a, none⟩ (.int .i64 (DU - h))).drew = w4 at *
        obtain ⟨nb, i1', hnb, hi1, hilt, HWX⟩ := idx_facts h16 ha hb
        have c1' := HC3.out.bx.c1
        have hix : i1' < nn := by rw [HNN.out]; exact hilt
        have hiz : (i1' : Int) < (nn : Int) := Int.ofNat_lt.2 hix
        obtain ⟨v1', v2'⟩ := HC3.out.fm.of.cellAt HC3.out.fm.fl i1' hix
        have hbx2 := HBX.out.later HC3.out.bl
        have y0 := hbx2.c0
        have HCF := Lib.hid (HC3.out.setF i1' h)
        have HI1 := Lib.hid hi1
        obtain ⟨hwb, hsum, hwb2, hsum2⟩ := HWX.out
        have hrx := HRX.out.1.later HC3.out.bl
        have r0 := hrx.c0
        have r1 := hrx.c1
        have r2 := hrx.c2
        have r3 := hrx.c3
        have f0 := frozKeep HC3.out.bl HRX.out.1.lt (HRX.out.2 0)
        have f1 := frozKeep HC3.out.bl HRX.out.1.lt (HRX.out.2 1)
        have f2 := frozKeep HC3.out.bl HRX.out.1.lt (HRX.out.2 2)
        have f3 := frozKeep HC3.out.bl HRX.out.1.lt (HRX.out.2 3)
        have hgR : gb ≠ w.heap.size + 1 := by have := HC3.out.fm.lts.1.1; have := HSZ.out; omega
        have hkR : kb ≠ w.heap.size + 1 := by have := HC3.out.fm.lts.2.1.1; have := HSZ.out; omega
        have heR : eb ≠ w.heap.size + 1 := by have := HC3.out.fm.lts.2.2.1; have := HSZ.out; omega
        have hgP := HC3.out.pf
        have p0' := HC3.out.bx.c0
        have p2' := HC3.out.bx.c2
        have p3' := HC3.out.bx.c3
        have HR3 := Lib.hid (And.intro hgR.symm (And.intro hkR.symm heR.symm))
        clear hbx2 hnb hi1 hilt hrx hkR heR
        go_wp2
        clear hwb hsum hwb2 hsum2
        refine bodyPost_ret (v := .agg #[.int .i64 (N : Int), .slice (some ⟨gb, 0, none⟩) nn jf, .slice (some ⟨kb, 0, none⟩) N jl, .slice (some ⟨eb, 0, none⟩) N jd]) (by simp [results, Try.results86, go_sem, r0, r1, r2, r3, f0, f1, f2, f3, hgR]) rfl ⟨gb, kb, eb, jf, jl, jd, h, rfl, HB2.out, ?_, ?_⟩
        · rw [← HI1.out, ← HLF.out, ← HDU.out]
          exact (HCF.out.fm.mono (by have := HSZ.out; omega)).other4 _ HR3.out.1 HR3.out.2.1 HR3.out.2.2 _ _ _ _
        · exact below4 (HBW.out.thenB HCF.out.bl) (by omega)
  case neg =>
    have e1 : (DU < LF) = False := by simp [hmin]
    have HBI := HST.out LF (by rw [HM.out, if_neg hmin])
    go_region
    clear HST HM HM2 hmin e1
    go_wp2_with fail
    go_loopw [7, 8] (fun lo hi wr => ∃ (l h : Int), lo = .int .i64 l ∧ hi = .int .i64 h ∧ Bin N lf du b a l h ∧ Below W.heap.size W wr) (fun lo hi _ => (intOf hi - intOf lo).toNat)
    case atStart => exact ⟨_, _, rfl, rfl, HBI.out, (Below.refl _ _).drew⟩
    case round =>
      clear HBI
      obtain ⟨l, h, rfl, rfl, hbi, hbl⟩ := hrel
      have bx := HBX.out.later hbl
      have x0 := bx.c0
      have x1 := bx.c1
      have x2 := bx.c2
      have x3 := bx.c3
      have i0 := hbi.l0
      have i1 := hbi.lh
      have i2 := hbi.h1
      rw [← HLF.out] at i2
      have HB2 := Lib.hid hbi
      clear hbi bx
      by_cases hlt : l < h
      · have hmb : l < (l + h + 1) / 2 ∧ (l + h + 1) / 2 ≤ h := by omega
        have HMB := Lib.hid hmb
        have hc := l8Can_any B N nn fb lb db cf cl cd Fl lf du wr h1 h16 (HFM.out.later hbl) HFN.out b a hb ha ((l + h + 1) / 2) (by omega) (by have := HB2.out.h1; omega) (by have := HB2.out.h2; omega)
        have HC := Lib.hid hc
        clear hc hmb
        cases hfl : flB N (less (nth lf) b ((l + h + 1) / 2)) (less (nth du) a ((l + h + 1) / 2))
        · have hno := Lib.hid (HB2.out.down HMB.out.1 HMB.out.2 (flB_no.1 hfl) HMO.out)
          rw [hfl] at HC
          clear hfl
          go_wp2_with fail
          refine HC.out.mono ?_
          rintro e w1 ⟨rfl, b1⟩
          clear HC x0 x1 x2 x3
          have hb1 := Lib.hid (hbl.thenB b1)
          go_wp2
          obtain ⟨m1, m2⟩ := HMB.out
          exact ⟨⟨_, _, rfl, rfl, hno.out, hb1.out⟩, by simp [intOf]; omega⟩
        · have hup := Lib.hid (HB2.out.up (Int.le_of_lt HMB.out.1) HMB.out.2 (flB_iff.1 hfl))
          rw [hfl] at HC
          clear hfl
          go_wp2_with fail
          refine HC.out.mono ?_
          rintro e w1 ⟨rfl, b1⟩
          clear HC x0 x1 x2 x3
          have hb1 := Lib.hid (hbl.thenB b1)
          go_wp2
          obtain ⟨m1, m2⟩ := HMB.out
          exact ⟨⟨_, _, rfl, rfl, hup.out, hb1.out⟩, by simp [intOf]; omega⟩
      · have hle : h = l := by omega
        subst hle
        have hcp := l8Copy_any B N nn fb lb db cf cl cd Fl lf du wr h1 h16 (HFM.out.later hbl)
        have HCP := Lib.hid hcp
        clear hcp
        go_wp2_with fail
        refine HCP.out.mono ?_
        rintro e w1 ⟨gb, kb, eb, jf, jl, jd, rfl, hfm, b1⟩
        have hlts := hfm.lts
        have b2 := belowAlloc w1 (.cells #[.int .i64 (N : Int), .slice (some ⟨gb, 0, none⟩) nn jf, .slice (some ⟨kb, 0, none⟩) N jl, .slice (some ⟨eb, 0, none⟩) N jd] 64)
        have x0' := Bx.made w1 (.int .i64 (N : Int)) (.slice (some ⟨gb, 0, none⟩) nn jf) (.slice (some ⟨kb, 0, none⟩) N jl) (.slice (some ⟨eb, 0, none⟩) N jd) 64
        have hsz1 := hbl.size
        have hsz2 := b1.size
        have hcm : CM N nn gb kb eb jf jl jd w1.heap.size W (w1.alloc (.cells #[.int .i64 (N : Int), .slice (some ⟨gb, 0, none⟩) nn jf, .slice (some ⟨kb, 0, none⟩) N jl, .slice (some ⟨eb, 0, none⟩) N jd] 64)) Fl lf du :=
          ⟨(hfm.mono (by omega)).later b2, x0', by omega, by omega, by omega, (hbl.thenB b1).thenB b2⟩
        have HCM := Lib.hid hcm
        clear hcm b2 x0' hlts hfm b1 HCP x0 x1 x2 x3 hsz1 hsz2
        go_wp2_with fail
        generalize w1.alloc (.cells #[.int .i64 (N : Int), .slice (some ⟨gb, 0, none⟩) nn jf, .slice (some ⟨kb, 0, none⟩) N jl, .slice (some ⟨eb, 0, none⟩) N jd] 64) = w2 at *
        generalize w1.heap.size = P at *
        have c2' := HCM.out.bx.c2
        obtain ⟨l1', l2'⟩ := HCM.out.fm.ol.cellAt HCM.out.fm.ll b hb
        rw [← HLF.out] at l1'
        go_region
        have hcm2 := (HCM.out.setL b (LF - h)).drew
        have HC2 := Lib.hid hcm2
        clear hcm2 c2' l1' l2' HCM
        generalize (w2.setCell ⟨kb, b, none⟩ (.int .i64 (LF - h))).drew = w3 at *
        have c3' := HC2.out.bx.c3
        obtain ⟨d1', d2'⟩ := HC2.out.fm.od.cellAt HC2.out.fm.dl a ha
        rw [← HDU.out] at d1'
        go_wp2_with fail
        go_region
        have hcm3 := (HC2.out.setD a (DU - h)).drew
        have HC3 := Lib.hid hcm3
        clear hcm3 c3' d1' d2' HC2
        generalize (w3.setCell ⟨eb, a, none⟩ (.int .i64 (DU - h))).drew = w4 at *
        obtain ⟨nb, i1', hnb, hi1, hilt, HWX⟩ := idx_facts h16 ha hb
        have c1' := HC3.out.bx.c1
        have hix : i1' < nn := by rw [HNN.out]; exact hilt
        have hiz : (i1' : Int) < (nn : Int) := Int.ofNat_lt.2 hix
        obtain ⟨v1', v2'⟩ := HC3.out.fm.of.cellAt HC3.out.fm.fl i1' hix
        have hbx2 := HBX.out.later HC3.out.bl
        have y0 := hbx2.c0
        have HCF := Lib.hid (HC3.out.setF i1' h)
        have HI1 := Lib.hid hi1
        obtain ⟨hwb, hsum, hwb2, hsum2⟩ := HWX.out
        have hrx := HRX.out.1.later HC3.out.bl
        have r0 := hrx.c0
        have r1 := hrx.c1
        have r2 := hrx.c2
        have r3 := hrx.c3
        have f0 := frozKeep HC3.out.bl HRX.out.1.lt (HRX.out.2 0)
        have f1 := frozKeep HC3.out.bl HRX.out.1.lt (HRX.out.2 1)
        have f2 := frozKeep HC3.out.bl HRX.out.1.lt (HRX.out.2 2)
        have f3 := frozKeep HC3.out.bl HRX.out.1.lt (HRX.out.2 3)
        have hgR : gb ≠ w.heap.size + 1 := by have := HC3.out.fm.lts.1.1; have := HSZ.out; omega
        have hkR : kb ≠ w.heap.size + 1 := by have := HC3.out.fm.lts.2.1.1; have := HSZ.out; omega
        have heR : eb ≠ w.heap.size + 1 := by have := HC3.out.fm.lts.2.2.1; have := HSZ.out; omega
        have hgP := HC3.out.pf
        have p0' := HC3.out.bx.c0
        have p2' := HC3.out.bx.c2
        have p3' := HC3.out.bx.c3
        have HR3 := Lib.hid (And.intro hgR.symm (And.intro hkR.symm heR.symm))
        clear hbx2 hnb hi1 hilt hrx hkR heR
        go_wp2
        clear hwb hsum hwb2 hsum2
        refine bodyPost_ret (v := .agg #[.int .i64 (N : Int), .slice (some ⟨gb, 0, none⟩) nn jf, .slice (some ⟨kb, 0, none⟩) N jl, .slice (some ⟨eb, 0, none⟩) N jd]) (by simp [results, Try.results86, go_sem, r0, r1, r2, r3, f0, f1, f2, f3, hgR]) rfl ⟨gb, kb, eb, jf, jl, jd, h, rfl, HB2.out, ?_, ?_⟩
        · rw [← HI1.out, ← HLF.out, ← HDU.out]
          exact (HCF.out.fm.mono (by have := HSZ.out; omega)).other4 _ HR3.out.1 HR3.out.2.1 HR3.out.2.2 _ _ _ _
        · exact below4 (HBW.out.thenB HCF.out.bl) (by omega)

end Go.Proofs.Ytjmfjgoehicgcaa
