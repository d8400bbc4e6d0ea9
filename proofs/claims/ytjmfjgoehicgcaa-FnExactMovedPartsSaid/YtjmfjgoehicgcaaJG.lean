/- Whether the rest can go: the reference. -/
import Derived.Test.YtjmfjgoehicgcaaJF
set_option linter.unusedVariables false
set_option linter.unusedSimpArgs false
namespace Go.Proofs.Ytjmfjgoehicgcaa
open Go.RowKit

/-- The memory of a copy that is changed. -/
structure CM (N nn fb lb db cf cl cd P : Nat) (w wr : World) (Fl lf du : List Int) : Prop where
  fm : FM w.heap.size wr N nn fb lb db cf cl cd Fl lf du
  bx : Bx wr P (.int .i64 (N : Int)) (.slice (some ⟨fb, 0, none⟩) nn cf) (.slice (some ⟨lb, 0, none⟩) N cl) (.slice (some ⟨db, 0, none⟩) N cd)
  pf : fb ≠ P
  pl : lb ≠ P
  pd : db ≠ P
  bl : Below w.heap.size w wr

section
variable {N nn fb lb db cf cl cd P : Nat} {w wr : World} {Fl lf du : List Int}
theorem CM.drew (h : CM N nn fb lb db cf cl cd P w wr Fl lf du) : CM N nn fb lb db cf cl cd P w wr.drew Fl lf du := ⟨h.fm.drew, ⟨h.bx.c0, h.bx.c1, h.bx.c2, h.bx.c3⟩, h.pf, h.pl, h.pd, h.bl.drew⟩
theorem CM.setF (h : CM N nn fb lb db cf cl cd P w wr Fl lf du) (k : Nat) (y : Int) : CM N nn fb lb db cf cl cd P w (wr.setCell ⟨fb, k, none⟩ (.int .i64 y)) (Fl.set k y) lf du :=
  ⟨h.fm.setF k y, ⟨cellOf h.bx.c0 h.pf, cellOf h.bx.c1 h.pf, cellOf h.bx.c2 h.pf, cellOf h.bx.c3 h.pf⟩, h.pf, h.pl, h.pd, h.bl.setCell (p := ⟨fb, k, none⟩) h.fm.lts.1.1 _⟩
theorem CM.setL (h : CM N nn fb lb db cf cl cd P w wr Fl lf du) (k : Nat) (y : Int) : CM N nn fb lb db cf cl cd P w (wr.setCell ⟨lb, k, none⟩ (.int .i64 y)) Fl (lf.set k y) du :=
  ⟨h.fm.setL k y, ⟨cellOf h.bx.c0 h.pl, cellOf h.bx.c1 h.pl, cellOf h.bx.c2 h.pl, cellOf h.bx.c3 h.pl⟩, h.pf, h.pl, h.pd, h.bl.setCell (p := ⟨lb, k, none⟩) h.fm.lts.2.1.1 _⟩
theorem CM.setD (h : CM N nn fb lb db cf cl cd P w wr Fl lf du) (k : Nat) (y : Int) : CM N nn fb lb db cf cl cd P w (wr.setCell ⟨db, k, none⟩ (.int .i64 y)) Fl lf (du.set k y) :=
  ⟨h.fm.setD k y, ⟨cellOf h.bx.c0 h.pd, cellOf h.bx.c1 h.pd, cellOf h.bx.c2 h.pd, cellOf h.bx.c3 h.pd⟩, h.pf, h.pl, h.pd, h.bl.setCell (p := ⟨db, k, none⟩) h.fm.lts.2.2.1 _⟩
end

theorem nth_less {xs : List Int} {b : Nat} {n : Int} (hb : b < xs.length) : nth (xs.set b (nth xs b - n)) = less (nth xs) b n := by
  rw [nth_setv _ _ _ hb]
  funext x
  unfold less
  by_cases e : x = b
  · subst e; rw [upv_same, if_pos rfl]
  · rw [upv_off _ _ _ _ e, if_neg e]

theorem zero_next {xs : List Int} {k : Nat} (hk : k < xs.length) (h : ∀ j, j < k → nth xs j = 0) : ∀ j, j < k + 1 → nth (xs.set k 0) j = 0 := fun j hj => by
  rw [nth_setv _ _ _ hk]
  by_cases e : j = k
  · subst e; rw [upv_same]
  · rw [upv_off _ _ _ _ e]; exact h j (by omega)

/-- What the numbers of a flow are. -/
structure FN (N : Nat) (lf du : List Int) : Prop where
  ll : lf.length = N
  dl : du.length = N
  l0 : ∀ b, b < N → 0 ≤ nth lf b ∧ nth lf b ≤ 1000000000000
  d0 : ∀ a, a < N → 0 ≤ nth du a ∧ nth du a ≤ 1000000000000
  sm : sm N (nth lf) = sm N (nth du)

set_option maxHeartbeats 4000000 in
set_option maxRecDepth 100000 in
theorem l8Can_any (B N nn fb lb db cf cl cd : Nat) (Fl lf du : List Int) (w : World) (h1 : 1 ≤ N) (h16 : N ≤ 16) (hfm : FM B w N nn fb lb db cf cl cd Fl lf du) (hfn : FN N lf du) (b a : Nat) (hb : b < N) (ha : a < N) (n : Int) (hn0 : 0 ≤ n) (hn1 : n ≤ nth lf b) (hn2 : n ≤ nth du a) :
    Calls Try.prog 116 #[.agg #[.int .i64 (N : Int), .slice (some ⟨fb, 0, none⟩) nn cf, .slice (some ⟨lb, 0, none⟩) N cl, .slice (some ⟨db, 0, none⟩) N cd], .int .i64 b, .int .i64 a, .int .i64 n] w
      fun e w' => e = .returned (.bool (flB N (less (nth lf) b n) (less (nth du) a n))) ∧ Below w.heap.size w w' := by
  obtain ⟨W, hW⟩ : ∃ W : World, W = w.alloc (.cells #[.int .i64 (N : Int), .slice (some ⟨fb, 0, none⟩) nn cf, .slice (some ⟨lb, 0, none⟩) N cl, .slice (some ⟨db, 0, none⟩) N cd] 64) := ⟨_, rfl⟩
  have hbW : Below w.heap.size w W := by rw [hW]; exact belowAlloc w _
  have hsz : W.heap.size = w.heap.size + 1 := by rw [hW]; simp
  have bx : Bx W w.heap.size (.int .i64 (N : Int)) (.slice (some ⟨fb, 0, none⟩) nn cf) (.slice (some ⟨lb, 0, none⟩) N cl) (.slice (some ⟨db, 0, none⟩) N cd) := by rw [hW]; exact Bx.made _ _ _ _ _ _
  have hcp := l8Copy_any B N nn fb lb db cf cl cd Fl lf du W h1 h16 (hfm.later hbW)
  have HCP := Lib.hid hcp
  have HW := Lib.hid hW
  have HSZ := Lib.hid hsz
  have HBW := Lib.hid hbW
  have HFN := Lib.hid hfn
  have hnn2 : nn ≤ 256 := by rw [hfm.hn]; exact Nat.mul_le_mul h16 h16
  have c0 := bx.c0
  have c1 := bx.c1
  have c2 := bx.c2
  have c3 := bx.c3
  have HN1 := Lib.hid hn1
  have HN2 := Lib.hid hn2
  clear hcp hW hsz hbW bx hfm hfn hn1 hn2
  go_enter Try.func116, Try.ntmps116
  go_wp2_with fail
  rw [← HW.out]
  refine HCP.out.mono ?_
  rintro e w1 ⟨gb, kb, eb, jf, jl, jd, rfl, hfm, b1⟩
  have hlt := hfm.lts
  have b2 := belowAlloc w1 (.cells #[.int .i64 (N : Int), .slice (some ⟨gb, 0, none⟩) nn jf, .slice (some ⟨kb, 0, none⟩) N jl, .slice (some ⟨eb, 0, none⟩) N jd] 64)
  have x0 := Bx.made w1 (.int .i64 (N : Int)) (.slice (some ⟨gb, 0, none⟩) nn jf) (.slice (some ⟨kb, 0, none⟩) N jl) (.slice (some ⟨eb, 0, none⟩) N jd) 64
  have hcm : CM N nn gb kb eb jf jl jd w1.heap.size w (w1.alloc (.cells #[.int .i64 (N : Int), .slice (some ⟨gb, 0, none⟩) nn jf, .slice (some ⟨kb, 0, none⟩) N jl, .slice (some ⟨eb, 0, none⟩) N jd] 64)) Fl lf du :=
    ⟨(hfm.mono (by have := HSZ.out; omega)).later b2, x0, by omega, by omega, by omega, (HBW.out.thenB b1).thenB b2⟩
  have HCM := Lib.hid hcm
  clear hcm b2 x0 hlt hfm b1 HCP c0 c1 c2 c3 HBW HSZ
  go_wp2_with fail
  clear HW
  generalize w1.alloc (.cells #[.int .i64 (N : Int), .slice (some ⟨gb, 0, none⟩) nn jf, .slice (some ⟨kb, 0, none⟩) N jl, .slice (some ⟨eb, 0, none⟩) N jd] 64) = w2 at *
  generalize w1.heap.size = P at *
  have hbz : (b : Int) < (N : Int) := by omega
  have haz : (a : Int) < (N : Int) := by omega
  have c2 := HCM.out.bx.c2
  obtain ⟨l1, l2⟩ := HCM.out.fm.ol.cellAt HCM.out.fm.ll b hb
  obtain ⟨LF, hLF⟩ : ∃ x, x = nth lf b := ⟨_, rfl⟩
  obtain ⟨DU, hDU⟩ : ∃ x, x = nth du a := ⟨_, rfl⟩
  have hlf := HFN.out.l0 b hb
  have hdu := HFN.out.d0 a ha
  rw [← hLF] at l1 hlf HN1
  rw [← hDU] at hdu HN2
  have HLF := Lib.hid hLF
  have HDU := Lib.hid hDU
  have hn1 := HN1.out
  have hn2 := HN2.out
  clear hLF hDU
  go_region
  have hcm2 := (HCM.out.setL b (LF - n)).drew
  have HC2 := Lib.hid hcm2
  clear hcm2 c2 l1 l2 HCM
  generalize (w2.setCell ⟨kb, b, none⟩ (.int .i64 (LF - n))).drew = w3 at *
  have c3 := HC2.out.bx.c3
  obtain ⟨d1, d2⟩ := HC2.out.fm.od.cellAt HC2.out.fm.dl a ha
  rw [← HDU.out] at d1
  go_wp2_with fail
  go_region
  have hcm3 := (HC2.out.setD a (DU - n)).drew
  have HC3 := Lib.hid hcm3
  clear hcm3 c3 d1 d2 HC2
  generalize (w3.setCell ⟨eb, a, none⟩ (.int .i64 (DU - n))).drew = w4 at *
  obtain ⟨lf2, hlf2⟩ : ∃ x, x = lf.set b (LF - n) := ⟨_, rfl⟩
  obtain ⟨du2, hdu2⟩ : ∃ x, x = du.set a (DU - n) := ⟨_, rfl⟩
  have hL2 : Hid (nth lf2 = less (nth lf) b n) := Lib.hid (by rw [hlf2, HLF.out]; exact nth_less (by rw [HFN.out.ll]; exact hb))
  have hD2 : Hid (nth du2 = less (nth du) a n) := Lib.hid (by rw [hdu2, HDU.out]; exact nth_less (by rw [HFN.out.dl]; exact ha))
  rw [← hlf2, ← hdu2] at HC3
  clear hlf2 hdu2
  have HLDB := Lib.hid (And.intro hlf (And.intro hdu (And.intro hn1 hn2)))
  clear hlf hdu hn1 hn2
  go_wp2_with fail
  go_loopw [10] (fun i wr => ∃ (k : Nat) (F2 : List Int), k ≤ nn ∧ i = .int .i64 k ∧ (∀ j, j < k → nth F2 j = 0) ∧ CM N nn gb kb eb jf jl jd P w wr F2 lf2 du2) (fun i _ => nn - (intOf i).toNat)
  case atStart => exact ⟨0, Fl, Nat.zero_le _, rfl, fun j hj => absurd hj (Nat.not_lt_zero _), HC3.out⟩
  case round =>
    clear HC3
    obtain ⟨k, F2, hk, rfl, hz, hcm⟩ := hrel
    have c1 := hcm.bx.c1
    by_cases hkN : k < nn
    · have hkz : (k : Int) < (nn : Int) := by omega
      obtain ⟨q1, q2⟩ := hcm.fm.of.cellAt hcm.fm.fl k hkN
      have HZ := Lib.hid (zero_next (by rw [hcm.fm.fl]; exact hkN) hz)
      have HC := Lib.hid (hcm.setF k 0)
      clear hz hcm
      go_wp2
      exact ⟨⟨k + 1, _, by omega, by go_num, HZ.out, HC.out⟩, by simp [intOf]; omega⟩
    · have hkE : k = nn := by omega
      subst hkE
      have c0 := hcm.bx.c0
      have c2 := hcm.bx.c2
      have c3 := hcm.bx.c3
      have hl1 : ∀ x, x < N → 0 ≤ less (nth lf) b n x ∧ less (nth lf) b n x ≤ 10000000000000 := fun x hx => by
        have e := HFN.out.l0 x hx
        obtain ⟨-, -, e2, -⟩ := HLDB.out
        have e3 := HLF.out
        unfold less
        split
        · subst_vars; omega
        · omega
      have hd1 : ∀ x, x < N → 0 ≤ less (nth du) a n x ∧ less (nth du) a n x ≤ 10000000000000 := fun x hx => by
        have e := HFN.out.d0 x hx
        obtain ⟨-, -, -, e2⟩ := HLDB.out
        have e3 := HDU.out
        unfold less
        split
        · subst_vars; omega
        · omega
      have hpf : PFlow N (less (nth lf) b n) (less (nth du) a n) (tab N F2) (nth lf2) (nth du2) :=
        PFlow.start (fun x y hx hy => by rw [tab_at hx hy]; exact hz _ (by rw [hcm.fm.hn]; exact tab_lt hy hx)) (fun x _ => by rw [hL2.out]) (fun x _ => by rw [hD2.out]) (fun x hx => (hl1 x hx).1) (fun x hx => (hd1 x hx).1)
      have hsm : sm N (less (nth lf) b n) = sm N (less (nth du) a n) := by rw [less_sum hb, less_sum ha, HFN.out.sm]
      have hrun := l8Run_any w.heap.size N k gb kb eb jf jl jd F2 lf2 du2 wr h1 h16 hcm.fm _ _ hpf hsm (fun x hx => (hl1 x hx).2) (fun x hx => (hd1 x hx).2)
      have HR := Lib.hid hrun
      have hlt := hcm.fm.lts
      have hbl := hcm.bl
      have hz1 := hbl.size
      clear hrun hcm hz hpf hsm hl1 hd1
      go_wp2_with fail
      refine HR.out.mono ?_
      rintro e w5 ⟨Fl5, lf5, du5, rfl, hfm, hpf, hd1, hd2, hex⟩
      have hbel : Below w.heap.size w w5 := hbl.trans (hex.below (by omega) (by omega) (by omega) (by omega))
      have hdn := Lib.hid (done_is hd1 hd2)
      have HD := Lib.hid (l8Done_any N w5 h16 (.slice (some ⟨gb, 0, none⟩) k jf) (.slice (some ⟨kb, 0, none⟩) N jl) rfl rfl (some ⟨eb, 0, none⟩) jd du5 hfm.od.reads hfm.dl)
      clear HR hpf hd1 hd2 hex hfm c0 c1 c2 c3
      go_wp2_with fail
      refine HD.out.mono ?_
      rintro e w6 ⟨rfl, b6⟩
      rw [hdn.out]
      go_wp2
      go_ret
      exact ⟨rfl, hbel.thenB b6⟩

end Go.Proofs.Ytjmfjgoehicgcaa
