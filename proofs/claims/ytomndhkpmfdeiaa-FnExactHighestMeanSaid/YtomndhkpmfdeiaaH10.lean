/- The greatest mean of gains: the reference. -/
import Derived.Test.YtomndhkpmfdeiaaG10
set_option linter.unusedVariables false
set_option linter.unusedSimpArgs false
namespace Go.Proofs.Ytomndhkpmfdeiaa
open Go.RowKit

/-- A gain turned round, held within bounds. -/
def ngV (x : Int) : Int := if x < -2000 then 2000 else if 2000 < x then -2000 else -x

def ngTo (gs : List Int) (k : Nat) : List Int := (List.range k).map fun x => ngV (nth gs x)

theorem ngTo_succ (gs : List Int) (k : Nat) : ngTo gs (k + 1) = ngTo gs k ++ [ngV (nth gs k)] := by simp [ngTo, List.range_succ]

theorem ngTo_len (gs : List Int) (k : Nat) : (ngTo gs k).length = k := by simp [ngTo]

theorem ngTo_nth (gs : List Int) (n k : Nat) (h : k < n) : nth (ngTo gs n) k = ngV (nth gs k) := by
  rw [nth_eq _ _ (by rw [ngTo_len]; exact h)]; simp [ngTo]

theorem ngV_in (x : Int) : (-1000 ≤ ngV x ∧ ngV x ≤ 1000) ↔ (-1000 ≤ x ∧ x ≤ 1000) := by
  unfold ngV
  split
  · omega
  · split <;> omega

theorem ngB_eq (s : Int) (gs : List Int) : gnB s (ngTo gs gs.length) = gnB s gs := by
  have h : allB (-1000) 1000 (ngTo gs gs.length) = allB (-1000) 1000 gs := by
    rw [Bool.eq_iff_iff, allB_iff, allB_iff]
    constructor
    · intro h k hk
      have := h k (by rw [ngTo_len]; exact hk)
      rw [ngTo_nth _ _ _ hk, ngV_in] at this
      exact this
    · intro h k hk
      rw [ngTo_len] at hk
      rw [ngTo_nth _ _ _ hk, ngV_in]
      exact h k hk
  rw [gnB, gnB, h, ngTo_len]

theorem lmG_ng (s : Int) (xs gs : List Int) : lmG s xs (ngTo gs gs.length) = lmG s xs gs := by rw [lmG, lmG, ngB_eq]

theorem ngV_ok {x : Int} (h1 : -1000 ≤ x) (h2 : x ≤ 1000) : ngV x = -x := by
  unfold ngV
  rw [if_neg (by omega), if_neg (by omega)]

theorem chs_ng {gs : List Int} (h : allB (-1000) 1000 gs = true) (a : Nat) : ∀ k, k ≤ gs.length → chsS min (ngTo gs gs.length) a k = chsS max gs a k ∧ chsV min (ngTo gs gs.length) a k = -chsV max gs a k := by
  intro k
  induction k with
  | zero => intro _; exact ⟨rfl, rfl⟩
  | succ k ih =>
    intro hk
    obtain ⟨i1, i2⟩ := ih (by omega)
    have hg := allB_nth h k (by omega)
    have hv : nth (ngTo gs gs.length) k = -nth gs k := by rw [ngTo_nth _ _ _ (by omega), ngV_ok hg.1 hg.2]
    cases ht : a.testBit k
    · rw [(chs_no ht).1, (chs_no ht).2, (chs_no ht).1, (chs_no ht).2]; exact ⟨i1, i2⟩
    · cases hs : chsS max gs a k
      · rw [hs] at i1
        rw [(chs_first ht i1).1, (chs_first ht i1).2, (chs_first ht hs).1, (chs_first ht hs).2]; exact ⟨rfl, hv⟩
      · rw [hs] at i1
        rw [(chs_next ht i1).1, (chs_next ht i1).2, (chs_next ht hs).1, (chs_next ht hs).2, i2, hv]
        exact ⟨rfl, by omega⟩

theorem gm_ng {gs : List Int} (h : allB (-1000) 1000 gs = true) (xs : List Int) (k : Nat) : gmTo min (ngTo gs gs.length) xs k = -gmTo max gs xs k := by
  induction k with
  | zero => rfl
  | succ k ih =>
    rw [gmTo_succ, gmTo_succ, ih, ngTo_len, (chs_ng h k gs.length (Nat.le_refl _)).2, Int.mul_neg]
    omega

theorem lowG_neg (a d : Int) : lowG (-a) d = lowG a d := by unfold lowG; rw [Int.natAbs_neg]

theorem fracB_neg (n d : Int) : fracB (-n) d = fracB n d := by
  have h : inB (-n) (-1000000000) 1000000000 = inB n (-1000000000) 1000000000 := by
    unfold inB; rw [decide_eq_decide]; omega
  unfold fracB
  rw [h, Int.natAbs_neg]

theorem lowOk_neg (a d : Int) : lowOk (-a) d = lowOk a d := by unfold lowOk; rw [lowG_neg, Int.neg_tdiv, fracB_neg]

theorem low_neg (a d : Int) : lowN (-a) d = -lowN a d ∧ lowD (-a) d = lowD a d := by
  constructor
  · unfold lowN; rw [lowOk_neg, lowG_neg, Int.neg_tdiv]; split <;> rfl
  · unfold lowD; rw [lowOk_neg, lowG_neg]

theorem f_none {g : Bool} {num den : Int} (h : fOk g num den = false) : fN g num den = 0 ∧ fD g num den = 0 := by
  unfold fN fD
  cases g
  · exact ⟨rfl, rfl⟩
  · have h2 : lowOk num den = false := by simpa [fOk] using h
    unfold lowN lowD
    rw [h2]
    exact ⟨rfl, rfl⟩

theorem f_some {g : Bool} {num den : Int} (h : fOk g num den = true) : g = true ∧ fracB (fN g num den) (fD g num den) = true := by
  simp only [fOk, Bool.and_eq_true] at h
  obtain ⟨rfl, h2⟩ := h
  refine ⟨rfl, ?_⟩
  have h3 := h2
  unfold lowOk at h3
  simp only [fN, fD, lowN, lowD, h2, if_true]
  exact h3

/-- The reference's fraction, turned round. -/
theorem hi_eq (s : Int) (xs gs : List Int) :
    fOk (lmG s xs (ngTo gs gs.length)) (gmTo min (ngTo gs gs.length) xs xs.length) (sumL xs) = fOk (lmG s xs gs) (gmTo max gs xs xs.length) (sumL xs) ∧
    fN (lmG s xs (ngTo gs gs.length)) (gmTo min (ngTo gs gs.length) xs xs.length) (sumL xs) = -fN (lmG s xs gs) (gmTo max gs xs xs.length) (sumL xs) ∧
    fD (lmG s xs (ngTo gs gs.length)) (gmTo min (ngTo gs gs.length) xs xs.length) (sumL xs) = fD (lmG s xs gs) (gmTo max gs xs xs.length) (sumL xs) := by
  rw [lmG_ng]
  cases h : lmG s xs gs
  · exact ⟨rfl, rfl, rfl⟩
  · have hg : gnB s gs = true := by simp only [lmG, Bool.and_eq_true] at h; exact h.2
    rw [gm_ng (gnB_ok hg).2]
    obtain ⟨e1, e2⟩ := low_neg (gmTo max gs xs xs.length) (sumL xs)
    exact ⟨by simp [fOk, lowOk_neg], by simp [fN, e1], by simp [fD, e2]⟩

theorem fracB_bd {n d : Int} (h : fracB n d = true) : -1000000000 ≤ n ∧ n ≤ 1000000000 := by
  simp only [fracB, Bool.and_eq_true] at h
  simpa [inB] using h.1

theorem MinusFraction_any (n d : Int) (w : World) (h : fracB n d = true) :
    Calls Try.prog 39 #[.agg #[.int .i64 n, .int .i64 d]] w fun e w' => e = .returned (.tuple #[.agg #[.int .i64 (-n), .int .i64 d], .bool true]) ∧ Below w.heap.size w w' := by
  obtain ⟨W, hW⟩ : ∃ W : World, W = ((w.alloc (.cells #[.int .i64 n, .int .i64 d] 27)).alloc (.cells #[.int .i64 0, .int .i64 0] 27)) := ⟨_, rfl⟩
  have bW : Below w.heap.size w W := by subst hW; exact ((belowAlloc _ _).thenB (belowAlloc _ _))
  have hsz : W.heap.size = w.heap.size + 2 := by subst hW; simp
  have b0 : VarInv W (w.heap.size) (n) (.int .i64 d) := by
    subst hW
    have h := VarInv.made w (n) (.int .i64 d) 27
    exact (h.later (belowAlloc _ _))
  have bR : VarInv W (w.heap.size + 1) (0) (.int .i64 0) := by
    subst hW
    have h := VarInv.made (w.alloc (.cells #[.int .i64 n, .int .i64 d] 27)) (0) (.int .i64 0) 27
    rw [show (w.alloc (.cells #[.int .i64 n, .int .i64 d] 27)).heap.size = w.heap.size + 1 by simp] at h
    exact h
  have HWW := Lib.hid hW
  have HSZ := Lib.hid hsz
  clear hW hsz
  obtain ⟨n1, n2⟩ := fracB_bd h
  go_enter Try.func39, Try.ntmps39
  go_wp2_with fail
  rw [← HWW.out]
  refine (FractionValid_any n d _).mono ?_
  rintro e w1 ⟨rfl, hb⟩
  replace b0 := b0.later hb
  have b0_0 := b0.c0
  have b0_1 := b0.c1
  replace bR := bR.later hb
  have bR_0 := bR.c0
  have bR_1 := bR.c1
  replace bW := bW.thenB hb
  have z1 := hb.size
  clear hb
  have s0 := bR.c0
  have s1 := bR.c1
  have s2 := bR.f0
  have s3 := bR.f1
  go_wp2
  refine bodyPost_ret (v := .tuple #[.agg #[.int .i64 (-n), .int .i64 (d)], .bool (true)]) (by simp [results, Try.results39, go_sem, s0, s1, s2, s3]) rfl ⟨rfl, ?_⟩
  exact ((bW).setCell (by show _ ≤ w.heap.size + 1; omega) _).setCell (by show _ ≤ w.heap.size + 1; omega) _

set_option maxHeartbeats 4000000 in
theorem sHighestMean_any (s : Int) (p : Option Addr) (c : Nat) (xs : List Int) (q : Option Addr) (d : Nat) (gs : List Int) (w : World) (hx : Reads w p xs) (hg : Reads w q gs) (hxm : xs.length ≤ 1048576) (hgm : gs.length ≤ 1048576) :
    Calls Try.prog 16 #[.agg #[.int .i64 s, .slice p xs.length c], .slice q gs.length d] w fun e w' => e = .returned (.tuple #[.agg #[.int .i64 (fN (lmG s xs gs) (gmTo max gs xs xs.length) (sumL xs)), .int .i64 (fD (lmG s xs gs) (gmTo max gs xs xs.length) (sumL xs))], .bool (fOk (lmG s xs gs) (gmTo max gs xs xs.length) (sumL xs))]) ∧ Below w.heap.size w w' := by
  obtain ⟨W, hW⟩ : ∃ W : World, W = ((w.alloc (.cells #[.int .i64 s, .slice p xs.length c] 30)).alloc (.cells #[.int .i64 0, .int .i64 0] 27)) := ⟨_, rfl⟩
  have bW : Below w.heap.size w W := by subst hW; exact ((belowAlloc _ _).thenB (belowAlloc _ _))
  have hsz : W.heap.size = w.heap.size + 2 := by subst hW; simp
  have b0 : VarInv W (w.heap.size) (s) (.slice p xs.length c) := by
    subst hW
    have h := VarInv.made w (s) (.slice p xs.length c) 30
    exact (h.later (belowAlloc _ _))
  have bR : VarInv W (w.heap.size + 1) (0) (.int .i64 0) := by
    subst hW
    have h := VarInv.made (w.alloc (.cells #[.int .i64 s, .slice p xs.length c] 30)) (0) (.int .i64 0) 27
    rw [show (w.alloc (.cells #[.int .i64 s, .slice p xs.length c] 30)).heap.size = w.heap.size + 1 by simp] at h
    exact h
  have HWW := Lib.hid hW
  have HSZ := Lib.hid hsz
  clear hW hsz
  obtain ⟨E1, E2, E3⟩ := hi_eq s xs gs
  have bA := belowAlloc W (.cells #[] 3)
  have hO0 : Own (w.heap.size + 2) (W.alloc (.cells #[] 3)) (.slice (some ⟨w.heap.size + 2, 0, none⟩) 0 0) [] := by have h := Own.made W (w.heap.size + 2) (by have := HSZ.out; omega); rw [HSZ.out] at h; exact h
  have b0A := b0.later bA
  have bRA := bR.later bA
  have bWA := bW.thenB bA
  have E1 := Lib.hid E1
  have E2 := Lib.hid E2
  have E3 := Lib.hid E3
  clear b0 bR bA bW
  go_enter Try.func16, Try.ntmps16
  go_wp2_with fail
  rw [← HWW.out]
  go_loopw [6, 7] (fun v i wr => ∃ k : Nat, k ≤ gs.length ∧ i = .int .i64 k ∧ Own (w.heap.size + 2) wr v (ngTo gs k) ∧ VarInv wr w.heap.size s (.slice p xs.length c) ∧ VarInv wr (w.heap.size + 1) 0 (.int .i64 0) ∧ Below w.heap.size w wr) (fun _ i _ => gs.length - (intOf i).toNat)
  case atStart => exact ⟨0, Nat.zero_le _, rfl, hO0, b0A, bRA, bWA⟩
  case round =>
    clear hO0 b0A bRA bWA
    obtain ⟨k, hk, rfl, ho, b0, bR, bW⟩ := hrel
    by_cases hlt : k < gs.length
    · obtain ⟨b, off, rfl, hbl, hc0⟩ := hg k hlt
      have hc := (bW.cell (p := ⟨b, off + k, none⟩) hbl).trans hc0
      have hs := Lib.hid (ngTo_succ gs k)
      have hln := ngTo_len gs k
      have HLN := Lib.hid hln
      have hzw := b0.lt
      have hzr := bR.lt
      have bq := Below.refl wr.heap.size wr
      clear hx hg hc0 hln
      by_cases h1 : nth gs k < -2000
      · have h1n : ¬ (2000 : Int) < -2000 := by omega
        have hv : Hid (ngV (nth gs k) = 2000) := Lib.hid (by unfold ngV; rw [if_pos h1])
        go_wp2_with (at_builtin; refine wpList_append1 _ rfl _ _ rfl (w.heap.size + 2) _ _ rfl (ho.later (belowAlloc _ _)) ⟨wr.heap.size, 0, none⟩ 1 (2000) rfl (newCell _ _ _) (by have := HLN.out; omega) (by simp; omega) ?_; intro v1 w4 ho1 hba)
        have hbq := belowAlloc wr (.cells #[.int .i64 (2000)] 3)
        have b0' := (b0.later hbq).keep hba (by omega)
        have bR' := (bR.later hbq).keep hba (by omega)
        exact ⟨⟨k + 1, by omega, by go_num, by rw [hs.out, hv.out]; exact ho1, b0', bR', (bW.thenB hbq).trans (hba.mono (by omega))⟩, by simp [intOf]; omega⟩
      · have h1' : -2000 ≤ nth gs k := by omega
        by_cases h2 : 2000 < nth gs k
        · skip
          have hv : Hid (ngV (nth gs k) = -2000) := Lib.hid (by unfold ngV; rw [if_neg h1, if_pos h2])
          go_wp2_with (at_builtin; refine wpList_append1 _ rfl _ _ rfl (w.heap.size + 2) _ _ rfl (ho.later (belowAlloc _ _)) ⟨wr.heap.size, 0, none⟩ 1 (-2000) rfl (newCell _ _ _) (by have := HLN.out; omega) (by simp; omega) ?_; intro v1 w4 ho1 hba)
          have hbq := belowAlloc wr (.cells #[.int .i64 (-2000)] 3)
          have b0' := (b0.later hbq).keep hba (by omega)
          have bR' := (bR.later hbq).keep hba (by omega)
          exact ⟨⟨k + 1, by omega, by go_num, by rw [hs.out, hv.out]; exact ho1, b0', bR', (bW.thenB hbq).trans (hba.mono (by omega))⟩, by simp [intOf]; omega⟩
        · have h2' : nth gs k ≤ 2000 := by omega
          have hv : Hid (ngV (nth gs k) = -nth gs k) := Lib.hid (by unfold ngV; rw [if_neg h1, if_neg h2])
          go_wp2_with (at_builtin; refine wpList_append1 _ rfl _ _ rfl (w.heap.size + 2) _ _ rfl (ho.later (belowAlloc _ _)) ⟨wr.heap.size, 0, none⟩ 1 (-nth gs k) rfl (newCell _ _ _) (by have := HLN.out; omega) (by simp; omega) ?_; intro v1 w4 ho1 hba)
          have hbq := belowAlloc wr (.cells #[.int .i64 (-nth gs k)] 3)
          have b0' := (b0.later hbq).keep hba (by omega)
          have bR' := (bR.later hbq).keep hba (by omega)
          exact ⟨⟨k + 1, by omega, by go_num, by rw [hs.out, hv.out]; exact ho1, b0', bR', (bW.thenB hbq).trans (hba.mono (by omega))⟩, by simp [intOf]; omega⟩
    · have h1 : k = gs.length := by omega
      subst h1
      obtain ⟨pv, kv, rfl, hrv⟩ := ho.shape
      have HL := Lib.hid (ngTo_len gs gs.length)
      have hxr := hx.below bW
      have b0_0 := b0.c0
      have b0_1 := b0.c1
      have hzr := bR.lt
      have hcon := sLowestMean_any s p c xs pv kv (ngTo gs gs.length) wr hxr hrv hxm (by rw [HL.out]; exact hgm)
      obtain ⟨N, hN⟩ : ∃ N, N = fN (lmG s xs (ngTo gs gs.length)) (gmTo min (ngTo gs gs.length) xs xs.length) (sumL xs) := ⟨_, rfl⟩
      obtain ⟨D, hD⟩ : ∃ D, D = fD (lmG s xs (ngTo gs gs.length)) (gmTo min (ngTo gs gs.length) xs xs.length) (sumL xs) := ⟨_, rfl⟩
      obtain ⟨K, hK⟩ : ∃ K, K = fOk (lmG s xs (ngTo gs gs.length)) (gmTo min (ngTo gs gs.length) xs xs.length) (sumL xs) := ⟨_, rfl⟩
      rw [← hN, ← hD, ← hK] at hcon
      have HCON := Lib.hid hcon
      have HN := Lib.hid hN
      have HD := Lib.hid hD
      have HKK := Lib.hid hK
      clear hcon hx hg hxr ho hrv hN hD hK
      go_wp2_with fail
      refine HCON.out.mono ?_
      rintro e w2 ⟨rfl, hb2⟩
      have hbA := belowAlloc w2 (.cells #[.int .i64 N, .int .i64 D] 27)
      replace bR := (bR.later hb2).later hbA
      replace bW := (bW.thenB hb2).thenB hbA
      have hz2 := hb2.size
      clear b0 b0_0 b0_1 hb2 hbA HCON
      have n0 := newCell0 w2 (.int .i64 N) (.int .i64 D) 27
      have n1 := newCell1 w2 (.int .i64 N) (.int .i64 D) 27
      cases K
      · have hno : fOk (lmG s xs gs) (gmTo max gs xs xs.length) (sumL xs) = false := by rw [← E1.out, ← HKK.out]
        obtain ⟨z1, z2⟩ := f_none hno
        have Z1 := Lib.hid z1
        have Z2 := Lib.hid z2
        have HNO := Lib.hid hno
        clear hno z1 z2
        have s0 := bR.c0
        have s1 := bR.c1
        have s2 := bR.f0
        have s3 := bR.f1
        go_wp2
        refine bodyPost_ret (v := .tuple #[.agg #[.int .i64 (0), .int .i64 (0)], .bool (false)]) (by simp [results, Try.results16, go_sem, s0, s1, s2, s3]) rfl ⟨by rw [Z1.out, Z2.out, HNO.out], ?_⟩
        exact ((bW).setCell (by show _ ≤ w.heap.size + 1; omega) _).setCell (by show _ ≤ w.heap.size + 1; omega) _
      · have hyes : fOk (lmG s xs gs) (gmTo max gs xs xs.length) (sumL xs) = true := by rw [← E1.out, ← HKK.out]
        have hfr : fracB N D = true := by rw [HN.out, HD.out]; exact (f_some HKK.out.symm).2
        have HY := Lib.hid hyes
        have HFR := Lib.hid hfr
        clear hyes hfr
        go_wp2_with fail
        refine (MinusFraction_any N D _ HFR.out).mono ?_
        rintro e w3 ⟨rfl, hb3⟩
        replace bR := bR.later hb3
        replace bW := bW.thenB hb3
        clear hb3
        have s0 := bR.c0
        have s1 := bR.c1
        have s2 := bR.f0
        have s3 := bR.f1
        go_wp2
        refine bodyPost_ret (v := .tuple #[.agg #[.int .i64 (-N), .int .i64 (D)], .bool (true)]) (by simp [results, Try.results16, go_sem, s0, s1, s2, s3]) rfl ⟨by rw [HY.out, HN.out, HD.out, E2.out, E3.out, Int.neg_neg], ?_⟩
        exact ((bW).setCell (by show _ ≤ w.heap.size + 1; omega) _).setCell (by show _ ≤ w.heap.size + 1; omega) _

end Go.Proofs.Ytomndhkpmfdeiaa
