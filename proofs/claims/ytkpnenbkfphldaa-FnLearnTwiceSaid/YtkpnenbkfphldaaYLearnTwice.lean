/- The law on learning two sets: what it computes. -/
import Derived.Test.YtkpnenbkfphldaaDD
import Derived.Test.YtkpnenbkfphldaaZX
import Derived.Test.YtkpnenbkfphldaaE1
set_option linter.unusedVariables false
set_option linter.unusedSimpArgs false
namespace Go.Proofs.Ytkpnenbkfphldaa
open Go.RowKit

set_option maxHeartbeats 4000000 in
set_option maxRecDepth 100000 in
theorem FnLearnTwice_walk (w : World) (a0 : Option Addr) (c0 : Nat) (x0 : List Int) (m0 : x0.length ≤ maxLen) (rd0 : ReadsK .u8 w a0 x0) (wf0 : ∀ n ∈ x0, (Lit.int .u8 n).wf = true) (cp0 : x0.length ≤ c0) (a1 : Option Addr) (c1 : Nat) (x1 : List Int) (m1 : x1.length ≤ maxLen) (rd1 : ReadsK .u8 w a1 x1) (wf1 : ∀ n ∈ x1, (Lit.int .u8 n).wf = true) (cp1 : x1.length ≤ c1) :
    Calls Try.prog 5 #[.slice a0 x0.length c0, .slice a1 x1.length c1] w fun e w' => e = .returned (.bool true) ∧ Below w.heap.size w w' := by
  by_cases hbig0 : 1048576 < x0.length
  · unfold maxLen at m0 m1
    clear rd0 wf0 cp0 rd1 wf1 cp1
    go_enter Try.func5, Try.ntmps5
    go_wp2
    go_ret
    exact ⟨rfl, Below.refl _ _⟩
  by_cases hbig1 : 1048576 < x1.length
  · unfold maxLen at m0 m1
    clear rd0 wf0 cp0 rd1 wf1 cp1
    go_enter Try.func5, Try.ntmps5
    go_wp2
    go_ret
    exact ⟨rfl, Below.refl _ _⟩
  have HD := Lib.hid (DrawPossibleGiven_any a0 c0 x0 w rd0 wf0 m0 cp0)
  have HWF1 := Lib.hid wf1
  have HM1 := Lib.hid m1
  have HCP1 := Lib.hid cp1
  unfold maxLen at m0 m1
  clear rd0 wf0 cp0 wf1 cp1
  go_enter Try.func5, Try.ntmps5
  go_wp2_with fail
  refine HD.out.mono ?_
  rintro e w1 ⟨s, p, c, xs, b, a, rfl, hxl, rx, bW⟩
  clear HD
  replace rd1 := rd1.below bW
  obtain ⟨S, hS⟩ : ∃ S, S = gS (msB s xs a) s (lnP a.toNat xs) := ⟨_, rfl⟩
  obtain ⟨OK, hOK⟩ : ∃ OK, OK = gOk (msB s xs a) s (lnP a.toNat xs) := ⟨_, rfl⟩
  obtain ⟨K, hK⟩ : ∃ K, K = gL (msB s xs a) s (lnP a.toNat xs) := ⟨_, rfl⟩
  have hKl : K.length ≤ 17 := by rw [hK]; exact Nat.le_trans (gL_le _ _ _ _ (lnP_len _ _)) hxl
  have hyes : OK = true → ∃ n : Nat, a = (n : Int) ∧ TwiceLaw s xs K n ∧ S = s := fun h => by
    obtain ⟨n, rfl, law⟩ := twice_law (hOK.symm.trans h)
    exact ⟨n, rfl, by rw [hK]; exact law, by rw [hS]; exact law.gs⟩
  have hL1 := fun (w : World) (hx : Reads w p xs) => iLearnMass_any s p c xs a w hx (by omega)
  have hL2 := fun (w : World) (hx : Reads w p xs) => sLearnMass_any s p c xs a w hx (by omega)
  simp only [← hS, ← hOK, ← hK] at hL1 hL2
  have HL1 := Lib.hid hL1
  have HL2 := Lib.hid hL2
  have HYES := Lib.hid hyes
  clear hL1 hL2 hyes hS hOK hK
  have hq1 : (OK != OK) = false := by cases OK <;> rfl
  have hq2 : (OK == OK) = true := by cases OK <;> rfl
  go_wp2_with fail
  have hb := belowAlloc w1 (.cells #[.int .i64 s, .slice p xs.length c] 25)
  replace rd1 := rd1.below hb
  replace rx := rx.below hb
  replace bW := bW.thenB hb
  clear hb
  have bm := VarInv.made w1 (s) (.slice p xs.length c) 25
  have z2 := bm.lt
  generalize hu2 : w1.alloc (.cells #[.int .i64 s, .slice p xs.length c] 25) = w2 at *
  clear hu2
  have bm_0 := bm.c0
  have bm_1 := bm.c1
  refine (HL1.out _ rx).mono ?_
  rintro e w3 ⟨v, rfl, o, hb⟩
  clear bm_0 bm_1
  replace bm := bm.later hb
  replace rd1 := rd1.below hb
  replace rx := rx.below hb
  replace bW := bW.thenB hb
  have z3 := hb.size
  obtain ⟨p1, k1, rfl, r1⟩ := o.shape
  clear o
  clear hb
  have bm_0 := bm.c0
  have bm_1 := bm.c1
  have lt_bm := bm.lt
  go_wp2_with fail
  clear lt_bm
  have hb := belowAlloc w3 (.cells #[.int .i64 S, .slice p1 K.length k1] 25)
  clear bm_0 bm_1
  replace bm := bm.later hb
  replace rd1 := rd1.below hb
  replace rx := rx.below hb
  replace r1 := r1.below hb
  replace bW := bW.thenB hb
  clear hb
  have b1 := VarInv.made w3 (S) (.slice p1 K.length k1) 25
  have z4 := b1.lt
  generalize hu4 : w3.alloc (.cells #[.int .i64 S, .slice p1 K.length k1] 25) = w4 at *
  clear hu4
  have bm_0 := bm.c0
  have bm_1 := bm.c1
  have b1_0 := b1.c0
  have b1_1 := b1.c1
  refine (HL2.out _ rx).mono ?_
  rintro e w5 ⟨v, rfl, o, hb⟩
  clear bm_0 bm_1 b1_0 b1_1
  replace bm := bm.later hb
  replace b1 := b1.later hb
  replace rd1 := rd1.below hb
  replace rx := rx.below hb
  replace r1 := r1.below hb
  replace bW := bW.thenB hb
  have z5 := hb.size
  obtain ⟨p2, k2, rfl, r2⟩ := o.shape
  clear o
  clear hb
  have bm_0 := bm.c0
  have bm_1 := bm.c1
  have b1_0 := b1.c0
  have b1_1 := b1.c1
  cases hok : OK
  · subst hok
    have lt_bm := bm.lt
    have lt_b1 := b1.lt
    go_wp2
    clear lt_bm lt_b1
    have hb := belowAlloc w5 (.cells #[.int .i64 S, .slice p2 K.length k2] 25)
    clear bm_0 bm_1 b1_0 b1_1
    replace bm := bm.later hb
    replace b1 := b1.later hb
    replace rd1 := rd1.below hb
    replace rx := rx.below hb
    replace r1 := r1.below hb
    replace r2 := r2.below hb
    replace bW := bW.thenB hb
    clear hb
    have b2 := VarInv.made w5 (S) (.slice p2 K.length k2) 25
    have z6 := b2.lt
    generalize hu6 : w5.alloc (.cells #[.int .i64 S, .slice p2 K.length k2] 25) = w6 at *
    clear hu6
    have bm_0 := bm.c0
    have bm_1 := bm.c1
    have b1_0 := b1.c0
    have b1_1 := b1.c1
    have b2_0 := b2.c0
    have b2_1 := b2.c1
    go_ret
    exact ⟨rfl, bW⟩
  · subst hok
    clear r2
    obtain ⟨n, rfl, law, rfl⟩ := HYES.out rfl
    clear HL1 HL2 HYES
    have hk := massB_ok law.mass
    have h1s := hk.s1
    have h4s := hk.s4
    have hx16 := law.l16
    have hxl2 := Lib.hid hk.len
    have n16 := law.n16
    obtain ⟨y, hy⟩ : ∃ y, y = bits .and .i64 (n : Int) b := ⟨_, rfl⟩
    have hy' := hy.symm
    obtain ⟨SX, hSX⟩ : ∃ S', S' = gS (msB S K b) S (lnP b.toNat K) := ⟨_, rfl⟩
    obtain ⟨O1, hO1⟩ : ∃ S', S' = gOk (msB S K b) S (lnP b.toNat K) := ⟨_, rfl⟩
    obtain ⟨X, hX⟩ : ∃ S', S' = gL (msB S K b) S (lnP b.toNat K) := ⟨_, rfl⟩
    obtain ⟨SY, hSY⟩ : ∃ S', S' = gS (msB S xs y) S (lnP y.toNat xs) := ⟨_, rfl⟩
    obtain ⟨O2, hO2⟩ : ∃ S', S' = gOk (msB S xs y) S (lnP y.toNat xs) := ⟨_, rfl⟩
    obtain ⟨Y, hY⟩ : ∃ S', S' = gL (msB S xs y) S (lnP y.toNat xs) := ⟨_, rfl⟩
    have hXl : X.length ≤ 17 := by rw [hX]; exact Nat.le_trans (gL_le _ _ _ _ (lnP_len _ _)) hKl
    have hYl : Y.length ≤ 17 := by rw [hY]; exact Nat.le_trans (gL_le _ _ _ _ (lnP_len _ _)) hxl
    have hinv : setB S b = false → O1 = false := fun h => by rw [hO1]; simp [gOk, msB, h]
    have hval : ∀ m : Nat, b = (m : Int) → (m : Int) < pow2 S → O1 = O2 ∧ SX = SY ∧ X = Y := fun m hm hlt => by
      have h16 : m < 16 := by have := pow2_bd S h1s h4s; omega
      have hyy : y = ((n &&& m : Nat) : Int) := by rw [hy, hm]; exact and_nat n m n16 h16
      have := law.same m hlt
      rw [← hyy, ← hm] at this
      rw [hO1, hO2, hSX, hSY, hX, hY]; exact this
    have hcnt : cnS b < 0 → setB S b = false := fun h => by
      have hp := pow2_bd S h1s h4s
      cases e : setB 4 b
      · simp only [setB, decide_eq_false_iff_not] at e ⊢
        intro hh
        exact e ⟨hh.1, by have : pow2 4 = 16 := rfl; omega⟩
      · rw [cnS, if_pos e] at h; omega
    have hbig : (xs.length : Int) ≤ b → setB S b = false := fun h => by
      simp only [setB, decide_eq_false_iff_not]; have := hk.len; omega
    have hgood : ¬ cnS b < 0 → b < (xs.length : Int) → ∃ m : Nat, b = (m : Int) ∧ (m : Int) < pow2 S := fun h1 h2 => by
      have h3 : setB 4 b = true := by
        cases e : setB 4 b
        · exact absurd (by simp [cnS, e]) h1
        · rfl
      simp only [setB, decide_eq_true_eq] at h3
      exact ⟨b.toNat, by omega, by have := hk.len; omega⟩
    have hLX := fun (w : World) (q : Option Addr) (d : Nat) (hx : Reads w q K) => iLearnMass_any S q d K b w hx (by omega)
    have hLY := fun (w : World) (hx : Reads w p xs) => iLearnMass_any S p c xs y w hx (by omega)
    simp only [← hSX, ← hO1, ← hX] at hLX
    simp only [← hSY, ← hO2, ← hY] at hLY
    have hCN := fun (w : World) => iCountSet_any b w
    obtain ⟨N, hN⟩ : ∃ N, N = cnS b := ⟨_, rfl⟩
    rw [← hN] at hcnt hgood
    simp only [← hN] at hCN
    have HLX := Lib.hid hLX
    have HLY := Lib.hid hLY
    have HCN := Lib.hid hCN
    have HINV := Lib.hid hinv
    have HVAL := Lib.hid hval
    have HCNT := Lib.hid hcnt
    have HBIG := Lib.hid hbig
    have HGOOD := Lib.hid hgood
    have HLAW := Lib.hid law
    have HKX := Lib.hid law.len
    clear hLX hLY hCN hinv hval hcnt hbig hgood hSX hO1 hX hSY hO2 hY hN hy law hk
    have lt_bm := bm.lt
    have lt_b1 := b1.lt
    go_wp2_with fail
    clear lt_bm lt_b1
    have hb := belowAlloc w5 (.cells #[.int .i64 S, .slice p2 K.length k2] 25)
    clear bm_0 bm_1 b1_0 b1_1
    replace bm := bm.later hb
    replace b1 := b1.later hb
    replace rd1 := rd1.below hb
    replace rx := rx.below hb
    replace r1 := r1.below hb
    replace bW := bW.thenB hb
    clear hb
    have b2 := VarInv.made w5 (S) (.slice p2 K.length k2) 25
    have z6 := b2.lt
    generalize hu6 : w5.alloc (.cells #[.int .i64 S, .slice p2 K.length k2] 25) = w6 at *
    clear hu6
    have bm_0 := bm.c0
    have bm_1 := bm.c1
    have b1_0 := b1.c0
    have b1_1 := b1.c1
    have b2_0 := b2.c0
    have b2_1 := b2.c1
    refine (HLX.out _ _ _ r1).mono ?_
    rintro e w7 ⟨v, rfl, o, hb⟩
    clear bm_0 bm_1 b1_0 b1_1 b2_0 b2_1
    replace bm := bm.later hb
    replace b1 := b1.later hb
    replace b2 := b2.later hb
    replace rd1 := rd1.below hb
    replace rx := rx.below hb
    replace r1 := r1.below hb
    replace bW := bW.thenB hb
    have z7 := hb.size
    obtain ⟨p3, k3, rfl, r3⟩ := o.shape
    clear o
    clear hb
    have bm_0 := bm.c0
    have bm_1 := bm.c1
    have b1_0 := b1.c0
    have b1_1 := b1.c1
    have b2_0 := b2.c0
    have b2_1 := b2.c1
    have lt_bm := bm.lt
    have lt_b1 := b1.lt
    have lt_b2 := b2.lt
    go_wp2_with fail
    clear lt_bm lt_b1 lt_b2
    have hb := belowAlloc w7 (.cells #[.int .i64 SX, .slice p3 X.length k3] 25)
    clear bm_0 bm_1 b1_0 b1_1 b2_0 b2_1
    replace bm := bm.later hb
    replace b1 := b1.later hb
    replace b2 := b2.later hb
    replace rd1 := rd1.below hb
    replace rx := rx.below hb
    replace r1 := r1.below hb
    replace r3 := r3.below hb
    replace bW := bW.thenB hb
    clear hb
    have b3 := VarInv.made w7 (SX) (.slice p3 X.length k3) 25
    have z8 := b3.lt
    generalize hu8 : w7.alloc (.cells #[.int .i64 SX, .slice p3 X.length k3] 25) = w8 at *
    clear hu8
    have bm_0 := bm.c0
    have bm_1 := bm.c1
    have b1_0 := b1.c0
    have b1_1 := b1.c1
    have b2_0 := b2.c0
    have b2_1 := b2.c1
    have b3_0 := b3.c0
    have b3_1 := b3.c1
    refine (HLY.out _ rx).mono ?_
    rintro e w9 ⟨v, rfl, o, hb⟩
    clear bm_0 bm_1 b1_0 b1_1 b2_0 b2_1 b3_0 b3_1
    replace bm := bm.later hb
    replace b1 := b1.later hb
    replace b2 := b2.later hb
    replace b3 := b3.later hb
    replace rd1 := rd1.below hb
    replace rx := rx.below hb
    replace r1 := r1.below hb
    replace r3 := r3.below hb
    replace bW := bW.thenB hb
    have z9 := hb.size
    obtain ⟨p4, k4, rfl, r4⟩ := o.shape
    clear o
    clear hb
    have bm_0 := bm.c0
    have bm_1 := bm.c1
    have b1_0 := b1.c0
    have b1_1 := b1.c1
    have b2_0 := b2.c0
    have b2_1 := b2.c1
    have b3_0 := b3.c0
    have b3_1 := b3.c1
    have lt_bm := bm.lt
    have lt_b1 := b1.lt
    have lt_b2 := b2.lt
    have lt_b3 := b3.lt
    go_wp2_with fail
    clear lt_bm lt_b1 lt_b2 lt_b3
    have hb := belowAlloc w9 (.cells #[.int .i64 SY, .slice p4 Y.length k4] 25)
    clear bm_0 bm_1 b1_0 b1_1 b2_0 b2_1 b3_0 b3_1
    replace bm := bm.later hb
    replace b1 := b1.later hb
    replace b2 := b2.later hb
    replace b3 := b3.later hb
    replace rd1 := rd1.below hb
    replace rx := rx.below hb
    replace r1 := r1.below hb
    replace r3 := r3.below hb
    replace r4 := r4.below hb
    replace bW := bW.thenB hb
    clear hb
    have b4 := VarInv.made w9 (SY) (.slice p4 Y.length k4) 25
    have z10 := b4.lt
    generalize hu10 : w9.alloc (.cells #[.int .i64 SY, .slice p4 Y.length k4] 25) = w10 at *
    clear hu10
    have bm_0 := bm.c0
    have bm_1 := bm.c1
    have b1_0 := b1.c0
    have b1_1 := b1.c1
    have b2_0 := b2.c0
    have b2_1 := b2.c1
    have b3_0 := b3.c0
    have b3_1 := b3.c1
    have b4_0 := b4.c0
    have b4_1 := b4.c1
    refine (HCN.out _).mono ?_
    rintro e w' ⟨rfl, rfl⟩
    by_cases hn0 : N < 0
    · have ho := HINV.out (HCNT.out hn0)
      subst ho
      go_wp2
      go_ret
      exact ⟨rfl, bW⟩
    by_cases hn1 : (xs.length : Int) ≤ b
    · have ho := HINV.out (HBIG.out hn1)
      subst ho
      go_wp2
      go_ret
      exact ⟨rfl, bW⟩
    · obtain ⟨m, rfl, hmp⟩ := HGOOD.out (by omega) (by omega)
      obtain ⟨rfl, rfl, rfl⟩ := HVAL.out m rfl hmp
      clear HINV HCNT HBIG HGOOD HVAL HLX HLY HCN hmp hy'
      have hq5 : (O1 == O1) = true := by cases O1 <;> rfl
      go_wp2_with fail
      refine (DrawJoinMasses_any _ c1 x1 _ rd1 HWF1.out HM1.out HCP1.out).mono ?_
      rintro e w11 ⟨t, q, d, zs, t2, q2, d2, z2, rfl, hzl, hz2, rz, rz2, hb⟩
      clear bm_0 bm_1 b1_0 b1_1 b2_0 b2_1 b3_0 b3_1 b4_0 b4_1
      replace bm := bm.later hb
      replace b1 := b1.later hb
      replace b2 := b2.later hb
      replace b3 := b3.later hb
      replace b4 := b4.later hb
      replace rd1 := rd1.below hb
      replace rx := rx.below hb
      replace r1 := r1.below hb
      replace r3 := r3.below hb
      replace r4 := r4.below hb
      replace bW := bW.thenB hb
      have z11 := hb.size
      clear hb
      have bm_0 := bm.c0
      have bm_1 := bm.c1
      have b1_0 := b1.c0
      have b1_1 := b1.c1
      have b2_0 := b2.c0
      have b2_1 := b2.c1
      have b3_0 := b3.c0
      have b3_1 := b3.c1
      have b4_0 := b4.c0
      have b4_1 := b4.c1
      clear rd1
      obtain ⟨SJ, hSJ⟩ : ∃ S', S' = gS (bothB S xs t zs) S (nonP (cjP xs zs)) := ⟨_, rfl⟩
      obtain ⟨T3, hT3⟩ : ∃ S', S' = gOk (bothB S xs t zs) S (nonP (cjP xs zs)) := ⟨_, rfl⟩
      obtain ⟨J, hJ⟩ : ∃ S', S' = gL (bothB S xs t zs) S (nonP (cjP xs zs)) := ⟨_, rfl⟩
      obtain ⟨SF, hSF⟩ : ∃ S', S' = gS (msB SJ J (n : Int)) SJ (lnP (n : Int).toNat J) := ⟨_, rfl⟩
      obtain ⟨T4, hT4⟩ : ∃ S', S' = gOk (msB SJ J (n : Int)) SJ (lnP (n : Int).toNat J) := ⟨_, rfl⟩
      obtain ⟨F, hF⟩ : ∃ S', S' = gL (msB SJ J (n : Int)) SJ (lnP (n : Int).toNat J) := ⟨_, rfl⟩
      obtain ⟨SG, hSG⟩ : ∃ S', S' = gS (bothB S K t zs) S (nonP (cjP K zs)) := ⟨_, rfl⟩
      obtain ⟨T5, hT5⟩ : ∃ S', S' = gOk (bothB S K t zs) S (nonP (cjP K zs)) := ⟨_, rfl⟩
      obtain ⟨G, hG⟩ : ∃ S', S' = gL (bothB S K t zs) S (nonP (cjP K zs)) := ⟨_, rfl⟩
      have hJl : J.length ≤ 17 := by rw [hJ]; exact Nat.le_trans (gL_le _ _ _ _ (by rw [nonP_len, cjP_len])) hxl
      have hFl : F.length ≤ 17 := by rw [hF]; exact Nat.le_trans (gL_le _ _ _ _ (lnP_len _ _)) hJl
      have hGl : G.length ≤ 17 := by rw [hG]; exact Nat.le_trans (gL_le _ _ _ _ (by rw [nonP_len, cjP_len])) hKl
      have hfin : T3 = true → T4 = true → T5 = true → SF = SG ∧ F = G := fun j1 j2 j3 => by
        rw [hSF, hSG, hF, hG]
        exact HLAW.out.join t zs SJ J (hT3.symm.trans j1) hSJ hJ (hT4.symm.trans j2) (hT5.symm.trans j3)
      have hJ1 := fun (w : World) (hx : Reads w p xs) (hy : Reads w q zs) => iJoin_any S p c xs t q d zs w hx hy (by omega) (by omega)
      have hJ2 := fun (w : World) (a : Option Addr) (k : Nat) (hx : Reads w a K) (hy : Reads w q zs) => iJoin_any S a k K t q d zs w hx hy (by omega) (by omega)
      have hJ3 := fun (w : World) (a : Option Addr) (k : Nat) (hx : Reads w a J) => iLearnMass_any SJ a k J (n : Int) w hx (by omega)
      simp only [← hSJ, ← hT3, ← hJ] at hJ1
      simp only [← hSF, ← hT4, ← hF] at hJ3
      simp only [← hSG, ← hT5, ← hG] at hJ2
      have HJ1 := Lib.hid hJ1
      have HJ2 := Lib.hid hJ2
      have HJ3 := Lib.hid hJ3
      have HFIN := Lib.hid hfin
      clear hJ1 hJ2 hJ3 hfin hSJ hT3 hJ hSF hT4 hF hSG hT5 hG
      have lt_bm := bm.lt
      have lt_b1 := b1.lt
      have lt_b2 := b2.lt
      have lt_b3 := b3.lt
      have lt_b4 := b4.lt
      go_wp2_with fail
      clear lt_bm lt_b1 lt_b2 lt_b3 lt_b4
      have hb := belowAlloc w11 (.cells #[.int .i64 t, .slice q zs.length d] 25)
      clear bm_0 bm_1 b1_0 b1_1 b2_0 b2_1 b3_0 b3_1 b4_0 b4_1
      replace bm := bm.later hb
      replace b1 := b1.later hb
      replace b2 := b2.later hb
      replace b3 := b3.later hb
      replace b4 := b4.later hb
      replace rx := rx.below hb
      replace r1 := r1.below hb
      replace r3 := r3.below hb
      replace r4 := r4.below hb
      replace rz := rz.below hb
      replace rz2 := rz2.below hb
      replace bW := bW.thenB hb
      clear hb
      have bz := VarInv.made w11 (t) (.slice q zs.length d) 25
      have z12 := bz.lt
      generalize hu12 : w11.alloc (.cells #[.int .i64 t, .slice q zs.length d] 25) = w12 at *
      clear hu12
      have hb := belowAlloc w12 (.cells #[.int .i64 t2, .slice q2 z2.length d2] 25)
      replace bm := bm.later hb
      replace b1 := b1.later hb
      replace b2 := b2.later hb
      replace b3 := b3.later hb
      replace b4 := b4.later hb
      replace bz := bz.later hb
      replace rx := rx.below hb
      replace r1 := r1.below hb
      replace r3 := r3.below hb
      replace r4 := r4.below hb
      replace rz := rz.below hb
      replace rz2 := rz2.below hb
      replace bW := bW.thenB hb
      clear hb
      have bz2 := VarInv.made w12 (t2) (.slice q2 z2.length d2) 25
      have z13 := bz2.lt
      generalize hu13 : w12.alloc (.cells #[.int .i64 t2, .slice q2 z2.length d2] 25) = w13 at *
      clear hu13
      have bm_0 := bm.c0
      have bm_1 := bm.c1
      have b1_0 := b1.c0
      have b1_1 := b1.c1
      have b2_0 := b2.c0
      have b2_1 := b2.c1
      have b3_0 := b3.c0
      have b3_1 := b3.c1
      have b4_0 := b4.c0
      have b4_1 := b4.c1
      have bz_0 := bz.c0
      have bz_1 := bz.c1
      have bz2_0 := bz2.c0
      have bz2_1 := bz2.c1
      refine (HJ1.out _ rx rz).mono ?_
      rintro e w14 ⟨v, rfl, o, hb⟩
      clear bm_0 bm_1 b1_0 b1_1 b2_0 b2_1 b3_0 b3_1 b4_0 b4_1 bz_0 bz_1 bz2_0 bz2_1
      replace bm := bm.later hb
      replace b1 := b1.later hb
      replace b2 := b2.later hb
      replace b3 := b3.later hb
      replace b4 := b4.later hb
      replace bz := bz.later hb
      replace bz2 := bz2.later hb
      replace rx := rx.below hb
      replace r1 := r1.below hb
      replace r3 := r3.below hb
      replace r4 := r4.below hb
      replace rz := rz.below hb
      replace rz2 := rz2.below hb
      replace bW := bW.thenB hb
      have z14 := hb.size
      obtain ⟨p5, k5, rfl, r5⟩ := o.shape
      clear o
      clear hb
      have bm_0 := bm.c0
      have bm_1 := bm.c1
      have b1_0 := b1.c0
      have b1_1 := b1.c1
      have b2_0 := b2.c0
      have b2_1 := b2.c1
      have b3_0 := b3.c0
      have b3_1 := b3.c1
      have b4_0 := b4.c0
      have b4_1 := b4.c1
      have bz_0 := bz.c0
      have bz_1 := bz.c1
      have bz2_0 := bz2.c0
      have bz2_1 := bz2.c1
      have lt_bm := bm.lt
      have lt_b1 := b1.lt
      have lt_b2 := b2.lt
      have lt_b3 := b3.lt
      have lt_b4 := b4.lt
      have lt_bz := bz.lt
      have lt_bz2 := bz2.lt
      go_wp2_with fail
      clear lt_bm lt_b1 lt_b2 lt_b3 lt_b4 lt_bz lt_bz2
      have hb := belowAlloc w14 (.cells #[.int .i64 SJ, .slice p5 J.length k5] 25)
      clear bm_0 bm_1 b1_0 b1_1 b2_0 b2_1 b3_0 b3_1 b4_0 b4_1 bz_0 bz_1 bz2_0 bz2_1
      replace bm := bm.later hb
      replace b1 := b1.later hb
      replace b2 := b2.later hb
      replace b3 := b3.later hb
      replace b4 := b4.later hb
      replace bz := bz.later hb
      replace bz2 := bz2.later hb
      replace rx := rx.below hb
      replace r1 := r1.below hb
      replace r3 := r3.below hb
      replace r4 := r4.below hb
      replace rz := rz.below hb
      replace rz2 := rz2.below hb
      replace r5 := r5.below hb
      replace bW := bW.thenB hb
      clear hb
      have b5 := VarInv.made w14 (SJ) (.slice p5 J.length k5) 25
      have z15 := b5.lt
      generalize hu15 : w14.alloc (.cells #[.int .i64 SJ, .slice p5 J.length k5] 25) = w15 at *
      clear hu15
      have bm_0 := bm.c0
      have bm_1 := bm.c1
      have b1_0 := b1.c0
      have b1_1 := b1.c1
      have b2_0 := b2.c0
      have b2_1 := b2.c1
      have b3_0 := b3.c0
      have b3_1 := b3.c1
      have b4_0 := b4.c0
      have b4_1 := b4.c1
      have bz_0 := bz.c0
      have bz_1 := bz.c1
      have bz2_0 := bz2.c0
      have bz2_1 := bz2.c1
      have b5_0 := b5.c0
      have b5_1 := b5.c1
      refine (HJ3.out _ _ _ r5).mono ?_
      rintro e w16 ⟨v, rfl, o, hb⟩
      clear bm_0 bm_1 b1_0 b1_1 b2_0 b2_1 b3_0 b3_1 b4_0 b4_1 bz_0 bz_1 bz2_0 bz2_1 b5_0 b5_1
      replace bm := bm.later hb
      replace b1 := b1.later hb
      replace b2 := b2.later hb
      replace b3 := b3.later hb
      replace b4 := b4.later hb
      replace bz := bz.later hb
      replace bz2 := bz2.later hb
      replace b5 := b5.later hb
      replace rx := rx.below hb
      replace r1 := r1.below hb
      replace r3 := r3.below hb
      replace r4 := r4.below hb
      replace rz := rz.below hb
      replace rz2 := rz2.below hb
      replace r5 := r5.below hb
      replace bW := bW.thenB hb
      have z16 := hb.size
      obtain ⟨p6, k6, rfl, r6⟩ := o.shape
      clear o
      clear hb
      have bm_0 := bm.c0
      have bm_1 := bm.c1
      have b1_0 := b1.c0
      have b1_1 := b1.c1
      have b2_0 := b2.c0
      have b2_1 := b2.c1
      have b3_0 := b3.c0
      have b3_1 := b3.c1
      have b4_0 := b4.c0
      have b4_1 := b4.c1
      have bz_0 := bz.c0
      have bz_1 := bz.c1
      have bz2_0 := bz2.c0
      have bz2_1 := bz2.c1
      have b5_0 := b5.c0
      have b5_1 := b5.c1
      have lt_bm := bm.lt
      have lt_b1 := b1.lt
      have lt_b2 := b2.lt
      have lt_b3 := b3.lt
      have lt_b4 := b4.lt
      have lt_bz := bz.lt
      have lt_bz2 := bz2.lt
      have lt_b5 := b5.lt
      go_wp2_with fail
      clear lt_bm lt_b1 lt_b2 lt_b3 lt_b4 lt_bz lt_bz2 lt_b5
      have hb := belowAlloc w16 (.cells #[.int .i64 SF, .slice p6 F.length k6] 25)
      clear bm_0 bm_1 b1_0 b1_1 b2_0 b2_1 b3_0 b3_1 b4_0 b4_1 bz_0 bz_1 bz2_0 bz2_1 b5_0 b5_1
      replace bm := bm.later hb
      replace b1 := b1.later hb
      replace b2 := b2.later hb
      replace b3 := b3.later hb
      replace b4 := b4.later hb
      replace bz := bz.later hb
      replace bz2 := bz2.later hb
      replace b5 := b5.later hb
      replace rx := rx.below hb
      replace r1 := r1.below hb
      replace r3 := r3.below hb
      replace r4 := r4.below hb
      replace rz := rz.below hb
      replace rz2 := rz2.below hb
      replace r5 := r5.below hb
      replace r6 := r6.below hb
      replace bW := bW.thenB hb
      clear hb
      have b6 := VarInv.made w16 (SF) (.slice p6 F.length k6) 25
      have z17 := b6.lt
      generalize hu17 : w16.alloc (.cells #[.int .i64 SF, .slice p6 F.length k6] 25) = w17 at *
      clear hu17
      have bm_0 := bm.c0
      have bm_1 := bm.c1
      have b1_0 := b1.c0
      have b1_1 := b1.c1
      have b2_0 := b2.c0
      have b2_1 := b2.c1
      have b3_0 := b3.c0
      have b3_1 := b3.c1
      have b4_0 := b4.c0
      have b4_1 := b4.c1
      have bz_0 := bz.c0
      have bz_1 := bz.c1
      have bz2_0 := bz2.c0
      have bz2_1 := bz2.c1
      have b5_0 := b5.c0
      have b5_1 := b5.c1
      have b6_0 := b6.c0
      have b6_1 := b6.c1
      refine (HJ2.out _ _ _ r1 rz).mono ?_
      rintro e w18 ⟨v, rfl, o, hb⟩
      clear bm_0 bm_1 b1_0 b1_1 b2_0 b2_1 b3_0 b3_1 b4_0 b4_1 bz_0 bz_1 bz2_0 bz2_1 b5_0 b5_1 b6_0 b6_1
      replace bm := bm.later hb
      replace b1 := b1.later hb
      replace b2 := b2.later hb
      replace b3 := b3.later hb
      replace b4 := b4.later hb
      replace bz := bz.later hb
      replace bz2 := bz2.later hb
      replace b5 := b5.later hb
      replace b6 := b6.later hb
      replace rx := rx.below hb
      replace r1 := r1.below hb
      replace r3 := r3.below hb
      replace r4 := r4.below hb
      replace rz := rz.below hb
      replace rz2 := rz2.below hb
      replace r5 := r5.below hb
      replace r6 := r6.below hb
      replace bW := bW.thenB hb
      have z18 := hb.size
      obtain ⟨p7, k7, rfl, r7⟩ := o.shape
      clear o
      clear hb
      have bm_0 := bm.c0
      have bm_1 := bm.c1
      have b1_0 := b1.c0
      have b1_1 := b1.c1
      have b2_0 := b2.c0
      have b2_1 := b2.c1
      have b3_0 := b3.c0
      have b3_1 := b3.c1
      have b4_0 := b4.c0
      have b4_1 := b4.c1
      have bz_0 := bz.c0
      have bz_1 := bz.c1
      have bz2_0 := bz2.c0
      have bz2_1 := bz2.c1
      have b5_0 := b5.c0
      have b5_1 := b5.c1
      have b6_0 := b6.c0
      have b6_1 := b6.c1
      have lt_bm := bm.lt
      have lt_b1 := b1.lt
      have lt_b2 := b2.lt
      have lt_b3 := b3.lt
      have lt_b4 := b4.lt
      have lt_bz := bz.lt
      have lt_bz2 := bz2.lt
      have lt_b5 := b5.lt
      have lt_b6 := b6.lt
      go_wp2_with fail
      clear lt_bm lt_b1 lt_b2 lt_b3 lt_b4 lt_bz lt_bz2 lt_b5 lt_b6
      have hb := belowAlloc w18 (.cells #[.int .i64 SG, .slice p7 G.length k7] 25)
      clear bm_0 bm_1 b1_0 b1_1 b2_0 b2_1 b3_0 b3_1 b4_0 b4_1 bz_0 bz_1 bz2_0 bz2_1 b5_0 b5_1 b6_0 b6_1
      replace bm := bm.later hb
      replace b1 := b1.later hb
      replace b2 := b2.later hb
      replace b3 := b3.later hb
      replace b4 := b4.later hb
      replace bz := bz.later hb
      replace bz2 := bz2.later hb
      replace b5 := b5.later hb
      replace b6 := b6.later hb
      replace rx := rx.below hb
      replace r1 := r1.below hb
      replace r3 := r3.below hb
      replace r4 := r4.below hb
      replace rz := rz.below hb
      replace rz2 := rz2.below hb
      replace r5 := r5.below hb
      replace r6 := r6.below hb
      replace r7 := r7.below hb
      replace bW := bW.thenB hb
      clear hb
      have b7 := VarInv.made w18 (SG) (.slice p7 G.length k7) 25
      have z19 := b7.lt
      generalize hu19 : w18.alloc (.cells #[.int .i64 SG, .slice p7 G.length k7] 25) = w19 at *
      clear hu19
      have bm_0 := bm.c0
      have bm_1 := bm.c1
      have b1_0 := b1.c0
      have b1_1 := b1.c1
      have b2_0 := b2.c0
      have b2_1 := b2.c1
      have b3_0 := b3.c0
      have b3_1 := b3.c1
      have b4_0 := b4.c0
      have b4_1 := b4.c1
      have bz_0 := bz.c0
      have bz_1 := bz.c1
      have bz2_0 := bz2.c0
      have bz2_1 := bz2.c1
      have b5_0 := b5.c0
      have b5_1 := b5.c1
      have b6_0 := b6.c0
      have b6_1 := b6.c1
      have b7_0 := b7.c0
      have b7_1 := b7.c1
      refine (weEqual_same _ _ _ _ _ _ _ _ _ _ (rfl) (rfl) (rfl) (rfl) _ r3 r4 (by omega)).mono ?_
      rintro e w20 ⟨rfl, hb⟩
      clear bm_0 bm_1 b1_0 b1_1 b2_0 b2_1 b3_0 b3_1 b4_0 b4_1 bz_0 bz_1 bz2_0 bz2_1 b5_0 b5_1 b6_0 b6_1 b7_0 b7_1
      replace bm := bm.later hb
      replace b1 := b1.later hb
      replace b2 := b2.later hb
      replace b3 := b3.later hb
      replace b4 := b4.later hb
      replace bz := bz.later hb
      replace bz2 := bz2.later hb
      replace b5 := b5.later hb
      replace b6 := b6.later hb
      replace b7 := b7.later hb
      replace rx := rx.below hb
      replace r1 := r1.below hb
      replace r3 := r3.below hb
      replace r4 := r4.below hb
      replace rz := rz.below hb
      replace rz2 := rz2.below hb
      replace r5 := r5.below hb
      replace r6 := r6.below hb
      replace r7 := r7.below hb
      replace bW := bW.thenB hb
      have z20 := hb.size
      clear hb
      have bm_0 := bm.c0
      have bm_1 := bm.c1
      have b1_0 := b1.c0
      have b1_1 := b1.c1
      have b2_0 := b2.c0
      have b2_1 := b2.c1
      have b3_0 := b3.c0
      have b3_1 := b3.c1
      have b4_0 := b4.c0
      have b4_1 := b4.c1
      have bz_0 := bz.c0
      have bz_1 := bz.c1
      have bz2_0 := bz2.c0
      have bz2_1 := bz2.c1
      have b5_0 := b5.c0
      have b5_1 := b5.c1
      have b6_0 := b6.c0
      have b6_1 := b6.c1
      have b7_0 := b7.c0
      have b7_1 := b7.c1
      cases T3
      all_goals cases T4
      all_goals cases T5
      · skip
        go_wp2
        go_ret
        exact ⟨rfl, bW⟩
      · skip
        go_wp2
        go_ret
        exact ⟨rfl, bW⟩
      · skip
        go_wp2
        go_ret
        exact ⟨rfl, bW⟩
      · skip
        go_wp2
        go_ret
        exact ⟨rfl, bW⟩
      · skip
        go_wp2
        go_ret
        exact ⟨rfl, bW⟩
      · skip
        go_wp2
        go_ret
        exact ⟨rfl, bW⟩
      · skip
        go_wp2
        go_ret
        exact ⟨rfl, bW⟩
      · obtain ⟨rfl, rfl⟩ := HFIN.out rfl rfl rfl
        go_wp2_with fail
        refine (weEqual_same _ _ _ _ _ _ _ _ _ _ (rfl) (rfl) (rfl) (rfl) _ r6 r7 (by omega)).mono ?_
        rintro e w21 ⟨rfl, hb⟩
        clear bm_0 bm_1 b1_0 b1_1 b2_0 b2_1 b3_0 b3_1 b4_0 b4_1 bz_0 bz_1 bz2_0 bz2_1 b5_0 b5_1 b6_0 b6_1 b7_0 b7_1
        replace bm := bm.later hb
        replace b1 := b1.later hb
        replace b2 := b2.later hb
        replace b3 := b3.later hb
        replace b4 := b4.later hb
        replace bz := bz.later hb
        replace bz2 := bz2.later hb
        replace b5 := b5.later hb
        replace b6 := b6.later hb
        replace b7 := b7.later hb
        replace rx := rx.below hb
        replace r1 := r1.below hb
        replace r3 := r3.below hb
        replace r4 := r4.below hb
        replace rz := rz.below hb
        replace rz2 := rz2.below hb
        replace r5 := r5.below hb
        replace r6 := r6.below hb
        replace r7 := r7.below hb
        replace bW := bW.thenB hb
        have z21 := hb.size
        clear hb
        have bm_0 := bm.c0
        have bm_1 := bm.c1
        have b1_0 := b1.c0
        have b1_1 := b1.c1
        have b2_0 := b2.c0
        have b2_1 := b2.c1
        have b3_0 := b3.c0
        have b3_1 := b3.c1
        have b4_0 := b4.c0
        have b4_1 := b4.c1
        have bz_0 := bz.c0
        have bz_1 := bz.c1
        have bz2_0 := bz2.c0
        have bz2_1 := bz2.c1
        have b5_0 := b5.c0
        have b5_1 := b5.c1
        have b6_0 := b6.c0
        have b6_1 := b6.c1
        have b7_0 := b7.c0
        have b7_1 := b7.c1
        go_wp2
        go_ret
        exact ⟨rfl, bW⟩

end Go.Proofs.Ytkpnenbkfphldaa
