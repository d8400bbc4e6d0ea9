/- The law on specializations: what it computes. -/
import Derived.Test.YtjmfjgoehicgcaaMgDD
import Derived.Test.YtjmfjgoehicgcaaZK
import Derived.Test.YtjmfjgoehicgcaaMgT5
import Derived.Test.YtjmfjgoehicgcaaMgE4
import Derived.Test.YtjmfjgoehicgcaaMgS10
import Derived.Test.YtjmfjgoehicgcaaMgIH
set_option linter.unusedVariables false
set_option linter.unusedSimpArgs false
namespace Go.Proofs.Ytjmfjgoehicgcaa
open Go.RowKit

theorem sp_parts {s t : Int} {xs ys : List Int} : (massB s xs = true ∧ massB t ys = true ∧ s = t ∧ bothB s xs t ys = true) ∨ (spB s xs t ys = false ∧ (massB s xs = false ∨ (massB s xs = true ∧ massB t ys = false) ∨ (massB s xs = true ∧ massB t ys = true ∧ s ≠ t))) := by
  cases hb : bothB s xs t ys
  · refine .inr ⟨by rw [spB, hb]; rfl, ?_⟩
    cases h1 : massB s xs
    · exact .inl rfl
    · cases h2 : massB t ys
      · exact .inr (.inl ⟨rfl, rfl⟩)
      · refine .inr (.inr ⟨rfl, rfl, fun e => ?_⟩)
        rw [bothB, h1, h2, e] at hb
        simp at hb
  · obtain ⟨p1, p2, p3⟩ := both_parts hb
    exact .inl ⟨p1, p2, p3, rfl⟩


set_option maxHeartbeats 4000000 in
set_option maxRecDepth 100000 in
theorem FnSpecialized_walk (w : World) (a0 : Option Addr) (c0 : Nat) (x0 : List Int) (m0 : x0.length ≤ maxLen) (rd0 : ReadsK .u8 w a0 x0) (wf0 : ∀ n ∈ x0, (Lit.int .u8 n).wf = true) (cp0 : x0.length ≤ c0) (a1 : Option Addr) (c1 : Nat) (x1 : List Int) (m1 : x1.length ≤ maxLen) (rd1 : ReadsK .u8 w a1 x1) (wf1 : ∀ n ∈ x1, (Lit.int .u8 n).wf = true) (cp1 : x1.length ≤ c1) :
    Calls Try.prog 8 #[.slice a0 x0.length c0, .slice a1 x1.length c1] w fun e w' => e = .returned (.bool true) ∧ Below w.heap.size w w' := by
  by_cases hbig0 : 1048576 < x0.length
  · unfold maxLen at m0 m1
    clear rd0 wf0 cp0 rd1 wf1 cp1
    go_enter Try.func8, Try.ntmps8
    go_wp2
    go_ret
    exact ⟨rfl, Below.refl _ _⟩
  by_cases hbig1 : 1048576 < x1.length
  · unfold maxLen at m0 m1
    clear rd0 wf0 cp0 rd1 wf1 cp1
    go_enter Try.func8, Try.ntmps8
    go_wp2
    go_ret
    exact ⟨rfl, Below.refl _ _⟩
  have HD := Lib.hid (DrawIsSpecialized_any a0 c0 x0 w rd0 wf0 m0 cp0)
  have HWF1 := Lib.hid wf1
  have HM1 := Lib.hid m1
  have HCP1 := Lib.hid cp1
  unfold maxLen at m0 m1
  clear rd0 wf0 cp0 wf1 cp1
  go_enter Try.func8, Try.ntmps8
  go_wp2_with fail
  refine HD.out.mono ?_
  rintro e w1 ⟨s, p, c, xs, t, q, d, ys, rfl, hxl, hyl, rx, ry, bW⟩
  clear HD
  replace rd1 := rd1.below bW
  obtain ⟨SP, hSP⟩ : ∃ N, N = spB s xs t ys := ⟨_, rfl⟩
  obtain ⟨V1, hV1⟩ : ∃ N, N = massB s xs := ⟨_, rfl⟩
  obtain ⟨V2, hV2⟩ : ∃ N, N = massB t ys := ⟨_, rfl⟩
  have hF1 := fun (w : World) (hx : Reads w p xs) (hy : Reads w q ys) => iIsSpecialized_any s p c xs t q d ys w hx hy (by omega) (by omega)
  have hF2 := fun (w : World) (hx : Reads w p xs) (hy : Reads w q ys) => sIsSpecialized_any s p c xs t q d ys w hx hy (by omega) (by omega)
  have hF3 := fun (w : World) (hx : Reads w p xs) => iMassValid_any s p c xs w hx (by omega)
  have hF4 := fun (w : World) (hy : Reads w q ys) => iMassValid_any t q d ys w hy (by omega)
  rw [← hSP] at hF1 hF2
  rw [← hV1] at hF3
  rw [← hV2] at hF4
  have HF1 := Lib.hid hF1
  have HF2 := Lib.hid hF2
  have HF3 := Lib.hid hF3
  have HF4 := Lib.hid hF4
  have hcase := @sp_parts s t xs ys
  rw [← hSP, ← hV1, ← hV2] at hcase
  have HC := Lib.hid hcase
  have HSP := Lib.hid hSP
  have HV1 := Lib.hid hV1
  have HV2 := Lib.hid hV2
  have hq1 : (SP != SP) = false := by cases SP <;> rfl
  have hq2 : (SP == SP) = true := by cases SP <;> rfl
  clear hF1 hF2 hF3 hF4 hSP hV1 hV2 hcase
  go_wp2_with fail
  have hb := belowAlloc w1 (.cells #[.int .i64 s, .slice p xs.length c] 27)
  replace rd1 := rd1.below hb
  replace rx := rx.below hb
  replace ry := ry.below hb
  replace bW := bW.thenB hb
  clear hb
  have bm := VarInv.made w1 (s) (.slice p xs.length c) 27
  have z2 := bm.lt
  have hsj : (w1.alloc (.cells #[.int .i64 s, .slice p xs.length c] 27)).heap.size = w1.heap.size + 1 := by simp
  generalize hu2 : w1.alloc (.cells #[.int .i64 s, .slice p xs.length c] 27) = w2 at *
  clear hu2
  have hb := belowAlloc w2 (.cells #[.int .i64 t, .slice q ys.length d] 27)
  replace bm := bm.later hb
  replace rd1 := rd1.below hb
  replace rx := rx.below hb
  replace ry := ry.below hb
  replace bW := bW.thenB hb
  clear hb
  have bn := VarInv.made w2 (t) (.slice q ys.length d) 27
  rw [hsj] at bn
  clear hsj
  have z3 := bn.lt
  generalize hu3 : w2.alloc (.cells #[.int .i64 t, .slice q ys.length d] 27) = w3 at *
  clear hu3
  have bm_0 := bm.c0
  have bm_1 := bm.c1
  have bn_0 := bn.c0
  have bn_1 := bn.c1
  refine (HF1.out _ rx ry).mono ?_
  rintro e w4 ⟨rfl, hb⟩
  clear bm_0 bm_1 bn_0 bn_1
  replace bm := bm.later hb
  replace bn := bn.later hb
  replace rd1 := rd1.below hb
  replace rx := rx.below hb
  replace ry := ry.below hb
  replace bW := bW.thenB hb
  have z4 := hb.size
  clear hb
  have bm_0 := bm.c0
  have bm_1 := bm.c1
  have bn_0 := bn.c0
  have bn_1 := bn.c1
  go_wp2_with fail
  refine (HF2.out _ rx ry).mono ?_
  rintro e w5 ⟨rfl, hb⟩
  clear bm_0 bm_1 bn_0 bn_1
  replace bm := bm.later hb
  replace bn := bn.later hb
  replace rd1 := rd1.below hb
  replace rx := rx.below hb
  replace ry := ry.below hb
  replace bW := bW.thenB hb
  have z5 := hb.size
  clear hb
  have bm_0 := bm.c0
  have bm_1 := bm.c1
  have bn_0 := bn.c0
  have bn_1 := bn.c1
  rcases HC.out with ⟨rfl, rfl, rfl, hb⟩ | ⟨rfl, hno⟩
  rotate_left
  · skip
    rcases hno with rfl | ⟨rfl, rfl⟩ | ⟨rfl, rfl, hst⟩
    · skip
      go_wp2_with fail
      refine (HF3.out _ rx).mono ?_
      rintro e w6 ⟨rfl, hb⟩
      clear bm_0 bm_1 bn_0 bn_1
      replace bm := bm.later hb
      replace bn := bn.later hb
      replace rd1 := rd1.below hb
      replace rx := rx.below hb
      replace ry := ry.below hb
      replace bW := bW.thenB hb
      have z6 := hb.size
      clear hb
      have bm_0 := bm.c0
      have bm_1 := bm.c1
      have bn_0 := bn.c0
      have bn_1 := bn.c1
      go_wp2_with fail
      refine (HF2.out _ rx ry).mono ?_
      rintro e w7 ⟨rfl, hb⟩
      clear bm_0 bm_1 bn_0 bn_1
      replace bm := bm.later hb
      replace bn := bn.later hb
      replace rd1 := rd1.below hb
      replace rx := rx.below hb
      replace ry := ry.below hb
      replace bW := bW.thenB hb
      have z7 := hb.size
      clear hb
      have bm_0 := bm.c0
      have bm_1 := bm.c1
      have bn_0 := bn.c0
      have bn_1 := bn.c1
      go_wp2
      go_ret
      exact ⟨rfl, bW⟩
    · skip
      go_wp2_with fail
      refine (HF3.out _ rx).mono ?_
      rintro e w6 ⟨rfl, hb⟩
      clear bm_0 bm_1 bn_0 bn_1
      replace bm := bm.later hb
      replace bn := bn.later hb
      replace rd1 := rd1.below hb
      replace rx := rx.below hb
      replace ry := ry.below hb
      replace bW := bW.thenB hb
      have z6 := hb.size
      clear hb
      have bm_0 := bm.c0
      have bm_1 := bm.c1
      have bn_0 := bn.c0
      have bn_1 := bn.c1
      go_wp2_with fail
      refine (HF4.out _ ry).mono ?_
      rintro e w7 ⟨rfl, hb⟩
      clear bm_0 bm_1 bn_0 bn_1
      replace bm := bm.later hb
      replace bn := bn.later hb
      replace rd1 := rd1.below hb
      replace rx := rx.below hb
      replace ry := ry.below hb
      replace bW := bW.thenB hb
      have z7 := hb.size
      clear hb
      have bm_0 := bm.c0
      have bm_1 := bm.c1
      have bn_0 := bn.c0
      have bn_1 := bn.c1
      go_wp2_with fail
      refine (HF2.out _ rx ry).mono ?_
      rintro e w8 ⟨rfl, hb⟩
      clear bm_0 bm_1 bn_0 bn_1
      replace bm := bm.later hb
      replace bn := bn.later hb
      replace rd1 := rd1.below hb
      replace rx := rx.below hb
      replace ry := ry.below hb
      replace bW := bW.thenB hb
      have z8 := hb.size
      clear hb
      have bm_0 := bm.c0
      have bm_1 := bm.c1
      have bn_0 := bn.c0
      have bn_1 := bn.c1
      go_wp2
      go_ret
      exact ⟨rfl, bW⟩
    · skip
      have hne : (s != t) = true := bne_iff_ne.2 hst
      clear hst
      go_wp2_with fail
      refine (HF3.out _ rx).mono ?_
      rintro e w6 ⟨rfl, hb⟩
      clear bm_0 bm_1 bn_0 bn_1
      replace bm := bm.later hb
      replace bn := bn.later hb
      replace rd1 := rd1.below hb
      replace rx := rx.below hb
      replace ry := ry.below hb
      replace bW := bW.thenB hb
      have z6 := hb.size
      clear hb
      have bm_0 := bm.c0
      have bm_1 := bm.c1
      have bn_0 := bn.c0
      have bn_1 := bn.c1
      go_wp2_with fail
      refine (HF4.out _ ry).mono ?_
      rintro e w7 ⟨rfl, hb⟩
      clear bm_0 bm_1 bn_0 bn_1
      replace bm := bm.later hb
      replace bn := bn.later hb
      replace rd1 := rd1.below hb
      replace rx := rx.below hb
      replace ry := ry.below hb
      replace bW := bW.thenB hb
      have z7 := hb.size
      clear hb
      have bm_0 := bm.c0
      have bm_1 := bm.c1
      have bn_0 := bn.c0
      have bn_1 := bn.c1
      go_wp2_with fail
      refine (HF2.out _ rx ry).mono ?_
      rintro e w8 ⟨rfl, hb⟩
      clear bm_0 bm_1 bn_0 bn_1
      replace bm := bm.later hb
      replace bn := bn.later hb
      replace rd1 := rd1.below hb
      replace rx := rx.below hb
      replace ry := ry.below hb
      replace bW := bW.thenB hb
      have z8 := hb.size
      clear hb
      have bm_0 := bm.c0
      have bm_1 := bm.c1
      have bn_0 := bn.c0
      have bn_1 := bn.c1
      go_wp2
      go_ret
      exact ⟨rfl, bW⟩
  · skip
    have hk := massB_ok HV1.out.symm
    have hj := massB_ok HV2.out.symm
    have hx16 := hk.l16
    have hy16 := hj.l16
    have hss : (s != s) = false := by simp
    have HB := Lib.hid hb
    have HK := Lib.hid hk
    clear hk hj hb
    go_wp2_with fail
    refine (HF3.out _ rx).mono ?_
    rintro e w6 ⟨rfl, hb⟩
    clear bm_0 bm_1 bn_0 bn_1
    replace bm := bm.later hb
    replace bn := bn.later hb
    replace rd1 := rd1.below hb
    replace rx := rx.below hb
    replace ry := ry.below hb
    replace bW := bW.thenB hb
    have z6 := hb.size
    clear hb
    have bm_0 := bm.c0
    have bm_1 := bm.c1
    have bn_0 := bn.c0
    have bn_1 := bn.c1
    go_wp2_with fail
    refine (HF4.out _ ry).mono ?_
    rintro e w7 ⟨rfl, hb⟩
    clear bm_0 bm_1 bn_0 bn_1
    replace bm := bm.later hb
    replace bn := bn.later hb
    replace rd1 := rd1.below hb
    replace rx := rx.below hb
    replace ry := ry.below hb
    replace bW := bW.thenB hb
    have z7 := hb.size
    clear hb
    have bm_0 := bm.c0
    have bm_1 := bm.c1
    have bn_0 := bn.c0
    have bn_1 := bn.c1
    go_wp2_with fail
    refine (DrawIsSpecialized_any _ c1 x1 _ rd1 HWF1.out HM1.out HCP1.out).mono ?_
    rintro e w8 ⟨s2, p2, c2, z2, t2, q2, d2, zs, rfl, hzl2, hzl, rz2, rz, hb⟩
    clear bm_0 bm_1 bn_0 bn_1
    replace bm := bm.later hb
    replace bn := bn.later hb
    replace rd1 := rd1.below hb
    replace rx := rx.below hb
    replace ry := ry.below hb
    replace bW := bW.thenB hb
    have z8 := hb.size
    clear hb
    have bm_0 := bm.c0
    have bm_1 := bm.c1
    have bn_0 := bn.c0
    have bn_1 := bn.c1
    clear rd1
    clear rz2
    obtain ⟨OK, hOK⟩ : ∃ N, N = gOk (bothB s ys t2 zs) s (cjP ys zs) := ⟨_, rfl⟩
    obtain ⟨SK, hSK⟩ : ∃ N, N = gS (bothB s ys t2 zs) s (cjP ys zs) := ⟨_, rfl⟩
    obtain ⟨K, hK⟩ : ∃ N, N = gL (bothB s ys t2 zs) s (cjP ys zs) := ⟨_, rfl⟩
    have hKl : K.length ≤ 16 := by rw [hK]; exact Nat.le_trans (gL_le _ _ _ _ (cjP_len _ _)) hy16
    have hG1 := fun (w : World) (hy : Reads w q ys) (hz : Reads w q2 zs) => iConjoin_any s q d ys t2 q2 d2 zs w hy hz (by omega) (by omega)
    simp only [← hOK, ← hSK, ← hK] at hG1
    obtain ⟨F, hF⟩ : ∃ F, F = fuL xs := ⟨_, rfl⟩
    obtain ⟨Z, hZ⟩ : ∃ F, F = sureL xs.length 0 := ⟨_, rfl⟩
    have hFl : F.length ≤ 16 := by rw [hF, fuL_len]; omega
    have hZl : Z.length ≤ 16 := by rw [hZ]; simp [sureL, zeros_len]; omega
    have hpl : (pow2 s).toNat = xs.length := by have := HK.out.len; omega
    have hsz : szB s = true := by simp only [szB, inB, Bool.and_eq_true, decide_eq_true_eq]; exact ⟨HK.out.s1, HK.out.s4⟩
    have hN2 : neL s = F := by rw [hF, neL, if_pos hsz, hpl, fuL]
    have hN1 : neS s = s := by rw [neS, if_pos hsz]
    have hG2 := fun (w : World) => iNoEvidence_any s w
    simp only [hN1, hN2, hsz] at hG2
    have hsu : suG s 0 = true := by
      rw [suG, hsz, Bool.true_and, setB]; have := pow2_bd s HK.out.s1 HK.out.s4; exact decide_eq_true ⟨by omega, by omega⟩
    have hU1 : suS s 0 = s := (su_yes hsu).1
    have hU2 : suL s 0 = Z := by rw [(su_yes hsu).2, hpl, hZ]; rfl
    have hG3 := fun (w : World) => iSureMass_any s 0 w
    simp only [hU1, hU2, hsu] at hG3
    obtain ⟨BK, hBK⟩ : ∃ N, N = spB s ys s xs := ⟨_, rfl⟩
    have hG4 := fun (w : World) (hx : Reads w p xs) (hy : Reads w q ys) => iIsSpecialized_any s q d ys s p c xs w hy hx (by omega) (by omega)
    rw [← hBK] at hG4
    have hmx := HV1.out.symm
    have hmy := HV2.out.symm
    have hG5 := fun (w : World) (a : Option Addr) (k : Nat) (hz : Reads w a K) (hy : Reads w q ys) => iIsSpecialized_any SK a k K s q d ys w hz hy (by omega) (by omega)
    have hL5 : OK = true → spB SK K s ys = true := fun h => by rw [hSK, hK]; exact sp_conj hmy (hOK.symm.trans h)
    have hG6 := fun (w : World) (a : Option Addr) (k : Nat) (hx : Reads w p xs) (hz : Reads w a F) => iIsSpecialized_any s p c xs s a k F w hx hz (by omega) (by omega)
    rw [show spB s xs s F = true by rw [hF]; exact sp_none hmx] at hG6
    have hG7 := fun (w : World) (a : Option Addr) (k : Nat) (hz : Reads w a Z) (hx : Reads w p xs) => iIsSpecialized_any s a k Z s p c xs w hz hx (by omega) (by omega)
    rw [show spB s Z s xs = true by rw [hZ]; exact sp_nothing hmx] at hG7
    have hG8 := fun (w : World) (hx : Reads w p xs) => iIsSpecialized_any s p c xs s p c xs w hx hx (by omega) (by omega)
    rw [sp_self hmx] at hG8
    have heq : SP = true → BK = true → xs = ys := fun h1 h2 => sp_eq (HSP.out.symm.trans h1) (hBK.symm.trans h2)
    have hG9 := fun (w : World) (hx : Reads w p xs) (hy : Reads w q ys) => iMorePossible_any s p c xs s q d ys w hx hy (by omega) (by omega)
    have hG10 := fun (w : World) (hx : Reads w p xs) (hy : Reads w q ys) => iMoreCommon_any s p c xs s q d ys w hx hy (by omega) (by omega)
    have hmm : SP = true → mpB s xs s ys = true ∧ mcB s xs s ys = true := fun h => sp_mp (HSP.out.symm.trans h)
    obtain ⟨MP, hMP⟩ : ∃ N, N = mpB s xs s ys := ⟨_, rfl⟩
    obtain ⟨MC, hMC⟩ : ∃ N, N = mcB s xs s ys := ⟨_, rfl⟩
    rw [← hMP] at hG9 hmm
    rw [← hMC] at hG10 hmm
    obtain ⟨JK, hJK⟩ : ∃ N, N = spB SK K s ys := ⟨_, rfl⟩
    rw [← hJK] at hG5 hL5
    have HG1 := Lib.hid hG1
    have HG2 := Lib.hid hG2
    have HG3 := Lib.hid hG3
    have HG4 := Lib.hid hG4
    have HG5 := Lib.hid hG5
    have HG6 := Lib.hid hG6
    have HG7 := Lib.hid hG7
    have HG8 := Lib.hid hG8
    have HG9 := Lib.hid hG9
    have HG10 := Lib.hid hG10
    have HL5 := Lib.hid hL5
    have HEQ := Lib.hid heq
    have HMM := Lib.hid hmm
    clear hG1 hG2 hG3 hG4 hG5 hG6 hG7 hG8 hG9 hG10 hL5 heq hmm hMP hMC hJK hOK hSK hK hF hZ hpl hsz hN2 hN1 hsu hU1 hU2 hBK hmx hmy
    have lt_bm := bm.lt
    have lt_bn := bn.lt
    go_wp2_with fail
    clear lt_bm lt_bn
    have hb := belowAlloc w8 (.cells #[.int .i64 s2, .slice p2 z2.length c2] 27)
    clear bm_0 bm_1 bn_0 bn_1
    replace bm := bm.later hb
    replace bn := bn.later hb
    replace rx := rx.below hb
    replace ry := ry.below hb
    replace rz := rz.below hb
    replace bW := bW.thenB hb
    clear hb
    have bz2 := VarInv.made w8 (s2) (.slice p2 z2.length c2) 27
    have z9 := bz2.lt
    have hsj : (w8.alloc (.cells #[.int .i64 s2, .slice p2 z2.length c2] 27)).heap.size = w8.heap.size + 1 := by simp
    generalize hu9 : w8.alloc (.cells #[.int .i64 s2, .slice p2 z2.length c2] 27) = w9 at *
    clear hu9
    have hb := belowAlloc w9 (.cells #[.int .i64 t2, .slice q2 zs.length d2] 27)
    replace bm := bm.later hb
    replace bn := bn.later hb
    replace bz2 := bz2.later hb
    replace rx := rx.below hb
    replace ry := ry.below hb
    replace rz := rz.below hb
    replace bW := bW.thenB hb
    clear hb
    have bz := VarInv.made w9 (t2) (.slice q2 zs.length d2) 27
    rw [hsj] at bz
    clear hsj
    have z10 := bz.lt
    generalize hu10 : w9.alloc (.cells #[.int .i64 t2, .slice q2 zs.length d2] 27) = w10 at *
    clear hu10
    have bm_0 := bm.c0
    have bm_1 := bm.c1
    have bn_0 := bn.c0
    have bn_1 := bn.c1
    have bz2_0 := bz2.c0
    have bz2_1 := bz2.c1
    have bz_0 := bz.c0
    have bz_1 := bz.c1
    refine (HG1.out _ ry rz).mono ?_
    rintro e w11 ⟨v, rfl, o, hb⟩
    clear bm_0 bm_1 bn_0 bn_1 bz2_0 bz2_1 bz_0 bz_1
    replace bm := bm.later hb
    replace bn := bn.later hb
    replace bz2 := bz2.later hb
    replace bz := bz.later hb
    replace rx := rx.below hb
    replace ry := ry.below hb
    replace rz := rz.below hb
    replace bW := bW.thenB hb
    have z11 := hb.size
    obtain ⟨p5, k5, rfl, r5⟩ := o.shape
    clear o
    clear hb
    have bm_0 := bm.c0
    have bm_1 := bm.c1
    have bn_0 := bn.c0
    have bn_1 := bn.c1
    have bz2_0 := bz2.c0
    have bz2_1 := bz2.c1
    have bz_0 := bz.c0
    have bz_1 := bz.c1
    have lt_bm := bm.lt
    have lt_bn := bn.lt
    have lt_bz2 := bz2.lt
    have lt_bz := bz.lt
    go_wp2_with fail
    clear lt_bm lt_bn lt_bz2 lt_bz
    have hb := belowAlloc w11 (.cells #[.int .i64 SK, .slice p5 K.length k5] 27)
    clear bm_0 bm_1 bn_0 bn_1 bz2_0 bz2_1 bz_0 bz_1
    replace bm := bm.later hb
    replace bn := bn.later hb
    replace bz2 := bz2.later hb
    replace bz := bz.later hb
    replace rx := rx.below hb
    replace ry := ry.below hb
    replace rz := rz.below hb
    replace r5 := r5.below hb
    replace bW := bW.thenB hb
    clear hb
    have b5 := VarInv.made w11 (SK) (.slice p5 K.length k5) 27
    have z12 := b5.lt
    generalize hu12 : w11.alloc (.cells #[.int .i64 SK, .slice p5 K.length k5] 27) = w12 at *
    clear hu12
    have bm_0 := bm.c0
    have bm_1 := bm.c1
    have bn_0 := bn.c0
    have bn_1 := bn.c1
    have bz2_0 := bz2.c0
    have bz2_1 := bz2.c1
    have bz_0 := bz.c0
    have bz_1 := bz.c1
    have b5_0 := b5.c0
    have b5_1 := b5.c1
    refine (HG2.out _).mono ?_
    rintro e w13 ⟨v, rfl, o, hb⟩
    clear bm_0 bm_1 bn_0 bn_1 bz2_0 bz2_1 bz_0 bz_1 b5_0 b5_1
    replace bm := bm.later hb
    replace bn := bn.later hb
    replace bz2 := bz2.later hb
    replace bz := bz.later hb
    replace b5 := b5.later hb
    replace rx := rx.below hb
    replace ry := ry.below hb
    replace rz := rz.below hb
    replace r5 := r5.below hb
    replace bW := bW.thenB hb
    have z13 := hb.size
    obtain ⟨p6, k6, rfl, r6⟩ := o.shape
    clear o
    clear hb
    have bm_0 := bm.c0
    have bm_1 := bm.c1
    have bn_0 := bn.c0
    have bn_1 := bn.c1
    have bz2_0 := bz2.c0
    have bz2_1 := bz2.c1
    have bz_0 := bz.c0
    have bz_1 := bz.c1
    have b5_0 := b5.c0
    have b5_1 := b5.c1
    have lt_bm := bm.lt
    have lt_bn := bn.lt
    have lt_bz2 := bz2.lt
    have lt_bz := bz.lt
    have lt_b5 := b5.lt
    go_wp2_with fail
    clear lt_bm lt_bn lt_bz2 lt_bz lt_b5
    have hb := belowAlloc w13 (.cells #[.int .i64 s, .slice p6 F.length k6] 27)
    clear bm_0 bm_1 bn_0 bn_1 bz2_0 bz2_1 bz_0 bz_1 b5_0 b5_1
    replace bm := bm.later hb
    replace bn := bn.later hb
    replace bz2 := bz2.later hb
    replace bz := bz.later hb
    replace b5 := b5.later hb
    replace rx := rx.below hb
    replace ry := ry.below hb
    replace rz := rz.below hb
    replace r5 := r5.below hb
    replace r6 := r6.below hb
    replace bW := bW.thenB hb
    clear hb
    have b6 := VarInv.made w13 (s) (.slice p6 F.length k6) 27
    have z14 := b6.lt
    generalize hu14 : w13.alloc (.cells #[.int .i64 s, .slice p6 F.length k6] 27) = w14 at *
    clear hu14
    have bm_0 := bm.c0
    have bm_1 := bm.c1
    have bn_0 := bn.c0
    have bn_1 := bn.c1
    have bz2_0 := bz2.c0
    have bz2_1 := bz2.c1
    have bz_0 := bz.c0
    have bz_1 := bz.c1
    have b5_0 := b5.c0
    have b5_1 := b5.c1
    have b6_0 := b6.c0
    have b6_1 := b6.c1
    refine (HG3.out _).mono ?_
    rintro e w15 ⟨v, rfl, o, hb⟩
    clear bm_0 bm_1 bn_0 bn_1 bz2_0 bz2_1 bz_0 bz_1 b5_0 b5_1 b6_0 b6_1
    replace bm := bm.later hb
    replace bn := bn.later hb
    replace bz2 := bz2.later hb
    replace bz := bz.later hb
    replace b5 := b5.later hb
    replace b6 := b6.later hb
    replace rx := rx.below hb
    replace ry := ry.below hb
    replace rz := rz.below hb
    replace r5 := r5.below hb
    replace r6 := r6.below hb
    replace bW := bW.thenB hb
    have z15 := hb.size
    obtain ⟨p7, k7, rfl, r7⟩ := o.shape
    clear o
    clear hb
    have bm_0 := bm.c0
    have bm_1 := bm.c1
    have bn_0 := bn.c0
    have bn_1 := bn.c1
    have bz2_0 := bz2.c0
    have bz2_1 := bz2.c1
    have bz_0 := bz.c0
    have bz_1 := bz.c1
    have b5_0 := b5.c0
    have b5_1 := b5.c1
    have b6_0 := b6.c0
    have b6_1 := b6.c1
    have lt_bm := bm.lt
    have lt_bn := bn.lt
    have lt_bz2 := bz2.lt
    have lt_bz := bz.lt
    have lt_b5 := b5.lt
    have lt_b6 := b6.lt
    go_wp2_with fail
    clear lt_bm lt_bn lt_bz2 lt_bz lt_b5 lt_b6
    have hb := belowAlloc w15 (.cells #[.int .i64 s, .slice p7 Z.length k7] 27)
    clear bm_0 bm_1 bn_0 bn_1 bz2_0 bz2_1 bz_0 bz_1 b5_0 b5_1 b6_0 b6_1
    replace bm := bm.later hb
    replace bn := bn.later hb
    replace bz2 := bz2.later hb
    replace bz := bz.later hb
    replace b5 := b5.later hb
    replace b6 := b6.later hb
    replace rx := rx.below hb
    replace ry := ry.below hb
    replace rz := rz.below hb
    replace r5 := r5.below hb
    replace r6 := r6.below hb
    replace r7 := r7.below hb
    replace bW := bW.thenB hb
    clear hb
    have b7 := VarInv.made w15 (s) (.slice p7 Z.length k7) 27
    have z16 := b7.lt
    generalize hu16 : w15.alloc (.cells #[.int .i64 s, .slice p7 Z.length k7] 27) = w16 at *
    clear hu16
    have bm_0 := bm.c0
    have bm_1 := bm.c1
    have bn_0 := bn.c0
    have bn_1 := bn.c1
    have bz2_0 := bz2.c0
    have bz2_1 := bz2.c1
    have bz_0 := bz.c0
    have bz_1 := bz.c1
    have b5_0 := b5.c0
    have b5_1 := b5.c1
    have b6_0 := b6.c0
    have b6_1 := b6.c1
    have b7_0 := b7.c0
    have b7_1 := b7.c1
    refine (HG4.out _ rx ry).mono ?_
    rintro e w17 ⟨rfl, hb⟩
    clear bm_0 bm_1 bn_0 bn_1 bz2_0 bz2_1 bz_0 bz_1 b5_0 b5_1 b6_0 b6_1 b7_0 b7_1
    replace bm := bm.later hb
    replace bn := bn.later hb
    replace bz2 := bz2.later hb
    replace bz := bz.later hb
    replace b5 := b5.later hb
    replace b6 := b6.later hb
    replace b7 := b7.later hb
    replace rx := rx.below hb
    replace ry := ry.below hb
    replace rz := rz.below hb
    replace r5 := r5.below hb
    replace r6 := r6.below hb
    replace r7 := r7.below hb
    replace bW := bW.thenB hb
    have z17 := hb.size
    clear hb
    have bm_0 := bm.c0
    have bm_1 := bm.c1
    have bn_0 := bn.c0
    have bn_1 := bn.c1
    have bz2_0 := bz2.c0
    have bz2_1 := bz2.c1
    have bz_0 := bz.c0
    have bz_1 := bz.c1
    have b5_0 := b5.c0
    have b5_1 := b5.c1
    have b6_0 := b6.c0
    have b6_1 := b6.c1
    have b7_0 := b7.c0
    have b7_1 := b7.c1
    cases SP
    all_goals cases OK
    all_goals cases BK
    · skip
      go_wp2_with fail
      refine (HG6.out _ _ _ rx r6).mono ?_
      rintro e w18 ⟨rfl, hb⟩
      clear bm_0 bm_1 bn_0 bn_1 bz2_0 bz2_1 bz_0 bz_1 b5_0 b5_1 b6_0 b6_1 b7_0 b7_1
      replace bm := bm.later hb
      replace bn := bn.later hb
      replace bz2 := bz2.later hb
      replace bz := bz.later hb
      replace b5 := b5.later hb
      replace b6 := b6.later hb
      replace b7 := b7.later hb
      replace rx := rx.below hb
      replace ry := ry.below hb
      replace rz := rz.below hb
      replace r5 := r5.below hb
      replace r6 := r6.below hb
      replace r7 := r7.below hb
      replace bW := bW.thenB hb
      have z18 := hb.size
      clear hb
      have bm_0 := bm.c0
      have bm_1 := bm.c1
      have bn_0 := bn.c0
      have bn_1 := bn.c1
      have bz2_0 := bz2.c0
      have bz2_1 := bz2.c1
      have bz_0 := bz.c0
      have bz_1 := bz.c1
      have b5_0 := b5.c0
      have b5_1 := b5.c1
      have b6_0 := b6.c0
      have b6_1 := b6.c1
      have b7_0 := b7.c0
      have b7_1 := b7.c1
      go_wp2_with fail
      refine (HG7.out _ _ _ r7 rx).mono ?_
      rintro e w19 ⟨rfl, hb⟩
      clear bm_0 bm_1 bn_0 bn_1 bz2_0 bz2_1 bz_0 bz_1 b5_0 b5_1 b6_0 b6_1 b7_0 b7_1
      replace bm := bm.later hb
      replace bn := bn.later hb
      replace bz2 := bz2.later hb
      replace bz := bz.later hb
      replace b5 := b5.later hb
      replace b6 := b6.later hb
      replace b7 := b7.later hb
      replace rx := rx.below hb
      replace ry := ry.below hb
      replace rz := rz.below hb
      replace r5 := r5.below hb
      replace r6 := r6.below hb
      replace r7 := r7.below hb
      replace bW := bW.thenB hb
      have z19 := hb.size
      clear hb
      have bm_0 := bm.c0
      have bm_1 := bm.c1
      have bn_0 := bn.c0
      have bn_1 := bn.c1
      have bz2_0 := bz2.c0
      have bz2_1 := bz2.c1
      have bz_0 := bz.c0
      have bz_1 := bz.c1
      have b5_0 := b5.c0
      have b5_1 := b5.c1
      have b6_0 := b6.c0
      have b6_1 := b6.c1
      have b7_0 := b7.c0
      have b7_1 := b7.c1
      go_wp2_with fail
      refine (HG8.out _ rx).mono ?_
      rintro e w20 ⟨rfl, hb⟩
      clear bm_0 bm_1 bn_0 bn_1 bz2_0 bz2_1 bz_0 bz_1 b5_0 b5_1 b6_0 b6_1 b7_0 b7_1
      replace bm := bm.later hb
      replace bn := bn.later hb
      replace bz2 := bz2.later hb
      replace bz := bz.later hb
      replace b5 := b5.later hb
      replace b6 := b6.later hb
      replace b7 := b7.later hb
      replace rx := rx.below hb
      replace ry := ry.below hb
      replace rz := rz.below hb
      replace r5 := r5.below hb
      replace r6 := r6.below hb
      replace r7 := r7.below hb
      replace bW := bW.thenB hb
      have z20 := hb.size
      clear hb
      have bm_0 := bm.c0
      have bm_1 := bm.c1
      have bn_0 := bn.c0
      have bn_1 := bn.c1
      have bz2_0 := bz2.c0
      have bz2_1 := bz2.c1
      have bz_0 := bz.c0
      have bz_1 := bz.c1
      have b5_0 := b5.c0
      have b5_1 := b5.c1
      have b6_0 := b6.c0
      have b6_1 := b6.c1
      have b7_0 := b7.c0
      have b7_1 := b7.c1
      go_wp2
      go_ret
      exact ⟨rfl, bW⟩
    · skip
      go_wp2_with fail
      refine (HG6.out _ _ _ rx r6).mono ?_
      rintro e w18 ⟨rfl, hb⟩
      clear bm_0 bm_1 bn_0 bn_1 bz2_0 bz2_1 bz_0 bz_1 b5_0 b5_1 b6_0 b6_1 b7_0 b7_1
      replace bm := bm.later hb
      replace bn := bn.later hb
      replace bz2 := bz2.later hb
      replace bz := bz.later hb
      replace b5 := b5.later hb
      replace b6 := b6.later hb
      replace b7 := b7.later hb
      replace rx := rx.below hb
      replace ry := ry.below hb
      replace rz := rz.below hb
      replace r5 := r5.below hb
      replace r6 := r6.below hb
      replace r7 := r7.below hb
      replace bW := bW.thenB hb
      have z18 := hb.size
      clear hb
      have bm_0 := bm.c0
      have bm_1 := bm.c1
      have bn_0 := bn.c0
      have bn_1 := bn.c1
      have bz2_0 := bz2.c0
      have bz2_1 := bz2.c1
      have bz_0 := bz.c0
      have bz_1 := bz.c1
      have b5_0 := b5.c0
      have b5_1 := b5.c1
      have b6_0 := b6.c0
      have b6_1 := b6.c1
      have b7_0 := b7.c0
      have b7_1 := b7.c1
      go_wp2_with fail
      refine (HG7.out _ _ _ r7 rx).mono ?_
      rintro e w19 ⟨rfl, hb⟩
      clear bm_0 bm_1 bn_0 bn_1 bz2_0 bz2_1 bz_0 bz_1 b5_0 b5_1 b6_0 b6_1 b7_0 b7_1
      replace bm := bm.later hb
      replace bn := bn.later hb
      replace bz2 := bz2.later hb
      replace bz := bz.later hb
      replace b5 := b5.later hb
      replace b6 := b6.later hb
      replace b7 := b7.later hb
      replace rx := rx.below hb
      replace ry := ry.below hb
      replace rz := rz.below hb
      replace r5 := r5.below hb
      replace r6 := r6.below hb
      replace r7 := r7.below hb
      replace bW := bW.thenB hb
      have z19 := hb.size
      clear hb
      have bm_0 := bm.c0
      have bm_1 := bm.c1
      have bn_0 := bn.c0
      have bn_1 := bn.c1
      have bz2_0 := bz2.c0
      have bz2_1 := bz2.c1
      have bz_0 := bz.c0
      have bz_1 := bz.c1
      have b5_0 := b5.c0
      have b5_1 := b5.c1
      have b6_0 := b6.c0
      have b6_1 := b6.c1
      have b7_0 := b7.c0
      have b7_1 := b7.c1
      go_wp2_with fail
      refine (HG8.out _ rx).mono ?_
      rintro e w20 ⟨rfl, hb⟩
      clear bm_0 bm_1 bn_0 bn_1 bz2_0 bz2_1 bz_0 bz_1 b5_0 b5_1 b6_0 b6_1 b7_0 b7_1
      replace bm := bm.later hb
      replace bn := bn.later hb
      replace bz2 := bz2.later hb
      replace bz := bz.later hb
      replace b5 := b5.later hb
      replace b6 := b6.later hb
      replace b7 := b7.later hb
      replace rx := rx.below hb
      replace ry := ry.below hb
      replace rz := rz.below hb
      replace r5 := r5.below hb
      replace r6 := r6.below hb
      replace r7 := r7.below hb
      replace bW := bW.thenB hb
      have z20 := hb.size
      clear hb
      have bm_0 := bm.c0
      have bm_1 := bm.c1
      have bn_0 := bn.c0
      have bn_1 := bn.c1
      have bz2_0 := bz2.c0
      have bz2_1 := bz2.c1
      have bz_0 := bz.c0
      have bz_1 := bz.c1
      have b5_0 := b5.c0
      have b5_1 := b5.c1
      have b6_0 := b6.c0
      have b6_1 := b6.c1
      have b7_0 := b7.c0
      have b7_1 := b7.c1
      go_wp2
      go_ret
      exact ⟨rfl, bW⟩
    · skip
      have hJ := HL5.out (by trivial)
      subst hJ
      go_wp2_with fail
      refine (HG5.out _ _ _ r5 ry).mono ?_
      rintro e w18 ⟨rfl, hb⟩
      clear bm_0 bm_1 bn_0 bn_1 bz2_0 bz2_1 bz_0 bz_1 b5_0 b5_1 b6_0 b6_1 b7_0 b7_1
      replace bm := bm.later hb
      replace bn := bn.later hb
      replace bz2 := bz2.later hb
      replace bz := bz.later hb
      replace b5 := b5.later hb
      replace b6 := b6.later hb
      replace b7 := b7.later hb
      replace rx := rx.below hb
      replace ry := ry.below hb
      replace rz := rz.below hb
      replace r5 := r5.below hb
      replace r6 := r6.below hb
      replace r7 := r7.below hb
      replace bW := bW.thenB hb
      have z18 := hb.size
      clear hb
      have bm_0 := bm.c0
      have bm_1 := bm.c1
      have bn_0 := bn.c0
      have bn_1 := bn.c1
      have bz2_0 := bz2.c0
      have bz2_1 := bz2.c1
      have bz_0 := bz.c0
      have bz_1 := bz.c1
      have b5_0 := b5.c0
      have b5_1 := b5.c1
      have b6_0 := b6.c0
      have b6_1 := b6.c1
      have b7_0 := b7.c0
      have b7_1 := b7.c1
      go_wp2_with fail
      refine (HG6.out _ _ _ rx r6).mono ?_
      rintro e w19 ⟨rfl, hb⟩
      clear bm_0 bm_1 bn_0 bn_1 bz2_0 bz2_1 bz_0 bz_1 b5_0 b5_1 b6_0 b6_1 b7_0 b7_1
      replace bm := bm.later hb
      replace bn := bn.later hb
      replace bz2 := bz2.later hb
      replace bz := bz.later hb
      replace b5 := b5.later hb
      replace b6 := b6.later hb
      replace b7 := b7.later hb
      replace rx := rx.below hb
      replace ry := ry.below hb
      replace rz := rz.below hb
      replace r5 := r5.below hb
      replace r6 := r6.below hb
      replace r7 := r7.below hb
      replace bW := bW.thenB hb
      have z19 := hb.size
      clear hb
      have bm_0 := bm.c0
      have bm_1 := bm.c1
      have bn_0 := bn.c0
      have bn_1 := bn.c1
      have bz2_0 := bz2.c0
      have bz2_1 := bz2.c1
      have bz_0 := bz.c0
      have bz_1 := bz.c1
      have b5_0 := b5.c0
      have b5_1 := b5.c1
      have b6_0 := b6.c0
      have b6_1 := b6.c1
      have b7_0 := b7.c0
      have b7_1 := b7.c1
      go_wp2_with fail
      refine (HG7.out _ _ _ r7 rx).mono ?_
      rintro e w20 ⟨rfl, hb⟩
      clear bm_0 bm_1 bn_0 bn_1 bz2_0 bz2_1 bz_0 bz_1 b5_0 b5_1 b6_0 b6_1 b7_0 b7_1
      replace bm := bm.later hb
      replace bn := bn.later hb
      replace bz2 := bz2.later hb
      replace bz := bz.later hb
      replace b5 := b5.later hb
      replace b6 := b6.later hb
      replace b7 := b7.later hb
      replace rx := rx.below hb
      replace ry := ry.below hb
      replace rz := rz.below hb
      replace r5 := r5.below hb
      replace r6 := r6.below hb
      replace r7 := r7.below hb
      replace bW := bW.thenB hb
      have z20 := hb.size
      clear hb
      have bm_0 := bm.c0
      have bm_1 := bm.c1
      have bn_0 := bn.c0
      have bn_1 := bn.c1
      have bz2_0 := bz2.c0
      have bz2_1 := bz2.c1
      have bz_0 := bz.c0
      have bz_1 := bz.c1
      have b5_0 := b5.c0
      have b5_1 := b5.c1
      have b6_0 := b6.c0
      have b6_1 := b6.c1
      have b7_0 := b7.c0
      have b7_1 := b7.c1
      go_wp2_with fail
      refine (HG8.out _ rx).mono ?_
      rintro e w21 ⟨rfl, hb⟩
      clear bm_0 bm_1 bn_0 bn_1 bz2_0 bz2_1 bz_0 bz_1 b5_0 b5_1 b6_0 b6_1 b7_0 b7_1
      replace bm := bm.later hb
      replace bn := bn.later hb
      replace bz2 := bz2.later hb
      replace bz := bz.later hb
      replace b5 := b5.later hb
      replace b6 := b6.later hb
      replace b7 := b7.later hb
      replace rx := rx.below hb
      replace ry := ry.below hb
      replace rz := rz.below hb
      replace r5 := r5.below hb
      replace r6 := r6.below hb
      replace r7 := r7.below hb
      replace bW := bW.thenB hb
      have z21 := hb.size
      clear hb
      have bm_0 := bm.c0
      have bm_1 := bm.c1
      have bn_0 := bn.c0
      have bn_1 := bn.c1
      have bz2_0 := bz2.c0
      have bz2_1 := bz2.c1
      have bz_0 := bz.c0
      have bz_1 := bz.c1
      have b5_0 := b5.c0
      have b5_1 := b5.c1
      have b6_0 := b6.c0
      have b6_1 := b6.c1
      have b7_0 := b7.c0
      have b7_1 := b7.c1
      go_wp2
      go_ret
      exact ⟨rfl, bW⟩
    · skip
      have hJ := HL5.out (by trivial)
      subst hJ
      go_wp2_with fail
      refine (HG5.out _ _ _ r5 ry).mono ?_
      rintro e w18 ⟨rfl, hb⟩
      clear bm_0 bm_1 bn_0 bn_1 bz2_0 bz2_1 bz_0 bz_1 b5_0 b5_1 b6_0 b6_1 b7_0 b7_1
      replace bm := bm.later hb
      replace bn := bn.later hb
      replace bz2 := bz2.later hb
      replace bz := bz.later hb
      replace b5 := b5.later hb
      replace b6 := b6.later hb
      replace b7 := b7.later hb
      replace rx := rx.below hb
      replace ry := ry.below hb
      replace rz := rz.below hb
      replace r5 := r5.below hb
      replace r6 := r6.below hb
      replace r7 := r7.below hb
      replace bW := bW.thenB hb
      have z18 := hb.size
      clear hb
      have bm_0 := bm.c0
      have bm_1 := bm.c1
      have bn_0 := bn.c0
      have bn_1 := bn.c1
      have bz2_0 := bz2.c0
      have bz2_1 := bz2.c1
      have bz_0 := bz.c0
      have bz_1 := bz.c1
      have b5_0 := b5.c0
      have b5_1 := b5.c1
      have b6_0 := b6.c0
      have b6_1 := b6.c1
      have b7_0 := b7.c0
      have b7_1 := b7.c1
      go_wp2_with fail
      refine (HG6.out _ _ _ rx r6).mono ?_
      rintro e w19 ⟨rfl, hb⟩
      clear bm_0 bm_1 bn_0 bn_1 bz2_0 bz2_1 bz_0 bz_1 b5_0 b5_1 b6_0 b6_1 b7_0 b7_1
      replace bm := bm.later hb
      replace bn := bn.later hb
      replace bz2 := bz2.later hb
      replace bz := bz.later hb
      replace b5 := b5.later hb
      replace b6 := b6.later hb
      replace b7 := b7.later hb
      replace rx := rx.below hb
      replace ry := ry.below hb
      replace rz := rz.below hb
      replace r5 := r5.below hb
      replace r6 := r6.below hb
      replace r7 := r7.below hb
      replace bW := bW.thenB hb
      have z19 := hb.size
      clear hb
      have bm_0 := bm.c0
      have bm_1 := bm.c1
      have bn_0 := bn.c0
      have bn_1 := bn.c1
      have bz2_0 := bz2.c0
      have bz2_1 := bz2.c1
      have bz_0 := bz.c0
      have bz_1 := bz.c1
      have b5_0 := b5.c0
      have b5_1 := b5.c1
      have b6_0 := b6.c0
      have b6_1 := b6.c1
      have b7_0 := b7.c0
      have b7_1 := b7.c1
      go_wp2_with fail
      refine (HG7.out _ _ _ r7 rx).mono ?_
      rintro e w20 ⟨rfl, hb⟩
      clear bm_0 bm_1 bn_0 bn_1 bz2_0 bz2_1 bz_0 bz_1 b5_0 b5_1 b6_0 b6_1 b7_0 b7_1
      replace bm := bm.later hb
      replace bn := bn.later hb
      replace bz2 := bz2.later hb
      replace bz := bz.later hb
      replace b5 := b5.later hb
      replace b6 := b6.later hb
      replace b7 := b7.later hb
      replace rx := rx.below hb
      replace ry := ry.below hb
      replace rz := rz.below hb
      replace r5 := r5.below hb
      replace r6 := r6.below hb
      replace r7 := r7.below hb
      replace bW := bW.thenB hb
      have z20 := hb.size
      clear hb
      have bm_0 := bm.c0
      have bm_1 := bm.c1
      have bn_0 := bn.c0
      have bn_1 := bn.c1
      have bz2_0 := bz2.c0
      have bz2_1 := bz2.c1
      have bz_0 := bz.c0
      have bz_1 := bz.c1
      have b5_0 := b5.c0
      have b5_1 := b5.c1
      have b6_0 := b6.c0
      have b6_1 := b6.c1
      have b7_0 := b7.c0
      have b7_1 := b7.c1
      go_wp2_with fail
      refine (HG8.out _ rx).mono ?_
      rintro e w21 ⟨rfl, hb⟩
      clear bm_0 bm_1 bn_0 bn_1 bz2_0 bz2_1 bz_0 bz_1 b5_0 b5_1 b6_0 b6_1 b7_0 b7_1
      replace bm := bm.later hb
      replace bn := bn.later hb
      replace bz2 := bz2.later hb
      replace bz := bz.later hb
      replace b5 := b5.later hb
      replace b6 := b6.later hb
      replace b7 := b7.later hb
      replace rx := rx.below hb
      replace ry := ry.below hb
      replace rz := rz.below hb
      replace r5 := r5.below hb
      replace r6 := r6.below hb
      replace r7 := r7.below hb
      replace bW := bW.thenB hb
      have z21 := hb.size
      clear hb
      have bm_0 := bm.c0
      have bm_1 := bm.c1
      have bn_0 := bn.c0
      have bn_1 := bn.c1
      have bz2_0 := bz2.c0
      have bz2_1 := bz2.c1
      have bz_0 := bz.c0
      have bz_1 := bz.c1
      have b5_0 := b5.c0
      have b5_1 := b5.c1
      have b6_0 := b6.c0
      have b6_1 := b6.c1
      have b7_0 := b7.c0
      have b7_1 := b7.c1
      go_wp2
      go_ret
      exact ⟨rfl, bW⟩
    · skip
      obtain ⟨rfl, rfl⟩ := HMM.out (by trivial)
      go_wp2_with fail
      refine (HG9.out _ rx ry).mono ?_
      rintro e w18 ⟨rfl, hb⟩
      clear bm_0 bm_1 bn_0 bn_1 bz2_0 bz2_1 bz_0 bz_1 b5_0 b5_1 b6_0 b6_1 b7_0 b7_1
      replace bm := bm.later hb
      replace bn := bn.later hb
      replace bz2 := bz2.later hb
      replace bz := bz.later hb
      replace b5 := b5.later hb
      replace b6 := b6.later hb
      replace b7 := b7.later hb
      replace rx := rx.below hb
      replace ry := ry.below hb
      replace rz := rz.below hb
      replace r5 := r5.below hb
      replace r6 := r6.below hb
      replace r7 := r7.below hb
      replace bW := bW.thenB hb
      have z18 := hb.size
      clear hb
      have bm_0 := bm.c0
      have bm_1 := bm.c1
      have bn_0 := bn.c0
      have bn_1 := bn.c1
      have bz2_0 := bz2.c0
      have bz2_1 := bz2.c1
      have bz_0 := bz.c0
      have bz_1 := bz.c1
      have b5_0 := b5.c0
      have b5_1 := b5.c1
      have b6_0 := b6.c0
      have b6_1 := b6.c1
      have b7_0 := b7.c0
      have b7_1 := b7.c1
      go_wp2_with fail
      refine (HG10.out _ rx ry).mono ?_
      rintro e w19 ⟨rfl, hb⟩
      clear bm_0 bm_1 bn_0 bn_1 bz2_0 bz2_1 bz_0 bz_1 b5_0 b5_1 b6_0 b6_1 b7_0 b7_1
      replace bm := bm.later hb
      replace bn := bn.later hb
      replace bz2 := bz2.later hb
      replace bz := bz.later hb
      replace b5 := b5.later hb
      replace b6 := b6.later hb
      replace b7 := b7.later hb
      replace rx := rx.below hb
      replace ry := ry.below hb
      replace rz := rz.below hb
      replace r5 := r5.below hb
      replace r6 := r6.below hb
      replace r7 := r7.below hb
      replace bW := bW.thenB hb
      have z19 := hb.size
      clear hb
      have bm_0 := bm.c0
      have bm_1 := bm.c1
      have bn_0 := bn.c0
      have bn_1 := bn.c1
      have bz2_0 := bz2.c0
      have bz2_1 := bz2.c1
      have bz_0 := bz.c0
      have bz_1 := bz.c1
      have b5_0 := b5.c0
      have b5_1 := b5.c1
      have b6_0 := b6.c0
      have b6_1 := b6.c1
      have b7_0 := b7.c0
      have b7_1 := b7.c1
      go_wp2_with fail
      refine (HG6.out _ _ _ rx r6).mono ?_
      rintro e w20 ⟨rfl, hb⟩
      clear bm_0 bm_1 bn_0 bn_1 bz2_0 bz2_1 bz_0 bz_1 b5_0 b5_1 b6_0 b6_1 b7_0 b7_1
      replace bm := bm.later hb
      replace bn := bn.later hb
      replace bz2 := bz2.later hb
      replace bz := bz.later hb
      replace b5 := b5.later hb
      replace b6 := b6.later hb
      replace b7 := b7.later hb
      replace rx := rx.below hb
      replace ry := ry.below hb
      replace rz := rz.below hb
      replace r5 := r5.below hb
      replace r6 := r6.below hb
      replace r7 := r7.below hb
      replace bW := bW.thenB hb
      have z20 := hb.size
      clear hb
      have bm_0 := bm.c0
      have bm_1 := bm.c1
      have bn_0 := bn.c0
      have bn_1 := bn.c1
      have bz2_0 := bz2.c0
      have bz2_1 := bz2.c1
      have bz_0 := bz.c0
      have bz_1 := bz.c1
      have b5_0 := b5.c0
      have b5_1 := b5.c1
      have b6_0 := b6.c0
      have b6_1 := b6.c1
      have b7_0 := b7.c0
      have b7_1 := b7.c1
      go_wp2_with fail
      refine (HG7.out _ _ _ r7 rx).mono ?_
      rintro e w21 ⟨rfl, hb⟩
      clear bm_0 bm_1 bn_0 bn_1 bz2_0 bz2_1 bz_0 bz_1 b5_0 b5_1 b6_0 b6_1 b7_0 b7_1
      replace bm := bm.later hb
      replace bn := bn.later hb
      replace bz2 := bz2.later hb
      replace bz := bz.later hb
      replace b5 := b5.later hb
      replace b6 := b6.later hb
      replace b7 := b7.later hb
      replace rx := rx.below hb
      replace ry := ry.below hb
      replace rz := rz.below hb
      replace r5 := r5.below hb
      replace r6 := r6.below hb
      replace r7 := r7.below hb
      replace bW := bW.thenB hb
      have z21 := hb.size
      clear hb
      have bm_0 := bm.c0
      have bm_1 := bm.c1
      have bn_0 := bn.c0
      have bn_1 := bn.c1
      have bz2_0 := bz2.c0
      have bz2_1 := bz2.c1
      have bz_0 := bz.c0
      have bz_1 := bz.c1
      have b5_0 := b5.c0
      have b5_1 := b5.c1
      have b6_0 := b6.c0
      have b6_1 := b6.c1
      have b7_0 := b7.c0
      have b7_1 := b7.c1
      go_wp2_with fail
      refine (HG8.out _ rx).mono ?_
      rintro e w22 ⟨rfl, hb⟩
      clear bm_0 bm_1 bn_0 bn_1 bz2_0 bz2_1 bz_0 bz_1 b5_0 b5_1 b6_0 b6_1 b7_0 b7_1
      replace bm := bm.later hb
      replace bn := bn.later hb
      replace bz2 := bz2.later hb
      replace bz := bz.later hb
      replace b5 := b5.later hb
      replace b6 := b6.later hb
      replace b7 := b7.later hb
      replace rx := rx.below hb
      replace ry := ry.below hb
      replace rz := rz.below hb
      replace r5 := r5.below hb
      replace r6 := r6.below hb
      replace r7 := r7.below hb
      replace bW := bW.thenB hb
      have z22 := hb.size
      clear hb
      have bm_0 := bm.c0
      have bm_1 := bm.c1
      have bn_0 := bn.c0
      have bn_1 := bn.c1
      have bz2_0 := bz2.c0
      have bz2_1 := bz2.c1
      have bz_0 := bz.c0
      have bz_1 := bz.c1
      have b5_0 := b5.c0
      have b5_1 := b5.c1
      have b6_0 := b6.c0
      have b6_1 := b6.c1
      have b7_0 := b7.c0
      have b7_1 := b7.c1
      go_wp2
      go_ret
      exact ⟨rfl, bW⟩
    · skip
      obtain ⟨rfl, rfl⟩ := HMM.out (by trivial)
      go_wp2_with fail
      refine (HG9.out _ rx ry).mono ?_
      rintro e w18 ⟨rfl, hb⟩
      clear bm_0 bm_1 bn_0 bn_1 bz2_0 bz2_1 bz_0 bz_1 b5_0 b5_1 b6_0 b6_1 b7_0 b7_1
      replace bm := bm.later hb
      replace bn := bn.later hb
      replace bz2 := bz2.later hb
      replace bz := bz.later hb
      replace b5 := b5.later hb
      replace b6 := b6.later hb
      replace b7 := b7.later hb
      replace rx := rx.below hb
      replace ry := ry.below hb
      replace rz := rz.below hb
      replace r5 := r5.below hb
      replace r6 := r6.below hb
      replace r7 := r7.below hb
      replace bW := bW.thenB hb
      have z18 := hb.size
      clear hb
      have bm_0 := bm.c0
      have bm_1 := bm.c1
      have bn_0 := bn.c0
      have bn_1 := bn.c1
      have bz2_0 := bz2.c0
      have bz2_1 := bz2.c1
      have bz_0 := bz.c0
      have bz_1 := bz.c1
      have b5_0 := b5.c0
      have b5_1 := b5.c1
      have b6_0 := b6.c0
      have b6_1 := b6.c1
      have b7_0 := b7.c0
      have b7_1 := b7.c1
      go_wp2_with fail
      refine (HG10.out _ rx ry).mono ?_
      rintro e w19 ⟨rfl, hb⟩
      clear bm_0 bm_1 bn_0 bn_1 bz2_0 bz2_1 bz_0 bz_1 b5_0 b5_1 b6_0 b6_1 b7_0 b7_1
      replace bm := bm.later hb
      replace bn := bn.later hb
      replace bz2 := bz2.later hb
      replace bz := bz.later hb
      replace b5 := b5.later hb
      replace b6 := b6.later hb
      replace b7 := b7.later hb
      replace rx := rx.below hb
      replace ry := ry.below hb
      replace rz := rz.below hb
      replace r5 := r5.below hb
      replace r6 := r6.below hb
      replace r7 := r7.below hb
      replace bW := bW.thenB hb
      have z19 := hb.size
      clear hb
      have bm_0 := bm.c0
      have bm_1 := bm.c1
      have bn_0 := bn.c0
      have bn_1 := bn.c1
      have bz2_0 := bz2.c0
      have bz2_1 := bz2.c1
      have bz_0 := bz.c0
      have bz_1 := bz.c1
      have b5_0 := b5.c0
      have b5_1 := b5.c1
      have b6_0 := b6.c0
      have b6_1 := b6.c1
      have b7_0 := b7.c0
      have b7_1 := b7.c1
      go_wp2_with fail
      refine (HG6.out _ _ _ rx r6).mono ?_
      rintro e w20 ⟨rfl, hb⟩
      clear bm_0 bm_1 bn_0 bn_1 bz2_0 bz2_1 bz_0 bz_1 b5_0 b5_1 b6_0 b6_1 b7_0 b7_1
      replace bm := bm.later hb
      replace bn := bn.later hb
      replace bz2 := bz2.later hb
      replace bz := bz.later hb
      replace b5 := b5.later hb
      replace b6 := b6.later hb
      replace b7 := b7.later hb
      replace rx := rx.below hb
      replace ry := ry.below hb
      replace rz := rz.below hb
      replace r5 := r5.below hb
      replace r6 := r6.below hb
      replace r7 := r7.below hb
      replace bW := bW.thenB hb
      have z20 := hb.size
      clear hb
      have bm_0 := bm.c0
      have bm_1 := bm.c1
      have bn_0 := bn.c0
      have bn_1 := bn.c1
      have bz2_0 := bz2.c0
      have bz2_1 := bz2.c1
      have bz_0 := bz.c0
      have bz_1 := bz.c1
      have b5_0 := b5.c0
      have b5_1 := b5.c1
      have b6_0 := b6.c0
      have b6_1 := b6.c1
      have b7_0 := b7.c0
      have b7_1 := b7.c1
      go_wp2_with fail
      refine (HG7.out _ _ _ r7 rx).mono ?_
      rintro e w21 ⟨rfl, hb⟩
      clear bm_0 bm_1 bn_0 bn_1 bz2_0 bz2_1 bz_0 bz_1 b5_0 b5_1 b6_0 b6_1 b7_0 b7_1
      replace bm := bm.later hb
      replace bn := bn.later hb
      replace bz2 := bz2.later hb
      replace bz := bz.later hb
      replace b5 := b5.later hb
      replace b6 := b6.later hb
      replace b7 := b7.later hb
      replace rx := rx.below hb
      replace ry := ry.below hb
      replace rz := rz.below hb
      replace r5 := r5.below hb
      replace r6 := r6.below hb
      replace r7 := r7.below hb
      replace bW := bW.thenB hb
      have z21 := hb.size
      clear hb
      have bm_0 := bm.c0
      have bm_1 := bm.c1
      have bn_0 := bn.c0
      have bn_1 := bn.c1
      have bz2_0 := bz2.c0
      have bz2_1 := bz2.c1
      have bz_0 := bz.c0
      have bz_1 := bz.c1
      have b5_0 := b5.c0
      have b5_1 := b5.c1
      have b6_0 := b6.c0
      have b6_1 := b6.c1
      have b7_0 := b7.c0
      have b7_1 := b7.c1
      go_wp2_with fail
      refine (HG8.out _ rx).mono ?_
      rintro e w22 ⟨rfl, hb⟩
      clear bm_0 bm_1 bn_0 bn_1 bz2_0 bz2_1 bz_0 bz_1 b5_0 b5_1 b6_0 b6_1 b7_0 b7_1
      replace bm := bm.later hb
      replace bn := bn.later hb
      replace bz2 := bz2.later hb
      replace bz := bz.later hb
      replace b5 := b5.later hb
      replace b6 := b6.later hb
      replace b7 := b7.later hb
      replace rx := rx.below hb
      replace ry := ry.below hb
      replace rz := rz.below hb
      replace r5 := r5.below hb
      replace r6 := r6.below hb
      replace r7 := r7.below hb
      replace bW := bW.thenB hb
      have z22 := hb.size
      clear hb
      have bm_0 := bm.c0
      have bm_1 := bm.c1
      have bn_0 := bn.c0
      have bn_1 := bn.c1
      have bz2_0 := bz2.c0
      have bz2_1 := bz2.c1
      have bz_0 := bz.c0
      have bz_1 := bz.c1
      have b5_0 := b5.c0
      have b5_1 := b5.c1
      have b6_0 := b6.c0
      have b6_1 := b6.c1
      have b7_0 := b7.c0
      have b7_1 := b7.c1
      go_wp2_with fail
      refine (weEqual_same _ _ _ _ _ _ _ _ _ _ rfl (HEQ.out (by trivial) (by trivial)) rfl rfl _ rx ry (by omega)).mono ?_
      rintro e w23 ⟨rfl, hb⟩
      clear bm_0 bm_1 bn_0 bn_1 bz2_0 bz2_1 bz_0 bz_1 b5_0 b5_1 b6_0 b6_1 b7_0 b7_1
      replace bm := bm.later hb
      replace bn := bn.later hb
      replace bz2 := bz2.later hb
      replace bz := bz.later hb
      replace b5 := b5.later hb
      replace b6 := b6.later hb
      replace b7 := b7.later hb
      replace rx := rx.below hb
      replace ry := ry.below hb
      replace rz := rz.below hb
      replace r5 := r5.below hb
      replace r6 := r6.below hb
      replace r7 := r7.below hb
      replace bW := bW.thenB hb
      have z23 := hb.size
      clear hb
      have bm_0 := bm.c0
      have bm_1 := bm.c1
      have bn_0 := bn.c0
      have bn_1 := bn.c1
      have bz2_0 := bz2.c0
      have bz2_1 := bz2.c1
      have bz_0 := bz.c0
      have bz_1 := bz.c1
      have b5_0 := b5.c0
      have b5_1 := b5.c1
      have b6_0 := b6.c0
      have b6_1 := b6.c1
      have b7_0 := b7.c0
      have b7_1 := b7.c1
      go_wp2
      go_ret
      exact ⟨rfl, bW⟩
    · skip
      obtain ⟨rfl, rfl⟩ := HMM.out (by trivial)
      go_wp2_with fail
      refine (HG9.out _ rx ry).mono ?_
      rintro e w18 ⟨rfl, hb⟩
      clear bm_0 bm_1 bn_0 bn_1 bz2_0 bz2_1 bz_0 bz_1 b5_0 b5_1 b6_0 b6_1 b7_0 b7_1
      replace bm := bm.later hb
      replace bn := bn.later hb
      replace bz2 := bz2.later hb
      replace bz := bz.later hb
      replace b5 := b5.later hb
      replace b6 := b6.later hb
      replace b7 := b7.later hb
      replace rx := rx.below hb
      replace ry := ry.below hb
      replace rz := rz.below hb
      replace r5 := r5.below hb
      replace r6 := r6.below hb
      replace r7 := r7.below hb
      replace bW := bW.thenB hb
      have z18 := hb.size
      clear hb
      have bm_0 := bm.c0
      have bm_1 := bm.c1
      have bn_0 := bn.c0
      have bn_1 := bn.c1
      have bz2_0 := bz2.c0
      have bz2_1 := bz2.c1
      have bz_0 := bz.c0
      have bz_1 := bz.c1
      have b5_0 := b5.c0
      have b5_1 := b5.c1
      have b6_0 := b6.c0
      have b6_1 := b6.c1
      have b7_0 := b7.c0
      have b7_1 := b7.c1
      go_wp2_with fail
      refine (HG10.out _ rx ry).mono ?_
      rintro e w19 ⟨rfl, hb⟩
      clear bm_0 bm_1 bn_0 bn_1 bz2_0 bz2_1 bz_0 bz_1 b5_0 b5_1 b6_0 b6_1 b7_0 b7_1
      replace bm := bm.later hb
      replace bn := bn.later hb
      replace bz2 := bz2.later hb
      replace bz := bz.later hb
      replace b5 := b5.later hb
      replace b6 := b6.later hb
      replace b7 := b7.later hb
      replace rx := rx.below hb
      replace ry := ry.below hb
      replace rz := rz.below hb
      replace r5 := r5.below hb
      replace r6 := r6.below hb
      replace r7 := r7.below hb
      replace bW := bW.thenB hb
      have z19 := hb.size
      clear hb
      have bm_0 := bm.c0
      have bm_1 := bm.c1
      have bn_0 := bn.c0
      have bn_1 := bn.c1
      have bz2_0 := bz2.c0
      have bz2_1 := bz2.c1
      have bz_0 := bz.c0
      have bz_1 := bz.c1
      have b5_0 := b5.c0
      have b5_1 := b5.c1
      have b6_0 := b6.c0
      have b6_1 := b6.c1
      have b7_0 := b7.c0
      have b7_1 := b7.c1
      have hJ := HL5.out (by trivial)
      subst hJ
      go_wp2_with fail
      refine (HG5.out _ _ _ r5 ry).mono ?_
      rintro e w20 ⟨rfl, hb⟩
      clear bm_0 bm_1 bn_0 bn_1 bz2_0 bz2_1 bz_0 bz_1 b5_0 b5_1 b6_0 b6_1 b7_0 b7_1
      replace bm := bm.later hb
      replace bn := bn.later hb
      replace bz2 := bz2.later hb
      replace bz := bz.later hb
      replace b5 := b5.later hb
      replace b6 := b6.later hb
      replace b7 := b7.later hb
      replace rx := rx.below hb
      replace ry := ry.below hb
      replace rz := rz.below hb
      replace r5 := r5.below hb
      replace r6 := r6.below hb
      replace r7 := r7.below hb
      replace bW := bW.thenB hb
      have z20 := hb.size
      clear hb
      have bm_0 := bm.c0
      have bm_1 := bm.c1
      have bn_0 := bn.c0
      have bn_1 := bn.c1
      have bz2_0 := bz2.c0
      have bz2_1 := bz2.c1
      have bz_0 := bz.c0
      have bz_1 := bz.c1
      have b5_0 := b5.c0
      have b5_1 := b5.c1
      have b6_0 := b6.c0
      have b6_1 := b6.c1
      have b7_0 := b7.c0
      have b7_1 := b7.c1
      go_wp2_with fail
      refine (HG6.out _ _ _ rx r6).mono ?_
      rintro e w21 ⟨rfl, hb⟩
      clear bm_0 bm_1 bn_0 bn_1 bz2_0 bz2_1 bz_0 bz_1 b5_0 b5_1 b6_0 b6_1 b7_0 b7_1
      replace bm := bm.later hb
      replace bn := bn.later hb
      replace bz2 := bz2.later hb
      replace bz := bz.later hb
      replace b5 := b5.later hb
      replace b6 := b6.later hb
      replace b7 := b7.later hb
      replace rx := rx.below hb
      replace ry := ry.below hb
      replace rz := rz.below hb
      replace r5 := r5.below hb
      replace r6 := r6.below hb
      replace r7 := r7.below hb
      replace bW := bW.thenB hb
      have z21 := hb.size
      clear hb
      have bm_0 := bm.c0
      have bm_1 := bm.c1
      have bn_0 := bn.c0
      have bn_1 := bn.c1
      have bz2_0 := bz2.c0
      have bz2_1 := bz2.c1
      have bz_0 := bz.c0
      have bz_1 := bz.c1
      have b5_0 := b5.c0
      have b5_1 := b5.c1
      have b6_0 := b6.c0
      have b6_1 := b6.c1
      have b7_0 := b7.c0
      have b7_1 := b7.c1
      go_wp2_with fail
      refine (HG7.out _ _ _ r7 rx).mono ?_
      rintro e w22 ⟨rfl, hb⟩
      clear bm_0 bm_1 bn_0 bn_1 bz2_0 bz2_1 bz_0 bz_1 b5_0 b5_1 b6_0 b6_1 b7_0 b7_1
      replace bm := bm.later hb
      replace bn := bn.later hb
      replace bz2 := bz2.later hb
      replace bz := bz.later hb
      replace b5 := b5.later hb
      replace b6 := b6.later hb
      replace b7 := b7.later hb
      replace rx := rx.below hb
      replace ry := ry.below hb
      replace rz := rz.below hb
      replace r5 := r5.below hb
      replace r6 := r6.below hb
      replace r7 := r7.below hb
      replace bW := bW.thenB hb
      have z22 := hb.size
      clear hb
      have bm_0 := bm.c0
      have bm_1 := bm.c1
      have bn_0 := bn.c0
      have bn_1 := bn.c1
      have bz2_0 := bz2.c0
      have bz2_1 := bz2.c1
      have bz_0 := bz.c0
      have bz_1 := bz.c1
      have b5_0 := b5.c0
      have b5_1 := b5.c1
      have b6_0 := b6.c0
      have b6_1 := b6.c1
      have b7_0 := b7.c0
      have b7_1 := b7.c1
      go_wp2_with fail
      refine (HG8.out _ rx).mono ?_
      rintro e w23 ⟨rfl, hb⟩
      clear bm_0 bm_1 bn_0 bn_1 bz2_0 bz2_1 bz_0 bz_1 b5_0 b5_1 b6_0 b6_1 b7_0 b7_1
      replace bm := bm.later hb
      replace bn := bn.later hb
      replace bz2 := bz2.later hb
      replace bz := bz.later hb
      replace b5 := b5.later hb
      replace b6 := b6.later hb
      replace b7 := b7.later hb
      replace rx := rx.below hb
      replace ry := ry.below hb
      replace rz := rz.below hb
      replace r5 := r5.below hb
      replace r6 := r6.below hb
      replace r7 := r7.below hb
      replace bW := bW.thenB hb
      have z23 := hb.size
      clear hb
      have bm_0 := bm.c0
      have bm_1 := bm.c1
      have bn_0 := bn.c0
      have bn_1 := bn.c1
      have bz2_0 := bz2.c0
      have bz2_1 := bz2.c1
      have bz_0 := bz.c0
      have bz_1 := bz.c1
      have b5_0 := b5.c0
      have b5_1 := b5.c1
      have b6_0 := b6.c0
      have b6_1 := b6.c1
      have b7_0 := b7.c0
      have b7_1 := b7.c1
      go_wp2
      go_ret
      exact ⟨rfl, bW⟩
    · skip
      obtain ⟨rfl, rfl⟩ := HMM.out (by trivial)
      go_wp2_with fail
      refine (HG9.out _ rx ry).mono ?_
      rintro e w18 ⟨rfl, hb⟩
      clear bm_0 bm_1 bn_0 bn_1 bz2_0 bz2_1 bz_0 bz_1 b5_0 b5_1 b6_0 b6_1 b7_0 b7_1
      replace bm := bm.later hb
      replace bn := bn.later hb
      replace bz2 := bz2.later hb
      replace bz := bz.later hb
      replace b5 := b5.later hb
      replace b6 := b6.later hb
      replace b7 := b7.later hb
      replace rx := rx.below hb
      replace ry := ry.below hb
      replace rz := rz.below hb
      replace r5 := r5.below hb
      replace r6 := r6.below hb
      replace r7 := r7.below hb
      replace bW := bW.thenB hb
      have z18 := hb.size
      clear hb
      have bm_0 := bm.c0
      have bm_1 := bm.c1
      have bn_0 := bn.c0
      have bn_1 := bn.c1
      have bz2_0 := bz2.c0
      have bz2_1 := bz2.c1
      have bz_0 := bz.c0
      have bz_1 := bz.c1
      have b5_0 := b5.c0
      have b5_1 := b5.c1
      have b6_0 := b6.c0
      have b6_1 := b6.c1
      have b7_0 := b7.c0
      have b7_1 := b7.c1
      go_wp2_with fail
      refine (HG10.out _ rx ry).mono ?_
      rintro e w19 ⟨rfl, hb⟩
      clear bm_0 bm_1 bn_0 bn_1 bz2_0 bz2_1 bz_0 bz_1 b5_0 b5_1 b6_0 b6_1 b7_0 b7_1
      replace bm := bm.later hb
      replace bn := bn.later hb
      replace bz2 := bz2.later hb
      replace bz := bz.later hb
      replace b5 := b5.later hb
      replace b6 := b6.later hb
      replace b7 := b7.later hb
      replace rx := rx.below hb
      replace ry := ry.below hb
      replace rz := rz.below hb
      replace r5 := r5.below hb
      replace r6 := r6.below hb
      replace r7 := r7.below hb
      replace bW := bW.thenB hb
      have z19 := hb.size
      clear hb
      have bm_0 := bm.c0
      have bm_1 := bm.c1
      have bn_0 := bn.c0
      have bn_1 := bn.c1
      have bz2_0 := bz2.c0
      have bz2_1 := bz2.c1
      have bz_0 := bz.c0
      have bz_1 := bz.c1
      have b5_0 := b5.c0
      have b5_1 := b5.c1
      have b6_0 := b6.c0
      have b6_1 := b6.c1
      have b7_0 := b7.c0
      have b7_1 := b7.c1
      have hJ := HL5.out (by trivial)
      subst hJ
      go_wp2_with fail
      refine (HG5.out _ _ _ r5 ry).mono ?_
      rintro e w20 ⟨rfl, hb⟩
      clear bm_0 bm_1 bn_0 bn_1 bz2_0 bz2_1 bz_0 bz_1 b5_0 b5_1 b6_0 b6_1 b7_0 b7_1
      replace bm := bm.later hb
      replace bn := bn.later hb
      replace bz2 := bz2.later hb
      replace bz := bz.later hb
      replace b5 := b5.later hb
      replace b6 := b6.later hb
      replace b7 := b7.later hb
      replace rx := rx.below hb
      replace ry := ry.below hb
      replace rz := rz.below hb
      replace r5 := r5.below hb
      replace r6 := r6.below hb
      replace r7 := r7.below hb
      replace bW := bW.thenB hb
      have z20 := hb.size
      clear hb
      have bm_0 := bm.c0
      have bm_1 := bm.c1
      have bn_0 := bn.c0
      have bn_1 := bn.c1
      have bz2_0 := bz2.c0
      have bz2_1 := bz2.c1
      have bz_0 := bz.c0
      have bz_1 := bz.c1
      have b5_0 := b5.c0
      have b5_1 := b5.c1
      have b6_0 := b6.c0
      have b6_1 := b6.c1
      have b7_0 := b7.c0
      have b7_1 := b7.c1
      go_wp2_with fail
      refine (HG6.out _ _ _ rx r6).mono ?_
      rintro e w21 ⟨rfl, hb⟩
      clear bm_0 bm_1 bn_0 bn_1 bz2_0 bz2_1 bz_0 bz_1 b5_0 b5_1 b6_0 b6_1 b7_0 b7_1
      replace bm := bm.later hb
      replace bn := bn.later hb
      replace bz2 := bz2.later hb
      replace bz := bz.later hb
      replace b5 := b5.later hb
      replace b6 := b6.later hb
      replace b7 := b7.later hb
      replace rx := rx.below hb
      replace ry := ry.below hb
      replace rz := rz.below hb
      replace r5 := r5.below hb
      replace r6 := r6.below hb
      replace r7 := r7.below hb
      replace bW := bW.thenB hb
      have z21 := hb.size
      clear hb
      have bm_0 := bm.c0
      have bm_1 := bm.c1
      have bn_0 := bn.c0
      have bn_1 := bn.c1
      have bz2_0 := bz2.c0
      have bz2_1 := bz2.c1
      have bz_0 := bz.c0
      have bz_1 := bz.c1
      have b5_0 := b5.c0
      have b5_1 := b5.c1
      have b6_0 := b6.c0
      have b6_1 := b6.c1
      have b7_0 := b7.c0
      have b7_1 := b7.c1
      go_wp2_with fail
      refine (HG7.out _ _ _ r7 rx).mono ?_
      rintro e w22 ⟨rfl, hb⟩
      clear bm_0 bm_1 bn_0 bn_1 bz2_0 bz2_1 bz_0 bz_1 b5_0 b5_1 b6_0 b6_1 b7_0 b7_1
      replace bm := bm.later hb
      replace bn := bn.later hb
      replace bz2 := bz2.later hb
      replace bz := bz.later hb
      replace b5 := b5.later hb
      replace b6 := b6.later hb
      replace b7 := b7.later hb
      replace rx := rx.below hb
      replace ry := ry.below hb
      replace rz := rz.below hb
      replace r5 := r5.below hb
      replace r6 := r6.below hb
      replace r7 := r7.below hb
      replace bW := bW.thenB hb
      have z22 := hb.size
      clear hb
      have bm_0 := bm.c0
      have bm_1 := bm.c1
      have bn_0 := bn.c0
      have bn_1 := bn.c1
      have bz2_0 := bz2.c0
      have bz2_1 := bz2.c1
      have bz_0 := bz.c0
      have bz_1 := bz.c1
      have b5_0 := b5.c0
      have b5_1 := b5.c1
      have b6_0 := b6.c0
      have b6_1 := b6.c1
      have b7_0 := b7.c0
      have b7_1 := b7.c1
      go_wp2_with fail
      refine (HG8.out _ rx).mono ?_
      rintro e w23 ⟨rfl, hb⟩
      clear bm_0 bm_1 bn_0 bn_1 bz2_0 bz2_1 bz_0 bz_1 b5_0 b5_1 b6_0 b6_1 b7_0 b7_1
      replace bm := bm.later hb
      replace bn := bn.later hb
      replace bz2 := bz2.later hb
      replace bz := bz.later hb
      replace b5 := b5.later hb
      replace b6 := b6.later hb
      replace b7 := b7.later hb
      replace rx := rx.below hb
      replace ry := ry.below hb
      replace rz := rz.below hb
      replace r5 := r5.below hb
      replace r6 := r6.below hb
      replace r7 := r7.below hb
      replace bW := bW.thenB hb
      have z23 := hb.size
      clear hb
      have bm_0 := bm.c0
      have bm_1 := bm.c1
      have bn_0 := bn.c0
      have bn_1 := bn.c1
      have bz2_0 := bz2.c0
      have bz2_1 := bz2.c1
      have bz_0 := bz.c0
      have bz_1 := bz.c1
      have b5_0 := b5.c0
      have b5_1 := b5.c1
      have b6_0 := b6.c0
      have b6_1 := b6.c1
      have b7_0 := b7.c0
      have b7_1 := b7.c1
      go_wp2_with fail
      refine (weEqual_same _ _ _ _ _ _ _ _ _ _ rfl (HEQ.out (by trivial) (by trivial)) rfl rfl _ rx ry (by omega)).mono ?_
      rintro e w24 ⟨rfl, hb⟩
      clear bm_0 bm_1 bn_0 bn_1 bz2_0 bz2_1 bz_0 bz_1 b5_0 b5_1 b6_0 b6_1 b7_0 b7_1
      replace bm := bm.later hb
      replace bn := bn.later hb
      replace bz2 := bz2.later hb
      replace bz := bz.later hb
      replace b5 := b5.later hb
      replace b6 := b6.later hb
      replace b7 := b7.later hb
      replace rx := rx.below hb
      replace ry := ry.below hb
      replace rz := rz.below hb
      replace r5 := r5.below hb
      replace r6 := r6.below hb
      replace r7 := r7.below hb
      replace bW := bW.thenB hb
      have z24 := hb.size
      clear hb
      have bm_0 := bm.c0
      have bm_1 := bm.c1
      have bn_0 := bn.c0
      have bn_1 := bn.c1
      have bz2_0 := bz2.c0
      have bz2_1 := bz2.c1
      have bz_0 := bz.c0
      have bz_1 := bz.c1
      have b5_0 := b5.c0
      have b5_1 := b5.c1
      have b6_0 := b6.c0
      have b6_1 := b6.c1
      have b7_0 := b7.c0
      have b7_1 := b7.c1
      go_wp2
      go_ret
      exact ⟨rfl, bW⟩

end Go.Proofs.Ytjmfjgoehicgcaa
