/- The law on how parts are moved: what it computes. -/
import Derived.Test.YtjmfjgoehicgcaaMgDD
import Derived.Test.YtjmfjgoehicgcaaZO
import Derived.Test.YtjmfjgoehicgcaaMgT5
import Derived.Test.YtjmfjgoehicgcaaMgJK
import Derived.Test.YtjmfjgoehicgcaaI8p
import Derived.Test.YtjmfjgoehicgcaaNB
set_option linter.unusedVariables false
set_option linter.unusedSimpArgs false
namespace Go.Proofs.Ytjmfjgoehicgcaa
open Go.RowKit

set_option maxHeartbeats 4000000 in
set_option maxRecDepth 100000 in
theorem FnMovedParts_walk (w : World) (a0 : Option Addr) (c0 : Nat) (x0 : List Int) (m0 : x0.length ≤ maxLen) (rd0 : ReadsK .u8 w a0 x0) (wf0 : ∀ n ∈ x0, (Lit.int .u8 n).wf = true) (cp0 : x0.length ≤ c0) :
    Calls Try.prog 10 #[.slice a0 x0.length c0] w fun e w' => e = .returned (.bool true) ∧ Below w.heap.size w w' := by
  by_cases hbig0 : 1048576 < x0.length
  · unfold maxLen at m0
    clear rd0 wf0 cp0
    go_enter Try.func10, Try.ntmps10
    go_wp2
    go_ret
    exact ⟨rfl, Below.refl _ _⟩
  have HD := Lib.hid (DrawMovedParts_any a0 c0 x0 w rd0 wf0 m0 cp0)
  unfold maxLen at m0
  clear rd0 wf0 cp0
  go_enter Try.func10, Try.ntmps10
  go_wp2_with fail
  refine HD.out.mono ?_
  rintro e w1 ⟨s, p, c, xs, t, q, d, ys, rfl, hxl, hyl, rx, ry, bW⟩
  clear HD
  obtain ⟨SP, hSP⟩ : ∃ N, N = spB s xs t ys := ⟨_, rfl⟩
  obtain ⟨M, hM⟩ : ∃ N, N = mvL s xs t ys := ⟨_, rfl⟩
  have hMl : M.length ≤ 1048576 := by rw [hM]; exact mvL_len _ _ _ _
  have hF1 := fun (w : World) (hx : Reads w p xs) (hy : Reads w q ys) => iMovedParts_any s p c xs t q d ys w hx hy (by omega) (by omega)
  have hF2 := fun (w : World) (hx : Reads w p xs) (hy : Reads w q ys) => sMovedParts_any s p c xs t q d ys w hx hy (by omega) (by omega)
  have hF3 := fun (w : World) (hx : Reads w p xs) (hy : Reads w q ys) => iIsSpecialized_any s p c xs t q d ys w hx hy (by omega) (by omega)
  rw [← hSP, ← hM] at hF1 hF2
  rw [← hSP] at hF3
  have HF1 := Lib.hid hF1
  have HF2 := Lib.hid hF2
  have HF3 := Lib.hid hF3
  have hlaw : SP = true → MvLaw s xs t ys M := fun h => by rw [hM]; exact mv_law (hSP.symm.trans h)
  have HLAW := Lib.hid hlaw
  have hq1 : (SP != SP) = false := by cases SP <;> rfl
  have hq2 : (SP == SP) = true := by cases SP <;> rfl
  clear hF1 hF2 hF3 hSP hM hlaw
  go_wp2_with fail
  have hb := belowAlloc w1 (.cells #[.int .i64 s, .slice p xs.length c] 27)
  replace rx := rx.below hb
  replace ry := ry.below hb
  replace bW := bW.thenB hb
  clear hb
  have bm := VarInv.made w1 (s) (.slice p xs.length c) 27
  have z2 := bm.lt
  have hsj : (w1.alloc (.cells #[.int .i64 s, .slice p xs.length c] 27)).heap.size = w1.heap.size + 1 := by simp
  generalize hu2 : w1.alloc (.cells #[.int .i64 s, .slice p xs.length c] 27) = w2 at *
  clear hu2
  have hb := belowAlloc w2 (.cells #[.int .i64 t, .slice q ys.length d] 27)
  replace bm := bm.later hb
  replace rx := rx.below hb
  replace ry := ry.below hb
  replace bW := bW.thenB hb
  clear hb
  have bn := VarInv.made w2 (t) (.slice q ys.length d) 27
  rw [hsj] at bn
  clear hsj
  have z3 := bn.lt
  generalize hu3 : w2.alloc (.cells #[.int .i64 t, .slice q ys.length d] 27) = w3 at *
  clear hu3
  have bm_0 := bm.c0
  have bm_1 := bm.c1
  have bn_0 := bn.c0
  have bn_1 := bn.c1
  refine (HF1.out _ rx ry).mono ?_
  rintro e w4 ⟨v, rfl, o, hb⟩
  clear bm_0 bm_1 bn_0 bn_1
  replace bm := bm.later hb
  replace bn := bn.later hb
  replace rx := rx.below hb
  replace ry := ry.below hb
  replace bW := bW.thenB hb
  have z4 := hb.size
  obtain ⟨p1, k1, rfl, r1⟩ := o.shape
  clear o
  clear hb
  have bm_0 := bm.c0
  have bm_1 := bm.c1
  have bn_0 := bn.c0
  have bn_1 := bn.c1
  go_wp2_with fail
  refine (HF2.out _ rx ry).mono ?_
  rintro e w5 ⟨v, rfl, o, hb⟩
  clear bm_0 bm_1 bn_0 bn_1
  replace bm := bm.later hb
  replace bn := bn.later hb
  replace rx := rx.below hb
  replace ry := ry.below hb
  replace r1 := r1.below hb
  replace bW := bW.thenB hb
  have z5 := hb.size
  obtain ⟨p2, k2, rfl, r2⟩ := o.shape
  clear o
  clear hb
  have bm_0 := bm.c0
  have bm_1 := bm.c1
  have bn_0 := bn.c0
  have bn_1 := bn.c1
  go_wp2_with fail
  refine (weSame_same _ _ _ _ _ _ _ _ rfl rfl rfl _ r1 r2 hMl).mono ?_
  rintro e w6 ⟨rfl, hb⟩
  clear bm_0 bm_1 bn_0 bn_1
  replace bm := bm.later hb
  replace bn := bn.later hb
  replace rx := rx.below hb
  replace ry := ry.below hb
  replace r1 := r1.below hb
  replace r2 := r2.below hb
  replace bW := bW.thenB hb
  have z6 := hb.size
  clear hb
  have bm_0 := bm.c0
  have bm_1 := bm.c1
  have bn_0 := bn.c0
  have bn_1 := bn.c1
  go_wp2_with fail
  refine (HF3.out _ rx ry).mono ?_
  rintro e w7 ⟨rfl, hb⟩
  clear bm_0 bm_1 bn_0 bn_1
  replace bm := bm.later hb
  replace bn := bn.later hb
  replace rx := rx.below hb
  replace ry := ry.below hb
  replace r1 := r1.below hb
  replace r2 := r2.below hb
  replace bW := bW.thenB hb
  have z7 := hb.size
  clear hb
  have bm_0 := bm.c0
  have bm_1 := bm.c1
  have bn_0 := bn.c0
  have bn_1 := bn.c1
  cases SP
  · skip
    go_wp2_with fail
    refine (weSame_same _ _ _ _ _ _ _ _ rfl rfl rfl _ r1 r2 hMl).mono ?_
    rintro e w8 ⟨rfl, hb⟩
    clear bm_0 bm_1 bn_0 bn_1
    replace bm := bm.later hb
    replace bn := bn.later hb
    replace rx := rx.below hb
    replace ry := ry.below hb
    replace r1 := r1.below hb
    replace r2 := r2.below hb
    replace bW := bW.thenB hb
    have z8 := hb.size
    clear hb
    have bm_0 := bm.c0
    have bm_1 := bm.c1
    have bn_0 := bn.c0
    have bn_1 := bn.c1
    go_wp2_with fail
    refine (HF3.out _ rx ry).mono ?_
    rintro e w9 ⟨rfl, hb⟩
    clear bm_0 bm_1 bn_0 bn_1
    replace bm := bm.later hb
    replace bn := bn.later hb
    replace rx := rx.below hb
    replace ry := ry.below hb
    replace r1 := r1.below hb
    replace r2 := r2.below hb
    replace bW := bW.thenB hb
    have z9 := hb.size
    clear hb
    have bm_0 := bm.c0
    have bm_1 := bm.c1
    have bn_0 := bn.c0
    have bn_1 := bn.c1
    go_wp2
    go_ret
    exact ⟨rfl, bW⟩
  · skip
    clear r2
    have hlaw := HLAW.out (by trivial)
    clear HLAW HF1 HF2 HF3 hq1 hq2
    have h1N := hlaw.n1
    have h16 := hlaw.n16
    obtain ⟨NN, hNN⟩ : ∃ NN : Nat, NN = xs.length * xs.length := ⟨_, rfl⟩
    have hln := hlaw.len
    rw [← hNN] at hln
    have hGB := hlaw.gb
    have hNB := hlaw.nb
    have hmk := hlaw.made
    rw [← hNN] at hGB hNB hmk
    have hG1 := fun (w : World) (r : Option Addr) (k : Nat) (hx : Reads w p xs) (hy : Reads w q ys) (hl : Reads w r M) => iIsMoved_any s p c xs t q d ys r k M w hx hy hl (by omega) (by omega) hMl
    rw [hlaw.im] at hG1
    have hNNb : NN ≤ 256 := by have := Nat.mul_le_mul h16 h16; omega
    obtain ⟨GT, hGT⟩ : ∃ G, G = gtT xs.length M NN := ⟨_, rfl⟩
    have hGTl : GT.length = xs.length := by rw [hGT, gtT_len]
    rw [← hGT] at hmk
    have hG2 := fun (w : World) (r : Option Addr) (hx : Reads w r GT) => iMakeMass_any s r xs.length GT w hx (by omega)
    obtain ⟨OK, hOK⟩ : ∃ N, N = gOk (mmG s GT) s GT := ⟨_, rfl⟩
    obtain ⟨SK, hSK⟩ : ∃ N, N = gS (mmG s GT) s GT := ⟨_, rfl⟩
    obtain ⟨K, hK⟩ : ∃ N, N = gL (mmG s GT) s GT := ⟨_, rfl⟩
    have hKl : K.length ≤ 16 := by rw [hK]; exact Nat.le_trans (gL_le _ _ _ _ hGTl) h16
    simp only [← hOK, ← hSK, ← hK, hGTl] at hG2
    rw [← hOK, ← hSK, ← hK] at hmk
    have HG1 := Lib.hid hG1
    have HG2 := Lib.hid hG2
    have HMK := Lib.hid hmk
    have HGT := Lib.hid hGT
    have HLN := Lib.hid hln
    have HGB := Lib.hid hGB
    have HNB := Lib.hid hNB
    have HNN := Lib.hid hNN
    clear hlaw hG1 hG2 hmk hGT hln hGB hNB hNN hOK hSK hK hGTl
    go_wp2_with (at_make; refine wpList_makeInts _ rfl _ _ rfl w7.heap.size _ _ _ _ xs.length rfl rfl rfl rfl (by omega) (Nat.le_refl _) ?_)
    intro w8 hown hb hlt2
    clear bm_0 bm_1 bn_0 bn_1
    have hown0 := hown
    rw [show zeros xs.length = gtT xs.length M 0 from rfl] at hown
    go_wp2_with fail
    go_loopw [11] (fun i wr => ∃ k : Nat, k ≤ NN ∧ i = .int .i64 k ∧ Own w7.heap.size wr (.slice (some ⟨w7.heap.size, 0, none⟩) xs.length xs.length) (gtT xs.length M k) ∧ Below w7.heap.size w7 wr ∧ w7.heap.size < wr.heap.size) (fun i _ => NN - (intOf i).toNat)
    case atStart => exact ⟨0, Nat.zero_le _, rfl, hown, hb, hlt2⟩
    case round =>
      clear hown0 hown hb hlt2
      obtain ⟨k, hk, rfl, ho, hb, hlt2⟩ := hrel
      replace bm := bm.later hb
      replace bn := bn.later hb
      replace rx := rx.below hb
      replace ry := ry.below hb
      replace r1 := r1.below hb
      replace bW := bW.thenB hb
      have z9 := hb.size
      have bm_0 := bm.c0
      have bm_1 := bm.c1
      have bn_0 := bn.c0
      have bn_1 := bn.c1
      by_cases hlt : k < NN
      · skip
        have hln := gtT_len xs.length M k
        have hs := Lib.hid (gtT_succ xs.length M k)
        have hkM : k < M.length := by rw [HLN.out]; exact hlt
        have hrN : k % xs.length < xs.length := Nat.mod_lt _ (by omega)
        obtain ⟨rr, hrr⟩ : ∃ rr : Nat, rr = k % xs.length := ⟨_, rfl⟩
        have HRR := Lib.hid hrr
        rw [← hrr] at hrN
        have hd2 : (k : Int) % (xs.length : Int) = (rr : Int) := by rw [hrr]; rfl
        have hd4 : (k : Int).tmod (xs.length : Int) = (rr : Int) := by rw [hrr]; rfl
        have hne0 : ¬ (xs.length : Int) = 0 := by omega
        obtain ⟨f1, f2⟩ := HGB.out k hk rr hrN
        obtain ⟨d1, d2⟩ := HNB.out k hlt
        obtain ⟨q1, q2⟩ := ho.cellAt hln rr hrN
        obtain ⟨b9, off, rfl, hbl, hc⟩ := r1 k hkM
        have HST := Lib.hid (ho.storedAt hln rr (nth (gtT xs.length M k) rr + nth M k))
        have hsum : IntKind.i64.wrap (nth (gtT xs.length M k) rr + nth M k) = nth (gtT xs.length M k) rr + nth M k := IntWalk.i64_in _ (by omega)
        have hF0 : (0 : Int) ≤ (rr : Int) := by omega
        have hFn : (rr : Int) < (xs.length : Int) := by omega
        clear hln ho hrr
        go_wp2_with fail
        go_region
        all_goals go_wp2
        all_goals exact ⟨⟨k + 1, by omega, by go_num, by rw [hs.out, ← HRR.out]; exact HST.out.drew, (hb.setCell (Nat.le_refl _) _).drew, by simpa using hlt2⟩, by simp [intOf]; omega⟩
      · skip
        have hkk : k = NN := by omega
        subst hkk
        have hge : M.length ≤ k := by rw [HLN.out]; exact Nat.le_refl _
        rw [← HGT.out] at ho
        have rg := ho.reads
        clear ho
        go_wp2_with fail
        refine (HG2.out _ _ rg).mono ?_
        rintro e w10 ⟨v, rfl, o, hb⟩
        clear bm_0 bm_1 bn_0 bn_1
        replace bm := bm.later hb
        replace bn := bn.later hb
        replace rx := rx.below hb
        replace ry := ry.below hb
        replace r1 := r1.below hb
        replace rg := rg.below hb
        replace bW := bW.thenB hb
        have z10 := hb.size
        obtain ⟨p5, k5, rfl, r5⟩ := o.shape
        clear o
        clear hb
        have bm_0 := bm.c0
        have bm_1 := bm.c1
        have bn_0 := bn.c0
        have bn_1 := bn.c1
        have lt_bm := bm.lt
        have lt_bn := bn.lt
        go_wp2_with fail
        clear lt_bm lt_bn
        have hb := belowAlloc w10 (.cells #[.int .i64 SK, .slice p5 K.length k5] 27)
        clear bm_0 bm_1 bn_0 bn_1
        replace bm := bm.later hb
        replace bn := bn.later hb
        replace rx := rx.below hb
        replace ry := ry.below hb
        replace r1 := r1.below hb
        replace rg := rg.below hb
        replace r5 := r5.below hb
        replace bW := bW.thenB hb
        clear hb
        have b5 := VarInv.made w10 (SK) (.slice p5 K.length k5) 27
        have z11 := b5.lt
        generalize hu11 : w10.alloc (.cells #[.int .i64 SK, .slice p5 K.length k5] 27) = w11 at *
        clear hu11
        have bm_0 := bm.c0
        have bm_1 := bm.c1
        have bn_0 := bn.c0
        have bn_1 := bn.c1
        have b5_0 := b5.c0
        have b5_1 := b5.c1
        refine (HG1.out _ _ _ rx ry r1).mono ?_
        rintro e w12 ⟨rfl, hb⟩
        clear bm_0 bm_1 bn_0 bn_1 b5_0 b5_1
        replace bm := bm.later hb
        replace bn := bn.later hb
        replace b5 := b5.later hb
        replace rx := rx.below hb
        replace ry := ry.below hb
        replace r1 := r1.below hb
        replace rg := rg.below hb
        replace r5 := r5.below hb
        replace bW := bW.thenB hb
        have z12 := hb.size
        clear hb
        have bm_0 := bm.c0
        have bm_1 := bm.c1
        have bn_0 := bn.c0
        have bn_1 := bn.c1
        have b5_0 := b5.c0
        have b5_1 := b5.c1
        cases OK
        · skip
          go_wp2
          go_ret
          exact ⟨rfl, bW⟩
        · skip
          have HE := Lib.hid (HMK.out (by trivial))
          go_wp2_with fail
          refine (weEqual_same _ _ _ _ _ _ _ _ _ _ HE.out.1 HE.out.2 rfl rfl _ r5 rx (by omega)).mono ?_
          rintro e w13 ⟨rfl, hb⟩
          clear bm_0 bm_1 bn_0 bn_1 b5_0 b5_1
          replace bm := bm.later hb
          replace bn := bn.later hb
          replace b5 := b5.later hb
          replace rx := rx.below hb
          replace ry := ry.below hb
          replace r1 := r1.below hb
          replace rg := rg.below hb
          replace r5 := r5.below hb
          replace bW := bW.thenB hb
          have z13 := hb.size
          clear hb
          have bm_0 := bm.c0
          have bm_1 := bm.c1
          have bn_0 := bn.c0
          have bn_1 := bn.c1
          have b5_0 := b5.c0
          have b5_1 := b5.c1
          go_wp2
          go_ret
          exact ⟨rfl, bW⟩

end Go.Proofs.Ytjmfjgoehicgcaa
