/- The law on what is possible and necessary by levels: what it computes. -/
import Derived.Test.YtmbipmdflbddbaaD6
import Derived.Test.YtmbipmdflbddbaaZL2
import Derived.Test.YtmbipmdflbddbaaM5
import Derived.Test.YtmbipmdflbddbaaM6
import Derived.Test.YtmbipmdflbddbaaE1
import Derived.Test.YtmbipmdflbddbaaT5
set_option linter.unusedVariables false
set_option linter.unusedSimpArgs false
namespace Go.Proofs.Ytmbipmdflbddbaa
open Go.RowKit

theorem or_bits2 : ∀ a b : Fin 16, bits BinOp.or IntKind.i64 (a.val : Int) (b.val : Int) = ((a.val ||| b.val : Nat) : Int) := by decide +kernel
theorem or_nat2 (a b : Nat) (ha : a < 16) (hb : b < 16) : bits BinOp.or IntKind.i64 (a : Int) (b : Int) = ((a ||| b : Nat) : Int) := or_bits2 ⟨a, ha⟩ ⟨b, hb⟩
theorem pos_neg {xs : List Int} {a : Int} (h : posL xs a < 0) : necL xs a = -1 ∧ posL xs a = -1 := by
  cases e : lvsB xs a
  · simp [necL, posL, e]
  · rw [posL, if_pos e] at h
    have := (posTo_parts xs a.toNat xs.length).1
    omega

set_option maxHeartbeats 4000000 in
theorem FnPossibleLevel_walk (w : World) (a0 : Option Addr) (c0 : Nat) (x0 : List Int) (m0 : x0.length ≤ maxLen) (rd0 : ReadsK .u8 w a0 x0) (wf0 : ∀ n ∈ x0, (Lit.int .u8 n).wf = true) (cp0 : x0.length ≤ c0) :
    Calls Try.prog 8 #[.slice a0 x0.length c0] w fun e w' => e = .returned (.bool true) ∧ Below w.heap.size w w' := by
  by_cases hbig0 : 1048576 < x0.length
  · unfold maxLen at m0
    clear rd0 wf0 cp0
    go_enter Try.func8, Try.ntmps8
    go_wp2
    go_ret
    exact ⟨rfl, Below.refl _ _⟩
  have HD := Lib.hid (DrawPossibleLevel_any a0 c0 x0 w rd0 wf0 m0 cp0)
  unfold maxLen at m0
  clear rd0 wf0 cp0
  go_enter Try.func8, Try.ntmps8
  go_wp2_with fail
  refine HD.out.mono ?_
  rintro e w1 ⟨p, c, xs, a, rfl, hxl, rx, bW⟩
  clear HD
  obtain ⟨P, hP⟩ : ∃ P, P = posL xs a := ⟨_, rfl⟩
  obtain ⟨N, hN⟩ : ∃ N, N = necL xs a := ⟨_, rfl⟩
  have hno : P < 0 → N = -1 ∧ P = -1 := fun h => by rw [hP] at h ⊢; rw [hN]; exact pos_neg h
  have hyes : ¬ P < 0 → lvB xs = true ∧ ∃ n : Nat, a = (n : Int) ∧ n < 2 ^ xs.length := fun h => posL_parts (by rw [← hP]; exact h)
  have hC1 := fun (w : World) (hx : Reads w p xs) => iPossibleLevel_any p c xs a w hx (by omega)
  have hC2 := fun (w : World) (hx : Reads w p xs) => sPossibleLevel_any p c xs a w hx (by omega)
  have hC3 := fun (w : World) (hx : Reads w p xs) => iNecessaryLevel_any p c xs a w hx (by omega)
  have hC4 := fun (w : World) (hx : Reads w p xs) => sNecessaryLevel_any p c xs a w hx (by omega)
  rw [← hP] at hC1 hC2
  rw [← hN] at hC3 hC4
  have HP := Lib.hid hP
  have HN := Lib.hid hN
  have HC1 := Lib.hid hC1
  have HC2 := Lib.hid hC2
  have HC3 := Lib.hid hC3
  have HC4 := Lib.hid hC4
  have HNO := Lib.hid hno
  have HYES := Lib.hid hyes
  clear hC1 hC2 hC3 hC4 hyes hno hP hN
  go_wp2_with fail
  refine (HC1.out _ rx).mono ?_
  rintro e w' ⟨rfl, rfl⟩
  go_wp2_with fail
  refine (HC3.out _ rx).mono ?_
  rintro e w' ⟨rfl, rfl⟩
  go_wp2_with fail
  refine (HC2.out _ rx).mono ?_
  rintro e w' ⟨rfl, rfl⟩
  go_wp2_with fail
  refine (HC4.out _ rx).mono ?_
  rintro e w' ⟨rfl, rfl⟩
  by_cases hlt0 : P < 0
  · obtain ⟨e1, e2⟩ := HNO.out hlt0
    subst e1
    subst e2
    clear HYES HNO HP HN
    go_wp2_with fail
    refine (HC2.out _ rx).mono ?_
    rintro e w' ⟨rfl, rfl⟩
    go_wp2_with fail
    refine (HC4.out _ rx).mono ?_
    rintro e w' ⟨rfl, rfl⟩
    go_wp2
    go_ret
    exact ⟨rfl, bW⟩
  · obtain ⟨hlv, n, rfl, hn⟩ := HYES.out (by omega)
    obtain ⟨K, pl⟩ := pos_law hlv hn
    clear HC1 HC2 HC3 HC4 HNO HYES
    obtain ⟨l1, l4, hall, _, _⟩ := lvB_parts hlv
    have HALL := Lib.hid hall
    have hK16 : K.length ≤ 16 := by rw [pl.law.lv.len]; exact Nat.pow_le_pow_right (n := 2) (by omega) l4
    have hK1 : 1 ≤ K.length := by rw [pl.law.lv.len]; exact Nat.one_le_two_pow
    have hKn := Lib.hid pl.law.lv.len
    have hnK : n < K.length := by rw [pl.law.lv.len]; exact hn
    have hn16 : n < 16 := by omega
    clear hn
    have hM := fun (w : World) (hx : Reads w p xs) => iMassOfLevels_any p c xs w hx (by omega)
    simp only [pl.law.lv.gok, pl.law.lv.gval, pl.law.lv.gsize] at hM
    obtain ⟨T, hT⟩ : ∃ T, T = topL xs := ⟨_, rfl⟩
    obtain ⟨U, hU⟩ : ∃ U, U = sumL K := ⟨_, rfl⟩
    obtain ⟨Q, hQ⟩ : ∃ Q, Q = psR (xs.length : Int) K (n : Int) := ⟨_, rfl⟩
    obtain ⟨B, hB⟩ : ∃ B, B = blR (xs.length : Int) K (n : Int) := ⟨_, rfl⟩
    have hPL := fun (w : World) (hx : Reads w p xs) => iPossibleLevel_any p c xs ((K.length : Int) - 1) w hx (by omega)
    have htop := pl.law.top
    rw [← pl.law.lv.len, ← hT] at htop
    simp only [htop] at hPL
    have hPS := fun (w : World) (q : Option Addr) (d : Nat) (hx : Reads w q K) => iPossiblePart_any (xs.length : Int) q d K (n : Int) w hx (by omega)
    have hBL := fun (w : World) (q : Option Addr) (d : Nat) (hx : Reads w q K) => iBelievedPart_any (xs.length : Int) q d K (n : Int) w hx (by omega)
    have hW := fun (w : World) (q : Option Addr) (d : Nat) (hx : Reads w q K) => iWholeOf_any (xs.length : Int) q d K w hx (by omega)
    simp only [pl.law.wh, ← hU] at hW
    simp only [← hQ] at hPS
    simp only [← hB] at hBL
    obtain ⟨s1, ⟨s2, s3⟩⟩ := pl.ps
    obtain ⟨b1, ⟨b2, b3⟩⟩ := pl.bl
    obtain ⟨⟨d1, d2⟩, ⟨d3, d4⟩⟩ := pl.bd
    have hle := pl.le
    have hzt := pl.zt
    have hTB := pl.law.topB
    have hUB := pl.law.whB
    rw [← hQ] at s1 s2 s3
    rw [← hB] at b1 b2 b3
    rw [← hT] at s1 b1 hTB hzt
    rw [← hU] at s1 b1 hUB
    rw [← HP.out] at s1 d1 d2 hle hzt
    rw [← HN.out] at b1 d3 d4 hle hzt
    have hei := pl.either
    have hbo := pl.both
    rw [← pl.law.lv.len] at hei hbo
    simp only [← HP.out] at hei
    simp only [← HN.out] at hbo
    have m1 : wrap64 (Q * T) = Q * T := mul_wrap _ _ 1000000 1000000 s2 s3 (by omega) hTB.2 (by omega)
    have m2 : wrap64 (P * U) = P * U := mul_wrap _ _ 1000000 1000000 d1 d2 (by omega) hUB.2 (by omega)
    have m3 : wrap64 (B * T) = B * T := mul_wrap _ _ 16000000 1000000 b2 b3 (by omega) hTB.2 (by omega)
    have m4 : wrap64 (N * U) = N * U := mul_wrap _ _ 1000000 1000000 d3 d4 (by omega) hUB.2 (by omega)
    have t1 : (Q * T == P * U) = true := by rw [s1]; simp
    have t2 : (B * T == N * U) = true := by rw [b1]; simp
    have MM := Lib.hid (And.intro m1 (And.intro m2 (And.intro m3 (And.intro m4 (And.intro t1 (And.intro t2 (And.intro hle hzt)))))))
    have HEI := Lib.hid hei
    have HBO := Lib.hid hbo
    have HPL := Lib.hid hPL
    have HPS := Lib.hid hPS
    have HBL := Lib.hid hBL
    have HW := Lib.hid hW
    have HM := Lib.hid hM
    have HLV := Lib.hid hlv
    clear m1 m2 m3 m4 t1 t2 hei hbo hPL hPS hBL hW hM hlv s1 b1 hT hU hQ hB htop pl hall hle hzt HP HN
    obtain ⟨blk, off, rfl, _h1, _h2⟩ := rx 0 (by omega)
    clear _h1 _h2
    go_wp2_with fail
    refine (HM.out _ rx).mono ?_
    rintro e w2 ⟨v, rfl, o, hb⟩
    replace rx := rx.below hb
    replace bW := bW.thenB hb
    have z2 := hb.size
    obtain ⟨p1, k1, rfl, r1⟩ := o.shape
    clear o
    clear hb
    go_wp2_with fail
    have hb := belowAlloc w2 (.cells #[.int .i64 xs.length, .slice p1 K.length k1] 24)
    replace rx := rx.below hb
    replace r1 := r1.below hb
    replace bW := bW.thenB hb
    clear hb
    have b1 := VarInv.made w2 (xs.length) (.slice p1 K.length k1) 24
    have z3 := b1.lt
    generalize hu3 : w2.alloc (.cells #[.int .i64 xs.length, .slice p1 K.length k1] 24) = w3 at *
    clear hu3
    have b1_0 := b1.c0
    have b1_1 := b1.c1
    refine (HPL.out _ rx).mono ?_
    rintro e w' ⟨rfl, rfl⟩
    go_wp2
    go_loopw [10] (fun i wz => ∃ b : Nat, b ≤ K.length ∧ i = .int .i64 b ∧ Below w3.heap.size w3 wz) (fun i _ => K.length - (intOf i).toNat)
    case atStart => exact ⟨0, Nat.zero_le _, rfl, Below.refl _ _⟩
    case round =>
      obtain ⟨b, hb, rfl, hbb⟩ := hrel
      clear b1_0 b1_1
      replace b1 := b1.later hbb
      replace rx := rx.below hbb
      replace r1 := r1.below hbb
      replace bW := bW.thenB hbb
      have z4 := hbb.size
      have b1_0 := b1.c0
      have b1_1 := b1.c1
      by_cases hltb : b < K.length
      · skip
        have ei := HEI.out b hltb
        have bo := HBO.out b hltb
        have hb16 : b < 16 := by omega
        have hor := or_nat2 n b hn16 hb16
        have hand := and_nat n b hn16 hb16
        have hQ1 := fun (w : World) (hx : Reads w (some ⟨blk, off, none⟩) xs) => iPossibleLevel_any (some ⟨blk, off, none⟩) c xs ((n ||| b : Nat) : Int) w hx (by omega)
        have hQ2 := fun (w : World) (hx : Reads w (some ⟨blk, off, none⟩) xs) => iPossibleLevel_any (some ⟨blk, off, none⟩) c xs (b : Int) w hx (by omega)
        have hQ3 := fun (w : World) (hx : Reads w (some ⟨blk, off, none⟩) xs) => iNecessaryLevel_any (some ⟨blk, off, none⟩) c xs ((n &&& b : Nat) : Int) w hx (by omega)
        have hQ4 := fun (w : World) (hx : Reads w (some ⟨blk, off, none⟩) xs) => iNecessaryLevel_any (some ⟨blk, off, none⟩) c xs (b : Int) w hx (by omega)
        simp only [ei] at hQ1
        simp only [bo] at hQ3
        obtain ⟨X, hX⟩ : ∃ X, X = posL xs (b : Int) := ⟨_, rfl⟩
        obtain ⟨Y, hY⟩ : ∃ Y, Y = necL xs (b : Int) := ⟨_, rfl⟩
        simp only [← hX] at hQ1 hQ2
        simp only [← hY] at hQ3 hQ4
        clear ei bo hX hY
        by_cases cx : P < X
        all_goals by_cases cy : N < Y
        · have ex : max P X = X := by omega
          have ey : min N Y = N := by omega
          simp only [ex] at hQ1
          simp only [ey] at hQ3
          have HQ1 := Lib.hid hQ1
          have HQ2 := Lib.hid hQ2
          have HQ3 := Lib.hid hQ3
          have HQ4 := Lib.hid hQ4
          clear hQ1 hQ2 hQ3 hQ4 ex ey
          go_wp2_with fail
          refine (HQ1.out _ rx).mono ?_
          rintro e w' ⟨rfl, rfl⟩
          go_wp2_with fail
          refine (HQ2.out _ rx).mono ?_
          rintro e w' ⟨rfl, rfl⟩
          go_wp2_with fail
          refine (HQ3.out _ rx).mono ?_
          rintro e w' ⟨rfl, rfl⟩
          go_wp2_with fail
          refine (HQ4.out _ rx).mono ?_
          rintro e w' ⟨rfl, rfl⟩
          go_wp2
          exact ⟨⟨b + 1, by omega, by go_num, hbb⟩, by simp [intOf]; omega⟩
        · have ex : max P X = X := by omega
          have ey : min N Y = Y := by omega
          simp only [ex] at hQ1
          simp only [ey] at hQ3
          have HQ1 := Lib.hid hQ1
          have HQ2 := Lib.hid hQ2
          have HQ3 := Lib.hid hQ3
          have HQ4 := Lib.hid hQ4
          clear hQ1 hQ2 hQ3 hQ4 ex ey
          go_wp2_with fail
          refine (HQ1.out _ rx).mono ?_
          rintro e w' ⟨rfl, rfl⟩
          go_wp2_with fail
          refine (HQ2.out _ rx).mono ?_
          rintro e w' ⟨rfl, rfl⟩
          go_wp2_with fail
          refine (HQ3.out _ rx).mono ?_
          rintro e w' ⟨rfl, rfl⟩
          go_wp2_with fail
          refine (HQ4.out _ rx).mono ?_
          rintro e w' ⟨rfl, rfl⟩
          go_wp2
          exact ⟨⟨b + 1, by omega, by go_num, hbb⟩, by simp [intOf]; omega⟩
        · have ex : max P X = P := by omega
          have ey : min N Y = N := by omega
          simp only [ex] at hQ1
          simp only [ey] at hQ3
          have HQ1 := Lib.hid hQ1
          have HQ2 := Lib.hid hQ2
          have HQ3 := Lib.hid hQ3
          have HQ4 := Lib.hid hQ4
          clear hQ1 hQ2 hQ3 hQ4 ex ey
          go_wp2_with fail
          refine (HQ1.out _ rx).mono ?_
          rintro e w' ⟨rfl, rfl⟩
          go_wp2_with fail
          refine (HQ2.out _ rx).mono ?_
          rintro e w' ⟨rfl, rfl⟩
          go_wp2_with fail
          refine (HQ3.out _ rx).mono ?_
          rintro e w' ⟨rfl, rfl⟩
          go_wp2_with fail
          refine (HQ4.out _ rx).mono ?_
          rintro e w' ⟨rfl, rfl⟩
          go_wp2
          exact ⟨⟨b + 1, by omega, by go_num, hbb⟩, by simp [intOf]; omega⟩
        · have ex : max P X = P := by omega
          have ey : min N Y = Y := by omega
          simp only [ex] at hQ1
          simp only [ey] at hQ3
          have HQ1 := Lib.hid hQ1
          have HQ2 := Lib.hid hQ2
          have HQ3 := Lib.hid hQ3
          have HQ4 := Lib.hid hQ4
          clear hQ1 hQ2 hQ3 hQ4 ex ey
          go_wp2_with fail
          refine (HQ1.out _ rx).mono ?_
          rintro e w' ⟨rfl, rfl⟩
          go_wp2_with fail
          refine (HQ2.out _ rx).mono ?_
          rintro e w' ⟨rfl, rfl⟩
          go_wp2_with fail
          refine (HQ3.out _ rx).mono ?_
          rintro e w' ⟨rfl, rfl⟩
          go_wp2_with fail
          refine (HQ4.out _ rx).mono ?_
          rintro e w' ⟨rfl, rfl⟩
          go_wp2
          exact ⟨⟨b + 1, by omega, by go_num, hbb⟩, by simp [intOf]; omega⟩
      · skip
        obtain ⟨m1, m2, m3, m4, t1, t2, hle, hzt⟩ := MM.out
        rcases hzt with hz | hz
        · have hn1 : (N == 0) = true := by simp [hz]
          clear hz
          go_wp2
          have q0 := fun x : LaterW wr.heap.size wr => x.cell b1.lt b1_0
          have q1 := fun x : LaterW wr.heap.size wr => x.cell b1.lt b1_1
          refine wp_region_later (by kernel_rfl) (by kernel_rfl) ?_
          repeat (go_big_quiet_step ((first | (go_at_call 45; exact LaterW.call (HPS.out _ _ _ (LaterW.reads _ (by assumption)))) | (go_at_call 46; exact LaterW.call (HBL.out _ _ _ (LaterW.reads _ (by assumption)))) | (go_at_call 22; exact LaterW.call (HW.out _ _ _ (LaterW.reads _ (by assumption)))))))
          refine wpQuiet_nil ?_
          intro _ hw'
          obtain ⟨x, rfl⟩ := hw'
          have hb := x.below
          clear q0 q1
          generalize x.w = w5 at *
          clear b1_0 b1_1
          replace b1 := b1.later hb
          replace rx := rx.below hb
          replace r1 := r1.below hb
          replace bW := bW.thenB hb
          replace hbb := hbb.thenB hb
          have z5 := hb.size
          clear hb
          have b1_0 := b1.c0
          have b1_1 := b1.c1
          go_wp2
          go_ret
          exact ⟨rfl, bW⟩
        · have hp1 : (P == T) = true := by simp [hz]
          clear hz
          by_cases hn0 : N = 0
          · have hn1 : (N == 0) = true := by simp [hn0]
            clear hn0
            go_wp2
            have q0 := fun x : LaterW wr.heap.size wr => x.cell b1.lt b1_0
            have q1 := fun x : LaterW wr.heap.size wr => x.cell b1.lt b1_1
            refine wp_region_later (by kernel_rfl) (by kernel_rfl) ?_
            repeat (go_big_quiet_step ((first | (go_at_call 45; exact LaterW.call (HPS.out _ _ _ (LaterW.reads _ (by assumption)))) | (go_at_call 46; exact LaterW.call (HBL.out _ _ _ (LaterW.reads _ (by assumption)))) | (go_at_call 22; exact LaterW.call (HW.out _ _ _ (LaterW.reads _ (by assumption)))))))
            refine wpQuiet_nil ?_
            intro _ hw'
            obtain ⟨x, rfl⟩ := hw'
            have hb := x.below
            clear q0 q1
            generalize x.w = w5 at *
            clear b1_0 b1_1
            replace b1 := b1.later hb
            replace rx := rx.below hb
            replace r1 := r1.below hb
            replace bW := bW.thenB hb
            replace hbb := hbb.thenB hb
            have z5 := hb.size
            clear hb
            have b1_0 := b1.c0
            have b1_1 := b1.c1
            go_wp2
            go_ret
            exact ⟨rfl, bW⟩
          · have hn1 : (N == 0) = false := by simp [hn0]
            clear hn0
            go_wp2
            have q0 := fun x : LaterW wr.heap.size wr => x.cell b1.lt b1_0
            have q1 := fun x : LaterW wr.heap.size wr => x.cell b1.lt b1_1
            refine wp_region_later (by kernel_rfl) (by kernel_rfl) ?_
            repeat (go_big_quiet_step ((first | (go_at_call 45; exact LaterW.call (HPS.out _ _ _ (LaterW.reads _ (by assumption)))) | (go_at_call 46; exact LaterW.call (HBL.out _ _ _ (LaterW.reads _ (by assumption)))) | (go_at_call 22; exact LaterW.call (HW.out _ _ _ (LaterW.reads _ (by assumption)))))))
            refine wpQuiet_nil ?_
            intro _ hw'
            obtain ⟨x, rfl⟩ := hw'
            have hb := x.below
            clear q0 q1
            generalize x.w = w5 at *
            clear b1_0 b1_1
            replace b1 := b1.later hb
            replace rx := rx.below hb
            replace r1 := r1.below hb
            replace bW := bW.thenB hb
            replace hbb := hbb.thenB hb
            have z5 := hb.size
            clear hb
            have b1_0 := b1.c0
            have b1_1 := b1.c1
            go_wp2
            go_ret
            exact ⟨rfl, bW⟩

end Go.Proofs.Ytmbipmdflbddbaa
