/- The law on levels that are met: what it computes. -/
import Derived.Test.YtlkeakfopbdncaaD2
import Derived.Test.YtlkeakfopbdncaaP1m
import Derived.Test.YtlkeakfopbdncaaT5
set_option linter.unusedVariables false
set_option linter.unusedSimpArgs false
namespace Go.Proofs.Ytlkeakfopbdncaa
open Go.RowKit

theorem pow_wrap (n : Nat) (h1 : 1 ≤ n) (h : n ≤ 4) : wrap64 (2 ^ n) = ((2 ^ n : Nat) : Int) := by
  have := pow2_wrap (n : Int) (by omega) (by omega)
  rw [pow2_nat] at this
  simpa using this
theorem pow_bd (n : Nat) (h : n ≤ 4) : 2 ^ n ≤ 16 := Nat.pow_le_pow_right (n := 2) (by omega) h

set_option maxHeartbeats 4000000 in
theorem FnMeetLevels_walk (w : World) (a0 : Option Addr) (c0 : Nat) (x0 : List Int) (m0 : x0.length ≤ maxLen) (rd0 : ReadsK .u8 w a0 x0) (wf0 : ∀ n ∈ x0, (Lit.int .u8 n).wf = true) (cp0 : x0.length ≤ c0) :
    Calls Try.prog 3 #[.slice a0 x0.length c0] w fun e w' => e = .returned (.bool true) ∧ Below w.heap.size w w' := by
  by_cases hbig : 1048576 < x0.length
  · unfold maxLen at m0
    clear rd0 wf0 cp0
    go_enter Try.func3, Try.ntmps3
    go_wp2
    go_ret
    exact ⟨rfl, Below.refl _ _⟩
  have hD := DrawMeetLevels_any a0 c0 x0 w rd0 wf0 m0 cp0
  have HD := Lib.hid hD
  unfold maxLen at m0
  clear rd0 wf0 hD cp0
  go_enter Try.func3, Try.ntmps3
  go_wp2_with fail
  refine HD.out.mono ?_
  rintro e w1 ⟨p, q, c, d, xs, ys, rfl, hxl, hyl, rx1, ry1, bW⟩
  clear HD
  go_wp2_with fail
  refine (iMeetLevels_any p q c d xs ys w1 rx1 ry1 (by omega) (by omega)).mono ?_
  rintro e w2 ⟨v2, rfl, o2, b2⟩
  replace bW := bW.thenB b2
  have rx2 := rx1.below b2
  have ry2 := ry1.below b2
  obtain ⟨p2, k2, rfl, r2⟩ := o2.shape
  clear o2 b2
  go_wp2_with fail
  refine (sMeetLevels_any p q c d xs ys w2 rx2 ry2 (by omega) (by omega)).mono ?_
  rintro e w3 ⟨v3, rfl, o3, b3⟩
  replace bW := bW.thenB b3
  have rx3 := rx2.below b3
  have ry3 := ry2.below b3
  have r23 := r2.below b3
  obtain ⟨p3, k3, rfl, r3⟩ := o3.shape
  have hml := meetL_len xs ys
  clear o3 b3 rx1 ry1 rx2 ry2 r2
  go_wp2_with fail
  refine (weSame_same p2 p3 k2 k3 _ _ (meetL xs ys) (meetL xs ys) rfl rfl rfl w3 r23 r3 (by omega)).mono ?_
  rintro e w4 ⟨rfl, b4⟩
  replace bW := bW.thenB b4
  have rx4 := rx3.below b4
  have ry4 := ry3.below b4
  have r24 := r23.below b4
  have r34 := r3.below b4
  clear b4 rx3 ry3 r23 r3
  have hne : (meetOk xs ys != meetOk xs ys) = false := by simp
  cases hok : meetOk xs ys
  · go_wp2_with fail
    refine (weSame_same p2 p3 k2 k3 _ _ (meetL xs ys) (meetL xs ys) rfl rfl rfl w4 r24 r34 (by omega)).mono ?_
    rintro e w5 ⟨rfl, b5⟩
    replace bW := bW.thenB b5
    go_wp2
    go_ret
    exact ⟨rfl, bW⟩
  have m := meetOk_parts hok
  have hx := lvB_ok m.x
  have hx1 := hx.l1
  have hx4 := hx.l4
  obtain ⟨N, hN⟩ : ∃ N, N = 2 ^ xs.length := ⟨_, rfl⟩
  have hNb : N ≤ 16 := by rw [hN]; exact pow_bd _ hx.l4
  have hpw : wrap64 (2 ^ xs.length) = (N : Int) := by rw [hN]; exact pow_wrap _ hx.l1 hx.l4
  have hlt : ∀ a : Nat, a < N → (a : Int) < 2 ^ xs.length := fun a h => by rw [hN] at h; exact_mod_cast h
  have HL := Lib.hid hlt
  have HO := Lib.hid hok
  have HM := Lib.hid m
  clear m hx hlt hN hok
  go_wp2_with fail
  refine (iMeetLevels_any q p d c ys xs w4 ry4 rx4 (by omega) (by omega)).mono ?_
  rintro e w5 ⟨v5, rfl, o5, b5⟩
  replace bW := bW.thenB b5
  have rx5 := rx4.below b5
  have ry5 := ry4.below b5
  have r25 := r24.below b5
  rw [meet_turned HO.out] at o5
  obtain ⟨p5, k5, rfl, r5⟩ := o5.shape
  clear o5 b5 rx4 ry4 r24 r34
  go_wp2_with fail
  refine (iMeetLevels_any p p c c xs xs w5 rx5 rx5 (by omega) (by omega)).mono ?_
  rintro e w6 ⟨v6, rfl, o6, b6⟩
  replace bW := bW.thenB b6
  have rx6 := rx5.below b6
  have ry6 := ry5.below b6
  have r26 := r25.below b6
  have r56 := r5.below b6
  rw [meet_same HO.out] at o6
  obtain ⟨p6, k6, rfl, r6⟩ := o6.shape
  clear o6 b6 rx5 ry5 r25 r5
  go_wp2
  go_loop [13] (fun i => ∃ k : Nat, k ≤ N ∧ i = .int .i64 k) (fun i => N - (intOf i).toNat)
  case atStart => exact ⟨0, Nat.zero_le _, rfl⟩
  case round =>
    obtain ⟨k, hk, rfl⟩ := hrel
    by_cases hlt : k < N
    · have hp := meet_pos HO.out k (HL.out k hlt)
      go_wp2_with fail
      refine (iPossibleLevel_any _ _ _ (k : Int) _ r26 (by omega)).mono ?_
      rintro e w' ⟨rfl, rfl⟩
      go_wp2_with fail
      refine (iPossibleLevel_any _ _ _ (k : Int) _ rx6 (by omega)).mono ?_
      rintro e w' ⟨rfl, rfl⟩
      go_wp2_with fail
      refine (iPossibleLevel_any _ _ _ (k : Int) _ ry6 (by omega)).mono ?_
      rintro e w' ⟨rfl, rfl⟩
      go_wp2
      exact ⟨⟨k + 1, by omega, by go_num⟩, by simp [intOf]; omega⟩
    · clear HL
      go_wp2
      go_loop [14] (fun i => ∃ j : Nat, j ≤ 8 ∧ 1 ≤ j ∧ i = .int .i64 j) (fun i => 8 - (intOf i).toNat)
      case atStart => exact ⟨1, by omega, by omega, rfl⟩
      case round =>
        obtain ⟨j, hj, hj1, rfl⟩ := hrel
        by_cases hlt2 : j < 8
        · obtain ⟨X, Y, hX, hY, e1, e2, e3⟩ := meet_cut HO.out (j : Int)
          have hand := and_nat X Y hX hY
          have E1 := Lib.hid e1
          have E2 := Lib.hid e2
          have E3 := Lib.hid e3
          clear e1 e2 e3
          go_wp2_with fail
          refine (iCutLevels_any _ _ _ (j : Int) _ r26 (by omega)).mono ?_
          rintro e w' ⟨rfl, rfl⟩
          go_wp2_with fail
          refine (iCutLevels_any _ _ _ (j : Int) _ rx6 (by omega)).mono ?_
          rintro e w' ⟨rfl, rfl⟩
          go_wp2_with fail
          refine (iCutLevels_any _ _ _ (j : Int) _ ry6 (by omega)).mono ?_
          rintro e w' ⟨rfl, rfl⟩
          rw [E1.out, E2.out, E3.out]
          go_wp2
          exact ⟨⟨j + 1, by omega, by omega, by go_num⟩, by simp [intOf]; omega⟩
        · go_wp2_with fail
          refine (weSame_same _ _ _ _ _ _ (meetL xs ys) (meetL xs ys) rfl rfl rfl w6 r56 r26 (by omega)).mono ?_
          rintro e w7 ⟨rfl, b7⟩
          replace bW := bW.thenB b7
          have rx7 := rx6.below b7
          have r67 := r6.below b7
          clear b7 rx6 ry6 r56 r26 r6
          go_wp2_with fail
          refine (weSame_same _ _ _ _ _ _ xs xs rfl rfl rfl w7 r67 rx7 (by omega)).mono ?_
          rintro e w8 ⟨rfl, b8⟩
          replace bW := bW.thenB b8
          clear b8
          go_wp2
          go_ret
          exact ⟨rfl, bW⟩

end Go.Proofs.Ytlkeakfopbdncaa
