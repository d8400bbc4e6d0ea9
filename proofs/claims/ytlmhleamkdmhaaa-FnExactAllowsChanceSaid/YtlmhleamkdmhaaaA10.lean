/- Whether a chance lies between all bounds of a mass: both packages. -/
import Derived.Test.YtlmhleamkdmhaaaH1
import Derived.Test.YtlmhleamkdmhaaaV9
import Derived.Test.YtlmhleamkdmhaaaO8
set_option linter.unusedVariables false
set_option linter.unusedSimpArgs false
namespace Go.Proofs.Ytlmhleamkdmhaaa
open Go.RowKit

def alTo (xs ys : List Int) (k : Nat) : Bool := (List.range k).all fun a => decide (imS a xs * sumL ys ≤ imS a ys * sumL xs)

theorem alTo_succ (xs ys : List Int) (k : Nat) : alTo xs ys (k + 1) = (alTo xs ys k && decide (imS k xs * sumL ys ≤ imS k ys * sumL xs)) := by
  simp [alTo, List.range_succ]

theorem alTo_false (xs ys : List Int) (k n : Nat) (h : k < n) (hf : ¬ imS k xs * sumL ys ≤ imS k ys * sumL xs) : alTo xs ys n = false := by
  cases e : alTo xs ys n
  · rfl
  · unfold alTo at e
    rw [List.all_eq_true] at e
    have := e k (List.mem_range.mpr h)
    simp at this
    omega

def acB (s : Int) (xs : List Int) (t : Int) (ys : List Int) : Bool := bothB s xs t ys && (normB s xs && (chB t ys && alTo xs ys xs.length))

set_option maxHeartbeats 4000000 in
theorem iAllowsChance_any (s : Int) (p : Option Addr) (c : Nat) (xs : List Int) (t : Int) (q : Option Addr) (d : Nat) (ys : List Int) (w : World) (hx : Reads w p xs) (hy : Reads w q ys) (hxm : xs.length ≤ 1048576) (hym : ys.length ≤ 1048576) :
    Calls Try.prog 17 #[.agg #[.int .i64 s, .slice p xs.length c], .agg #[.int .i64 t, .slice q ys.length d]] w fun e w' => e = .returned (.bool (acB s xs t ys)) ∧ Below w.heap.size w w' := by
  obtain ⟨W, hW⟩ : ∃ W : World, W = ((w.alloc (.cells #[.int .i64 s, .slice p xs.length c] 26)).alloc (.cells #[.int .i64 t, .slice q ys.length d] 26)) := ⟨_, rfl⟩
  have bW : Below w.heap.size w W := by subst hW; exact ((belowAlloc _ _).thenB (belowAlloc _ _))
  have hsz : W.heap.size = w.heap.size + 2 := by subst hW; simp
  have b0 : VarInv W (w.heap.size) (s) (.slice p xs.length c) := by
    subst hW
    have h := VarInv.made w (s) (.slice p xs.length c) 26
    exact (h.later (belowAlloc _ _))
  have b1 : VarInv W (w.heap.size + 1) (t) (.slice q ys.length d) := by
    subst hW
    have h := VarInv.made (w.alloc (.cells #[.int .i64 s, .slice p xs.length c] 26)) (t) (.slice q ys.length d) 26
    rw [show (w.alloc (.cells #[.int .i64 s, .slice p xs.length c] 26)).heap.size = w.heap.size + 1 by simp] at h
    exact h
  have HWW := Lib.hid hW
  have HSZ := Lib.hid hsz
  clear hW hsz
  by_cases h1 : bothB s xs t ys = true
  rotate_left
  · have h1 : bothB s xs t ys = false := by simpa using h1
    have hr : Hid (acB s xs t ys = false) := Lib.hid (by simp [acB, h1])
    go_enter Try.func17, Try.ntmps17
    go_wp2_with fail
    rw [← HWW.out]
    refine (ofOneQuestion_any _ _ _ _ _ _ _ _ _ (hx.below bW) (hy.below bW) hxm hym).mono ?_
    rintro e w1 ⟨rfl, hb⟩
    replace b0 := b0.later hb
    have b0_0 := b0.c0
    have b0_1 := b0.c1
    replace b1 := b1.later hb
    have b1_0 := b1.c0
    have b1_1 := b1.c1
    replace bW := bW.thenB hb
    have z1 := hb.size
    clear hb
    go_wp2
    go_ret
    exact ⟨ret_bool hr.out.symm, bW⟩
  by_cases h2 : normB s xs = true
  rotate_left
  · have h2 : normB s xs = false := by simpa using h2
    have hr : Hid (acB s xs t ys = false) := Lib.hid (by simp [acB, h2])
    go_enter Try.func17, Try.ntmps17
    go_wp2_with fail
    rw [← HWW.out]
    refine (ofOneQuestion_any _ _ _ _ _ _ _ _ _ (hx.below bW) (hy.below bW) hxm hym).mono ?_
    rintro e w1 ⟨rfl, hb⟩
    replace b0 := b0.later hb
    have b0_0 := b0.c0
    have b0_1 := b0.c1
    replace b1 := b1.later hb
    have b1_0 := b1.c0
    have b1_1 := b1.c1
    replace bW := bW.thenB hb
    have z1 := hb.size
    clear hb
    go_wp2_with fail
    refine (isNormal_any _ _ _ _ _ (hx.below bW) hxm).mono ?_
    rintro e w2 ⟨rfl, hb⟩
    clear b0_0 b0_1 b1_0 b1_1
    replace b0 := b0.later hb
    have b0_0 := b0.c0
    have b0_1 := b0.c1
    replace b1 := b1.later hb
    have b1_0 := b1.c0
    have b1_1 := b1.c1
    replace bW := bW.thenB hb
    have z2 := hb.size
    clear hb
    go_wp2
    go_ret
    exact ⟨ret_bool hr.out.symm, bW⟩
  by_cases h3 : chB t ys = true
  rotate_left
  · have h3 : chB t ys = false := by simpa using h3
    have hr : Hid (acB s xs t ys = false) := Lib.hid (by simp [acB, h3])
    go_enter Try.func17, Try.ntmps17
    go_wp2_with fail
    rw [← HWW.out]
    refine (ofOneQuestion_any _ _ _ _ _ _ _ _ _ (hx.below bW) (hy.below bW) hxm hym).mono ?_
    rintro e w1 ⟨rfl, hb⟩
    replace b0 := b0.later hb
    have b0_0 := b0.c0
    have b0_1 := b0.c1
    replace b1 := b1.later hb
    have b1_0 := b1.c0
    have b1_1 := b1.c1
    replace bW := bW.thenB hb
    have z1 := hb.size
    clear hb
    go_wp2_with fail
    refine (isNormal_any _ _ _ _ _ (hx.below bW) hxm).mono ?_
    rintro e w2 ⟨rfl, hb⟩
    clear b0_0 b0_1 b1_0 b1_1
    replace b0 := b0.later hb
    have b0_0 := b0.c0
    have b0_1 := b0.c1
    replace b1 := b1.later hb
    have b1_0 := b1.c0
    have b1_1 := b1.c1
    replace bW := bW.thenB hb
    have z2 := hb.size
    clear hb
    go_wp2_with fail
    refine (isChance_any _ _ _ _ _ (hy.below bW) hym).mono ?_
    rintro e w3 ⟨rfl, hb⟩
    clear b0_0 b0_1 b1_0 b1_1
    replace b0 := b0.later hb
    have b0_0 := b0.c0
    have b0_1 := b0.c1
    replace b1 := b1.later hb
    have b1_0 := b1.c0
    have b1_1 := b1.c1
    replace bW := bW.thenB hb
    have z3 := hb.size
    clear hb
    go_wp2
    go_ret
    exact ⟨ret_bool hr.out.symm, bW⟩
  have hr : Hid (acB s xs t ys = alTo xs ys xs.length) := Lib.hid (by simp [acB, h1, h2, h3])
  obtain ⟨k1, k2, k3, k4⟩ := bothB_ok h1
  have K4 := Lib.hid k4
  have HM := Lib.hid k1
  have HN := Lib.hid k2
  have hl16 := k1.l16
  clear k1 k2 k3 k4
  go_enter Try.func17, Try.ntmps17
  go_wp2_with fail
  rw [← HWW.out]
  refine (ofOneQuestion_any _ _ _ _ _ _ _ _ _ (hx.below bW) (hy.below bW) hxm hym).mono ?_
  rintro e w1 ⟨rfl, hb⟩
  replace b0 := b0.later hb
  have b0_0 := b0.c0
  have b0_1 := b0.c1
  replace b1 := b1.later hb
  have b1_0 := b1.c0
  have b1_1 := b1.c1
  replace bW := bW.thenB hb
  have z1 := hb.size
  clear hb
  go_wp2_with fail
  refine (isNormal_any _ _ _ _ _ (hx.below bW) hxm).mono ?_
  rintro e w2 ⟨rfl, hb⟩
  clear b0_0 b0_1 b1_0 b1_1
  replace b0 := b0.later hb
  have b0_0 := b0.c0
  have b0_1 := b0.c1
  replace b1 := b1.later hb
  have b1_0 := b1.c0
  have b1_1 := b1.c1
  replace bW := bW.thenB hb
  have z2 := hb.size
  clear hb
  go_wp2_with fail
  refine (isChance_any _ _ _ _ _ (hy.below bW) hym).mono ?_
  rintro e w3 ⟨rfl, hb⟩
  clear b0_0 b0_1 b1_0 b1_1
  replace b0 := b0.later hb
  have b0_0 := b0.c0
  have b0_1 := b0.c1
  replace b1 := b1.later hb
  have b1_0 := b1.c0
  have b1_1 := b1.c1
  replace bW := bW.thenB hb
  have z3 := hb.size
  clear hb
  go_wp2_with fail
  have B0 := b0
  have B1 := b1
  have BW := bW
  clear b0_0 b0_1 b1_0 b1_1
  go_loopw [23] (fun i wr => ∃ k : Nat, k ≤ xs.length ∧ i = .int .i64 k ∧ alTo xs ys k = true ∧ Below w3.heap.size w3 wr) (fun i _ => xs.length - (intOf i).toNat)
  case atStart => exact ⟨0, Nat.zero_le _, rfl, rfl, Below.refl _ _⟩
  case round =>
    obtain ⟨k, hk, rfl, hal, hb⟩ := hrel
    have HP := Lib.hid hal
    clear hal
    have hs := hb.size
    have b0 := B0.later hb
    have b1 := B1.later hb
    have hxr := (hx.below BW).below hb
    have hyr := (hy.below BW).below hb
    have bW := BW.thenB hb
    by_cases hlt : k < xs.length
    · clear hx hy
      have l0 := b0.lt
      have l1 := b1.lt
      have d0 := fun x : LaterW wr.heap.size wr => x.cell l0 b0.c0
      have d1 := fun x : LaterW wr.heap.size wr => x.cell l0 b0.c1
      have d2 := fun x : LaterW wr.heap.size wr => x.cell l1 b1.c0
      have d3 := fun x : LaterW wr.heap.size wr => x.cell l1 b1.c1
      obtain ⟨e1, e2⟩ := imS_bd k HM.out
      obtain ⟨e3, e4⟩ := imS_bd k HN.out
      have ⟨f1, f2⟩ := And.intro HM.out.sum1 HM.out.sum2
      have ⟨f3, f4⟩ := And.intro HN.out.sum1 HN.out.sum2
      have hax := HM.out.all
      have hay := HN.out.all
      have hly : ys.length ≤ 16 := by rw [← K4.out]; exact hl16
      have hk16 : k < 16 := by omega
      have hw1 : wrap64 (imS k ys * sumL xs) = imS k ys * sumL xs := mul_wrap _ _ 16000000 1000000 e3 (by omega) (by omega) f2 (by omega)
      have hw2 : wrap64 (imS k xs * sumL ys) = imS k xs * sumL ys := mul_wrap _ _ 16000000 1000000 e1 (by omega) (by omega) f4 (by omega)
      have b0_0 := b0.c0
      have b0_1 := b0.c1
      clear e1 e2 e3 e4 f1 f2 f3 f4 b0 b1 B0 B1
      by_cases hle : imS k xs * sumL ys ≤ imS k ys * sumL xs
      · have hd : decide (imS k ys * sumL xs < imS k xs * sumL ys) = false := by simpa using hle
        have HT : Hid (alTo xs ys (k + 1) = true) := Lib.hid (by rw [alTo_succ, HP.out]; simp [hle])
        clear hle
        go_wp2
        refine wp_region_later (by kernel_rfl) (by kernel_rfl) ?_
        repeat (go_big_quiet_step ((first | (go_at_call 45; exact LaterW.call (iImpl_any _ _ _ _ _ _ (LaterW.reads _ (by assumption)) (by assumption) (by omega) (by assumption))) | (go_at_call 46; exact LaterW.call (wholeOf_any _ _ _ _ _ (LaterW.reads _ (by assumption)) (by omega) (by assumption))))))
        refine wpQuiet_nil ?_
        intro _ hw'
        obtain ⟨x, rfl⟩ := hw'
        have hbx := hb.trans (x.below.mono hs)
        have bX := bW.thenB x.below
        clear d0 d1 d2 d3
        go_wp2
        exact ⟨⟨k + 1, by omega, by go_num, HT.out, hbx⟩, by simp [intOf]; omega⟩
      · have hd : decide (imS k ys * sumL xs < imS k xs * sumL ys) = true := by simpa using hle
        have HF := Lib.hid (alTo_false xs ys k xs.length hlt hle)
        clear hle
        go_wp2
        refine wp_region_later (by kernel_rfl) (by kernel_rfl) ?_
        repeat (go_big_quiet_step ((first | (go_at_call 45; exact LaterW.call (iImpl_any _ _ _ _ _ _ (LaterW.reads _ (by assumption)) (by assumption) (by omega) (by assumption))) | (go_at_call 46; exact LaterW.call (wholeOf_any _ _ _ _ _ (LaterW.reads _ (by assumption)) (by omega) (by assumption))))))
        refine wpQuiet_nil ?_
        intro _ hw'
        obtain ⟨x, rfl⟩ := hw'
        have hbx := hb.trans (x.below.mono hs)
        have bX := bW.thenB x.below
        clear d0 d1 d2 d3
        go_wp2
        go_ret
        exact ⟨ret_bool (by rw [hr.out, HF.out]), bX⟩
    · have h2 : k = xs.length := by omega
      subst h2
      have b0_0 := b0.c0
      have b0_1 := b0.c1
      go_wp2
      go_ret
      exact ⟨ret_bool (by rw [hr.out, HP.out]), bW⟩

set_option maxHeartbeats 4000000 in
theorem sAllowsChance_any (s : Int) (p : Option Addr) (c : Nat) (xs : List Int) (t : Int) (q : Option Addr) (d : Nat) (ys : List Int) (w : World) (hx : Reads w p xs) (hy : Reads w q ys) (hxm : xs.length ≤ 1048576) (hym : ys.length ≤ 1048576) :
    Calls Try.prog 16 #[.agg #[.int .i64 s, .slice p xs.length c], .agg #[.int .i64 t, .slice q ys.length d]] w fun e w' => e = .returned (.bool (acB s xs t ys)) ∧ Below w.heap.size w w' := by
  obtain ⟨W, hW⟩ : ∃ W : World, W = ((w.alloc (.cells #[.int .i64 s, .slice p xs.length c] 26)).alloc (.cells #[.int .i64 t, .slice q ys.length d] 26)) := ⟨_, rfl⟩
  have bW : Below w.heap.size w W := by subst hW; exact ((belowAlloc _ _).thenB (belowAlloc _ _))
  have hsz : W.heap.size = w.heap.size + 2 := by subst hW; simp
  have b0 : VarInv W (w.heap.size) (s) (.slice p xs.length c) := by
    subst hW
    have h := VarInv.made w (s) (.slice p xs.length c) 26
    exact (h.later (belowAlloc _ _))
  have b1 : VarInv W (w.heap.size + 1) (t) (.slice q ys.length d) := by
    subst hW
    have h := VarInv.made (w.alloc (.cells #[.int .i64 s, .slice p xs.length c] 26)) (t) (.slice q ys.length d) 26
    rw [show (w.alloc (.cells #[.int .i64 s, .slice p xs.length c] 26)).heap.size = w.heap.size + 1 by simp] at h
    exact h
  have HWW := Lib.hid hW
  have HSZ := Lib.hid hsz
  clear hW hsz
  by_cases h1 : bothB s xs t ys = true
  rotate_left
  · have h1 : bothB s xs t ys = false := by simpa using h1
    have hr : Hid (acB s xs t ys = false) := Lib.hid (by simp [acB, h1])
    go_enter Try.func16, Try.ntmps16
    go_wp2_with fail
    rw [← HWW.out]
    refine (l3Both_any _ _ _ _ _ _ _ _ _ (hx.below bW) (hy.below bW) hxm hym).mono ?_
    rintro e w1 ⟨rfl, hb⟩
    replace b0 := b0.later hb
    have b0_0 := b0.c0
    have b0_1 := b0.c1
    replace b1 := b1.later hb
    have b1_0 := b1.c0
    have b1_1 := b1.c1
    replace bW := bW.thenB hb
    have z1 := hb.size
    clear hb
    go_wp2
    go_ret
    exact ⟨ret_bool hr.out.symm, bW⟩
  by_cases h2 : normB s xs = true
  rotate_left
  · have h2 : normB s xs = false := by simpa using h2
    have hr : Hid (acB s xs t ys = false) := Lib.hid (by simp [acB, h2])
    go_enter Try.func16, Try.ntmps16
    go_wp2_with fail
    rw [← HWW.out]
    refine (l3Both_any _ _ _ _ _ _ _ _ _ (hx.below bW) (hy.below bW) hxm hym).mono ?_
    rintro e w1 ⟨rfl, hb⟩
    replace b0 := b0.later hb
    have b0_0 := b0.c0
    have b0_1 := b0.c1
    replace b1 := b1.later hb
    have b1_0 := b1.c0
    have b1_1 := b1.c1
    replace bW := bW.thenB hb
    have z1 := hb.size
    clear hb
    go_wp2_with fail
    refine (IsNormal_any _ _ _ _ _ (hx.below bW) hxm).mono ?_
    rintro e w2 ⟨rfl, hb⟩
    clear b0_0 b0_1 b1_0 b1_1
    replace b0 := b0.later hb
    have b0_0 := b0.c0
    have b0_1 := b0.c1
    replace b1 := b1.later hb
    have b1_0 := b1.c0
    have b1_1 := b1.c1
    replace bW := bW.thenB hb
    have z2 := hb.size
    clear hb
    go_wp2
    go_ret
    exact ⟨ret_bool hr.out.symm, bW⟩
  by_cases h3 : chB t ys = true
  rotate_left
  · have h3 : chB t ys = false := by simpa using h3
    have hr : Hid (acB s xs t ys = false) := Lib.hid (by simp [acB, h3])
    go_enter Try.func16, Try.ntmps16
    go_wp2_with fail
    rw [← HWW.out]
    refine (l3Both_any _ _ _ _ _ _ _ _ _ (hx.below bW) (hy.below bW) hxm hym).mono ?_
    rintro e w1 ⟨rfl, hb⟩
    replace b0 := b0.later hb
    have b0_0 := b0.c0
    have b0_1 := b0.c1
    replace b1 := b1.later hb
    have b1_0 := b1.c0
    have b1_1 := b1.c1
    replace bW := bW.thenB hb
    have z1 := hb.size
    clear hb
    go_wp2_with fail
    refine (IsNormal_any _ _ _ _ _ (hx.below bW) hxm).mono ?_
    rintro e w2 ⟨rfl, hb⟩
    clear b0_0 b0_1 b1_0 b1_1
    replace b0 := b0.later hb
    have b0_0 := b0.c0
    have b0_1 := b0.c1
    replace b1 := b1.later hb
    have b1_0 := b1.c0
    have b1_1 := b1.c1
    replace bW := bW.thenB hb
    have z2 := hb.size
    clear hb
    go_wp2_with fail
    refine (IsChance_any _ _ _ _ _ (hy.below bW) hym).mono ?_
    rintro e w3 ⟨rfl, hb⟩
    clear b0_0 b0_1 b1_0 b1_1
    replace b0 := b0.later hb
    have b0_0 := b0.c0
    have b0_1 := b0.c1
    replace b1 := b1.later hb
    have b1_0 := b1.c0
    have b1_1 := b1.c1
    replace bW := bW.thenB hb
    have z3 := hb.size
    clear hb
    go_wp2
    go_ret
    exact ⟨ret_bool hr.out.symm, bW⟩
  have hr : Hid (acB s xs t ys = alTo xs ys xs.length) := Lib.hid (by simp [acB, h1, h2, h3])
  obtain ⟨k1, k2, k3, k4⟩ := bothB_ok h1
  have K4 := Lib.hid k4
  have HM := Lib.hid k1
  have HN := Lib.hid k2
  have hl16 := k1.l16
  clear k1 k2 k3 k4
  go_enter Try.func16, Try.ntmps16
  go_wp2_with fail
  rw [← HWW.out]
  refine (l3Both_any _ _ _ _ _ _ _ _ _ (hx.below bW) (hy.below bW) hxm hym).mono ?_
  rintro e w1 ⟨rfl, hb⟩
  replace b0 := b0.later hb
  have b0_0 := b0.c0
  have b0_1 := b0.c1
  replace b1 := b1.later hb
  have b1_0 := b1.c0
  have b1_1 := b1.c1
  replace bW := bW.thenB hb
  have z1 := hb.size
  clear hb
  go_wp2_with fail
  refine (IsNormal_any _ _ _ _ _ (hx.below bW) hxm).mono ?_
  rintro e w2 ⟨rfl, hb⟩
  clear b0_0 b0_1 b1_0 b1_1
  replace b0 := b0.later hb
  have b0_0 := b0.c0
  have b0_1 := b0.c1
  replace b1 := b1.later hb
  have b1_0 := b1.c0
  have b1_1 := b1.c1
  replace bW := bW.thenB hb
  have z2 := hb.size
  clear hb
  go_wp2_with fail
  refine (IsChance_any _ _ _ _ _ (hy.below bW) hym).mono ?_
  rintro e w3 ⟨rfl, hb⟩
  clear b0_0 b0_1 b1_0 b1_1
  replace b0 := b0.later hb
  have b0_0 := b0.c0
  have b0_1 := b0.c1
  replace b1 := b1.later hb
  have b1_0 := b1.c0
  have b1_1 := b1.c1
  replace bW := bW.thenB hb
  have z3 := hb.size
  clear hb
  go_wp2_with fail
  have B0 := b0
  have B1 := b1
  have BW := bW
  clear b0_0 b0_1 b1_0 b1_1
  go_loopw [5] (fun i wr => ∃ k : Nat, k ≤ xs.length ∧ i = .int .i64 k ∧ alTo xs ys k = true ∧ Below w3.heap.size w3 wr) (fun i _ => xs.length - (intOf i).toNat)
  case atStart => exact ⟨0, Nat.zero_le _, rfl, rfl, Below.refl _ _⟩
  case round =>
    obtain ⟨k, hk, rfl, hal, hb⟩ := hrel
    have HP := Lib.hid hal
    clear hal
    have hs := hb.size
    have b0 := B0.later hb
    have b1 := B1.later hb
    have hxr := (hx.below BW).below hb
    have hyr := (hy.below BW).below hb
    have bW := BW.thenB hb
    by_cases hlt : k < xs.length
    · clear hx hy
      have l0 := b0.lt
      have l1 := b1.lt
      have d0 := fun x : LaterW wr.heap.size wr => x.cell l0 b0.c0
      have d1 := fun x : LaterW wr.heap.size wr => x.cell l0 b0.c1
      have d2 := fun x : LaterW wr.heap.size wr => x.cell l1 b1.c0
      have d3 := fun x : LaterW wr.heap.size wr => x.cell l1 b1.c1
      obtain ⟨e1, e2⟩ := imS_bd k HM.out
      obtain ⟨e3, e4⟩ := imS_bd k HN.out
      have ⟨f1, f2⟩ := And.intro HM.out.sum1 HM.out.sum2
      have ⟨f3, f4⟩ := And.intro HN.out.sum1 HN.out.sum2
      have hax := HM.out.all
      have hay := HN.out.all
      have hly : ys.length ≤ 16 := by rw [← K4.out]; exact hl16
      have hk16 : k < 16 := by omega
      have hw1 : wrap64 (imS k ys * sumL xs) = imS k ys * sumL xs := mul_wrap _ _ 16000000 1000000 e3 (by omega) (by omega) f2 (by omega)
      have hw2 : wrap64 (imS k xs * sumL ys) = imS k xs * sumL ys := mul_wrap _ _ 16000000 1000000 e1 (by omega) (by omega) f4 (by omega)
      have b0_0 := b0.c0
      have b0_1 := b0.c1
      clear e1 e2 e3 e4 f1 f2 f3 f4 b0 b1 B0 B1
      by_cases hle : imS k xs * sumL ys ≤ imS k ys * sumL xs
      · have hd : decide (imS k ys * sumL xs < imS k xs * sumL ys) = false := by simpa using hle
        have HT : Hid (alTo xs ys (k + 1) = true) := Lib.hid (by rw [alTo_succ, HP.out]; simp [hle])
        clear hle
        go_wp2
        refine wp_region_later (by kernel_rfl) (by kernel_rfl) ?_
        repeat (go_big_quiet_step ((first | (go_at_call 40; exact LaterW.call (sImpl_any _ _ _ _ _ _ (LaterW.reads _ (by assumption)) (by assumption) (by omega) (by assumption))) | (go_at_call 41; exact LaterW.call (l3Whole_any _ _ _ _ _ (LaterW.reads _ (by assumption)) (by omega) (by assumption))))))
        refine wpQuiet_nil ?_
        intro _ hw'
        obtain ⟨x, rfl⟩ := hw'
        have hbx := hb.trans (x.below.mono hs)
        have bX := bW.thenB x.below
        clear d0 d1 d2 d3
        go_wp2
        exact ⟨⟨k + 1, by omega, by go_num, HT.out, hbx⟩, by simp [intOf]; omega⟩
      · have hd : decide (imS k ys * sumL xs < imS k xs * sumL ys) = true := by simpa using hle
        have HF := Lib.hid (alTo_false xs ys k xs.length hlt hle)
        clear hle
        go_wp2
        refine wp_region_later (by kernel_rfl) (by kernel_rfl) ?_
        repeat (go_big_quiet_step ((first | (go_at_call 40; exact LaterW.call (sImpl_any _ _ _ _ _ _ (LaterW.reads _ (by assumption)) (by assumption) (by omega) (by assumption))) | (go_at_call 41; exact LaterW.call (l3Whole_any _ _ _ _ _ (LaterW.reads _ (by assumption)) (by omega) (by assumption))))))
        refine wpQuiet_nil ?_
        intro _ hw'
        obtain ⟨x, rfl⟩ := hw'
        have hbx := hb.trans (x.below.mono hs)
        have bX := bW.thenB x.below
        clear d0 d1 d2 d3
        go_wp2
        go_ret
        exact ⟨ret_bool (by rw [hr.out, HF.out]), bX⟩
    · have h2 : k = xs.length := by omega
      subst h2
      have b0_0 := b0.c0
      have b0_1 := b0.c1
      go_wp2
      go_ret
      exact ⟨ret_bool (by rw [hr.out, HP.out]), bW⟩

end Go.Proofs.Ytlmhleamkdmhaaa
