/- What masses have in common: both packages. -/
import Derived.Test.YtjmfjgoehicgcaaO8
import Derived.Test.YtjmfjgoehicgcaaP5
import Derived.Test.YtjmfjgoehicgcaaC7
set_option linter.unusedVariables false
set_option linter.unusedSimpArgs false
namespace Go.Proofs.Ytjmfjgoehicgcaa
open Go.RowKit

/-- Each set is at most as common by the first mass as by the second, before set k. -/
def mcTo (xs ys : List Int) (k : Nat) : Bool := (List.range k).all fun a => decide (sumTo (subB a) xs xs.length * sumL ys ≤ sumTo (subB a) ys ys.length * sumL xs)

theorem mcTo_succ (xs ys : List Int) (k : Nat) : mcTo xs ys (k + 1) = (mcTo xs ys k && decide (sumTo (subB k) xs xs.length * sumL ys ≤ sumTo (subB k) ys ys.length * sumL xs)) := by
  simp [mcTo, List.range_succ]

theorem mcTo_false (xs ys : List Int) (k n : Nat) (h : k < n) (hf : ¬ sumTo (subB k) xs xs.length * sumL ys ≤ sumTo (subB k) ys ys.length * sumL xs) : mcTo xs ys n = false := by
  rw [Bool.eq_false_iff]
  intro hh
  have := List.all_eq_true.1 hh k (by simp; exact h)
  simp at this
  exact hf this

/-- How much has a set in common. -/
def coS (a : Nat) (xs : List Int) : Int := sumTo (subB a) xs xs.length

def cpS (s : Int) (xs : List Int) (a : Int) : Int := if msB s xs a = true then coS a.toNat xs else -1

theorem cpNo {s : Int} {xs : List Int} {a : Int} (h : msB s xs a = false) : cpS s xs a = -1 := by simp [cpS, h]

theorem cpYes {s : Int} {xs : List Int} {a : Nat} (h : msB s xs a = true) : cpS s xs a = sumTo (subB a) xs xs.length := by simp [cpS, h, coS]

set_option maxHeartbeats 1000000 in
theorem iCommonPart_any (s : Int) (p : Option Addr) (c : Nat) (xs : List Int) (a : Int) (w : World) (hx : Reads w p xs) (hxm : xs.length ≤ 1048576) :
    Calls Try.prog 77 #[.agg #[.int .i64 s, .slice p xs.length c], .int .i64 a] w fun e w' => e = .returned (.int .i64 (cpS s xs a)) ∧ Below w.heap.size w w' := by
  obtain ⟨W, hW⟩ : ∃ W : World, W = ((w.alloc (.cells #[.int .i64 s, .slice p xs.length c] 27)).alloc (.cells #[.int .i64 a] 3)) := ⟨_, rfl⟩
  have bW : Below w.heap.size w W := by subst hW; exact (belowAlloc _ _).thenB (belowAlloc _ _)
  have hsz : W.heap.size = w.heap.size + 2 := by subst hW; simp
  have b0 : VarInv W (w.heap.size) (s) (.slice p xs.length c) := by
    subst hW
    have h := VarInv.made w (s) (.slice p xs.length c) 27
    exact (h).later (belowAlloc _ _)
  have b1 : W.cell? ⟨w.heap.size + 1, 0, none⟩ = some (.int .i64 a) := by
    subst hW
    have h := newCell ((w.alloc (.cells #[.int .i64 s, .slice p xs.length c] 27))) (.int .i64 a) 3
    rw [show (w.alloc (.cells #[.int .i64 s, .slice p xs.length c] 27)).heap.size = w.heap.size + 1 by simp] at h
    exact h
  have HWW := Lib.hid hW
  have HSZ := Lib.hid hsz
  clear hW hsz
  cases h1 : massB s xs
  · have e2 : msB s xs a = false := by simp [msB, h1]
    have hr := Lib.hid (cpNo e2)
    go_enter Try.func77, Try.ntmps77
    go_wp2_with fail
    rw [← HWW.out]
    refine (isMass_any _ _ _ _ _ (hx.below bW) hxm).mono ?_
    rintro e w1 ⟨rfl, hb⟩
    replace b0 := b0.later hb
    have b0_0 := b0.c0
    have b0_1 := b0.c1
    replace b1 := cellKeep hb b1
    replace bW := bW.thenB hb
    have z1 := hb.size
    clear hb
    go_wp2
    go_ret
    exact ⟨ret_int hr.out.symm, bW⟩
  · have hk := massB_ok h1
    have k1 := hk.s1
    have k4 := hk.s4
    cases h2 : setB s a
    · have e2 : msB s xs a = false := by simp [msB, h2]
      have hr := Lib.hid (cpNo e2)
      go_enter Try.func77, Try.ntmps77
      go_wp2_with fail
      rw [← HWW.out]
      refine (isMass_any _ _ _ _ _ (hx.below bW) hxm).mono ?_
      rintro e w1 ⟨rfl, hb⟩
      replace b0 := b0.later hb
      have b0_0 := b0.c0
      have b0_1 := b0.c1
      replace b1 := cellKeep hb b1
      replace bW := bW.thenB hb
      have z1 := hb.size
      clear hb
      go_wp2_with fail
      refine (isSetOf_any _ _ _ k1 k4).mono ?_
      rintro e w' ⟨rfl, rfl⟩
      go_wp2
      go_ret
      exact ⟨ret_int hr.out.symm, bW⟩
    · obtain ⟨na, rfl, ha16, _⟩ := setB_nat k1 k4 h2
      have e2 : msB s xs na = true := by simp [msB, h1, h2]
      have hr := Lib.hid (cpYes e2)
      have hx16 := hk.l16
      have hal := hk.all
      have hmf : ∀ (fn : Fn) (first cap : Array Value) (w : World), (Instr.makeFunc fn first cap).run Try.prog w = .ok (.func fn first cap) w := fun _ _ _ _ => rfl
      go_enter Try.func77, Try.ntmps77
      go_wp2_with fail
      rw [← HWW.out]
      refine (isMass_any _ _ _ _ _ (hx.below bW) hxm).mono ?_
      rintro e w1 ⟨rfl, hb⟩
      replace b0 := b0.later hb
      have b0_0 := b0.c0
      have b0_1 := b0.c1
      replace b1 := cellKeep hb b1
      replace bW := bW.thenB hb
      have z1 := hb.size
      clear hb
      go_wp2_with fail
      refine (isSetOf_any _ _ _ k1 k4).mono ?_
      rintro e w' ⟨rfl, rfl⟩
      go_wp2_with fail
      refine (sumOver_any 114 (fun _ _ => by kernel_rfl) ⟨w.heap.size + 1, 0, none⟩ (subB na) _ _ _ _ _ (hx.below bW) hx16 hal (Lib.hid fun b wr hb hbw => (commonIn_any na b _ wr ha16 (by omega) ((hbw.cell (p := ⟨w.heap.size + 1, 0, none⟩) (by show w.heap.size + 1 < _; have := HSZ.out; omega)).trans b1)))).mono ?_
      rintro e w2 ⟨rfl, hb⟩
      clear b0_0 b0_1
      replace b0 := b0.later hb
      have b0_0 := b0.c0
      have b0_1 := b0.c1
      replace b1 := cellKeep hb b1
      replace bW := bW.thenB hb
      have z2 := hb.size
      clear hb
      go_wp2
      go_ret
      exact ⟨ret_int hr.out.symm, bW⟩

theorem iCommonPart_n (s : Int) (p : Option Addr) (c : Nat) (xs : List Int) (a : Nat) (w : World) (hx : Reads w p xs) (hxm : xs.length ≤ 1048576) (h : Hid (msB s xs a = true)) :
    Calls Try.prog 77 #[.agg #[.int .i64 s, .slice p xs.length c], .int .i64 a] w fun e w' => e = .returned (.int .i64 (sumTo (subB a) xs xs.length)) ∧ Below w.heap.size w w' := by
  rw [← cpYes h.out]
  exact iCommonPart_any s p c xs a w hx hxm

theorem bothSet {s t : Int} {xs ys : List Int} (h : bothB s xs t ys = true) (k : Nat) (hk : k < xs.length) : Hid (msB s xs k = true) ∧ Hid (msB t ys k = true) := by
  obtain ⟨k1, k2, k3, k4⟩ := bothB_ok h
  simp only [bothB, Bool.and_eq_true, decide_eq_true_eq] at h
  have e1 := k1.len
  have e2 := k2.len
  refine ⟨Lib.hid ?_, Lib.hid ?_⟩
  · simp [msB, h.1, setB]; omega
  · simp [msB, h.2.1, setB]; omega

/-- Each set is at most as common by the first mass as by the second. -/
def mcB (s : Int) (xs : List Int) (t : Int) (ys : List Int) : Bool := bothB s xs t ys && mcTo xs ys xs.length

set_option maxHeartbeats 2000000 in
theorem sMoreCommon_any (s : Int) (p : Option Addr) (c : Nat) (xs : List Int) (t : Int) (q : Option Addr) (d : Nat) (ys : List Int) (w : World) (hx : Reads w p xs) (hy : Reads w q ys) (hxm : xs.length ≤ 1048576) (hym : ys.length ≤ 1048576) :
    Calls Try.prog 29 #[.agg #[.int .i64 s, .slice p xs.length c], .agg #[.int .i64 t, .slice q ys.length d]] w fun e w' => e = .returned (.bool (mcB s xs t ys)) ∧ Below w.heap.size w w' := by
  obtain ⟨W, hW, hbW, hsz, c0, c1, c2, c3⟩ := box2 w s t p q xs.length ys.length c d
  have hxW := hx.below hbW
  have hyW := hy.below hbW
  have HW := Lib.hid hW
  have hl0 : w.heap.size < W.heap.size := by omega
  have hl1 : w.heap.size + 1 < W.heap.size := by omega
  clear hW hx hy hsz
  cases h1 : bothB s xs t ys
  · have hr : Hid (mcB s xs t ys = false) := Lib.hid (by simp [mcB, h1])
    go_enter Try.func29, Try.ntmps29
    go_wp2
    rw [← HW.out]
    refine wp_loop_rounds 1 ?_
    rw [rounds_succ]
    go_wp2_with fail
    refine (l3Both_any _ _ _ _ _ _ _ _ _ hxW hyW hxm hym).mono ?_
    rintro e w1 ⟨rfl, hb1⟩
    have hc1 := bcell hb1
    have hxw := hxW.below hb1
    have hyw := hyW.below hb1
    go_wp2_with fail
    refine (l3Both_any _ _ _ _ _ _ _ _ _ hxw hyw hxm hym).mono ?_
    rintro e w2 ⟨rfl, hb2⟩
    go_wp2
    go_ret
    exact ⟨ret_bool (by rw [hr.out]), hbW.trans ((hb1.trans (hb2.mono hb1.size)).mono hbW.size)⟩
  · have hr : Hid (mcB s xs t ys = mcTo xs ys xs.length) := Lib.hid (by simp [mcB, h1])
    obtain ⟨k1, k2, k3, k4⟩ := bothB_ok h1
    have K4 := Lib.hid k4
    clear k3 k4
    have HM := Lib.hid k1
    have HN := Lib.hid k2
    have hl16 := k1.l16
    clear k1 k2
    go_enter Try.func29, Try.ntmps29
    go_wp2
    rw [← HW.out]
    go_loopw [5] (fun i wr => ∃ k : Nat, k ≤ xs.length ∧ i = .int .i64 k ∧ mcTo xs ys k = true ∧ Below W.heap.size W wr) (fun i _ => xs.length - (intOf i).toNat)
    case atStart => exact ⟨0, Nat.zero_le _, rfl, rfl, Below.refl _ _⟩
    case round =>
      obtain ⟨k, hk, rfl, hmp, hb⟩ := hrel
      have hs := hb.size
      have HP := Lib.hid hmp
      have hcb := bcell hb
      have hxr := hxW.below hb
      have hyr := hyW.below hb
      clear hmp
      go_wp2_with fail
      refine (l3Both_any _ _ _ _ _ _ _ _ _ hxr hyr hxm hym).mono ?_
      rintro e w1 ⟨rfl, hb1⟩
      have hbw := hb.trans (hb1.mono hs)
      have hxr := hxW.below hbw
      have hyr := hyW.below hbw
      have hs1 := hbw.size
      have hcw := bcell hbw
      clear hcb
      by_cases hlt : k < xs.length
      · have hsz2 : w.heap.size + 1 < w1.heap.size := by omega
        have hsz3 : w.heap.size < w1.heap.size := by omega
        have d0 := fun x : LaterW w1.heap.size w1 => x.cell hsz3 ((hcw.1 _ 0 hl0).trans c0)
        have d1 := fun x : LaterW w1.heap.size w1 => x.cell hsz3 ((hcw.1 _ 1 hl0).trans c1)
        have d2 := fun x : LaterW w1.heap.size w1 => x.cell hsz2 ((hcw.1 _ 0 hl1).trans c2)
        have d3 := fun x : LaterW w1.heap.size w1 => x.cell hsz2 ((hcw.1 _ 1 hl1).trans c3)
        have ⟨e1, e2⟩ := sumTo_bd (subB k) xs HM.out.all (by omega) xs.length (Nat.le_refl _)
        have ⟨e3, e4⟩ := sumTo_bd (subB k) ys HN.out.all (by omega) ys.length (Nat.le_refl _)
        have ⟨f1, f2⟩ := And.intro HM.out.sum1 HM.out.sum2
        have ⟨f3, f4⟩ := And.intro HN.out.sum1 HN.out.sum2
        have hax := HM.out.all
        have hay := HN.out.all
        have hly : ys.length ≤ 16 := by rw [← K4.out]; exact hl16
        have hw1 : wrap64 (sumTo (subB k) ys ys.length * sumL xs) = sumTo (subB k) ys ys.length * sumL xs := mul_wrap _ _ 16000000 1000000 e3 (by omega) (by omega) f2 (by omega)
        have hw2 : wrap64 (sumTo (subB k) xs xs.length * sumL ys) = sumTo (subB k) xs xs.length * sumL ys := mul_wrap _ _ 16000000 1000000 e1 (by omega) (by omega) f4 (by omega)
        clear e1 e2 e3 e4 f1 f2 f3 f4 hb hb1 hxW hyW
        by_cases hle : sumTo (subB k) xs xs.length * sumL ys ≤ sumTo (subB k) ys ys.length * sumL xs
        · have hd : decide (sumTo (subB k) ys ys.length * sumL xs < sumTo (subB k) xs xs.length * sumL ys) = false := by simpa using hle
          have HN2 : Hid (mcTo xs ys (k + 1) = true) := Lib.hid (by rw [mcTo_succ, HP.out]; simp [hle])
          clear hle
          go_wp2
          refine wp_region_later (by kernel_rfl) (by kernel_rfl) ?_
          repeat (go_big_quiet_step ((first | (go_at_call 81; exact LaterW.call (l4Common_any _ _ _ _ _ _ (LaterW.reads _ (by assumption)) (by assumption) (by omega) (by assumption))) | (go_at_call 80; exact LaterW.call (l3Whole_any _ _ _ _ _ (LaterW.reads _ (by assumption)) (by omega) (by assumption))))))
          refine wpQuiet_nil ?_
          intro _ hw'
          obtain ⟨x, rfl⟩ := hw'
          have hbx := hbw.trans (x.below.mono hs1)
          clear d0 d1 d2 d3
          go_wp2
          exact ⟨⟨k + 1, by omega, by go_num, HN2.out, hbx⟩, by simp [intOf]; omega⟩
        · have hd : decide (sumTo (subB k) ys ys.length * sumL xs < sumTo (subB k) xs xs.length * sumL ys) = true := by simpa using hle
          have HF := Lib.hid (mcTo_false xs ys k xs.length hlt hle)
          clear hle
          go_wp2
          refine wp_region_later (by kernel_rfl) (by kernel_rfl) ?_
          repeat (go_big_quiet_step ((first | (go_at_call 81; exact LaterW.call (l4Common_any _ _ _ _ _ _ (LaterW.reads _ (by assumption)) (by assumption) (by omega) (by assumption))) | (go_at_call 80; exact LaterW.call (l3Whole_any _ _ _ _ _ (LaterW.reads _ (by assumption)) (by omega) (by assumption))))))
          refine wpQuiet_nil ?_
          intro _ hw'
          obtain ⟨x, rfl⟩ := hw'
          have hbx := hbw.trans (x.below.mono hs1)
          clear d0 d1 d2 d3
          go_wp2
          go_ret
          exact ⟨ret_bool (by rw [hr.out, HF.out]), hbW.trans (hbx.mono hbW.size)⟩
      · have h2 : k = xs.length := by omega
        subst h2
        go_wp2_with fail
        refine (l3Both_any _ _ _ _ _ _ _ _ _ hxr hyr hxm hym).mono ?_
        rintro e w2 ⟨rfl, hb2⟩
        go_wp2
        go_ret
        exact ⟨ret_bool (by rw [hr.out, HP.out]), hbW.trans ((hbw.trans (hb2.mono hs1)).mono hbW.size)⟩


set_option maxHeartbeats 2000000 in
theorem iMoreCommon_any (s : Int) (p : Option Addr) (c : Nat) (xs : List Int) (t : Int) (q : Option Addr) (d : Nat) (ys : List Int) (w : World) (hx : Reads w p xs) (hy : Reads w q ys) (hxm : xs.length ≤ 1048576) (hym : ys.length ≤ 1048576) :
    Calls Try.prog 27 #[.agg #[.int .i64 s, .slice p xs.length c], .agg #[.int .i64 t, .slice q ys.length d]] w fun e w' => e = .returned (.bool (mcB s xs t ys)) ∧ Below w.heap.size w w' := by
  obtain ⟨W, hW, hbW, hsz, c0, c1, c2, c3⟩ := box2 w s t p q xs.length ys.length c d
  have hxW := hx.below hbW
  have hyW := hy.below hbW
  have HW := Lib.hid hW
  have hl0 : w.heap.size < W.heap.size := by omega
  have hl1 : w.heap.size + 1 < W.heap.size := by omega
  clear hW hx hy hsz
  cases h1 : bothB s xs t ys
  · have hr : Hid (mcB s xs t ys = false) := Lib.hid (by simp [mcB, h1])
    go_enter Try.func27, Try.ntmps27
    go_wp2_with fail
    rw [← HW.out]
    refine (ofOneQuestion_any _ _ _ _ _ _ _ _ _ hxW hyW hxm hym).mono ?_
    rintro e w1 ⟨rfl, hb1⟩
    go_wp2
    go_ret
    exact ⟨ret_bool hr.out.symm, hbW.trans (hb1.mono hbW.size)⟩
  · have hr : Hid (mcB s xs t ys = mcTo xs ys xs.length) := Lib.hid (by simp [mcB, h1])
    obtain ⟨k1, k2, k3, k4⟩ := bothB_ok h1
    have K4 := Lib.hid k4
    clear k3 k4
    go_enter Try.func27, Try.ntmps27
    go_wp2_with fail
    rw [← HW.out]
    refine (ofOneQuestion_any _ _ _ _ _ _ _ _ _ hxW hyW hxm hym).mono ?_
    rintro e w1 ⟨rfl, hb1⟩
    have hc1 := bcell hb1
    have hxw := hxW.below hb1
    have hyw := hyW.below hb1
    have HM := Lib.hid k1
    have HN := Lib.hid k2
    have hl16 := k1.l16
    have HB := Lib.hid h1
    have hs1 := hb1.size
    have hbW1 := hbW.trans (hb1.mono hbW.size)
    have HS := Lib.hid hl1
    have c0w := (hc1.1 _ 0 hl0).trans c0
    have c1w := (hc1.1 _ 1 hl0).trans c1
    have c2w := (hc1.1 _ 0 hl1).trans c2
    have c3w := (hc1.1 _ 1 hl1).trans c3
    have HC := Lib.hid (And.intro c0w (And.intro c1w (And.intro c2w c3w)))
    clear k1 k2
    go_wp2
    clear h1
    go_loopw [13] (fun i wr => ∃ k : Nat, k ≤ xs.length ∧ i = .int .i64 k ∧ mcTo xs ys k = true ∧ Below w1.heap.size w1 wr) (fun i _ => xs.length - (intOf i).toNat)
    case atStart => exact ⟨0, Nat.zero_le _, rfl, rfl, Below.refl _ _⟩
    case round =>
      obtain ⟨k, hk, rfl, hmp, hb⟩ := hrel
      by_cases hlt : k < xs.length
      · have hs := hb.size
        have hsz2 : w.heap.size + 1 < wr.heap.size := by have := HS.out; have := hs1; omega
        have hsz3 : w.heap.size < wr.heap.size := by omega
        have hcb := bcell hb
        have d0 := fun x : LaterW wr.heap.size wr => x.cell hsz3 ((hcb.1 _ 0 (by have := HS.out; have := hs1; omega)).trans HC.out.1)
        have d1 := fun x : LaterW wr.heap.size wr => x.cell hsz3 ((hcb.1 _ 1 (by have := HS.out; have := hs1; omega)).trans HC.out.2.1)
        have d2 := fun x : LaterW wr.heap.size wr => x.cell hsz2 ((hcb.1 _ 0 (by have := HS.out; have := hs1; omega)).trans HC.out.2.2.1)
        have d3 := fun x : LaterW wr.heap.size wr => x.cell hsz2 ((hcb.1 _ 1 (by have := HS.out; have := hs1; omega)).trans HC.out.2.2.2)
        have hxr := hxw.below hb
        have hyr := hyw.below hb
        clear hcb hxw hyw
        obtain ⟨hsx, hsy⟩ := bothSet HB.out k hlt
        have ⟨e1, e2⟩ := sumTo_bd (subB k) xs HM.out.all (by omega) xs.length (Nat.le_refl _)
        have ⟨e3, e4⟩ := sumTo_bd (subB k) ys HN.out.all (by omega) ys.length (Nat.le_refl _)
        have ⟨f1, f2⟩ := And.intro HM.out.sum1 HM.out.sum2
        have ⟨f3, f4⟩ := And.intro HN.out.sum1 HN.out.sum2
        have hax := HM.out.all
        have hay := HN.out.all
        have hly : ys.length ≤ 16 := by rw [← K4.out]; exact hl16
        have hw1 : wrap64 (sumTo (subB k) ys ys.length * sumL xs) = sumTo (subB k) ys ys.length * sumL xs := mul_wrap _ _ 16000000 1000000 e3 (by omega) (by omega) f2 (by omega)
        have hw2 : wrap64 (sumTo (subB k) xs xs.length * sumL ys) = sumTo (subB k) xs xs.length * sumL ys := mul_wrap _ _ 16000000 1000000 e1 (by omega) (by omega) f4 (by omega)
        have HP := Lib.hid hmp
        clear e1 e2 e3 e4 f1 f2 f3 f4 hmp
        by_cases hle : sumTo (subB k) xs xs.length * sumL ys ≤ sumTo (subB k) ys ys.length * sumL xs
        · have hd : decide (sumTo (subB k) ys ys.length * sumL xs < sumTo (subB k) xs xs.length * sumL ys) = false := by simpa using hle
          have HN2 : Hid (mcTo xs ys (k + 1) = true) := Lib.hid (by rw [mcTo_succ, HP.out]; simp [hle])
          clear hle
          go_wp2
          refine wp_region_later (by kernel_rfl) (by kernel_rfl) ?_
          repeat (go_big_quiet_step ((first | (go_at_call 77; exact LaterW.call (iCommonPart_n _ _ _ _ _ _ (LaterW.reads _ (by assumption)) (by omega) (by assumption))) | (go_at_call 78; exact LaterW.call (wholeOf_any _ _ _ _ _ (LaterW.reads _ (by assumption)) (by omega) (by assumption))))))
          refine wpQuiet_nil ?_
          intro _ hw'
          obtain ⟨x, rfl⟩ := hw'
          have hbx := hb.trans (x.below.mono hs)
          clear d0 d1 d2 d3
          go_wp2
          exact ⟨⟨k + 1, by omega, by go_num, HN2.out, hbx⟩, by simp [intOf]; omega⟩
        · have hd : decide (sumTo (subB k) ys ys.length * sumL xs < sumTo (subB k) xs xs.length * sumL ys) = true := by simpa using hle
          have HF := Lib.hid (mcTo_false xs ys k xs.length hlt hle)
          clear hle
          go_wp2
          refine wp_region_later (by kernel_rfl) (by kernel_rfl) ?_
          repeat (go_big_quiet_step ((first | (go_at_call 77; exact LaterW.call (iCommonPart_n _ _ _ _ _ _ (LaterW.reads _ (by assumption)) (by omega) (by assumption))) | (go_at_call 78; exact LaterW.call (wholeOf_any _ _ _ _ _ (LaterW.reads _ (by assumption)) (by omega) (by assumption))))))
          refine wpQuiet_nil ?_
          intro _ hw'
          obtain ⟨x, rfl⟩ := hw'
          have hbx := hb.trans (x.below.mono hs)
          clear d0 d1 d2 d3
          go_wp2
          go_ret
          exact ⟨ret_bool (by rw [hr.out, HF.out]), hbW1.trans (hbx.mono hbW1.size)⟩
      · have h1 : k = xs.length := by omega
        subst h1
        have HP := Lib.hid hmp
        clear hmp
        go_wp2
        go_ret
        exact ⟨ret_bool (by rw [hr.out, HP.out]), hbW1.trans (hb.mono hbW1.size)⟩

end Go.Proofs.Ytjmfjgoehicgcaa
