/- Which of two masses is the least committed: both packages. -/
import Derived.Test.YthjmpamcfmadiaaO8
set_option linter.unusedVariables false
set_option linter.unusedSimpArgs false
namespace Go.Proofs.Ythjmpamcfmadiaa
open Go.RowKit

theorem bothB_comm {s t : Int} {xs ys : List Int} (h : bothB s xs t ys = true) : bothB t ys s xs = true := by
  simp only [bothB, Bool.and_eq_true, decide_eq_true_eq] at h ⊢
  exact ⟨h.2.1, h.1, h.2.2.symm⟩

/-- Which of two masses is the least committed. -/
def lcV (s : Int) (xs : List Int) (t : Int) (ys : List Int) : Int := if bothB s xs t ys = false then -1 else if mpTo ys xs ys.length = true then 1 else if mpTo xs ys xs.length = true then 2 else 0

theorem lc0 {s t : Int} {xs ys : List Int} (h : bothB s xs t ys = false) : lcV s xs t ys = -1 := by simp [lcV, h]

theorem lc1 {s t : Int} {xs ys : List Int} (h : bothB s xs t ys = true) (h2 : mpTo ys xs ys.length = true) : lcV s xs t ys = 1 := by simp [lcV, h, h2]

theorem lc2 {s t : Int} {xs ys : List Int} (h : bothB s xs t ys = true) (h2 : mpTo ys xs ys.length = false) (h3 : mpTo xs ys xs.length = true) : lcV s xs t ys = 2 := by simp [lcV, h, h2, h3]

theorem lc3 {s t : Int} {xs ys : List Int} (h : bothB s xs t ys = true) (h2 : mpTo ys xs ys.length = false) (h3 : mpTo xs ys xs.length = false) : lcV s xs t ys = 0 := by simp [lcV, h, h2, h3]

set_option maxHeartbeats 1000000 in
theorem iLeastCommitted_any (s : Int) (p : Option Addr) (c : Nat) (xs : List Int) (t : Int) (q : Option Addr) (d : Nat) (ys : List Int) (w : World) (hx : Reads w p xs) (hy : Reads w q ys) (hxm : xs.length ≤ 1048576) (hym : ys.length ≤ 1048576) :
    Calls Try.prog 19 #[.agg #[.int .i64 s, .slice p xs.length c], .agg #[.int .i64 t, .slice q ys.length d]] w fun e w' => e = .returned (.int .i64 (lcV s xs t ys)) ∧ Below w.heap.size w w' := by
  obtain ⟨W, hW⟩ : ∃ W : World, W = ((w.alloc (.cells #[.int .i64 s, .slice p xs.length c] 27)).alloc (.cells #[.int .i64 t, .slice q ys.length d] 27)) := ⟨_, rfl⟩
  have bW : Below w.heap.size w W := by subst hW; exact (belowAlloc _ _).thenB (belowAlloc _ _)
  have hsz : W.heap.size = w.heap.size + 2 := by subst hW; simp
  have b0 : VarInv W (w.heap.size) (s) (.slice p xs.length c) := by
    subst hW
    have h := VarInv.made w (s) (.slice p xs.length c) 27
    exact (h).later (belowAlloc _ _)
  have b1 : VarInv W (w.heap.size + 1) (t) (.slice q ys.length d) := by
    subst hW
    have h := VarInv.made (w.alloc (.cells #[.int .i64 s, .slice p xs.length c] 27)) (t) (.slice q ys.length d) 27
    rw [show (w.alloc (.cells #[.int .i64 s, .slice p xs.length c] 27)).heap.size = w.heap.size + 1 by simp] at h
    exact h
  have HWW := Lib.hid hW
  have HSZ := Lib.hid hsz
  clear hW hsz
  cases h1 : bothB s xs t ys
  · have hr := Lib.hid (lc0 h1)
    go_enter Try.func19, Try.ntmps19
    go_wp2_with fail
    rw [← HWW.out]
    refine (ofOneQuestion_any _ _ _ _ _ _ _ _ _ (hx.below bW) (hy.below bW) hxm hym).mono ?_
    rintro e w1 ⟨rfl, hb⟩
    replace b0 := b0.later hb
    have b0_0 := b0.c0
    have b0_1 := b0.c1
    replace b1 := b1.later hb
    have b1_0 := b1.c0
    have b1_1 := b1.c1
    replace bW := bW.thenB hb
    have z1 := hb.size
    clear hb
    go_wp2
    go_ret
    exact ⟨ret_int hr.out.symm, bW⟩
  · obtain ⟨k1, k2, k3, k4⟩ := bothB_ok h1
    have h1' := bothB_comm h1
    have K4 := Lib.hid k4
    clear k3 k4
    cases h2 : mpTo ys xs ys.length
    rotate_left
    · have hr := Lib.hid (lc1 h1 h2)
      have e2 : mpB t ys s xs = true := by simp [mpB, h1', h2]
      go_enter Try.func19, Try.ntmps19
      go_wp2_with fail
      rw [← HWW.out]
      refine (ofOneQuestion_any _ _ _ _ _ _ _ _ _ (hx.below bW) (hy.below bW) hxm hym).mono ?_
      rintro e w1 ⟨rfl, hb⟩
      replace b0 := b0.later hb
      have b0_0 := b0.c0
      have b0_1 := b0.c1
      replace b1 := b1.later hb
      have b1_0 := b1.c0
      have b1_1 := b1.c1
      replace bW := bW.thenB hb
      have z1 := hb.size
      clear hb
      go_wp2_with fail
      refine (morePossible_any _ _ _ _ _ _ _ _ _ (hy.below bW) (hx.below bW) k2 k1 K4.out.symm).mono ?_
      rintro e w2 ⟨rfl, hb⟩
      clear b0_0 b0_1 b1_0 b1_1
      replace b0 := b0.later hb
      have b0_0 := b0.c0
      have b0_1 := b0.c1
      replace b1 := b1.later hb
      have b1_0 := b1.c0
      have b1_1 := b1.c1
      replace bW := bW.thenB hb
      have z2 := hb.size
      clear hb
      go_wp2
      go_ret
      exact ⟨ret_int hr.out.symm, bW⟩
    · have e2 : mpB t ys s xs = false := by simp [mpB, h1', h2]
      cases h3 : mpTo xs ys xs.length
      rotate_left
      · have hr := Lib.hid (lc2 h1 h2 h3)
        have e3 : mpB s xs t ys = true := by simp [mpB, h1, h3]
        go_enter Try.func19, Try.ntmps19
        go_wp2_with fail
        rw [← HWW.out]
        refine (ofOneQuestion_any _ _ _ _ _ _ _ _ _ (hx.below bW) (hy.below bW) hxm hym).mono ?_
        rintro e w1 ⟨rfl, hb⟩
        replace b0 := b0.later hb
        have b0_0 := b0.c0
        have b0_1 := b0.c1
        replace b1 := b1.later hb
        have b1_0 := b1.c0
        have b1_1 := b1.c1
        replace bW := bW.thenB hb
        have z1 := hb.size
        clear hb
        go_wp2_with fail
        refine (morePossible_any _ _ _ _ _ _ _ _ _ (hy.below bW) (hx.below bW) k2 k1 K4.out.symm).mono ?_
        rintro e w2 ⟨rfl, hb⟩
        clear b0_0 b0_1 b1_0 b1_1
        replace b0 := b0.later hb
        have b0_0 := b0.c0
        have b0_1 := b0.c1
        replace b1 := b1.later hb
        have b1_0 := b1.c0
        have b1_1 := b1.c1
        replace bW := bW.thenB hb
        have z2 := hb.size
        clear hb
        go_wp2_with fail
        refine (morePossible_any _ _ _ _ _ _ _ _ _ (hx.below bW) (hy.below bW) k1 k2 K4.out).mono ?_
        rintro e w3 ⟨rfl, hb⟩
        clear b0_0 b0_1 b1_0 b1_1
        replace b0 := b0.later hb
        have b0_0 := b0.c0
        have b0_1 := b0.c1
        replace b1 := b1.later hb
        have b1_0 := b1.c0
        have b1_1 := b1.c1
        replace bW := bW.thenB hb
        have z3 := hb.size
        clear hb
        go_wp2
        go_ret
        exact ⟨ret_int hr.out.symm, bW⟩
      · have hr := Lib.hid (lc3 h1 h2 h3)
        have e3 : mpB s xs t ys = false := by simp [mpB, h1, h3]
        go_enter Try.func19, Try.ntmps19
        go_wp2_with fail
        rw [← HWW.out]
        refine (ofOneQuestion_any _ _ _ _ _ _ _ _ _ (hx.below bW) (hy.below bW) hxm hym).mono ?_
        rintro e w1 ⟨rfl, hb⟩
        replace b0 := b0.later hb
        have b0_0 := b0.c0
        have b0_1 := b0.c1
        replace b1 := b1.later hb
        have b1_0 := b1.c0
        have b1_1 := b1.c1
        replace bW := bW.thenB hb
        have z1 := hb.size
        clear hb
        go_wp2_with fail
        refine (morePossible_any _ _ _ _ _ _ _ _ _ (hy.below bW) (hx.below bW) k2 k1 K4.out.symm).mono ?_
        rintro e w2 ⟨rfl, hb⟩
        clear b0_0 b0_1 b1_0 b1_1
        replace b0 := b0.later hb
        have b0_0 := b0.c0
        have b0_1 := b0.c1
        replace b1 := b1.later hb
        have b1_0 := b1.c0
        have b1_1 := b1.c1
        replace bW := bW.thenB hb
        have z2 := hb.size
        clear hb
        go_wp2_with fail
        refine (morePossible_any _ _ _ _ _ _ _ _ _ (hx.below bW) (hy.below bW) k1 k2 K4.out).mono ?_
        rintro e w3 ⟨rfl, hb⟩
        clear b0_0 b0_1 b1_0 b1_1
        replace b0 := b0.later hb
        have b0_0 := b0.c0
        have b0_1 := b0.c1
        replace b1 := b1.later hb
        have b1_0 := b1.c0
        have b1_1 := b1.c1
        replace bW := bW.thenB hb
        have z3 := hb.size
        clear hb
        go_wp2
        go_ret
        exact ⟨ret_int hr.out.symm, bW⟩

set_option maxHeartbeats 1000000 in
theorem sLeastCommitted_any (s : Int) (p : Option Addr) (c : Nat) (xs : List Int) (t : Int) (q : Option Addr) (d : Nat) (ys : List Int) (w : World) (hx : Reads w p xs) (hy : Reads w q ys) (hxm : xs.length ≤ 1048576) (hym : ys.length ≤ 1048576) :
    Calls Try.prog 18 #[.agg #[.int .i64 s, .slice p xs.length c], .agg #[.int .i64 t, .slice q ys.length d]] w fun e w' => e = .returned (.int .i64 (lcV s xs t ys)) ∧ Below w.heap.size w w' := by
  obtain ⟨W, hW⟩ : ∃ W : World, W = ((w.alloc (.cells #[.int .i64 s, .slice p xs.length c] 27)).alloc (.cells #[.int .i64 t, .slice q ys.length d] 27)) := ⟨_, rfl⟩
  have bW : Below w.heap.size w W := by subst hW; exact (belowAlloc _ _).thenB (belowAlloc _ _)
  have hsz : W.heap.size = w.heap.size + 2 := by subst hW; simp
  have b0 : VarInv W (w.heap.size) (s) (.slice p xs.length c) := by
    subst hW
    have h := VarInv.made w (s) (.slice p xs.length c) 27
    exact (h).later (belowAlloc _ _)
  have b1 : VarInv W (w.heap.size + 1) (t) (.slice q ys.length d) := by
    subst hW
    have h := VarInv.made (w.alloc (.cells #[.int .i64 s, .slice p xs.length c] 27)) (t) (.slice q ys.length d) 27
    rw [show (w.alloc (.cells #[.int .i64 s, .slice p xs.length c] 27)).heap.size = w.heap.size + 1 by simp] at h
    exact h
  have HWW := Lib.hid hW
  have HSZ := Lib.hid hsz
  clear hW hsz
  cases h1 : bothB s xs t ys
  · have hr := Lib.hid (lc0 h1)
    go_enter Try.func18, Try.ntmps18
    go_wp2_with fail
    rw [← HWW.out]
    refine (l3Both_any _ _ _ _ _ _ _ _ _ (hx.below bW) (hy.below bW) hxm hym).mono ?_
    rintro e w1 ⟨rfl, hb⟩
    replace b0 := b0.later hb
    have b0_0 := b0.c0
    have b0_1 := b0.c1
    replace b1 := b1.later hb
    have b1_0 := b1.c0
    have b1_1 := b1.c1
    replace bW := bW.thenB hb
    have z1 := hb.size
    clear hb
    go_wp2
    go_ret
    exact ⟨ret_int hr.out.symm, bW⟩
  · obtain ⟨k1, k2, k3, k4⟩ := bothB_ok h1
    have h1' := bothB_comm h1
    have K4 := Lib.hid k4
    clear k3 k4
    cases h2 : mpTo ys xs ys.length
    rotate_left
    · have hr := Lib.hid (lc1 h1 h2)
      have e2 : mpB t ys s xs = true := by simp [mpB, h1', h2]
      go_enter Try.func18, Try.ntmps18
      go_wp2_with fail
      rw [← HWW.out]
      refine (l3Both_any _ _ _ _ _ _ _ _ _ (hx.below bW) (hy.below bW) hxm hym).mono ?_
      rintro e w1 ⟨rfl, hb⟩
      replace b0 := b0.later hb
      have b0_0 := b0.c0
      have b0_1 := b0.c1
      replace b1 := b1.later hb
      have b1_0 := b1.c0
      have b1_1 := b1.c1
      replace bW := bW.thenB hb
      have z1 := hb.size
      clear hb
      go_wp2_with fail
      refine (sMorePossible_any _ _ _ _ _ _ _ _ _ (hy.below bW) (hx.below bW) hym hxm).mono ?_
      rintro e w2 ⟨rfl, hb⟩
      clear b0_0 b0_1 b1_0 b1_1
      replace b0 := b0.later hb
      have b0_0 := b0.c0
      have b0_1 := b0.c1
      replace b1 := b1.later hb
      have b1_0 := b1.c0
      have b1_1 := b1.c1
      replace bW := bW.thenB hb
      have z2 := hb.size
      clear hb
      go_wp2
      go_ret
      exact ⟨ret_int hr.out.symm, bW⟩
    · have e2 : mpB t ys s xs = false := by simp [mpB, h1', h2]
      cases h3 : mpTo xs ys xs.length
      rotate_left
      · have hr := Lib.hid (lc2 h1 h2 h3)
        have e3 : mpB s xs t ys = true := by simp [mpB, h1, h3]
        go_enter Try.func18, Try.ntmps18
        go_wp2_with fail
        rw [← HWW.out]
        refine (l3Both_any _ _ _ _ _ _ _ _ _ (hx.below bW) (hy.below bW) hxm hym).mono ?_
        rintro e w1 ⟨rfl, hb⟩
        replace b0 := b0.later hb
        have b0_0 := b0.c0
        have b0_1 := b0.c1
        replace b1 := b1.later hb
        have b1_0 := b1.c0
        have b1_1 := b1.c1
        replace bW := bW.thenB hb
        have z1 := hb.size
        clear hb
        go_wp2_with fail
        refine (sMorePossible_any _ _ _ _ _ _ _ _ _ (hy.below bW) (hx.below bW) hym hxm).mono ?_
        rintro e w2 ⟨rfl, hb⟩
        clear b0_0 b0_1 b1_0 b1_1
        replace b0 := b0.later hb
        have b0_0 := b0.c0
        have b0_1 := b0.c1
        replace b1 := b1.later hb
        have b1_0 := b1.c0
        have b1_1 := b1.c1
        replace bW := bW.thenB hb
        have z2 := hb.size
        clear hb
        go_wp2_with fail
        refine (sMorePossible_any _ _ _ _ _ _ _ _ _ (hx.below bW) (hy.below bW) hxm hym).mono ?_
        rintro e w3 ⟨rfl, hb⟩
        clear b0_0 b0_1 b1_0 b1_1
        replace b0 := b0.later hb
        have b0_0 := b0.c0
        have b0_1 := b0.c1
        replace b1 := b1.later hb
        have b1_0 := b1.c0
        have b1_1 := b1.c1
        replace bW := bW.thenB hb
        have z3 := hb.size
        clear hb
        go_wp2
        go_ret
        exact ⟨ret_int hr.out.symm, bW⟩
      · have hr := Lib.hid (lc3 h1 h2 h3)
        have e3 : mpB s xs t ys = false := by simp [mpB, h1, h3]
        go_enter Try.func18, Try.ntmps18
        go_wp2_with fail
        rw [← HWW.out]
        refine (l3Both_any _ _ _ _ _ _ _ _ _ (hx.below bW) (hy.below bW) hxm hym).mono ?_
        rintro e w1 ⟨rfl, hb⟩
        replace b0 := b0.later hb
        have b0_0 := b0.c0
        have b0_1 := b0.c1
        replace b1 := b1.later hb
        have b1_0 := b1.c0
        have b1_1 := b1.c1
        replace bW := bW.thenB hb
        have z1 := hb.size
        clear hb
        go_wp2_with fail
        refine (sMorePossible_any _ _ _ _ _ _ _ _ _ (hy.below bW) (hx.below bW) hym hxm).mono ?_
        rintro e w2 ⟨rfl, hb⟩
        clear b0_0 b0_1 b1_0 b1_1
        replace b0 := b0.later hb
        have b0_0 := b0.c0
        have b0_1 := b0.c1
        replace b1 := b1.later hb
        have b1_0 := b1.c0
        have b1_1 := b1.c1
        replace bW := bW.thenB hb
        have z2 := hb.size
        clear hb
        go_wp2_with fail
        refine (sMorePossible_any _ _ _ _ _ _ _ _ _ (hx.below bW) (hy.below bW) hxm hym).mono ?_
        rintro e w3 ⟨rfl, hb⟩
        clear b0_0 b0_1 b1_0 b1_1
        replace b0 := b0.later hb
        have b0_0 := b0.c0
        have b0_1 := b0.c1
        replace b1 := b1.later hb
        have b1_0 := b1.c0
        have b1_1 := b1.c1
        replace bW := bW.thenB hb
        have z3 := hb.size
        clear hb
        go_wp2
        go_ret
        exact ⟨ret_int hr.out.symm, bW⟩

end Go.Proofs.Ythjmpamcfmadiaa
