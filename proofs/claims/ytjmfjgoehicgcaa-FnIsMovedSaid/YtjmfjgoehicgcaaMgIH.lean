/- Whether one mass is made of another one: the program. -/
import Derived.Test.YtjmfjgoehicgcaaIF
import Derived.Test.YtjmfjgoehicgcaaMgDC
import Derived.Test.YtjmfjgoehicgcaaMgID
set_option linter.unusedVariables false
set_option linter.unusedSimpArgs false
namespace Go.Proofs.Ytjmfjgoehicgcaa
open Go.RowKit

theorem sIsSpecialized_any (s : Int) (p : Option Addr) (c : Nat) (xs : List Int) (t : Int) (q : Option Addr) (d : Nat) (ys : List Int) (w : World) (hx : Reads w p xs) (hy : Reads w q ys) (hxm : xs.length ≤ 1048576) (hym : ys.length ≤ 1048576) :
    Calls Try.prog 12 #[.agg #[.int .i64 s, .slice p xs.length c], .agg #[.int .i64 t, .slice q ys.length d]] w fun e w' => e = .returned (.bool (spB s xs t ys)) ∧ Below w.heap.size w w' := sIsSpec_any s t p q c d xs ys w hx hy hxm hym

set_option maxHeartbeats 4000000 in
set_option maxRecDepth 100000 in
theorem iIsSpecialized_any (s : Int) (p : Option Addr) (c : Nat) (xs : List Int) (t : Int) (q : Option Addr) (d : Nat) (ys : List Int) (w : World) (hx : Reads w p xs) (hy : Reads w q ys) (hxm : xs.length ≤ 1048576) (hym : ys.length ≤ 1048576) :
    Calls Try.prog 14 #[.agg #[.int .i64 s, .slice p xs.length c], .agg #[.int .i64 t, .slice q ys.length d]] w fun e w' => e = .returned (.bool (spB s xs t ys)) ∧ Below w.heap.size w w' := by
  obtain ⟨W, hW, hbW, hsz, c0, c1, c2, c3⟩ := box2 w s t p q xs.length ys.length c d
  have HW := Lib.hid hW
  clear hW
  have HB := Lib.hid (ofOneQuestion_any s t p q c d xs ys W (hx.below hbW) (hy.below hbW) hxm hym)
  have HX := Lib.hid hx
  have HY := Lib.hid hy
  clear hx hy
  cases hb : bothB s xs t ys
  · have hr : Hid (spB s xs t ys = false) := Lib.hid (by rw [spB, hb]; rfl)
    rw [hb] at HB
    clear hb
    go_enter Try.func14, Try.ntmps14
    go_wp2_with fail
    rw [← HW.out]
    refine HB.out.mono ?_
    rintro e w1 ⟨rfl, b1⟩
    go_wp2
    go_ret
    exact ⟨ret_bool hr.out.symm, hbW.thenB b1⟩
  · have ht := two_of hb
    have hr : Hid (spB s xs t ys = flB xs.length (supS xs ys) (demS xs ys)) := Lib.hid (by rw [spB, hb]; rfl)
    rw [hb] at HB
    have HT := Lib.hid ht
    clear hb ht
    go_enter Try.func14, Try.ntmps14
    go_wp2_with fail
    rw [← HW.out]
    refine HB.out.mono ?_
    rintro e w1 ⟨rfl, b1⟩
    replace c0 := cellKeep b1 c0
    replace c1 := cellKeep b1 c1
    replace c2 := cellKeep b1 c2
    replace c3 := cellKeep b1 c3
    replace hbW := hbW.thenB b1
    clear b1 HB HW
    have hyl : ys.length = xs.length := HT.out.yl
    have HN := Lib.hid (newMoves_any xs.length s t p q c d xs ys w1 (HX.out.below hbW) (HY.out.below hbW) HT.out)
    rw [hyl] at c3
    clear hyl
    go_wp2_with fail
    refine HN.out.mono ?_
    rintro e w2 ⟨b2, ⟨rfl, hno⟩ | ⟨L, F, lf, du, rfl, hLN, hM, hfl, hmu⟩⟩
    · have hf : Hid (spB s xs t ys = false) := Lib.hid (by rw [hr.out]; exact flB_no.2 hno)
      clear hno c0 c1 c2 c3
      go_wp2
      go_ret
      exact ⟨ret_bool hf.out.symm, hbW.thenB b2⟩
    · have hf : Hid (spB s xs t ys = true) := Lib.hid (by rw [hr.out]; exact flB_iff.2 ⟨F, hfl⟩)
      clear hfl hM hmu hLN c0 c1 c2 c3
      go_wp2
      go_ret
      exact ⟨ret_bool hf.out.symm, hbW.thenB b2⟩

end Go.Proofs.Ytjmfjgoehicgcaa

/- Which of two masses is the least committed: both packages. -/
set_option linter.unusedVariables false
set_option linter.unusedSimpArgs false
namespace Go.Proofs.Ytjmfjgoehicgcaa
open Go.RowKit

theorem bothB_comm {s t : Int} {xs ys : List Int} (h : bothB s xs t ys = true) : bothB t ys s xs = true := by
  simp only [bothB, Bool.and_eq_true, decide_eq_true_eq] at h ⊢
  exact ⟨h.2.1, h.1, h.2.2.symm⟩

/-- Which of two masses is the least committed. -/
def lcV (s : Int) (xs : List Int) (t : Int) (ys : List Int) : Int := if bothB s xs t ys = false then -1 else if mpTo ys xs ys.length = true then 1 else if mpTo xs ys xs.length = true then 2 else 0

theorem lc0 {s t : Int} {xs ys : List Int} (h : bothB s xs t ys = false) : lcV s xs t ys = -1 := by simp [lcV, h]

theorem lc1 {s t : Int} {xs ys : List Int} (h : bothB s xs t ys = true) (h2 : mpTo ys xs ys.length = true) : lcV s xs t ys = 1 := by simp [lcV, h, h2]

theorem lc2 {s t : Int} {xs ys : List Int} (h : bothB s xs t ys = true) (h2 : mpTo ys xs ys.length = false) (h3 : mpTo xs ys xs.length = true) : lcV s xs t ys = 2 := by simp [lcV, h, h2, h3]

theorem lc3 {s t : Int} {xs ys : List Int} (h : bothB s xs t ys = true) (h2 : mpTo ys xs ys.length = false) (h3 : mpTo xs ys xs.length = false) : lcV s xs t ys = 0 := by simp [lcV, h, h2, h3]

set_option maxHeartbeats 1000000 in
theorem iLeastCommitted_any (s : Int) (p : Option Addr) (c : Nat) (xs : List Int) (t : Int) (q : Option Addr) (d : Nat) (ys : List Int) (w : World) (hx : Reads w p xs) (hy : Reads w q ys) (hxm : xs.length ≤ 1048576) (hym : ys.length ≤ 1048576) :
    Calls Try.prog 41 #[.agg #[.int .i64 s, .slice p xs.length c], .agg #[.int .i64 t, .slice q ys.length d]] w fun e w' => e = .returned (.int .i64 (lcV s xs t ys)) ∧ Below w.heap.size w w' := by
  obtain ⟨W, hW⟩ : ∃ W : World, W = ((w.alloc (.cells #[.int .i64 s, .slice p xs.length c] 27)).alloc (.cells #[.int .i64 t, .slice q ys.length d] 27)) := ⟨_, rfl⟩
  have bW : Below w.heap.size w W := by subst hW; exact (belowAlloc _ _).thenB (belowAlloc _ _)
  have hsz : W.heap.size = w.heap.size + 2 := by subst hW; simp
  have b0 : VarInv W (w.heap.size) (s) (.slice p xs.length c) := by
    subst hW
    have h := VarInv.made w (s) (.slice p xs.length c) 27
    exact (h).later (belowAlloc _ _)
  have b1 : VarInv W (w.heap.size + 1) (t) (.slice q ys.length d) := by
    subst hW
    have h := VarInv.made (w.alloc (.cells #[.int .i64 s, .slice p xs.length c] 27)) (t) (.slice q ys.length d) 27
    rw [show (w.alloc (.cells #[.int .i64 s, .slice p xs.length c] 27)).heap.size = w.heap.size + 1 by simp] at h
    exact h
  have HWW := Lib.hid hW
  have HSZ := Lib.hid hsz
  clear hW hsz
  cases h1 : bothB s xs t ys
  · have hr := Lib.hid (lc0 h1)
    go_enter Try.func41, Try.ntmps41
    go_wp2_with fail
    rw [← HWW.out]
    refine (ofOneQuestion_any _ _ _ _ _ _ _ _ _ (hx.below bW) (hy.below bW) hxm hym).mono ?_
    rintro e w1 ⟨rfl, hb⟩
    replace b0 := b0.later hb
    have b0_0 := b0.c0
    have b0_1 := b0.c1
    replace b1 := b1.later hb
    have b1_0 := b1.c0
    have b1_1 := b1.c1
    replace bW := bW.thenB hb
    have z1 := hb.size
    clear hb
    go_wp2
    go_ret
    exact ⟨ret_int hr.out.symm, bW⟩
  · obtain ⟨k1, k2, k3, k4⟩ := bothB_ok h1
    have h1' := bothB_comm h1
    have K4 := Lib.hid k4
    clear k3 k4
    cases h2 : mpTo ys xs ys.length
    rotate_left
    · have hr := Lib.hid (lc1 h1 h2)
      have e2 : mpB t ys s xs = true := by simp [mpB, h1', h2]
      go_enter Try.func41, Try.ntmps41
      go_wp2_with fail
      rw [← HWW.out]
      refine (ofOneQuestion_any _ _ _ _ _ _ _ _ _ (hx.below bW) (hy.below bW) hxm hym).mono ?_
      rintro e w1 ⟨rfl, hb⟩
      replace b0 := b0.later hb
      have b0_0 := b0.c0
      have b0_1 := b0.c1
      replace b1 := b1.later hb
      have b1_0 := b1.c0
      have b1_1 := b1.c1
      replace bW := bW.thenB hb
      have z1 := hb.size
      clear hb
      go_wp2_with fail
      refine (morePossible_any _ _ _ _ _ _ _ _ _ (hy.below bW) (hx.below bW) k2 k1 K4.out.symm).mono ?_
      rintro e w2 ⟨rfl, hb⟩
      clear b0_0 b0_1 b1_0 b1_1
      replace b0 := b0.later hb
      have b0_0 := b0.c0
      have b0_1 := b0.c1
      replace b1 := b1.later hb
      have b1_0 := b1.c0
      have b1_1 := b1.c1
      replace bW := bW.thenB hb
      have z2 := hb.size
      clear hb
      go_wp2
      go_ret
      exact ⟨ret_int hr.out.symm, bW⟩
    · have e2 : mpB t ys s xs = false := by simp [mpB, h1', h2]
      cases h3 : mpTo xs ys xs.length
      rotate_left
      · have hr := Lib.hid (lc2 h1 h2 h3)
        have e3 : mpB s xs t ys = true := by simp [mpB, h1, h3]
        go_enter Try.func41, Try.ntmps41
        go_wp2_with fail
        rw [← HWW.out]
        refine (ofOneQuestion_any _ _ _ _ _ _ _ _ _ (hx.below bW) (hy.below bW) hxm hym).mono ?_
        rintro e w1 ⟨rfl, hb⟩
        replace b0 := b0.later hb
        have b0_0 := b0.c0
        have b0_1 := b0.c1
        replace b1 := b1.later hb
        have b1_0 := b1.c0
        have b1_1 := b1.c1
        replace bW := bW.thenB hb
        have z1 := hb.size
        clear hb
        go_wp2_with fail
        refine (morePossible_any _ _ _ _ _ _ _ _ _ (hy.below bW) (hx.below bW) k2 k1 K4.out.symm).mono ?_
        rintro e w2 ⟨rfl, hb⟩
        clear b0_0 b0_1 b1_0 b1_1
        replace b0 := b0.later hb
        have b0_0 := b0.c0
        have b0_1 := b0.c1
        replace b1 := b1.later hb
        have b1_0 := b1.c0
        have b1_1 := b1.c1
        replace bW := bW.thenB hb
        have z2 := hb.size
        clear hb
        go_wp2_with fail
        refine (morePossible_any _ _ _ _ _ _ _ _ _ (hx.below bW) (hy.below bW) k1 k2 K4.out).mono ?_
        rintro e w3 ⟨rfl, hb⟩
        clear b0_0 b0_1 b1_0 b1_1
        replace b0 := b0.later hb
        have b0_0 := b0.c0
        have b0_1 := b0.c1
        replace b1 := b1.later hb
        have b1_0 := b1.c0
        have b1_1 := b1.c1
        replace bW := bW.thenB hb
        have z3 := hb.size
        clear hb
        go_wp2
        go_ret
        exact ⟨ret_int hr.out.symm, bW⟩
      · have hr := Lib.hid (lc3 h1 h2 h3)
        have e3 : mpB s xs t ys = false := by simp [mpB, h1, h3]
        go_enter Try.func41, Try.ntmps41
        go_wp2_with fail
        rw [← HWW.out]
        refine (ofOneQuestion_any _ _ _ _ _ _ _ _ _ (hx.below bW) (hy.below bW) hxm hym).mono ?_
        rintro e w1 ⟨rfl, hb⟩
        replace b0 := b0.later hb
        have b0_0 := b0.c0
        have b0_1 := b0.c1
        replace b1 := b1.later hb
        have b1_0 := b1.c0
        have b1_1 := b1.c1
        replace bW := bW.thenB hb
        have z1 := hb.size
        clear hb
        go_wp2_with fail
        refine (morePossible_any _ _ _ _ _ _ _ _ _ (hy.below bW) (hx.below bW) k2 k1 K4.out.symm).mono ?_
        rintro e w2 ⟨rfl, hb⟩
        clear b0_0 b0_1 b1_0 b1_1
        replace b0 := b0.later hb
        have b0_0 := b0.c0
        have b0_1 := b0.c1
        replace b1 := b1.later hb
        have b1_0 := b1.c0
        have b1_1 := b1.c1
        replace bW := bW.thenB hb
        have z2 := hb.size
        clear hb
        go_wp2_with fail
        refine (morePossible_any _ _ _ _ _ _ _ _ _ (hx.below bW) (hy.below bW) k1 k2 K4.out).mono ?_
        rintro e w3 ⟨rfl, hb⟩
        clear b0_0 b0_1 b1_0 b1_1
        replace b0 := b0.later hb
        have b0_0 := b0.c0
        have b0_1 := b0.c1
        replace b1 := b1.later hb
        have b1_0 := b1.c0
        have b1_1 := b1.c1
        replace bW := bW.thenB hb
        have z3 := hb.size
        clear hb
        go_wp2
        go_ret
        exact ⟨ret_int hr.out.symm, bW⟩

set_option maxHeartbeats 1000000 in
theorem sLeastCommitted_any (s : Int) (p : Option Addr) (c : Nat) (xs : List Int) (t : Int) (q : Option Addr) (d : Nat) (ys : List Int) (w : World) (hx : Reads w p xs) (hy : Reads w q ys) (hxm : xs.length ≤ 1048576) (hym : ys.length ≤ 1048576) :
    Calls Try.prog 42 #[.agg #[.int .i64 s, .slice p xs.length c], .agg #[.int .i64 t, .slice q ys.length d]] w fun e w' => e = .returned (.int .i64 (lcV s xs t ys)) ∧ Below w.heap.size w w' := by
  obtain ⟨W, hW⟩ : ∃ W : World, W = ((w.alloc (.cells #[.int .i64 s, .slice p xs.length c] 27)).alloc (.cells #[.int .i64 t, .slice q ys.length d] 27)) := ⟨_, rfl⟩
  have bW : Below w.heap.size w W := by subst hW; exact (belowAlloc _ _).thenB (belowAlloc _ _)
  have hsz : W.heap.size = w.heap.size + 2 := by subst hW; simp
  have b0 : VarInv W (w.heap.size) (s) (.slice p xs.length c) := by
    subst hW
    have h := VarInv.made w (s) (.slice p xs.length c) 27
    exact (h).later (belowAlloc _ _)
  have b1 : VarInv W (w.heap.size + 1) (t) (.slice q ys.length d) := by
    subst hW
    have h := VarInv.made (w.alloc (.cells #[.int .i64 s, .slice p xs.length c] 27)) (t) (.slice q ys.length d) 27
    rw [show (w.alloc (.cells #[.int .i64 s, .slice p xs.length c] 27)).heap.size = w.heap.size + 1 by simp] at h
    exact h
  have HWW := Lib.hid hW
  have HSZ := Lib.hid hsz
  clear hW hsz
  cases h1 : bothB s xs t ys
  · have hr := Lib.hid (lc0 h1)
    go_enter Try.func42, Try.ntmps42
    go_wp2_with fail
    rw [← HWW.out]
    refine (l3Both_any _ _ _ _ _ _ _ _ _ (hx.below bW) (hy.below bW) hxm hym).mono ?_
    rintro e w1 ⟨rfl, hb⟩
    replace b0 := b0.later hb
    have b0_0 := b0.c0
    have b0_1 := b0.c1
    replace b1 := b1.later hb
    have b1_0 := b1.c0
    have b1_1 := b1.c1
    replace bW := bW.thenB hb
    have z1 := hb.size
    clear hb
    go_wp2
    go_ret
    exact ⟨ret_int hr.out.symm, bW⟩
  · obtain ⟨k1, k2, k3, k4⟩ := bothB_ok h1
    have h1' := bothB_comm h1
    have K4 := Lib.hid k4
    clear k3 k4
    cases h2 : mpTo ys xs ys.length
    rotate_left
    · have hr := Lib.hid (lc1 h1 h2)
      have e2 : mpB t ys s xs = true := by simp [mpB, h1', h2]
      go_enter Try.func42, Try.ntmps42
      go_wp2_with fail
      rw [← HWW.out]
      refine (l3Both_any _ _ _ _ _ _ _ _ _ (hx.below bW) (hy.below bW) hxm hym).mono ?_
      rintro e w1 ⟨rfl, hb⟩
      replace b0 := b0.later hb
      have b0_0 := b0.c0
      have b0_1 := b0.c1
      replace b1 := b1.later hb
      have b1_0 := b1.c0
      have b1_1 := b1.c1
      replace bW := bW.thenB hb
      have z1 := hb.size
      clear hb
      go_wp2_with fail
      refine (sMorePossible_any _ _ _ _ _ _ _ _ _ (hy.below bW) (hx.below bW) hym hxm).mono ?_
      rintro e w2 ⟨rfl, hb⟩
      clear b0_0 b0_1 b1_0 b1_1
      replace b0 := b0.later hb
      have b0_0 := b0.c0
      have b0_1 := b0.c1
      replace b1 := b1.later hb
      have b1_0 := b1.c0
      have b1_1 := b1.c1
      replace bW := bW.thenB hb
      have z2 := hb.size
      clear hb
      go_wp2
      go_ret
      exact ⟨ret_int hr.out.symm, bW⟩
    · have e2 : mpB t ys s xs = false := by simp [mpB, h1', h2]
      cases h3 : mpTo xs ys xs.length
      rotate_left
      · have hr := Lib.hid (lc2 h1 h2 h3)
        have e3 : mpB s xs t ys = true := by simp [mpB, h1, h3]
        go_enter Try.func42, Try.ntmps42
        go_wp2_with fail
        rw [← HWW.out]
        refine (l3Both_any _ _ _ _ _ _ _ _ _ (hx.below bW) (hy.below bW) hxm hym).mono ?_
        rintro e w1 ⟨rfl, hb⟩
        replace b0 := b0.later hb
        have b0_0 := b0.c0
        have b0_1 := b0.c1
        replace b1 := b1.later hb
        have b1_0 := b1.c0
        have b1_1 := b1.c1
        replace bW := bW.thenB hb
        have z1 := hb.size
        clear hb
        go_wp2_with fail
        refine (sMorePossible_any _ _ _ _ _ _ _ _ _ (hy.below bW) (hx.below bW) hym hxm).mono ?_
        rintro e w2 ⟨rfl, hb⟩
        clear b0_0 b0_1 b1_0 b1_1
        replace b0 := b0.later hb
        have b0_0 := b0.c0
        have b0_1 := b0.c1
        replace b1 := b1.later hb
        have b1_0 := b1.c0
        have b1_1 := b1.c1
        replace bW := bW.thenB hb
        have z2 := hb.size
        clear hb
        go_wp2_with fail
        refine (sMorePossible_any _ _ _ _ _ _ _ _ _ (hx.below bW) (hy.below bW) hxm hym).mono ?_
        rintro e w3 ⟨rfl, hb⟩
        clear b0_0 b0_1 b1_0 b1_1
        replace b0 := b0.later hb
        have b0_0 := b0.c0
        have b0_1 := b0.c1
        replace b1 := b1.later hb
        have b1_0 := b1.c0
        have b1_1 := b1.c1
        replace bW := bW.thenB hb
        have z3 := hb.size
        clear hb
        go_wp2
        go_ret
        exact ⟨ret_int hr.out.symm, bW⟩
      · have hr := Lib.hid (lc3 h1 h2 h3)
        have e3 : mpB s xs t ys = false := by simp [mpB, h1, h3]
        go_enter Try.func42, Try.ntmps42
        go_wp2_with fail
        rw [← HWW.out]
        refine (l3Both_any _ _ _ _ _ _ _ _ _ (hx.below bW) (hy.below bW) hxm hym).mono ?_
        rintro e w1 ⟨rfl, hb⟩
        replace b0 := b0.later hb
        have b0_0 := b0.c0
        have b0_1 := b0.c1
        replace b1 := b1.later hb
        have b1_0 := b1.c0
        have b1_1 := b1.c1
        replace bW := bW.thenB hb
        have z1 := hb.size
        clear hb
        go_wp2_with fail
        refine (sMorePossible_any _ _ _ _ _ _ _ _ _ (hy.below bW) (hx.below bW) hym hxm).mono ?_
        rintro e w2 ⟨rfl, hb⟩
        clear b0_0 b0_1 b1_0 b1_1
        replace b0 := b0.later hb
        have b0_0 := b0.c0
        have b0_1 := b0.c1
        replace b1 := b1.later hb
        have b1_0 := b1.c0
        have b1_1 := b1.c1
        replace bW := bW.thenB hb
        have z2 := hb.size
        clear hb
        go_wp2_with fail
        refine (sMorePossible_any _ _ _ _ _ _ _ _ _ (hx.below bW) (hy.below bW) hxm hym).mono ?_
        rintro e w3 ⟨rfl, hb⟩
        clear b0_0 b0_1 b1_0 b1_1
        replace b0 := b0.later hb
        have b0_0 := b0.c0
        have b0_1 := b0.c1
        replace b1 := b1.later hb
        have b1_0 := b1.c0
        have b1_1 := b1.c1
        replace bW := bW.thenB hb
        have z3 := hb.size
        clear hb
        go_wp2
        go_ret
        exact ⟨ret_int hr.out.symm, bW⟩

end Go.Proofs.Ytjmfjgoehicgcaa

/- A way that goes round: its closures: the program. -/
set_option linter.unusedVariables false
set_option linter.unusedSimpArgs false
namespace Go.Proofs.Ytjmfjgoehicgcaa
open Go.RowKit

theorem MV.congX {L : Lay} {w : World} {F : Nat → Nat → Int} {X X' : Nat → Nat → Bool} {lf du : Nat → Int} (h : MV L w F X lf du) (hx : ∀ b a, b < L.N → a < L.N → X b a = X' b a) : MV L w F X' lf du :=
  ⟨h.ok, h.c0, h.c1, h.c2, h.c3, h.fl, h.fx, h.fr, fun b a hb ha => by rw [← hx b a hb ha]; exact h.xr b a hb ha, h.lc, h.dc, h.zr, h.zx, h.zl, h.zd⟩

/-- What is fixed when a giver and a getter are left out. -/
def shutX (X : Nat → Nat → Bool) (b0 a0 : Nat) : Nat → Nat → Bool := fun b a => X b a || (b == b0 || a == a0)
theorem opB_shut (X : Nat → Nat → Bool) (b0 a0 : Nat) : opB (shutX X b0 a0) = opX (opB X) b0 a0 := by
  funext b a
  simp only [opB, shutX, opX]
  cases subB a b <;> cases X b a <;> simp

theorem belowN (w : World) (n : Nat) : Below w.heap.size w (w.drewN n) := ⟨rfl, rfl, rfl, Nat.le_refl _, fun _ _ => rfl⟩

/-- Where the gift can be lowered: the closure. -/
theorem raiseEnd_any (L : Lay) (w : World) (F : Nat → Nat → Int) (X : Nat → Nat → Bool) (lf du : Nat → Int) (h : MV L w F X lf du) (qa qv qb : Addr) (b0 a0 : Nat) (hb0 : b0 < L.N) (ha0 : a0 < L.N) (h1 : w.cell? qa = some (.int .i64 a0)) (h2 : w.cell? qv = some (.pointer (some ⟨L.MB, 0, none⟩))) (h3 : w.cell? qb = some (.int .i64 b0)) (c : Nat) (hc : c < L.N) :
    Calls Try.prog 118 #[.int .i64 c, .pointer (some qa), .pointer (some qv), .pointer (some qb)] w fun e w' => e = .returned (.bool (endX (opB X) F b0 a0 c)) ∧ Below w.heap.size w w' := by
  have n16 := h.ok.n16
  have hop := fun n => isOpen_any L (w.drewN n) F X lf du (h.drewN n) b0 c hb0 hc
  have c0 := h.c0
  have c1 := h.fl b0 hb0
  have c2 := h.fr b0 c hb0 hc
  obtain ⟨V, hV⟩ : ∃ V, V = F b0 c := ⟨_, rfl⟩
  rw [← hV] at c2
  have HV := Lib.hid hV
  have hb0z : (b0 : Int) < (L.N : Int) := by omega
  have hcz : (c : Int) < (L.N : Int) := by omega
  by_cases e : c = a0
  · have hr : Hid (endX (opB X) F b0 a0 c = false) := Lib.hid (by simp [endX, e])
    have hne : ((c : Int) != (a0 : Int)) = decide (0 = 1) := by simp [e]
    clear e hop hV h
    go_enter Try.func118, Try.ntmps118
    go_wp2_with fail
    go_quiet (fail)
    all_goals go_wp2
    all_goals go_ret
    all_goals exact ⟨ret_bool hr.out.symm, belowN _ _⟩
  · have hne : ((c : Int) != (a0 : Int)) = decide (0 = 0) := by simp; omega
    cases ho : opB X b0 c
    · have hr : Hid (endX (opB X) F b0 a0 c = false) := Lib.hid (by simp [endX, ho])
      rw [ho] at hop
      have HOP := Lib.hid hop
      clear e hop hV h ho
      go_enter Try.func118, Try.ntmps118
      go_wp2_with fail
      go_quiet ((go_at_call 87; exact Calls.quiet_of_same ((HOP.out _).mono fun _ _ h => ⟨h.1, h.2.symm⟩)))
      all_goals go_wp2
      all_goals go_ret
      all_goals exact ⟨ret_bool hr.out.symm, belowN _ _⟩
    · have hr : Hid (endX (opB X) F b0 a0 c = decide (0 < V)) := Lib.hid (by simp [endX, ho, e, hV])
      rw [ho] at hop
      have HOP := Lib.hid hop
      clear e hop hV h ho
      go_enter Try.func118, Try.ntmps118
      go_wp2_with fail
      go_quiet ((go_at_call 87; exact Calls.quiet_of_same ((HOP.out _).mono fun _ _ h => ⟨h.1, h.2.symm⟩)))
      all_goals go_wp2
      all_goals go_ret
      all_goals exact ⟨ret_bool hr.out.symm, belowN _ _⟩

/-- Whether a place is an end: the closure on the list. -/
theorem openAt_any (w : World) (q : Addr) (g N cap : Nat) (E : Nat → Bool) (hq : w.cell? q = some (.slice (some ⟨g, 0, none⟩) N cap)) (hg : ∀ a, a < N → w.cell? ⟨g, a, none⟩ = some (.bool (E a))) (a : Nat) (ha : a < N) :
    Calls Try.prog 137 #[.int .i64 a, .pointer (some q)] w fun e w' => e = .returned (.bool (E a)) ∧ w = w' := by
  have c1 := hg a ha
  have haz : (a : Int) < (N : Int) := by omega
  obtain ⟨V, hV⟩ : ∃ V, V = E a := ⟨_, rfl⟩
  rw [← hV] at c1
  have HV := Lib.hid hV
  clear hV hg
  go_enter Try.func137, Try.ntmps137
  go_wp2
  go_ret
  exact ⟨ret_bool HV.out, rfl⟩

/-- Pairs of numbers, as cells. -/
def pv (ps : List (Nat × Nat)) : List Value := ps.flatMap fun p => [.int .i64 p.1, .int .i64 p.2]
theorem pv_len (ps : List (Nat × Nat)) : (pv ps).length = ps.length * 2 := by
  induction ps with
  | nil => rfl
  | cons p ps ih => simp only [pv, List.flatMap_cons, List.length_append, List.length_cons, List.length_nil] at ih ⊢; omega
theorem pv_snoc (ps : List (Nat × Nat)) (b a : Nat) : pv (ps ++ [(b, a)]) = pv ps ++ [.int .i64 b, .int .i64 a] := by simp [pv]
theorem pv_at (ps : List (Nat × Nat)) : ∀ (j : Nat) (p : Nat × Nat), ps[j]? = some p → (pv ps)[2 * j]? = some (.int .i64 p.1) ∧ (pv ps)[2 * j + 1]? = some (.int .i64 p.2) := by
  induction ps with
  | nil => intro j p h; simp at h
  | cons q ps ih =>
    intro j p h
    cases j with
    | zero => simp at h; subst h; exact ⟨rfl, rfl⟩
    | succ j =>
      obtain ⟨i1, i2⟩ := ih j p (by simpa using h)
      have e : pv (q :: ps) = .int .i64 q.1 :: .int .i64 q.2 :: pv ps := rfl
      rw [e, show 2 * (j + 1) = 2 * j + 1 + 1 by omega]
      exact ⟨by simpa using i1, by simpa using i2⟩

theorem Try.info2 : (Try.prog.info? 121).map (fun i => (i.zero, i.size, i.bytes)) = some (some (.agg #[.int .i64 0, .int .i64 0]), 2, 16) := by kernel_rfl

end Go.Proofs.Ytjmfjgoehicgcaa

/- A way that goes round: what is shut for it: the program. -/
set_option linter.unusedVariables false
set_option linter.unusedSimpArgs false
namespace Go.Proofs.Ytjmfjgoehicgcaa
open Go.RowKit

/-- All blocks of it lie below B. -/
structure Lay.Lt (L : Lay) (B : Nat) : Prop where
  m : L.MB < B
  f : L.FB < B
  x : L.XB < B
  l : L.LB < B
  d : L.DB < B
  r : ∀ i, i < L.N → L.r i < B
  z : ∀ i, i < L.N → L.x i < B

theorem MV.lts {L : Lay} {w : World} {F : Nat → Nat → Int} {X : Nat → Nat → Bool} {lf du : Nat → Int} (h : MV L w F X lf du) : L.Lt w.heap.size := by
  have n1 := h.ok.n1
  exact ⟨World.block_lt_of_cell? w _ h.c0, World.block_lt_of_cell? w _ (h.fl 0 n1), World.block_lt_of_cell? w _ (h.fx 0 n1), World.block_lt_of_cell? w _ (h.lc 0 n1), World.block_lt_of_cell? w _ (h.dc 0 n1), fun i hi => World.block_lt_of_cell? w _ (h.fr i 0 hi n1), fun i hi => World.block_lt_of_cell? w _ (h.xr i 0 hi n1)⟩
theorem Lay.Lt.mut {L : Lay} {B : Nat} (h : L.Lt B) {z : Nat} (hz : L.Mut z) : z < B := by
  rcases hz.2 with ⟨i, hi, rfl⟩ | ⟨i, hi, rfl⟩ | rfl | rfl
  · exact h.r i hi
  · exact h.z i hi
  · exact h.l
  · exact h.d

/-- Where all below B is the same, the moves are. -/
theorem MV.same {L : Lay} {w w' : World} {F : Nat → Nat → Int} {X : Nat → Nat → Bool} {lf du : Nat → Int} {B : Nat} (h : MV L w F X lf du) (hB : L.Lt B) (hs : ∀ z, z < B → w'.heap[z]? = w.heap[z]?) : MV L w' F X lf du := by
  have kc : ∀ {b o : Nat} {v : Value}, b < B → w.cell? ⟨b, o, none⟩ = some v → w'.cell? ⟨b, o, none⟩ = some v := fun hb hc => (World.cell?_of_block (w := w) (hs _ hb)).trans hc
  have kf : ∀ {b o : Nat}, b < B → w.frozen? ⟨b, o, none⟩ = false → w'.frozen? ⟨b, o, none⟩ = false := fun hb hc => (World.frozen?_of_block (w := w) (hs _ hb)).trans hc
  exact ⟨h.ok, kc hB.m h.c0, kc hB.m h.c1, kc hB.m h.c2, kc hB.m h.c3, fun i hi => kc hB.f (h.fl i hi), fun i hi => kc hB.x (h.fx i hi), fun b a hb ha => kc (hB.r b hb) (h.fr b a hb ha), fun b a hb ha => kc (hB.z b hb) (h.xr b a hb ha), fun i hi => kc hB.l (h.lc i hi), fun i hi => kc hB.d (h.dc i hi),
    fun b o hb => kf (hB.r b hb) (h.zr b o hb), fun b o hb => kf (hB.z b hb) (h.zx b o hb), fun o => kf hB.l (h.zl o), fun o => kf hB.d (h.zd o)⟩

def T2 : TypeId := 121

/-- The memory while a way round is looked for. -/
structure SH (L : Lay) (VB SB OB og oc : Nat) (E : Nat → Bool) (w wr : World) (F : Nat → Nat → Int) (X : Nat → Nat → Bool) (lf du : Nat → Int) (ps : List (Nat × Nat)) : Prop where
  mv : MV L wr F X lf du
  lt : L.Lt w.heap.size
  cv : wr.cell? ⟨VB, 0, none⟩ = some (.pointer (some ⟨L.MB, 0, none⟩))
  vs : ∃ v, wr.cell? ⟨SB, 0, none⟩ = some v ∧ wr.ownsRow w.heap.size T2 2 v ps.length (pv ps) ∧ v.ownBlock ≠ some VB ∧ v.ownBlock ≠ some SB ∧ v.ownBlock ≠ some OB ∧ v.ownBlock ≠ some og
  fs : wr.frozen? ⟨SB, 0, none⟩ = false
  co : wr.cell? ⟨OB, 0, none⟩ = some (.slice (some ⟨og, 0, none⟩) L.N oc)
  go : ∀ a, a < L.N → wr.cell? ⟨og, a, none⟩ = some (.bool (E a))
  bv : w.heap.size ≤ VB
  bs : w.heap.size ≤ SB
  bo : w.heap.size ≤ OB
  bg : w.heap.size ≤ og
  sv : SB ≠ VB
  so : SB ≠ OB
  sg : SB ≠ og
  ex : Ex L w.heap.size w wr

section
variable {L : Lay} {VB SB OB og oc : Nat} {E : Nat → Bool} {w wr wr' : World} {F : Nat → Nat → Int} {X : Nat → Nat → Bool} {lf du : Nat → Int} {ps : List (Nat × Nat)}
theorem SH.later (h : SH L VB SB OB og oc E w wr F X lf du ps) (hb : Below wr.heap.size wr wr') : SH L VB SB OB og oc E w wr' F X lf du ps := by
  obtain ⟨v, v1, v2, v3⟩ := h.vs
  exact ⟨h.mv.later hb, h.lt, cellKeep hb h.cv, ⟨v, cellKeep hb v1, ownsLater v2 hb, v3⟩, frozKeep hb (World.block_lt_of_cell? wr _ v1) h.fs, cellKeep hb h.co, fun a ha => cellKeep hb (h.go a ha), h.bv, h.bs, h.bo, h.bg, h.sv, h.so, h.sg, h.ex.trans (Ex.ofBelow (hb.mono h.ex.size))⟩

/-- One entry is fixed, or not. -/
theorem SH.setX (h : SH L VB SB OB og oc E w wr F X lf du ps) (b a : Nat) (hb : b < L.N) (ha : a < L.N) (v : Bool) : SH L VB SB OB og oc E w (wr.setCell ⟨L.x b, a, none⟩ (.bool v)) F (updX X b a v) lf du ps := by
  obtain ⟨u, v1, v2, v3⟩ := h.vs
  have hx := h.lt.z b hb
  have n1 := h.bv
  have n2 := h.bs
  have n3 := h.bo
  have n4 := h.bg
  have ne : ∀ z, w.heap.size ≤ z → (⟨L.x b, a, none⟩ : Addr).block ≠ z := fun z hz => by show L.x b ≠ z; omega
  exact ⟨h.mv.setX b a hb ha v, h.lt, cellOf h.cv (ne _ n1), ⟨u, cellOf v1 (ne _ n2), ownsSet v2 ⟨L.x b, a, none⟩ (fun e => by have := (World.ownsRow.lt v2 (L.x b) e).1; omega) _, v3⟩, by rw [World.frozen?_setCell]; exact h.fs, cellOf h.co (ne _ n3), fun a' ha' => cellOf (h.go a' ha') (ne _ n4), n1, n2, n3, n4, h.sv, h.so, h.sg, h.ex.setCell ⟨L.x b, a, none⟩ (.inr (h.mv.ok.mx hb)) _⟩

/-- A pair is put to the others. -/
theorem SH.put {w4 : World} {v : Value} {g cap : Nat} {b a : Nat} (h : SH L VB SB OB og oc E w wr F X lf du ps) (hv : wr.cell? ⟨SB, 0, none⟩ = some v) (hg : wr.grownBy w4 v.ownBlock) (ho : w4.ownsRow w.heap.size T2 2 (.slice (some ⟨g, 0, none⟩) (ps.length + 1) cap) (ps.length + 1) (pv (ps ++ [(b, a)])))
    (hl : v.ownBlock = some g ∨ g = wr.heap.size) : SH L VB SB OB og oc E w (w4.setCell ⟨SB, 0, none⟩ (.slice (some ⟨g, 0, none⟩) (ps.length + 1) cap)) F X lf du (ps ++ [(b, a)]) := by
  obtain ⟨u, v1, v2, v3, v4, v5, v6⟩ := h.vs
  rw [hv] at v1
  injection v1 with v1
  subst v1
  have lV := World.block_lt_of_cell? wr _ h.cv
  have lS := World.block_lt_of_cell? wr _ hv
  have lO := World.block_lt_of_cell? wr _ h.co
  have n1 := h.mv.ok.n1
  have lG := World.block_lt_of_cell? wr _ (h.go 0 n1)
  have gb := (World.ownsRow.lt ho g rfl).1
  have hne : ∀ z, z < wr.heap.size → v.ownBlock ≠ some z → g ≠ z := fun z hz h2 e => by
    rcases hl with hl | hl
    · exact h2 (by rw [hl, e])
    · omega
  have n2 := h.bs
  have hsame : ∀ z, z < w.heap.size → (w4.setCell ⟨SB, 0, none⟩ (.slice (some ⟨g, 0, none⟩) (ps.length + 1) cap)).heap[z]? = wr.heap[z]? := fun z hz => by
    rw [Below.heap_setCell _ _ _ _ (by show z ≠ SB; omega)]
    exact hg.block z (Nat.lt_of_lt_of_le hz h.ex.size) (fun e => by have := (World.ownsRow.lt v2 z e.symm).1; omega)
  refine ⟨h.mv.same h.lt hsame, h.lt, cellOf (farCell hg h.cv v3) h.sv, ⟨_, World.cell?_setCell_same _ _ _ (farCell hg hv v4), ?_, ?_, ?_, ?_, ?_⟩, by rw [World.frozen?_setCell]; exact farFroz hg lS h.fs v4, cellOf (farCell hg h.co v5) h.so, fun a' ha' => cellOf (farCell hg (h.go a' ha') v6) h.sg, h.bv, h.bs, h.bo, h.bg, h.sv, h.so, h.sg, ?_⟩
  · rw [show (ps ++ [(b, a)]).length = ps.length + 1 by simp]
    exact ownsSet ho ⟨SB, 0, none⟩ (fun e => hne SB lS v4 (by injection e)) _
  · exact fun e => hne VB lV v3 (by injection e)
  · exact fun e => hne SB lS v4 (by injection e)
  · exact fun e => hne OB lO v5 (by injection e)
  · exact fun e => hne og lG v6 (by injection e)
  · have e1 := h.ex.size
    have e2 := hg.size
    exact ⟨hg.os.trans h.ex.os, hg.tape.trans h.ex.tape, hg.output.trans h.ex.output, by simp; omega, fun z hz hm => (hsame z hz).trans (h.ex.block z hz hm)⟩
end

theorem news2 (w : World) (b a : Value) (t : TypeId) (H : Nat) (hH : w.heap.size = H) : ∀ j u, ([b, a] : List Value)[j]? = some u → (w.alloc (.cells #[b, a] t)).cell? ((⟨H, 0, none⟩ : Addr).add j) = some u := fun j u hu => by
  subst hH
  match j with
  | 0 => simp at hu; subst hu; rw [show (⟨w.heap.size, 0, none⟩ : Addr).add 0 = ⟨w.heap.size, 0, none⟩ by simp [Addr.add]]; exact newCell0 _ _ _ _
  | 1 => simp at hu; subst hu; rw [Addr.add_lit]; exact newCell1 _ _ _ _
  | j + 2 => simp at hu

set_option maxHeartbeats 4000000 in
set_option maxRecDepth 100000 in
theorem shut_any (L : Lay) (VB SB OB og oc : Nat) (E : Nat → Bool) (w wr : World) (F : Nat → Nat → Int) (X : Nat → Nat → Bool) (lf du : Nat → Int) (ps : List (Nat × Nat)) (h : SH L VB SB OB og oc E w wr F X lf du ps) (hps : ps.length ≤ 600) (b a : Nat) (hb : b < L.N) (ha : a < L.N) :
    Calls Try.prog 136 #[.int .i64 b, .int .i64 a, .pointer (some ⟨VB, 0, none⟩), .pointer (some ⟨SB, 0, none⟩)] wr fun e w' => e = .returned (.tuple #[]) ∧
      ((X b a = true ∧ w' = wr) ∨ (X b a = false ∧ SH L VB SB OB og oc E w w' F (updX X b a true) lf du (ps ++ [(b, a)]))) := by
  have n16 := h.mv.ok.n16
  have c0 := h.cv
  have c1 := h.mv.c1
  have c2 := h.mv.fx b hb
  have c3 := h.mv.xr b a hb ha
  have z3 := h.mv.zx b a hb
  have hbz : (b : Int) < (L.N : Int) := by omega
  have haz : (a : Int) < (L.N : Int) := by omega
  have HH := Lib.hid h
  clear h
  cases hx : X b a
  rotate_left
  · rw [hx] at c3
    clear hx
    go_enter Try.func136, Try.ntmps136
    go_wp2
    go_end0
    exact ⟨by first | trivial | rfl, .inl ⟨by first | trivial | rfl, rfl⟩⟩
  · rw [hx] at c3
    clear hx
    have HX1 := Lib.hid (HH.out.setX b a hb ha true)
    obtain ⟨v, v1, v2, v3⟩ := HX1.out.vs
    have hfs := HX1.out.fs
    have hsv := HX1.out.bs
    have hxl := HX1.out.lt.z b hb
    have nS : ⟨SB, 0, none⟩ ≠ (⟨L.x b, a, none⟩ : Addr) := fun e => by injection e with e; omega
    have HV := Lib.hid (And.intro v1 (And.intro v2 v3))
    have vc : wr.cell? ⟨SB, 0, none⟩ = some v := by
      have e := v1
      rw [World.cell?_setCell_other _ _ _ _ (fun e => nS e.symm)] at e
      exact e
    have c0' := HX1.out.cv
    obtain ⟨wA, hwA⟩ : ∃ x, x = wr.setCell ⟨L.x b, a, none⟩ (.bool true) := ⟨_, rfl⟩
    have HWA := Lib.hid hwA
    obtain ⟨i0, hi, hz0, hz1, hz2⟩ := info_parts Try.info2
    have HII : Hid (∃ i, Try.prog.info? 121 = some i ∧ i.zero = some (.agg #[.int .i64 0, .int .i64 0]) ∧ i.size = 2 ∧ i.bytes = 16) := Lib.hid ⟨i0, hi, hz0, hz1, hz2⟩
    obtain ⟨i1, HI1⟩ := HII.out
    have HII := Lib.hid HI1
    clear HI1 hi hz0 hz1 hz2
    clear v1 v2 v3 hwA
    go_enter Try.func136, Try.ntmps136
    go_wp2_with (at_builtin; refine wpList_append_lies _ rfl _ _ 120 rfl w.heap.size 121 i1 (.agg #[.int .i64 0, .int .i64 0]) 2 16 Try.underlying120 HII.out.1 HII.out.2.1 HII.out.2.2.1 HII.out.2.2.2 rfl (by decide) v ps.length (pv ps) (by rfl) (ownsLater HV.out.2.1 (belowAlloc _ _)) ⟨wr.heap.size, 0, none⟩ 1 1 [.int .i64 b, .int .i64 a] (by rfl) rfl (news2 _ _ _ _ _ (by simp)) (by simp [Value.oneCell']) (by decide) (by unfold maxLen; omega) (by omega) (by have := HX1.out.ex.size; simp at this ⊢; omega) _ rfl ?_)
    intro g cap w4 ow hg hl hlt
    have hbA := belowAlloc (wr.setCell ⟨L.x b, a, none⟩ (.bool true)) (.cells #[.int .i64 b, .int .i64 a] 121)
    have HS2 := Lib.hid ((HX1.out.later hbA).put (cellKeep hbA HV.out.1) hg (by rw [pv_snoc]; exact ow) (by simpa using hl))
    have u1 := farCell hg (cellKeep hbA HV.out.1) HV.out.2.2.2.1
    have u2 := farFroz hg (by have := World.block_lt_of_cell? _ _ HV.out.1; simp at this ⊢; omega) (frozKeep hbA (World.block_lt_of_cell? _ _ HV.out.1) hfs) HV.out.2.2.2.1
    clear c0 c1 c2 c3 z3 vc c0' hfs hg ow hl hlt hbA
    go_wp2
    go_end0
    exact ⟨by first | trivial | rfl, HS2.out⟩

end Go.Proofs.Ytjmfjgoehicgcaa
