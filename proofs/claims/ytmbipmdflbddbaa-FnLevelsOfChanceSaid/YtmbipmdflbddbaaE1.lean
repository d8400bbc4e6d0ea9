/- What the program exports over its own parts, and the laws' comparison of masses. -/
import Derived.Test.YtmbipmdflbddbaaV9
import Derived.Test.YtmbipmdflbddbaaT5
set_option linter.unusedVariables false
set_option linter.unusedSimpArgs false
namespace Go.Proofs.Ytmbipmdflbddbaa
open Go.RowKit

/-- The sum of all parts, or -1. -/
def whS (s : Int) (xs : List Int) : Int := if massB s xs = true then sumL xs else -1
/-- What a set is implied by, believed by, possible by; or -1. -/
def imR (s : Int) (xs : List Int) (a : Int) : Int := if msB s xs a = true then imS a.toNat xs else -1
def blR (s : Int) (xs : List Int) (a : Int) : Int := if msB s xs a = true then imS a.toNat xs - nth xs 0 else -1
def psR (s : Int) (xs : List Int) (a : Int) : Int := if msB s xs a = true then possS a.toNat xs else -1

theorem imS_bd1 (a : Nat) {s : Int} {xs : List Int} (h : MassOk s xs) : 0 ≤ imS a xs ∧ imS a xs ≤ 16000000 := imS_bd a h

set_option maxHeartbeats 1000000 in
theorem iWholeOf_any (s : Int) (p : Option Addr) (c : Nat) (xs : List Int) (w : World) (hx : Reads w p xs) (hxm : xs.length ≤ 1048576) :
    Calls Try.prog 22 #[.agg #[.int .i64 s, .slice p xs.length c]] w fun e w' => e = .returned (.int .i64 (whS s xs)) ∧ Below w.heap.size w w' := by
  obtain ⟨W, hW⟩ : ∃ W : World, W = (w.alloc (.cells #[.int .i64 s, .slice p xs.length c] 24)) := ⟨_, rfl⟩
  have bW : Below w.heap.size w W := by subst hW; exact (belowAlloc _ _)
  have hsz : W.heap.size = w.heap.size + 1 := by subst hW; simp
  have b0 : VarInv W (w.heap.size) (s) (.slice p xs.length c) := by
    subst hW
    have h := VarInv.made w (s) (.slice p xs.length c) 24
    exact h
  have HWW := Lib.hid hW
  have HSZ := Lib.hid hsz
  clear hW hsz
  cases h1 : massB s xs
  · have hr : Hid (whS s xs = -1) := Lib.hid (by simp [whS, h1])
    go_enter Try.func22, Try.ntmps22
    go_wp2_with fail
    rw [← HWW.out]
    refine (isMass_any _ _ _ _ _ (hx.below bW) hxm).mono ?_
    rintro e w1 ⟨rfl, hb⟩
    replace b0 := b0.later hb
    have b0_0 := b0.c0
    have b0_1 := b0.c1
    replace bW := bW.thenB hb
    have z1 := hb.size
    clear hb
    go_wp2
    go_ret
    exact ⟨ret_int hr.out.symm, bW⟩
  · have hr : Hid (whS s xs = sumL xs) := Lib.hid (by simp [whS, h1])
    have hal := (massB_ok h1).all
    go_enter Try.func22, Try.ntmps22
    go_wp2_with fail
    rw [← HWW.out]
    refine (isMass_any _ _ _ _ _ (hx.below bW) hxm).mono ?_
    rintro e w1 ⟨rfl, hb⟩
    replace b0 := b0.later hb
    have b0_0 := b0.c0
    have b0_1 := b0.c1
    replace bW := bW.thenB hb
    have z1 := hb.size
    clear hb
    go_wp2_with fail
    refine (wholeOf_any _ _ _ _ _ (hx.below bW) hxm hal).mono ?_
    rintro e w2 ⟨rfl, hb⟩
    clear b0_0 b0_1
    replace b0 := b0.later hb
    have b0_0 := b0.c0
    have b0_1 := b0.c1
    replace bW := bW.thenB hb
    have z2 := hb.size
    clear hb
    go_wp2
    go_ret
    exact ⟨ret_int hr.out.symm, bW⟩

set_option maxHeartbeats 1000000 in
theorem iIsNormal_any (s : Int) (p : Option Addr) (c : Nat) (xs : List Int) (w : World) (hx : Reads w p xs) (hxm : xs.length ≤ 1048576) :
    Calls Try.prog 32 #[.agg #[.int .i64 s, .slice p xs.length c]] w fun e w' => e = .returned (.bool (normB s xs)) ∧ Below w.heap.size w w' := by
  obtain ⟨W, hW⟩ : ∃ W : World, W = (w.alloc (.cells #[.int .i64 s, .slice p xs.length c] 24)) := ⟨_, rfl⟩
  have bW : Below w.heap.size w W := by subst hW; exact (belowAlloc _ _)
  have hsz : W.heap.size = w.heap.size + 1 := by subst hW; simp
  have b0 : VarInv W (w.heap.size) (s) (.slice p xs.length c) := by
    subst hW
    have h := VarInv.made w (s) (.slice p xs.length c) 24
    exact h
  have HWW := Lib.hid hW
  have HSZ := Lib.hid hsz
  clear hW hsz
  go_enter Try.func32, Try.ntmps32
  go_wp2_with fail
  rw [← HWW.out]
  refine (isNormal_any _ _ _ _ _ (hx.below bW) hxm).mono ?_
  rintro e w1 ⟨rfl, hb⟩
  replace b0 := b0.later hb
  have b0_0 := b0.c0
  have b0_1 := b0.c1
  replace bW := bW.thenB hb
  have z1 := hb.size
  clear hb
  go_wp2
  go_ret
  exact ⟨rfl, bW⟩

set_option maxHeartbeats 1000000 in
theorem iPossiblePart_any (s : Int) (p : Option Addr) (c : Nat) (xs : List Int) (a : Int) (w : World) (hx : Reads w p xs) (hxm : xs.length ≤ 1048576) :
    Calls Try.prog 45 #[.agg #[.int .i64 s, .slice p xs.length c], .int .i64 a] w fun e w' => e = .returned (.int .i64 (psR s xs a)) ∧ Below w.heap.size w w' := by
  obtain ⟨W, hW⟩ : ∃ W : World, W = (w.alloc (.cells #[.int .i64 s, .slice p xs.length c] 24)) := ⟨_, rfl⟩
  have bW : Below w.heap.size w W := by subst hW; exact (belowAlloc _ _)
  have hsz : W.heap.size = w.heap.size + 1 := by subst hW; simp
  have b0 : VarInv W (w.heap.size) (s) (.slice p xs.length c) := by
    subst hW
    have h := VarInv.made w (s) (.slice p xs.length c) 24
    exact h
  have HWW := Lib.hid hW
  have HSZ := Lib.hid hsz
  clear hW hsz
  cases h1 : massB s xs
  · have hr : Hid (psR s xs a = -1) := Lib.hid (by simp [psR, msB, h1])
    go_enter Try.func45, Try.ntmps45
    go_wp2_with fail
    rw [← HWW.out]
    refine (isMass_any _ _ _ _ _ (hx.below bW) hxm).mono ?_
    rintro e w1 ⟨rfl, hb⟩
    replace b0 := b0.later hb
    have b0_0 := b0.c0
    have b0_1 := b0.c1
    replace bW := bW.thenB hb
    have z1 := hb.size
    clear hb
    go_wp2
    go_ret
    exact ⟨ret_int hr.out.symm, bW⟩
  · have hk := massB_ok h1
    have k1 := hk.s1
    have k4 := hk.s4
    cases h2 : setB s a
    · have hr : Hid (psR s xs a = -1) := Lib.hid (by simp [psR, msB, h2])
      go_enter Try.func45, Try.ntmps45
      go_wp2_with fail
      rw [← HWW.out]
      refine (isMass_any _ _ _ _ _ (hx.below bW) hxm).mono ?_
      rintro e w1 ⟨rfl, hb⟩
      replace b0 := b0.later hb
      have b0_0 := b0.c0
      have b0_1 := b0.c1
      replace bW := bW.thenB hb
      have z1 := hb.size
      clear hb
      go_wp2_with fail
      refine (isSetOf_any _ _ _ k1 k4).mono ?_
      rintro e w' ⟨rfl, rfl⟩
      go_wp2
      go_ret
      exact ⟨ret_int hr.out.symm, bW⟩
    · obtain ⟨na, rfl, ha16, _⟩ := setB_nat k1 k4 h2
      have hr : Hid (psR s xs (na : Int) = possS na xs) := Lib.hid (by simp [psR, msB, h1, h2])
      have hx16 := hk.l16
      have hal := hk.all
      go_enter Try.func45, Try.ntmps45
      go_wp2_with fail
      rw [← HWW.out]
      refine (isMass_any _ _ _ _ _ (hx.below bW) hxm).mono ?_
      rintro e w1 ⟨rfl, hb⟩
      replace b0 := b0.later hb
      have b0_0 := b0.c0
      have b0_1 := b0.c1
      replace bW := bW.thenB hb
      have z1 := hb.size
      clear hb
      go_wp2_with fail
      refine (isSetOf_any _ _ _ k1 k4).mono ?_
      rintro e w' ⟨rfl, rfl⟩
      go_wp2_with fail
      refine (iPoss_any _ _ _ _ na _ (hx.below bW) hx16 (by omega) hal).mono ?_
      rintro e w2 ⟨rfl, hb⟩
      clear b0_0 b0_1
      replace b0 := b0.later hb
      have b0_0 := b0.c0
      have b0_1 := b0.c1
      replace bW := bW.thenB hb
      have z2 := hb.size
      clear hb
      go_wp2
      go_ret
      exact ⟨ret_int hr.out.symm, bW⟩

set_option maxHeartbeats 1000000 in
theorem iBelievedPart_any (s : Int) (p : Option Addr) (c : Nat) (xs : List Int) (a : Int) (w : World) (hx : Reads w p xs) (hxm : xs.length ≤ 1048576) :
    Calls Try.prog 46 #[.agg #[.int .i64 s, .slice p xs.length c], .int .i64 a] w fun e w' => e = .returned (.int .i64 (blR s xs a)) ∧ Below w.heap.size w w' := by
  obtain ⟨W, hW⟩ : ∃ W : World, W = (w.alloc (.cells #[.int .i64 s, .slice p xs.length c] 24)) := ⟨_, rfl⟩
  have bW : Below w.heap.size w W := by subst hW; exact (belowAlloc _ _)
  have hsz : W.heap.size = w.heap.size + 1 := by subst hW; simp
  have b0 : VarInv W (w.heap.size) (s) (.slice p xs.length c) := by
    subst hW
    have h := VarInv.made w (s) (.slice p xs.length c) 24
    exact h
  have HWW := Lib.hid hW
  have HSZ := Lib.hid hsz
  clear hW hsz
  cases h1 : massB s xs
  · have hr : Hid (blR s xs a = -1) := Lib.hid (by simp [blR, msB, h1])
    go_enter Try.func46, Try.ntmps46
    go_wp2_with fail
    rw [← HWW.out]
    refine (isMass_any _ _ _ _ _ (hx.below bW) hxm).mono ?_
    rintro e w1 ⟨rfl, hb⟩
    replace b0 := b0.later hb
    have b0_0 := b0.c0
    have b0_1 := b0.c1
    replace bW := bW.thenB hb
    have z1 := hb.size
    clear hb
    go_wp2
    go_ret
    exact ⟨ret_int hr.out.symm, bW⟩
  · have hk := massB_ok h1
    have k1 := hk.s1
    have k4 := hk.s4
    cases h2 : setB s a
    · have hr : Hid (blR s xs a = -1) := Lib.hid (by simp [blR, msB, h2])
      go_enter Try.func46, Try.ntmps46
      go_wp2_with fail
      rw [← HWW.out]
      refine (isMass_any _ _ _ _ _ (hx.below bW) hxm).mono ?_
      rintro e w1 ⟨rfl, hb⟩
      replace b0 := b0.later hb
      have b0_0 := b0.c0
      have b0_1 := b0.c1
      replace bW := bW.thenB hb
      have z1 := hb.size
      clear hb
      go_wp2_with fail
      refine (isSetOf_any _ _ _ k1 k4).mono ?_
      rintro e w' ⟨rfl, rfl⟩
      go_wp2
      go_ret
      exact ⟨ret_int hr.out.symm, bW⟩
    · obtain ⟨na, rfl, ha16, _⟩ := setB_nat k1 k4 h2
      have hr : Hid (blR s xs (na : Int) = imS na xs - nth xs 0) := Lib.hid (by simp [blR, msB, h1, h2])
      have hx16 := hk.l16
      have hal := hk.all
      go_enter Try.func46, Try.ntmps46
      go_wp2_with fail
      rw [← HWW.out]
      refine (isMass_any _ _ _ _ _ (hx.below bW) hxm).mono ?_
      rintro e w1 ⟨rfl, hb⟩
      replace b0 := b0.later hb
      have b0_0 := b0.c0
      have b0_1 := b0.c1
      replace bW := bW.thenB hb
      have z1 := hb.size
      clear hb
      go_wp2_with fail
      refine (isSetOf_any _ _ _ k1 k4).mono ?_
      rintro e w' ⟨rfl, rfl⟩
      have hlen : 0 < xs.length := by have := hk.len; have := pow2_bd s k1 k4; omega
      obtain ⟨u1, u2⟩ := imS_bd na hk
      obtain ⟨u3, u4⟩ := allB_nth hal 0 hlen
      have hx2 := hx.below bW
      obtain ⟨blk, off, rfl, hbl, hc⟩ := hx2 0 hlen
      simp only [Nat.add_zero] at hc hbl
      have l0 : w.heap.size < w1.heap.size := World.block_lt_of_cell? _ _ b0_0
      have q0 := fun x : LaterW w1.heap.size w1 => x.cell l0 b0_0
      have q1 := fun x : LaterW w1.heap.size w1 => x.cell l0 b0_1
      have q2 := fun x : LaterW w1.heap.size w1 => x.cell hbl hc
      have hwr : IntKind.i64.wrap (imS na xs - nth xs 0) = imS na xs - nth xs 0 := IntWalk.i64_in _ (by omega)
      go_wp2
      refine wp_region_later (by kernel_rfl) (by kernel_rfl) ?_
      repeat (go_big_quiet_step ((go_at_call 89; exact LaterW.call (iImpl_any _ _ _ _ na _ (LaterW.reads _ (by assumption)) hx16 ha16 hal))))
      refine wpQuiet_nil ?_
      intro _ hw'
      obtain ⟨x, rfl⟩ := hw'
      have hbx := bW.thenB x.below
      clear q0 q1 q2
      go_wp2
      go_ret
      exact ⟨ret_int hr.out.symm, hbx⟩

set_option maxHeartbeats 1000000 in
/-- Equal masses compare as equal. -/
theorem weEqual_any (s t : Int) (p q : Option Addr) (c d : Nat) (xs ys : List Int) (w : World) (hx : Reads w p xs) (hy : Reads w q ys) (hxm : xs.length ≤ 1048576) (hym : ys.length ≤ 1048576) :
    Calls Try.prog 33 #[.agg #[.int .i64 s, .slice p xs.length c], .agg #[.int .i64 t, .slice q ys.length d]] w fun e w' => e = .returned (.bool (decide (s = t) && sameB xs ys)) ∧ Below w.heap.size w w' := by
  obtain ⟨W, hW⟩ : ∃ W : World, W = ((w.alloc (.cells #[.int .i64 s, .slice p xs.length c] 24)).alloc (.cells #[.int .i64 t, .slice q ys.length d] 24)) := ⟨_, rfl⟩
  have bW : Below w.heap.size w W := by subst hW; exact ((belowAlloc _ _).thenB (belowAlloc _ _))
  have hsz : W.heap.size = w.heap.size + 2 := by subst hW; simp
  have b0 : VarInv W (w.heap.size) (s) (.slice p xs.length c) := by
    subst hW
    have h := VarInv.made w (s) (.slice p xs.length c) 24
    exact (h.later (belowAlloc _ _))
  have b1 : VarInv W (w.heap.size + 1) (t) (.slice q ys.length d) := by
    subst hW
    have h := VarInv.made (w.alloc (.cells #[.int .i64 s, .slice p xs.length c] 24)) (t) (.slice q ys.length d) 24
    rw [show (w.alloc (.cells #[.int .i64 s, .slice p xs.length c] 24)).heap.size = w.heap.size + 1 by simp] at h
    exact h
  have HWW := Lib.hid hW
  have HSZ := Lib.hid hsz
  clear hW hsz
  by_cases h : s = t
  · subst h
    have hr : Hid ((decide (s = s) && sameB xs ys) = sameB xs ys) := Lib.hid (by simp)
    have b0_0 := b0.c0
    have b0_1 := b0.c1
    have b1_0 := b1.c0
    have b1_1 := b1.c1
    go_enter Try.func33, Try.ntmps33
    go_wp2_with fail
    rw [← HWW.out]
    refine (weSame_any _ _ _ _ _ _ _ (hx.below bW) (hy.below bW) hxm hym).mono ?_
    rintro e w1 ⟨rfl, hb⟩
    clear b0_0 b0_1 b1_0 b1_1
    replace b0 := b0.later hb
    have b0_0 := b0.c0
    have b0_1 := b0.c1
    replace b1 := b1.later hb
    have b1_0 := b1.c0
    have b1_1 := b1.c1
    replace bW := bW.thenB hb
    have z1 := hb.size
    clear hb
    go_wp2
    go_ret
    exact ⟨ret_bool hr.out.symm, bW⟩
  · have hr : Hid ((decide (s = t) && sameB xs ys) = false) := Lib.hid (by simp [h])
    have hne : (s == t) = false := by simpa using h
    have b0_0 := b0.c0
    have b0_1 := b0.c1
    have b1_0 := b1.c0
    have b1_1 := b1.c1
    go_enter Try.func33, Try.ntmps33
    go_wp2_with fail
    rw [← HWW.out]
    go_wp2
    go_ret
    exact ⟨ret_bool hr.out.symm, bW⟩

theorem weEqual_same (s t : Int) (p q : Option Addr) (c d n m : Nat) (xs ys : List Int) (hs : s = t) (h : xs = ys) (hn : xs.length = n) (hm : ys.length = m) (w : World) (hx : Reads w p xs) (hy : Reads w q ys) (hxm : n ≤ 1048576) :
    Calls Try.prog 33 #[.agg #[.int .i64 s, .slice p n c], .agg #[.int .i64 t, .slice q m d]] w fun e w' => e = .returned (.bool true) ∧ Below w.heap.size w w' := by
  subst hs h hn hm
  refine (weEqual_any s s p q c d xs xs w hx hy hxm hxm).mono ?_
  rintro e w' ⟨h, hb⟩
  exact ⟨by rw [h, sameB_self]; simp, hb⟩

end Go.Proofs.Ytmbipmdflbddbaa
