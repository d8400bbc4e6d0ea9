/- What the program exports over its own parts, and the laws' comparison of masses. -/
import Derived.Test.YtjmfjgoehicgcaaV9
import Derived.Test.YtjmfjgoehicgcaaT5
set_option linter.unusedVariables false
set_option linter.unusedSimpArgs false
namespace Go.Proofs.Ytjmfjgoehicgcaa
open Go.RowKit

/-- The sum of all parts, or -1. -/
def whS (s : Int) (xs : List Int) : Int := if massB s xs = true then sumL xs else -1
/-- What a set is implied by, believed by, possible by; or -1. -/
def imR (s : Int) (xs : List Int) (a : Int) : Int := if msB s xs a = true then imS a.toNat xs else -1
def blR (s : Int) (xs : List Int) (a : Int) : Int := if msB s xs a = true then imS a.toNat xs - nth xs 0 else -1
def psR (s : Int) (xs : List Int) (a : Int) : Int := if msB s xs a = true then possS a.toNat xs else -1

theorem imS_bd1 (a : Nat) {s : Int} {xs : List Int} (h : MassOk s xs) : 0 ≤ imS a xs ∧ imS a xs ≤ 16000000 := imS_bd a h

set_option maxHeartbeats 1000000 in
theorem iWholeOf_any (s : Int) (p : Option Addr) (c : Nat) (xs : List Int) (w : World) (hx : Reads w p xs) (hxm : xs.length ≤ 1048576) :
    Calls Try.prog 32 #[.agg #[.int .i64 s, .slice p xs.length c]] w fun e w' => e = .returned (.int .i64 (whS s xs)) ∧ Below w.heap.size w w' := by
  obtain ⟨W, hW⟩ : ∃ W : World, W = (w.alloc (.cells #[.int .i64 s, .slice p xs.length c] 27)) := ⟨_, rfl⟩
  have bW : Below w.heap.size w W := by subst hW; exact (belowAlloc _ _)
  have hsz : W.heap.size = w.heap.size + 1 := by subst hW; simp
  have b0 : VarInv W (w.heap.size) (s) (.slice p xs.length c) := by
    subst hW
    have h := VarInv.made w (s) (.slice p xs.length c) 27
    exact h
  have HWW := Lib.hid hW
  have HSZ := Lib.hid hsz
  clear hW hsz
  cases h1 : massB s xs
  · have hr : Hid (whS s xs = -1) := Lib.hid (by simp [whS, h1])
    go_enter Try.func32, Try.ntmps32
    go_wp2_with fail
    rw [← HWW.out]
    refine (isMass_any _ _ _ _ _ (hx.below bW) hxm).mono ?_
    rintro e w1 ⟨rfl, hb⟩
    replace b0 := b0.later hb
    have b0_0 := b0.c0
    have b0_1 := b0.c1
    replace bW := bW.thenB hb
    have z1 := hb.size
    clear hb
    go_wp2
    go_ret
    exact ⟨ret_int hr.out.symm, bW⟩
  · have hr : Hid (whS s xs = sumL xs) := Lib.hid (by simp [whS, h1])
    have hal := (massB_ok h1).all
    go_enter Try.func32, Try.ntmps32
    go_wp2_with fail
    rw [← HWW.out]
    refine (isMass_any _ _ _ _ _ (hx.below bW) hxm).mono ?_
    rintro e w1 ⟨rfl, hb⟩
    replace b0 := b0.later hb
    have b0_0 := b0.c0
    have b0_1 := b0.c1
    replace bW := bW.thenB hb
    have z1 := hb.size
    clear hb
    go_wp2_with fail
    refine (wholeOf_any _ _ _ _ _ (hx.below bW) hxm hal).mono ?_
    rintro e w2 ⟨rfl, hb⟩
    clear b0_0 b0_1
    replace b0 := b0.later hb
    have b0_0 := b0.c0
    have b0_1 := b0.c1
    replace bW := bW.thenB hb
    have z2 := hb.size
    clear hb
    go_wp2
    go_ret
    exact ⟨ret_int hr.out.symm, bW⟩

set_option maxHeartbeats 1000000 in
theorem iMassValid_any (s : Int) (p : Option Addr) (c : Nat) (xs : List Int) (w : World) (hx : Reads w p xs) (hxm : xs.length ≤ 1048576) :
    Calls Try.prog 30 #[.agg #[.int .i64 s, .slice p xs.length c]] w fun e w' => e = .returned (.bool (massB s xs)) ∧ Below w.heap.size w w' := by
  obtain ⟨W, hW⟩ : ∃ W : World, W = (w.alloc (.cells #[.int .i64 s, .slice p xs.length c] 27)) := ⟨_, rfl⟩
  have bW : Below w.heap.size w W := by subst hW; exact (belowAlloc _ _)
  have hsz : W.heap.size = w.heap.size + 1 := by subst hW; simp
  have b0 : VarInv W (w.heap.size) (s) (.slice p xs.length c) := by
    subst hW
    have h := VarInv.made w (s) (.slice p xs.length c) 27
    exact h
  have HWW := Lib.hid hW
  have HSZ := Lib.hid hsz
  clear hW hsz
  go_enter Try.func30, Try.ntmps30
  go_wp2_with fail
  rw [← HWW.out]
  refine (isMass_any _ _ _ _ _ (hx.below bW) hxm).mono ?_
  rintro e w1 ⟨rfl, hb⟩
  replace b0 := b0.later hb
  have b0_0 := b0.c0
  have b0_1 := b0.c1
  replace bW := bW.thenB hb
  have z1 := hb.size
  clear hb
  go_wp2
  go_ret
  exact ⟨rfl, bW⟩

set_option maxHeartbeats 1000000 in
theorem iImpliedPart_any (s : Int) (p : Option Addr) (c : Nat) (xs : List Int) (a : Int) (w : World) (hx : Reads w p xs) (hxm : xs.length ≤ 1048576) :
    Calls Try.prog 31 #[.agg #[.int .i64 s, .slice p xs.length c], .int .i64 a] w fun e w' => e = .returned (.int .i64 (imR s xs a)) ∧ Below w.heap.size w w' := by
  obtain ⟨W, hW⟩ : ∃ W : World, W = (w.alloc (.cells #[.int .i64 s, .slice p xs.length c] 27)) := ⟨_, rfl⟩
  have bW : Below w.heap.size w W := by subst hW; exact (belowAlloc _ _)
  have hsz : W.heap.size = w.heap.size + 1 := by subst hW; simp
  have b0 : VarInv W (w.heap.size) (s) (.slice p xs.length c) := by
    subst hW
    have h := VarInv.made w (s) (.slice p xs.length c) 27
    exact h
  have HWW := Lib.hid hW
  have HSZ := Lib.hid hsz
  clear hW hsz
  cases h1 : massB s xs
  · have hr : Hid (imR s xs a = -1) := Lib.hid (by simp [imR, msB, h1])
    go_enter Try.func31, Try.ntmps31
    go_wp2_with fail
    rw [← HWW.out]
    refine (isMass_any _ _ _ _ _ (hx.below bW) hxm).mono ?_
    rintro e w1 ⟨rfl, hb⟩
    replace b0 := b0.later hb
    have b0_0 := b0.c0
    have b0_1 := b0.c1
    replace bW := bW.thenB hb
    have z1 := hb.size
    clear hb
    go_wp2
    go_ret
    exact ⟨ret_int hr.out.symm, bW⟩
  · have hk := massB_ok h1
    have k1 := hk.s1
    have k4 := hk.s4
    cases h2 : setB s a
    · have hr : Hid (imR s xs a = -1) := Lib.hid (by simp [imR, msB, h2])
      go_enter Try.func31, Try.ntmps31
      go_wp2_with fail
      rw [← HWW.out]
      refine (isMass_any _ _ _ _ _ (hx.below bW) hxm).mono ?_
      rintro e w1 ⟨rfl, hb⟩
      replace b0 := b0.later hb
      have b0_0 := b0.c0
      have b0_1 := b0.c1
      replace bW := bW.thenB hb
      have z1 := hb.size
      clear hb
      go_wp2_with fail
      refine (isSetOf_any _ _ _ k1 k4).mono ?_
      rintro e w' ⟨rfl, rfl⟩
      go_wp2
      go_ret
      exact ⟨ret_int hr.out.symm, bW⟩
    · obtain ⟨na, rfl, ha16, _⟩ := setB_nat k1 k4 h2
      have hr : Hid (imR s xs (na : Int) = imS na xs) := Lib.hid (by simp [imR, msB, h1, h2])
      have hx16 := hk.l16
      have hal := hk.all
      go_enter Try.func31, Try.ntmps31
      go_wp2_with fail
      rw [← HWW.out]
      refine (isMass_any _ _ _ _ _ (hx.below bW) hxm).mono ?_
      rintro e w1 ⟨rfl, hb⟩
      replace b0 := b0.later hb
      have b0_0 := b0.c0
      have b0_1 := b0.c1
      replace bW := bW.thenB hb
      have z1 := hb.size
      clear hb
      go_wp2_with fail
      refine (isSetOf_any _ _ _ k1 k4).mono ?_
      rintro e w' ⟨rfl, rfl⟩
      go_wp2_with fail
      refine (iImpl_any _ _ _ _ na _ (hx.below bW) hx16 (by omega) hal).mono ?_
      rintro e w2 ⟨rfl, hb⟩
      clear b0_0 b0_1
      replace b0 := b0.later hb
      have b0_0 := b0.c0
      have b0_1 := b0.c1
      replace bW := bW.thenB hb
      have z2 := hb.size
      clear hb
      go_wp2
      go_ret
      exact ⟨ret_int hr.out.symm, bW⟩

set_option maxHeartbeats 1000000 in
/-- Equal masses compare as equal. -/
theorem weEqual_any (s t : Int) (p q : Option Addr) (c d : Nat) (xs ys : List Int) (w : World) (hx : Reads w p xs) (hy : Reads w q ys) (hxm : xs.length ≤ 1048576) (hym : ys.length ≤ 1048576) :
    Calls Try.prog 19 #[.agg #[.int .i64 s, .slice p xs.length c], .agg #[.int .i64 t, .slice q ys.length d]] w fun e w' => e = .returned (.bool (decide (s = t) && sameB xs ys)) ∧ Below w.heap.size w w' := by
  obtain ⟨W, hW⟩ : ∃ W : World, W = ((w.alloc (.cells #[.int .i64 s, .slice p xs.length c] 27)).alloc (.cells #[.int .i64 t, .slice q ys.length d] 27)) := ⟨_, rfl⟩
  have bW : Below w.heap.size w W := by subst hW; exact ((belowAlloc _ _).thenB (belowAlloc _ _))
  have hsz : W.heap.size = w.heap.size + 2 := by subst hW; simp
  have b0 : VarInv W (w.heap.size) (s) (.slice p xs.length c) := by
    subst hW
    have h := VarInv.made w (s) (.slice p xs.length c) 27
    exact (h.later (belowAlloc _ _))
  have b1 : VarInv W (w.heap.size + 1) (t) (.slice q ys.length d) := by
    subst hW
    have h := VarInv.made (w.alloc (.cells #[.int .i64 s, .slice p xs.length c] 27)) (t) (.slice q ys.length d) 27
    rw [show (w.alloc (.cells #[.int .i64 s, .slice p xs.length c] 27)).heap.size = w.heap.size + 1 by simp] at h
    exact h
  have HWW := Lib.hid hW
  have HSZ := Lib.hid hsz
  clear hW hsz
  by_cases h : s = t
  · subst h
    have hr : Hid ((decide (s = s) && sameB xs ys) = sameB xs ys) := Lib.hid (by simp)
    have b0_0 := b0.c0
    have b0_1 := b0.c1
    have b1_0 := b1.c0
    have b1_1 := b1.c1
    go_enter Try.func19, Try.ntmps19
    go_wp2_with fail
    rw [← HWW.out]
    refine (weSame_any _ _ _ _ _ _ _ (hx.below bW) (hy.below bW) hxm hym).mono ?_
    rintro e w1 ⟨rfl, hb⟩
    clear b0_0 b0_1 b1_0 b1_1
    replace b0 := b0.later hb
    have b0_0 := b0.c0
    have b0_1 := b0.c1
    replace b1 := b1.later hb
    have b1_0 := b1.c0
    have b1_1 := b1.c1
    replace bW := bW.thenB hb
    have z1 := hb.size
    clear hb
    go_wp2
    go_ret
    exact ⟨ret_bool hr.out.symm, bW⟩
  · have hr : Hid ((decide (s = t) && sameB xs ys) = false) := Lib.hid (by simp [h])
    have hne : (s == t) = false := by simpa using h
    have b0_0 := b0.c0
    have b0_1 := b0.c1
    have b1_0 := b1.c0
    have b1_1 := b1.c1
    go_enter Try.func19, Try.ntmps19
    go_wp2_with fail
    rw [← HWW.out]
    go_wp2
    go_ret
    exact ⟨ret_bool hr.out.symm, bW⟩

theorem weEqual_same (s t : Int) (p q : Option Addr) (c d n m : Nat) (xs ys : List Int) (hs : s = t) (h : xs = ys) (hn : xs.length = n) (hm : ys.length = m) (w : World) (hx : Reads w p xs) (hy : Reads w q ys) (hxm : n ≤ 1048576) :
    Calls Try.prog 19 #[.agg #[.int .i64 s, .slice p n c], .agg #[.int .i64 t, .slice q m d]] w fun e w' => e = .returned (.bool true) ∧ Below w.heap.size w w' := by
  subst hs h hn hm
  refine (weEqual_any s s p q c d xs xs w hx hy hxm hxm).mono ?_
  rintro e w' ⟨h, hb⟩
  exact ⟨by rw [h, sameB_self]; simp, hb⟩

end Go.Proofs.Ytjmfjgoehicgcaa
