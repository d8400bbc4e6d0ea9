/- The laws' own helpers on masses. -/
import Derived.Test.YtmbipmdflbddbaaT3
import Derived.Test.YtmbipmdflbddbaaM3
set_option linter.unusedVariables false
set_option linter.unusedSimpArgs false
namespace Go.Proofs.Ytmbipmdflbddbaa
open Go.RowKit

theorem eqMass_any (s t : Int) (p q : Option Addr) (c d : Nat) (xs ys : List Int) (w : World) (hx : Reads w p xs) (hy : Reads w q ys) (hxm : xs.length ≤ 1048576) (hym : ys.length ≤ 1048576) :
    Calls Try.prog 13 #[.agg #[.int .i64 s, .slice p xs.length c], .agg #[.int .i64 t, .slice q ys.length d]] w fun e w' => e = .returned (.bool (decide (s = t ∧ xs = ys))) ∧ Below w.heap.size w w' := by
  obtain ⟨W, hW, hbW, hsz, c0, c1, c2, c3⟩ := box2 w s t p q xs.length ys.length c d
  have hxW := hx.below hbW
  have hyW := hy.below hbW
  have HW := Lib.hid hW
  clear hW hx hy hsz
  by_cases hst : s = t
  · have hne : (s != t) = false := by simp [hst]
    have HST := Lib.hid hst
    clear hst
    by_cases he : xs = ys
    · have hd : decide (xs = ys) = true := by simpa using he
      have HE := Lib.hid he
      clear he
      go_enter Try.func13, Try.ntmps13
      go_wp2_with fail
      rw [← HW.out]
      refine (eqIntS_any _ _ _ _ _ _ _ hxW hyW (by unfold maxLen; omega) (by unfold maxLen; omega)).mono ?_
      rintro e w1 ⟨rfl, hb1⟩
      go_wp2
      go_ret
      exact ⟨ret_bool (by simp [HST.out, HE.out]), hbW.trans (hb1.mono hbW.size)⟩
    · have hd : decide (xs = ys) = false := by simpa using he
      have HE := Lib.hid he
      clear he
      go_enter Try.func13, Try.ntmps13
      go_wp2_with fail
      rw [← HW.out]
      refine (eqIntS_any _ _ _ _ _ _ _ hxW hyW (by unfold maxLen; omega) (by unfold maxLen; omega)).mono ?_
      rintro e w1 ⟨rfl, hb1⟩
      go_wp2
      go_ret
      exact ⟨ret_bool (by simp [HE.out]), hbW.trans (hb1.mono hbW.size)⟩
  · have hne : (s != t) = true := bne_iff_ne.2 hst
    have HST := Lib.hid hst
    clear hst
    go_enter Try.func13, Try.ntmps13
    go_wp2
    go_ret
    exact ⟨ret_bool (by simp [HST.out]), (((Below.refl _ _).alloc (Nat.le_refl _) _).alloc (by simp) _)⟩

theorem eqMass_same (s : Int) (p q : Option Addr) (c d : Nat) (xs : List Int) (w : World) (hx : Reads w p xs) (hy : Reads w q xs) (hxm : xs.length ≤ 1048576) :
    Calls Try.prog 13 #[.agg #[.int .i64 s, .slice p xs.length c], .agg #[.int .i64 s, .slice q xs.length d]] w fun e w' => e = .returned (.bool true) ∧ Below w.heap.size w w' :=
  (eqMass_any s s p q c d xs xs w hx hy hxm hxm).mono fun _ _ h => ⟨by rw [h.1]; simp, h.2⟩

theorem eqIntS_same (p q : Option Addr) (c d : Nat) (xs : List Int) (w : World) (hx : Reads w p xs) (hy : Reads w q xs) (hxm : xs.length ≤ 1048576) :
    Calls Try.prog 14 #[.slice p xs.length c, .slice q xs.length d] w fun e w' => e = .returned (.bool true) ∧ Below w.heap.size w w' :=
  (eqIntS_any p q c d xs xs w hx hy (by unfold maxLen; omega) (by unfold maxLen; omega)).mono fun _ _ h => ⟨by rw [h.1]; simp, h.2⟩


/-- A cell outside the row that was written. -/
theorem cellGrown {w w' : World} {u : Value} {b o : Nat} {v : Value} (hg : w.grownBy w' u.ownBlock) (h : w.cell? ⟨b, o, none⟩ = some v) (hne : ∀ k, u.ownBlock = some k → k ≠ b) : w'.cell? ⟨b, o, none⟩ = some v :=
  hg.cell h (fun e => hne b e.symm rfl)

theorem belowGrown {B : Nat} {w w' : World} {u : Value} (hg : w.grownBy w' u.ownBlock) (hB : B ≤ w.heap.size) (hne : ∀ k, u.ownBlock = some k → B ≤ k) : Below B w w' :=
  (Below.refl _ _).grown hg hB hne

theorem markMass_any (B : Nat) (s : Int) (v : Value) (xs : List Int) (m : Int) (w : World) (ho : Own B w v xs) (hxm : xs.length ≤ 1048576) (hm : 0 ≤ m) (hm2 : m ≤ 8388608) (hB : B ≤ w.heap.size) :
    Calls Try.prog 16 #[.agg #[.int .i64 s, v], .int .i64 m] w fun e w' => e = .returned (.int .i64 (m + xs.length)) ∧ Own B w' v (marks m xs.length) ∧ w.grownBy w' v.ownBlock := by
  obtain ⟨p, k, rfl, hr⟩ := ho.shape
  clear hr
  have ho1 := ho.later (belowAlloc w (.cells #[.int .i64 s, .slice p xs.length k] 24))
  have hg1 := World.grownBy_alloc w (.cells #[.int .i64 s, .slice p xs.length k] 24) (Value.ownBlock (.slice p xs.length k))
  go_enter Try.func16, Try.ntmps16
  go_wp2_with fail
  refine (markIntS_any _ _ _ _ _ ho1 hxm hm hm2).mono ?_
  rintro e w1 ⟨rfl, ho2, hg2⟩
  go_wp2
  go_ret
  exact ⟨rfl, ho2, hg1.trans2 hg2⟩

theorem heldMass_any (s : Int) (a : Option Addr) (c n : Nat) (m : Int) (w : World) (hx : Reads w a (marks m n)) (hxm : n ≤ 1048576) (hm : 0 ≤ m) (hm2 : m ≤ 8388608) :
    Calls Try.prog 17 #[.agg #[.int .i64 s, .slice a n c], .int .i64 m] w fun e w' => e = .returned (.int .i64 (m + n)) ∧ Below w.heap.size w w' := by
  have hb := belowAlloc w (.cells #[.int .i64 s, .slice a n c] 24)
  have hx1 := hx.below hb
  go_enter Try.func17, Try.ntmps17
  go_wp2_with fail
  refine (heldIntS_any _ _ _ _ _ hx1 hxm hm hm2).mono ?_
  rintro e w' ⟨rfl, rfl⟩
  go_wp2
  go_ret
  exact ⟨rfl, hb⟩

end Go.Proofs.Ytmbipmdflbddbaa
