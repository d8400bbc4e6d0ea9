/- The exact laws on levels: what each computes. -/
import Derived.Test.YtjblgjpeolepjaaT1
import Derived.Test.YtjblgjpeolepjaaL9b
set_option linter.unusedVariables false
set_option linter.unusedSimpArgs false
namespace Go.Proofs.Ytjblgjpeolepjaa
open Go.RowKit

theorem FnExactLevelsValid_walk (w : World) (a : Option Addr) (c : Nat) (xs : List Int) (hm : xs.length ≤ maxLen) (hx : Reads w a xs) (hwf : ∀ n ∈ xs, (Lit.int .i64 n).wf = true) :
    Calls Try.prog 3 #[.slice a xs.length c] w fun e w' => e = .returned (.bool true) ∧ Below w.heap.size w w' := by
  unfold maxLen at hm
  clear hwf
  by_cases hl : xs.length ≤ 1048576
  · go_enter Try.func3, Try.ntmps3
    go_wp2_with fail
    refine (toIntS_any _ _ _ _ hx hl).mono ?_
    rintro e w1 ⟨v1, rfl, ho1, hb1⟩
    obtain ⟨a1, c1, rfl, hr1⟩ := ho1.shape
    clear ho1
    go_wp2_with fail
    refine (sLevelsValid_any _ _ _ _ hr1 hl).mono ?_
    rintro e w' ⟨rfl, rfl⟩
    go_wp2_with fail
    refine (toIntS_any _ _ _ _ (hx.below hb1) hl).mono ?_
    rintro e w2 ⟨v2, rfl, ho2, hb2⟩
    obtain ⟨a2, c2, rfl, hr2⟩ := ho2.shape
    clear ho2
    go_wp2_with fail
    refine (iLevelsValid_any _ _ _ _ hr2 hl).mono ?_
    rintro e w' ⟨rfl, rfl⟩
    go_wp2_with fail
    refine (toIntS_any _ _ _ _ (hx.below (hb1.trans (hb2.mono hb1.size))) hl).mono ?_
    rintro e w3 ⟨v3, rfl, ho3, hb3⟩
    obtain ⟨a3, c3, rfl, hr3⟩ := ho3.shape
    clear ho3
    go_wp2_with fail
    refine (eqIntS_any _ _ _ _ _ _ _ (hr2.below hb3) hr3 (by unfold maxLen; omega) (by unfold maxLen; omega)).mono ?_
    rintro e w4 ⟨rfl, hb4⟩
    go_wp2
    go_ret
    exact ⟨rfl, (hb1.trans (hb2.mono hb1.size)).trans (((hb3.trans (hb4.mono hb3.size))).mono (Nat.le_trans hb1.size hb2.size))⟩
  · go_enter Try.func3, Try.ntmps3
    go_wp2
    go_ret
    exact ⟨rfl, Below.refl _ _⟩

theorem FnExactCutLevels_walk (w : World) (a : Option Addr) (c : Nat) (xs : List Int) (hm : xs.length ≤ maxLen) (hx : Reads w a xs) (hwf : ∀ n ∈ xs, (Lit.int .i64 n).wf = true) (y : Int) (hy : (Lit.int .i64 y).wf = true) :
    Calls Try.prog 4 #[.slice a xs.length c, .int .i64 y] w fun e w' => e = .returned (.bool true) ∧ Below w.heap.size w w' := by
  unfold maxLen at hm
  clear hwf hy
  by_cases hl : xs.length ≤ 1048576
  · go_enter Try.func4, Try.ntmps4
    go_wp2_with fail
    refine (toIntS_any _ _ _ _ hx hl).mono ?_
    rintro e w1 ⟨v1, rfl, ho1, hb1⟩
    obtain ⟨a1, c1, rfl, hr1⟩ := ho1.shape
    clear ho1
    go_wp2_with fail
    refine (sCutLevels_any _ _ _ _ _ hr1 hl).mono ?_
    rintro e w' ⟨rfl, rfl⟩
    go_wp2_with fail
    refine (toIntS_any _ _ _ _ (hx.below hb1) hl).mono ?_
    rintro e w2 ⟨v2, rfl, ho2, hb2⟩
    obtain ⟨a2, c2, rfl, hr2⟩ := ho2.shape
    clear ho2
    go_wp2_with fail
    refine (iCutLevels_any _ _ _ _ _ hr2 hl).mono ?_
    rintro e w' ⟨rfl, rfl⟩
    go_wp2_with fail
    refine (toIntS_any _ _ _ _ (hx.below (hb1.trans (hb2.mono hb1.size))) hl).mono ?_
    rintro e w3 ⟨v3, rfl, ho3, hb3⟩
    obtain ⟨a3, c3, rfl, hr3⟩ := ho3.shape
    clear ho3
    go_wp2_with fail
    refine (eqIntS_any _ _ _ _ _ _ _ (hr2.below hb3) hr3 (by unfold maxLen; omega) (by unfold maxLen; omega)).mono ?_
    rintro e w4 ⟨rfl, hb4⟩
    go_wp2
    go_ret
    exact ⟨rfl, (hb1.trans (hb2.mono hb1.size)).trans (((hb3.trans (hb4.mono hb3.size))).mono (Nat.le_trans hb1.size hb2.size))⟩
  · go_enter Try.func4, Try.ntmps4
    go_wp2
    go_ret
    exact ⟨rfl, Below.refl _ _⟩

theorem FnExactPossibleLevel_walk (w : World) (a : Option Addr) (c : Nat) (xs : List Int) (hm : xs.length ≤ maxLen) (hx : Reads w a xs) (hwf : ∀ n ∈ xs, (Lit.int .i64 n).wf = true) (y : Int) (hy : (Lit.int .i64 y).wf = true) :
    Calls Try.prog 5 #[.slice a xs.length c, .int .i64 y] w fun e w' => e = .returned (.bool true) ∧ Below w.heap.size w w' := by
  unfold maxLen at hm
  clear hwf hy
  by_cases hl : xs.length ≤ 1048576
  · go_enter Try.func5, Try.ntmps5
    go_wp2_with fail
    refine (toIntS_any _ _ _ _ hx hl).mono ?_
    rintro e w1 ⟨v1, rfl, ho1, hb1⟩
    obtain ⟨a1, c1, rfl, hr1⟩ := ho1.shape
    clear ho1
    go_wp2_with fail
    refine (sPossibleLevel_any _ _ _ _ _ hr1 hl).mono ?_
    rintro e w' ⟨rfl, rfl⟩
    go_wp2_with fail
    refine (toIntS_any _ _ _ _ (hx.below hb1) hl).mono ?_
    rintro e w2 ⟨v2, rfl, ho2, hb2⟩
    obtain ⟨a2, c2, rfl, hr2⟩ := ho2.shape
    clear ho2
    go_wp2_with fail
    refine (iPossibleLevel_any _ _ _ _ _ hr2 hl).mono ?_
    rintro e w' ⟨rfl, rfl⟩
    go_wp2_with fail
    refine (toIntS_any _ _ _ _ (hx.below (hb1.trans (hb2.mono hb1.size))) hl).mono ?_
    rintro e w3 ⟨v3, rfl, ho3, hb3⟩
    obtain ⟨a3, c3, rfl, hr3⟩ := ho3.shape
    clear ho3
    go_wp2_with fail
    refine (eqIntS_any _ _ _ _ _ _ _ (hr2.below hb3) hr3 (by unfold maxLen; omega) (by unfold maxLen; omega)).mono ?_
    rintro e w4 ⟨rfl, hb4⟩
    go_wp2
    go_ret
    exact ⟨rfl, (hb1.trans (hb2.mono hb1.size)).trans (((hb3.trans (hb4.mono hb3.size))).mono (Nat.le_trans hb1.size hb2.size))⟩
  · go_enter Try.func5, Try.ntmps5
    go_wp2
    go_ret
    exact ⟨rfl, Below.refl _ _⟩

theorem FnExactNecessaryLevel_walk (w : World) (a : Option Addr) (c : Nat) (xs : List Int) (hm : xs.length ≤ maxLen) (hx : Reads w a xs) (hwf : ∀ n ∈ xs, (Lit.int .i64 n).wf = true) (y : Int) (hy : (Lit.int .i64 y).wf = true) :
    Calls Try.prog 6 #[.slice a xs.length c, .int .i64 y] w fun e w' => e = .returned (.bool true) ∧ Below w.heap.size w w' := by
  unfold maxLen at hm
  clear hwf hy
  by_cases hl : xs.length ≤ 1048576
  · go_enter Try.func6, Try.ntmps6
    go_wp2_with fail
    refine (toIntS_any _ _ _ _ hx hl).mono ?_
    rintro e w1 ⟨v1, rfl, ho1, hb1⟩
    obtain ⟨a1, c1, rfl, hr1⟩ := ho1.shape
    clear ho1
    go_wp2_with fail
    refine (sNecessaryLevel_any _ _ _ _ _ hr1 hl).mono ?_
    rintro e w' ⟨rfl, rfl⟩
    go_wp2_with fail
    refine (toIntS_any _ _ _ _ (hx.below hb1) hl).mono ?_
    rintro e w2 ⟨v2, rfl, ho2, hb2⟩
    obtain ⟨a2, c2, rfl, hr2⟩ := ho2.shape
    clear ho2
    go_wp2_with fail
    refine (iNecessaryLevel_any _ _ _ _ _ hr2 hl).mono ?_
    rintro e w' ⟨rfl, rfl⟩
    go_wp2_with fail
    refine (toIntS_any _ _ _ _ (hx.below (hb1.trans (hb2.mono hb1.size))) hl).mono ?_
    rintro e w3 ⟨v3, rfl, ho3, hb3⟩
    obtain ⟨a3, c3, rfl, hr3⟩ := ho3.shape
    clear ho3
    go_wp2_with fail
    refine (eqIntS_any _ _ _ _ _ _ _ (hr2.below hb3) hr3 (by unfold maxLen; omega) (by unfold maxLen; omega)).mono ?_
    rintro e w4 ⟨rfl, hb4⟩
    go_wp2
    go_ret
    exact ⟨rfl, (hb1.trans (hb2.mono hb1.size)).trans (((hb3.trans (hb4.mono hb3.size))).mono (Nat.le_trans hb1.size hb2.size))⟩
  · go_enter Try.func6, Try.ntmps6
    go_wp2
    go_ret
    exact ⟨rfl, Below.refl _ _⟩

end Go.Proofs.Ytjblgjpeolepjaa
