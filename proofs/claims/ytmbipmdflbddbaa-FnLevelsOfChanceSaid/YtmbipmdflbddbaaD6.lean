/- Levels that are drawn, with cuts and sets. -/
import Derived.Test.YtmbipmdflbddbaaD2
import Derived.Test.YtmbipmdflbddbaaD5
import Derived.Test.YtmbipmdflbddbaaL9b
set_option linter.unusedVariables false
set_option linter.unusedSimpArgs false
namespace Go.Proofs.Ytmbipmdflbddbaa
open Go.RowKit

set_option maxHeartbeats 1000000 in
theorem l9Open_any (R P : Nat) (w : World) (h : Rdr R P w) (hP : P ≤ 90000) :
    Calls Try.prog 75 #[.pointer (some ⟨R, 0, none⟩)] w (LvDrawn R (P + 21) 8 w) := by
  have hRlt := h.lt
  go_enter Try.func75, Try.ntmps75
  go_wp2_with fail
  refine (pick_any R P 4 w h (by omega) (by omega) (by omega)).mono ?_
  rintro e w1 ⟨x, rfl, hx, hR1, hD1⟩
  have z1 := hD1.size
  go_wp2_with fail
  refine (l9List_v R (P + 1) (1 + (x : Int)) w1 hR1 (by omega) (by omega) (by omega)).mono ?_
  rintro e w2 ⟨v, xs, rfl, hxl, hO, hR2, hD2⟩
  have hD := hD1.then z1 hD2
  clear hD1 hD2 hR1 h
  go_wp2
  go_ret
  exact ⟨v, xs, rfl, hxl, hO.mono z1, hR2.more (by omega), hD⟩

def OutLv (w : World) (e : Ending) (w' : World) : Prop := ∃ (p : Option Addr) (c : Nat) (xs : List Int), e = .returned (.slice p xs.length c) ∧ xs.length ≤ 8 ∧ Reads w' p xs ∧ Below w.heap.size w w'
def OutLvNum (w : World) (e : Ending) (w' : World) : Prop := ∃ (p : Option Addr) (c : Nat) (xs : List Int) (a : Int), e = .returned (.tuple #[.slice p xs.length c, .int .i64 a]) ∧ xs.length ≤ 8 ∧ Reads w' p xs ∧ Below w.heap.size w w'

set_option maxHeartbeats 1000000 in
theorem DrawMassOfLevels_any (a0 : Option Addr) (c0 : Nat) (bs : List Int) (w : World) (hx : ReadsK .u8 w a0 bs) (hwf : ∀ n ∈ bs, (Lit.int .u8 n).wf = true) (hl : bs.length ≤ maxLen) (hc : bs.length ≤ c0) :
    Calls Try.prog 47 #[.slice a0 bs.length c0] w (OutLv w) := by
  go_enter Try.func47, Try.ntmps47
  go_wp2_with fail
  refine (l14Open_any a0 c0 bs w hx hwf hl hc).mono ?_
  rintro e w1 ⟨rfl, hR1, hb1⟩
  clear hx hwf hl hc
  obtain ⟨R, hRe⟩ : ∃ R, R = w.heap.size := ⟨_, rfl⟩
  rw [← hRe] at hR1 ⊢
  have HR := Lib.hid hRe
  clear hRe
  go_wp2_with fail
  refine (l9Open_any R 0 w1 hR1 (by omega)).mono ?_
  rintro e w2 ⟨v, xs, rfl, hxl, hO, hR2, hD2⟩
  have bb := hb1.trans ((hD2.mono hb1.size).below (by rw [HR.out]; exact Nat.le_refl _))
  obtain ⟨p, c, rfl, hr⟩ := hO.shape
  clear hD2 hR1 hR2 hb1 hO
  go_wp2
  go_ret
  exact ⟨p, c, xs, rfl, hxl, hr, bb⟩

set_option maxHeartbeats 1000000 in
theorem DrawCutLevels_any (a0 : Option Addr) (c0 : Nat) (bs : List Int) (w : World) (hx : ReadsK .u8 w a0 bs) (hwf : ∀ n ∈ bs, (Lit.int .u8 n).wf = true) (hl : bs.length ≤ maxLen) (hc : bs.length ≤ c0) :
    Calls Try.prog 36 #[.slice a0 bs.length c0] w (OutLvNum w) := by
  go_enter Try.func36, Try.ntmps36
  go_wp2_with fail
  refine (l14Open_any a0 c0 bs w hx hwf hl hc).mono ?_
  rintro e w1 ⟨rfl, hR1, hb1⟩
  clear hx hwf hl hc
  obtain ⟨R, hRe⟩ : ∃ R, R = w.heap.size := ⟨_, rfl⟩
  rw [← hRe] at hR1 ⊢
  have HR := Lib.hid hRe
  clear hRe
  have hRl := hR1.lt
  go_wp2_with fail
  refine (l9Open_any R 0 w1 hR1 (by omega)).mono ?_
  rintro e w2 ⟨v, xs, rfl, hxl, hO, hR2, hD2⟩
  have hR2l := hR2.lt
  have z1 := hb1.size
  have z2 := hD2.size
  go_wp2_with fail
  refine (num_any R 21 _ _ [1, 2, 3, 0, -1, 9223372036854775807] 6 rfl _ (hR2.later (belowAlloc _ _)) (by omega) (reads_lit w2 [1, 2, 3, 0, -1, 9223372036854775807] _) (by intro a ha; cases ha; simp; omega) (by simp) (by simp)).mono ?_
  rintro e w3 ⟨z, hz, rfl, hR3, hD3⟩
  have hD' := (hD2.thenB z2 (belowAlloc _ _)).then (by simp; omega) hD3
  have bb := hb1.trans ((hD'.mono hb1.size).below (by rw [HR.out]; exact Nat.le_refl _))
  have hO3 := (hO.later (belowAlloc _ _)).dr hD3 hRl
  obtain ⟨p, c, rfl, hr⟩ := hO3.shape
  clear hD2 hR1 hR2 hb1 hO hD3 hR3 hD' hO3 hz
  go_wp2
  go_ret2
  exact ⟨p, c, xs, z, rfl, hxl, hr, bb⟩

/-- Levels and a number that are drawn. -/
def LvNum (R P : Nat) (w : World) (e : Ending) (w' : World) : Prop := ∃ (v : Value) (xs : List Int) (a : Int), e = .returned (.tuple #[v, .int .i64 a]) ∧ xs.length ≤ 8 ∧ Own w.heap.size w' v xs ∧ Rdr R P w' ∧ Dr w.heap.size R w w'

set_option maxHeartbeats 2000000 in
theorem l9With_any (R P : Nat) (w : World) (h : Rdr R P w) (hP : P ≤ 50000) :
    Calls Try.prog 83 #[.pointer (some ⟨R, 0, none⟩)] w (LvNum R (P + 25) w) := by
  have hRlt := h.lt
  go_enter Try.func83, Try.ntmps83
  go_wp2_with fail
  refine (l9Open_any R P w h (by omega)).mono ?_
  rintro e w1 ⟨v, xs, rfl, hxl, hO, hR1, hD1⟩
  have z1 := hD1.size
  go_wp2_with fail
  refine (l1Set_any R (P + 21) w1 hR1 (by omega)).mono ?_
  rintro e w2 ⟨a, rfl, hR2, hD2⟩
  have z2 := hD2.size
  have hO2 := hO.dr hD2 hRlt
  obtain ⟨p, c, rfl, hr⟩ := hO2.shape
  have hD' := hD1.then z1 hD2
  clear hD1 hD2 hR1 h hO hr
  have HO := Lib.hid hO2
  have HD := Lib.hid hD'
  clear hO2 hD'
  go_wp2_with fail
  refine (SizeValid_any _ w2).mono ?_
  rintro e w' ⟨rfl, rfl⟩
  cases hs : szB xs.length
  · go_wp2
    go_ret2
    exact ⟨_, xs, a, rfl, hxl, HO.out, hR2.more (by omega), HD.out⟩
  · have hsz : 1 ≤ (xs.length : Int) ∧ (xs.length : Int) ≤ 4 := by simpa [szB, inB] using hs
    obtain ⟨s1, s4⟩ := hsz
    go_wp2_with fail
    refine (l1Any_any a w2).mono ?_
    rintro e w' ⟨rfl, rfl⟩
    cases ha : inB a 0 15
    · go_wp2
      go_ret2
      exact ⟨_, xs, a, rfl, hxl, HO.out, hR2.more (by omega), HD.out⟩
    · go_wp2_with fail
      refine (pick_any R (P + 24) 16 w2 hR2 (by omega) (by omega) (by omega)).mono ?_
      rintro e w3 ⟨x, rfl, hx, hR3, hD3⟩
      have HO3 := Lib.hid (HO.out.dr hD3 hRlt)
      have HD3 := Lib.hid (HD.out.then (by omega) hD3)
      clear hD3 HO HD hR2
      by_cases h0 : x = 0
      · subst h0
        go_wp2
        go_ret2
        exact ⟨_, xs, a, rfl, hxl, HO3.out, hR3.more (by omega), HD3.out⟩
      · have hx1 : (0 : Int) < (x : Int) := by omega
        go_wp2
        go_ret2
        exact ⟨_, xs, _, rfl, hxl, HO3.out, hR3.more (by omega), HD3.out⟩

set_option maxHeartbeats 1000000 in
theorem DrawPossibleLevel_any (a0 : Option Addr) (c0 : Nat) (bs : List Int) (w : World) (hx : ReadsK .u8 w a0 bs) (hwf : ∀ n ∈ bs, (Lit.int .u8 n).wf = true) (hl : bs.length ≤ maxLen) (hc : bs.length ≤ c0) :
    Calls Try.prog 41 #[.slice a0 bs.length c0] w (OutLvNum w) := by
  go_enter Try.func41, Try.ntmps41
  go_wp2_with fail
  refine (l14Open_any a0 c0 bs w hx hwf hl hc).mono ?_
  rintro e w1 ⟨rfl, hR1, hb1⟩
  clear hx hwf hl hc
  obtain ⟨R, hRe⟩ : ∃ R, R = w.heap.size := ⟨_, rfl⟩
  rw [← hRe] at hR1 ⊢
  have HR := Lib.hid hRe
  clear hRe
  go_wp2_with fail
  refine (l9With_any R 0 w1 hR1 (by omega)).mono ?_
  rintro e w2 ⟨v, xs, a, rfl, hxl, hO, hR2, hD2⟩
  have bb := hb1.trans ((hD2.mono hb1.size).below (by rw [HR.out]; exact Nat.le_refl _))
  obtain ⟨p, c, rfl, hr⟩ := hO.shape
  clear hD2 hR1 hR2 hb1 hO
  go_wp2
  go_ret2
  exact ⟨p, c, xs, a, rfl, hxl, hr, bb⟩

end Go.Proofs.Ytmbipmdflbddbaa
