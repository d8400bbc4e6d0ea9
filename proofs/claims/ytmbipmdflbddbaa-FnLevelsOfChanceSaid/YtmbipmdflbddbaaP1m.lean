/- Plain facts on levels that are met, and on cuts. -/
import Derived.Test.YtmbipmdflbddbaaL9c
set_option linter.unusedVariables false
set_option linter.unusedSimpArgs false
namespace Go.Proofs.Ytmbipmdflbddbaa
open Go.RowKit

theorem cutTo_bit (xs : List Int) (lv : Int) (k i : Nat) : (cutTo xs lv k).testBit i = (decide (i < k) && decide (lv ≤ nth xs i)) := by
  induction k with
  | zero => simp [cutTo]
  | succ k ih =>
    rw [cutTo_succ]
    split
    · rename_i h
      rw [Nat.testBit_or, ih, bit, Nat.testBit_two_pow]
      by_cases e : k = i
      · subst e; simp [h]
      · have : (i < k + 1) = (i < k) := by simp; omega
        simp [e, this]
    · rename_i h
      rw [ih]
      by_cases e : i = k
      · subst e; simp [h]
      · have : (i < k + 1) = (i < k) := by simp; omega
        simp [this]

theorem minTo_nth (xs ys : List Int) (n i : Nat) (h : i < n) : nth (minTo xs ys n) i = min (nth xs i) (nth ys i) := by
  rw [nth_eq _ _ (by rw [minTo_len]; exact h)]; simp [minTo]

theorem minTo_cut (xs ys : List Int) (lv : Int) (n : Nat) : cutTo (minTo xs ys n) lv n = cutTo xs lv n &&& cutTo ys lv n := by
  apply Nat.eq_of_testBit_eq
  intro i
  rw [Nat.testBit_and, cutTo_bit, cutTo_bit, cutTo_bit]
  by_cases h : i < n
  · rw [minTo_nth xs ys n i h]
    have : (lv ≤ min (nth xs i) (nth ys i)) = (lv ≤ nth xs i ∧ lv ≤ nth ys i) := by simp; omega
    simp [h, this]
  · simp [h]

theorem minTo_pos (xs ys : List Int) (n a k : Nat) (hk : k ≤ n) : posTo (minTo xs ys n) a k ≤ posTo xs a k ∧ posTo (minTo xs ys n) a k ≤ posTo ys a k := by
  induction k with
  | zero => simp [posTo]
  | succ k ih =>
    have := ih (by omega)
    rw [posTo_succ, posTo_succ, posTo_succ]
    split
    · rw [minTo_nth xs ys n k (by omega)]; omega
    · exact this

theorem nth_ext (xs ys : List Int) (hl : xs.length = ys.length) (h : ∀ i, i < xs.length → nth xs i = nth ys i) : xs = ys := by
  apply List.ext_getElem hl
  intro i h1 h2
  have := h i h1
  rwa [nth_eq _ _ h1, nth_eq _ _ h2] at this

theorem minTo_self (xs : List Int) : minTo xs xs xs.length = xs := by
  apply nth_ext _ _ (minTo_len _ _ _)
  intro i hi
  rw [minTo_len] at hi
  rw [minTo_nth _ _ _ _ hi]; omega

theorem minTo_comm (xs ys : List Int) (n : Nat) : minTo xs ys n = minTo ys xs n := by
  unfold minTo; apply List.map_congr_left; intro i _; omega

structure MeetOk (xs ys : List Int) : Prop where
  x : lvB xs = true
  y : lvB ys = true
  len : xs.length = ys.length
  top : topL xs = topL ys
  pos : topPos (minTo xs ys xs.length) = true

theorem meetOk_parts {xs ys : List Int} (h : meetOk xs ys = true) : MeetOk xs ys := by
  simp only [meetOk, Bool.and_eq_true, decide_eq_true_eq] at h
  exact ⟨h.1, h.2.1, h.2.2.1, h.2.2.2.1, h.2.2.2.2⟩
theorem MeetOk.ok {xs ys : List Int} (h : MeetOk xs ys) : meetOk xs ys = true := by
  simp only [meetOk, Bool.and_eq_true, decide_eq_true_eq]; exact ⟨h.x, h.y, h.len, h.top, h.pos⟩
theorem MeetOk.list {xs ys : List Int} (h : MeetOk xs ys) : meetL xs ys = minTo xs ys xs.length := by simp [meetL, h.ok]
theorem MeetOk.turn {xs ys : List Int} (h : MeetOk xs ys) : MeetOk ys xs := ⟨h.y, h.x, h.len.symm, h.top.symm, by rw [minTo_comm, ← h.len]; exact h.pos⟩
theorem MeetOk.self {xs ys : List Int} (h : MeetOk xs ys) : MeetOk xs xs := ⟨h.x, h.x, rfl, rfl, by rw [minTo_self]; simp [topPos, (lvB_ok h.x).top]⟩

theorem meet_turned {xs ys : List Int} (h : meetOk xs ys = true) : meetL ys xs = meetL xs ys := by
  have m := meetOk_parts h
  rw [m.list, m.turn.list, minTo_comm, m.len]
theorem meet_same {xs ys : List Int} (h : meetOk xs ys = true) : meetL xs xs = xs := by
  have m := (meetOk_parts h).self
  rw [m.list, minTo_self]

theorem meet_lvB {xs ys : List Int} (h : meetOk xs ys = true) : lvB (meetL xs ys) = true := by
  have m := meetOk_parts h
  rw [m.list]
  have hx := lvB_ok m.x
  have hp := m.pos
  simp only [topPos, decide_eq_true_eq] at hp
  simp only [lvB, Bool.and_eq_true, decide_eq_true_eq, minTo_len]
  exact ⟨⟨lvB_sz m.x, minTo_all xs ys hx.all (lvB_ok m.y).all m.len⟩, hp⟩

theorem meet_pos {xs ys : List Int} (h : meetOk xs ys = true) (a : Nat) (ha : (a : Int) < 2 ^ xs.length) : ¬ (min (posL xs a) (posL ys a) < posL (meetL xs ys) a) := by
  have m := meetOk_parts h
  have hk := meet_lvB h
  have hp := minTo_pos xs ys xs.length a xs.length (Nat.le_refl _)
  have e : (meetL xs ys).length = xs.length := by rw [m.list, minTo_len]
  have hs : setB xs.length a = true := by simp [setB, pow2]; exact_mod_cast ha
  have e1 : posL xs a = posTo xs a xs.length := by simp [posL, lvsB, m.x, hs]
  have e2 : posL ys a = posTo ys a xs.length := by simp [posL, lvsB, m.y, ← m.len, hs]
  have e3 : posL (meetL xs ys) a = posTo (minTo xs ys xs.length) a xs.length := by simp [posL, lvsB, hk, e, hs]; rw [m.list]
  rw [e1, e2, e3]; omega

theorem meet_cut {xs ys : List Int} (h : meetOk xs ys = true) (lv : Int) : ∃ x y : Nat, x < 16 ∧ y < 16 ∧ cutL xs lv = (x : Int) ∧ cutL ys lv = (y : Int) ∧ cutL (meetL xs ys) lv = ((x &&& y : Nat) : Int) := by
  have m := meetOk_parts h
  have hx := lvB_ok m.x
  refine ⟨cutTo xs lv xs.length, cutTo ys lv ys.length, lt16_of (cutTo_lt _ _ _) hx.l4, lt16_of (cutTo_lt _ _ _) (by have := hx.l4; have := m.len; omega), by simp [cutL, m.x], by simp [cutL, m.y], ?_⟩
  rw [cutL, meet_lvB h, if_pos rfl, m.list, minTo_len, minTo_cut, m.len]

end Go.Proofs.Ytmbipmdflbddbaa
