/- Plain facts on sets as numbers, on focal sets of nested masses. -/
import Derived.Test.YtkpnenbkfphldaaZG
import Derived.Test.YtkpnenbkfphldaaN9
set_option linter.unusedVariables false
set_option linter.unusedSimpArgs false
namespace Go.Proofs.Ytkpnenbkfphldaa
open Go.RowKit

theorem meetB_iff (a b : Nat) : meetB a b = true ↔ ∃ i, a.testBit i = true ∧ b.testBit i = true := by
  unfold meetB
  rw [bne_iff_ne]
  constructor
  · intro h
    by_cases e : ∃ i, a.testBit i = true ∧ b.testBit i = true
    · exact e
    · refine absurd (Nat.eq_of_testBit_eq fun i => ?_) h
      rw [Nat.testBit_and, Nat.zero_testBit]
      cases ha : a.testBit i
      · rfl
      · cases hb : b.testBit i
        · rfl
        · exact absurd ⟨i, ha, hb⟩ e
  · rintro ⟨i, ha, hb⟩ h
    have := congrArg (fun n : Nat => n.testBit i) h
    simp [Nat.testBit_and, ha, hb] at this

theorem subB_iff (a b : Nat) : subB a b = true ↔ ∀ i, a.testBit i = true → b.testBit i = true := by
  unfold subB
  rw [beq_iff_eq]
  constructor
  · intro h i ha
    have := congrArg (fun n : Nat => n.testBit i) h
    simp only [Nat.testBit_and, ha, Bool.true_and] at this
    exact this
  · intro h
    refine Nat.eq_of_testBit_eq fun i => ?_
    rw [Nat.testBit_and]
    cases ha : a.testBit i
    · rfl
    · rw [h i ha]; rfl

theorem full_bits (n i : Nat) : (2 ^ n - 1).testBit i = decide (i < n) := Nat.testBit_two_pow_sub_one n i

theorem focL_has (xs : List Int) (k a : Nat) (ha : a < k) (h : nth xs a ≠ 0) : ∃ i, i < (focL xs k).length ∧ nth (focL xs k) i = (a : Int) := by
  have hm : ((a : Nat) : Int) ∈ focL xs k := by
    simp only [focL, List.mem_map, List.mem_filter, List.mem_range, bne_iff_ne]
    exact ⟨a, ⟨ha, h⟩, rfl⟩
  obtain ⟨i, hi, e⟩ := List.getElem_of_mem hm
  exact ⟨i, hi, by rw [nth_eq _ _ hi]; exact e⟩

theorem ne_pairs {s : Int} {xs : List Int} (h : neG s xs = true) (a b : Nat) (ha : a < xs.length) (hb : b < xs.length) (na : nth xs a ≠ 0) (nb : nth xs b ≠ 0) : subB a b = true ∨ subB b a = true := by
  simp only [neG, Bool.and_eq_true] at h
  obtain ⟨i, hi, ei⟩ := focL_has xs xs.length a ha na
  obtain ⟨k, hk, ek⟩ := focL_has xs xs.length b hb nb
  have := h.2
  simp only [nsB, List.all_eq_true, List.mem_range] at this
  have := this i hi k hk
  rw [ei, ek, Int.toNat_natCast, Int.toNat_natCast, cmpN, Bool.or_eq_true] at this
  exact this

theorem poss_mono (a b : Nat) {M : Int} (xs : List Int) (h : allB 0 M xs = true) (hs : ∀ e, e < xs.length → meetB a e = true → meetB b e = true) : possS a xs ≤ possS b xs := by
  rw [possS_sm, possS_sm]
  refine sm_le fun e he => ?_
  have h0 := (allB_nth h e he).1
  by_cases c : meetB a e = true
  · rw [if_pos c, if_pos (hs e he c)]; omega
  · rw [if_neg c]; split <;> omega

theorem bit_meet (x e : Nat) : meetB (bit x) e = true ↔ e.testBit x = true := by
  rw [meetB_iff]
  constructor
  · rintro ⟨i, hi, he⟩
    rw [bit, Nat.testBit_two_pow, decide_eq_true_eq] at hi
    subst hi; exact he
  · intro h
    exact ⟨x, by rw [bit, Nat.testBit_two_pow]; simp, h⟩

theorem testBit_len {n e i : Nat} (he : e < 2 ^ n) (h : e.testBit i = true) : i < n := by
  apply Nat.lt_of_not_le
  intro hle
  have := Nat.testBit_lt_two_pow (Nat.lt_of_lt_of_le he (Nat.pow_le_pow_right (by omega) hle))
  rw [this] at h; cases h

theorem szOf {s : Int} {xs : List Int} (h : MassOk s xs) : ∃ n : Nat, s = (n : Int) ∧ 1 ≤ n ∧ n ≤ 4 ∧ xs.length = 2 ^ n := by
  have h1 := h.s1
  have h4 := h.s4
  have hl := h.len
  refine ⟨s.toNat, by omega, by omega, by omega, ?_⟩
  rw [show s = (s.toNat : Int) by omega, pow2_nat] at hl
  omega

theorem ne_of {s : Int} {xs : List Int} (hm : massB s xs = true) (h : ∀ a b, a < xs.length → b < xs.length → nth xs a ≠ 0 → nth xs b ≠ 0 → subB a b = true ∨ subB b a = true) : neG s xs = true := by
  have : nsB (focL xs xs.length) = true := by
    refine nsB_yes fun i hi k hk => ?_
    obtain ⟨a, ea, ha, na⟩ := focL_at _ _ i hi
    obtain ⟨b, eb, hb, nb⟩ := focL_at _ _ k hk
    rw [ea, eb, Int.toNat_natCast, Int.toNat_natCast, cmpN, Bool.or_eq_true]
    exact h a b ha hb na nb
  simp [neG, hm, this]

end Go.Proofs.Ytkpnenbkfphldaa
