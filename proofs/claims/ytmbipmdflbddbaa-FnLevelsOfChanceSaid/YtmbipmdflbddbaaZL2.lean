/- Plain laws on levels: sets that are put together, the contour of the mass of levels, cuts. -/
import Derived.Test.YtmbipmdflbddbaaZL
set_option linter.unusedVariables false
set_option linter.unusedSimpArgs false
namespace Go.Proofs.Ytmbipmdflbddbaa
open Go.RowKit

theorem prop_eq {d P S T v : Int} (h1 : T = d * S) (h2 : v = d * P) : P * T = v * S := by
  subst h1; subst h2
  rw [← Int.mul_assoc, Int.mul_comm P d]

theorem cn_nth (xs : List Int) (k x : Nat) (h : x < k) : nth (cnTo xs k) x = possS (bit x) xs := by
  rw [nth_eq _ _ (by rw [cnTo_len]; exact h)]; simp [cnTo]

theorem lvs_full {xs : List Int} (h : lvB xs = true) : posL xs (((2 ^ xs.length : Nat) : Int) - 1) = topL xs := by
  obtain ⟨l1, l4, hall, ht, ht2⟩ := lvB_parts h
  have p1 : 1 ≤ 2 ^ xs.length := Nat.one_le_two_pow
  have e : ((2 ^ xs.length : Nat) : Int) - 1 = ((2 ^ xs.length - 1 : Nat) : Int) := by omega
  have hs : lvsB xs ((2 ^ xs.length - 1 : Nat) : Int) = true := by
    simp only [lvsB, h, Bool.true_and, setB, pow2_nat, decide_eq_true_eq]; omega
  rw [e, posL, if_pos hs, Int.toNat_natCast, posTo_full xs hall]

/-- The law on the mass of levels. -/
structure LvLaw (xs K : List Int) : Prop where
  lv : LvMass xs K
  lo : loG (xs.length : Int) K = true
  loL : loL (xs.length : Int) K = cnTo K xs.length
  wh : whS (xs.length : Int) K = sumL K
  whB : 1 ≤ sumL K ∧ sumL K ≤ 1000000
  top : posL xs (((2 ^ xs.length : Nat) : Int) - 1) = topL xs
  topB : 1 ≤ topL xs ∧ topL xs ≤ 1000000
  cn : ∀ x, x < xs.length → nth (cnTo K xs.length) x * topL xs = nth xs x * sumL K ∧ (0 ≤ nth (cnTo K xs.length) x ∧ nth (cnTo K xs.length) x ≤ 1000000) ∧ (0 ≤ nth xs x ∧ nth xs x ≤ 1000000)

theorem lv_law {xs : List Int} (h : lvB xs = true) : ∃ K, LvLaw xs K := by
  obtain ⟨K, hK⟩ := lv_mass h
  obtain ⟨l1, l4, hall, ht, ht2⟩ := lvB_parts h
  have hk := massB_ok hK.mass
  have lo : loG (xs.length : Int) K = true := by simp [loG, hK.nest, hK.norm]
  obtain ⟨d, hd, e1, e2, e3⟩ := hK.prop
  refine ⟨K, hK, lo, by simp [Go.Proofs.Ytmbipmdflbddbaa.loL, lo], by simp [whS, hK.mass], ⟨hk.sum1, hk.sum2⟩, lvs_full h, ⟨by omega, ht2⟩, fun x hx => ?_⟩
  rw [cn_nth K _ x hx]
  refine ⟨prop_eq e1 ?_, ⟨poss_nonneg _ _ hk.all, poss_total _ hk⟩, allB_nth hall x hx⟩
  rw [← e2, posTo_bit xs hall x hx]

theorem posTo_or (xs : List Int) (a b : Nat) : ∀ k, posTo xs (a ||| b) k = max (posTo xs a k) (posTo xs b k)
  | 0 => by simp [posTo]
  | k + 1 => by
    rw [posTo_succ, posTo_succ, posTo_succ, posTo_or xs a b k, Nat.testBit_or]
    cases a.testBit k <;> cases b.testBit k <;> simp <;> omega

theorem oth_and : ∀ n : Fin 5, ∀ a b : Fin 16, a.val < 2 ^ n.val → b.val < 2 ^ n.val → othB n.val (a.val &&& b.val) = othB n.val a.val ||| othB n.val b.val := by decide +kernel
theorem oth_has : ∀ n : Fin 5, ∀ a : Fin 16, ∀ i : Fin 4, a.val < 2 ^ n.val → i.val < n.val → (a.val.testBit i.val || (othB n.val a.val).testBit i.val) = true := by decide +kernel
theorem or_ltZ : ∀ n : Fin 5, ∀ a b : Fin 16, a.val < 2 ^ n.val → b.val < 2 ^ n.val → a.val ||| b.val < 2 ^ n.val := by decide +kernel

theorem top_one (xs : List Int) (hl : xs.length ≤ 4) (h : 0 < topL xs) (a : Nat) (ha : a < 2 ^ xs.length) : posTo xs a xs.length = topL xs ∨ posTo xs (othB xs.length a) xs.length = topL xs := by
  obtain ⟨t0, t1, t2⟩ := topL_parts xs
  have p16 : 2 ^ xs.length ≤ 16 := Nat.pow_le_pow_right (n := 2) (by omega) hl
  rcases t2 with e | ⟨i, hi, e⟩
  · omega
  · have ho := oth_has ⟨xs.length, by omega⟩ ⟨a, by omega⟩ ⟨i, by omega⟩ ha hi
    simp only [Bool.or_eq_true] at ho
    rcases ho with ho | ho
    · left
      have := (posTo_parts xs a xs.length).2.1 i hi ho
      have := posTo_top xs a xs.length (Nat.le_refl _)
      omega
    · right
      have := (posTo_parts xs (othB xs.length a) xs.length).2.1 i hi ho
      have := posTo_top xs (othB xs.length a) xs.length (Nat.le_refl _)
      omega

theorem posL_nat {xs : List Int} (h : lvB xs = true) (a : Nat) (ha : a < 2 ^ xs.length) : posL xs (a : Int) = posTo xs a xs.length := by
  have hs : lvsB xs (a : Int) = true := by
    simp only [lvsB, h, Bool.true_and, setB, pow2_nat, decide_eq_true_eq]; omega
  rw [posL, if_pos hs, Int.toNat_natCast]
theorem necL_nat {xs : List Int} (h : lvB xs = true) (a : Nat) (ha : a < 2 ^ xs.length) : necL xs (a : Int) = topL xs - posTo xs (othB xs.length a) xs.length := by
  have hs : lvsB xs (a : Int) = true := by
    simp only [lvsB, h, Bool.true_and, setB, pow2_nat, decide_eq_true_eq]; omega
  rw [necL, if_pos hs, Int.toNat_natCast]
theorem posL_parts {xs : List Int} {a : Int} (h : ¬ posL xs a < 0) : lvB xs = true ∧ ∃ n : Nat, a = (n : Int) ∧ n < 2 ^ xs.length := by
  cases hs : lvsB xs a
  · exact absurd (by simp [posL, hs]) h
  · simp only [lvsB, Bool.and_eq_true, setB, pow2_nat, decide_eq_true_eq] at hs
    exact ⟨hs.1, a.toNat, by omega, by omega⟩

/-- The law on what is possible and necessary by levels. -/
structure PosLaw (xs K : List Int) (n : Nat) : Prop where
  law : LvLaw xs K
  lt : n < 2 ^ xs.length
  bd : (0 ≤ posL xs (n : Int) ∧ posL xs (n : Int) ≤ 1000000) ∧ (0 ≤ necL xs (n : Int) ∧ necL xs (n : Int) ≤ 1000000)
  either : ∀ b : Nat, b < 2 ^ xs.length → posL xs ((n ||| b : Nat) : Int) = max (posL xs (n : Int)) (posL xs (b : Int))
  both : ∀ b : Nat, b < 2 ^ xs.length → necL xs ((n &&& b : Nat) : Int) = min (necL xs (n : Int)) (necL xs (b : Int))
  ps : psR (xs.length : Int) K (n : Int) * topL xs = posL xs (n : Int) * sumL K ∧ (0 ≤ psR (xs.length : Int) K (n : Int) ∧ psR (xs.length : Int) K (n : Int) ≤ 1000000)
  bl : blR (xs.length : Int) K (n : Int) * topL xs = necL xs (n : Int) * sumL K ∧ (0 ≤ blR (xs.length : Int) K (n : Int) ∧ blR (xs.length : Int) K (n : Int) ≤ 16000000)
  le : necL xs (n : Int) ≤ posL xs (n : Int)
  zt : necL xs (n : Int) = 0 ∨ posL xs (n : Int) = topL xs

theorem pos_law {xs : List Int} {n : Nat} (h : lvB xs = true) (hn : n < 2 ^ xs.length) : ∃ K, PosLaw xs K n := by
  obtain ⟨K, hK⟩ := lv_law h
  obtain ⟨l1, l4, hall, ht, ht2⟩ := lvB_parts h
  have hk := massB_ok hK.lv.mass
  have p16 : 2 ^ xs.length ≤ 16 := Nat.pow_le_pow_right (n := 2) (by omega) l4
  have hp := posTo_parts xs n xs.length
  have hq := posTo_parts xs (othB xs.length n) xs.length
  have tp := posTo_top xs n xs.length (Nat.le_refl _)
  have tq := posTo_top xs (othB xs.length n) xs.length (Nat.le_refl _)
  have en := posL_nat h n hn
  have ec := necL_nat h n hn
  have one := top_one xs l4 ht n hn
  obtain ⟨d, hd, e1, e2, e3⟩ := hK.lv.prop
  have hpw : (n : Int) < pow2 (xs.length : Int) := by rw [pow2_nat]; omega
  have hms : msB (xs.length : Int) K (n : Int) = true := by
    simp only [msB, hK.lv.mass, Bool.true_and, setB, decide_eq_true_eq]; omega
  refine ⟨K, hK, hn, ⟨by omega, by omega⟩, fun b hb => ?_, fun b hb => ?_, ⟨?_, ?_⟩, ⟨?_, ?_⟩, by omega, by omega⟩
  · have hor := or_ltZ ⟨xs.length, by omega⟩ ⟨n, by omega⟩ ⟨b, by omega⟩ hn hb
    rw [posL_nat h _ hor, en, posL_nat h b hb, posTo_or]
  · have hand : n &&& b < 2 ^ xs.length := Nat.lt_of_le_of_lt Nat.and_le_left hn
    have hoa := oth_and ⟨xs.length, by omega⟩ ⟨n, by omega⟩ ⟨b, by omega⟩ hn hb
    simp only at hoa
    rw [necL_nat h _ hand, ec, necL_nat h b hb, hoa, posTo_or]
    omega
  · rw [psR, if_pos hms, Int.toNat_natCast, en]; exact prop_eq e1 (e2 n)
  · rw [psR, if_pos hms, Int.toNat_natCast]; exact ⟨poss_nonneg _ _ hk.all, poss_total _ hk⟩
  · rw [(blR_nat hK.lv.mass hpw).1, ec]; exact prop_eq e1 (e3 n hn)
  · exact (blR_nat hK.lv.mass hpw).2

/-- Whether one of the first answers' levels has a cut. -/
def someTo (xs : List Int) (v : Int) (k : Nat) : Bool := (List.range k).any fun x => decide (cutL xs (nth xs x) = v)
theorem someTo_succ (xs : List Int) (v : Int) (k : Nat) : someTo xs v (k + 1) = (someTo xs v k || decide (cutL xs (nth xs k) = v)) := by simp [someTo, List.range_succ]

/-- The law on cuts. -/
structure CutLaw (xs K : List Int) (level : Int) (a : Nat) : Prop where
  law : LvLaw xs K
  cut : cutL xs level = (a : Int)
  lt : a < 2 ^ xs.length
  some : ∀ i, i < (focL K K.length).length → someTo xs (nth (focL K K.length) i) xs.length = true
  other : 0 < level → posL xs (((2 ^ xs.length : Nat) : Int) - 1 - (a : Int)) < level
  whole : level ≤ 0 → (a : Int) = ((2 ^ xs.length : Nat) : Int) - 1

theorem cutL_parts {xs : List Int} {level : Int} (h : ¬ cutL xs level < 0) : lvB xs = true := by
  cases hs : lvB xs
  · exact absurd (by simp [cutL, hs]) h
  · rfl

theorem cut_law {xs : List Int} {level : Int} (h : lvB xs = true) : ∃ K a, CutLaw xs K level a := by
  obtain ⟨K, hK⟩ := lv_law h
  obtain ⟨l1, l4, hall, ht, ht2⟩ := lvB_parts h
  have hlt := cutTo_lt xs level xs.length
  refine ⟨K, cutTo xs level xs.length, hK, by simp [cutL, h], hlt, fun i hi => ?_, fun hl => ?_, fun hl => ?_⟩
  · obtain ⟨a, ea, ha, na⟩ := focL_at _ _ i hi
    rw [hK.lv.len] at ha
    obtain ⟨x, hx, e⟩ := hK.lv.focal a ha na
    simp only [someTo, List.any_eq_true, List.mem_range, decide_eq_true_eq]
    refine ⟨x, hx, ?_⟩
    rw [ea, cutL, if_pos h, e]
  · have e : ((2 ^ xs.length : Nat) : Int) - 1 - ((cutTo xs level xs.length : Nat) : Int) = ((othB xs.length (cutTo xs level xs.length) : Nat) : Int) := by unfold othB; omega
    have ho : othB xs.length (cutTo xs level xs.length) < 2 ^ xs.length := by unfold othB; omega
    rw [e, posL_nat h _ ho]
    obtain ⟨p0, p1, p2⟩ := posTo_parts xs (othB xs.length (cutTo xs level xs.length)) xs.length
    rcases p2 with e | ⟨i, hi, hb, e⟩
    · omega
    · rw [← e]
      refine Int.not_le.1 fun hv => ?_
      have hc : (cutTo xs level xs.length).testBit i = true := by
        rw [cutTo_bit, Bool.and_eq_true, decide_eq_true_eq, decide_eq_true_eq]; exact ⟨hi, hv⟩
      have p16 : 2 ^ xs.length ≤ 16 := Nat.pow_le_pow_right (n := 2) (by omega) l4
      have : ∀ n : Fin 5, ∀ a : Fin 16, ∀ i : Fin 4, a.val < 2 ^ n.val → (a.val.testBit i.val && (othB n.val a.val).testBit i.val) = false := by decide +kernel
      have := this ⟨xs.length, by omega⟩ ⟨_, Nat.lt_of_lt_of_le hlt p16⟩ ⟨i, by omega⟩ hlt
      simp only at this
      rw [hc, hb] at this
      cases this
  · have e : cutTo xs level xs.length = 2 ^ xs.length - 1 := by
      refine Nat.eq_of_testBit_eq fun i => ?_
      rw [cutTo_bit, full_bits]
      by_cases hi : i < xs.length
      · have := (allB_nth hall i hi).1
        simp [hi]; omega
      · simp [hi]
    rw [e]
    have : 1 ≤ 2 ^ xs.length := Nat.one_le_two_pow
    omega

end Go.Proofs.Ytmbipmdflbddbaa
