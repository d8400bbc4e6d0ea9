/- Plain facts on chances: an answer's even share is twelve times its part. -/
import Derived.Test.YtmbipmdflbddbaaZL3
import Derived.Test.YtmbipmdflbddbaaS10
set_option linter.unusedVariables false
set_option linter.unusedSimpArgs false
namespace Go.Proofs.Ytmbipmdflbddbaa
open Go.RowKit

theorem evTo_sm (a : Nat) (xs : List Int) (k : Nat) : evTo a xs k = sm k (fun b => evA a b (nth xs b)) := by
  induction k with
  | zero => simp [evTo, sm]
  | succ k ih => rw [evTo_succ, sm, ih]

theorem pop_single : ∀ x : Fin 4, ∀ b : Fin 16, single b.val = true → b.val ≠ bit x.val → pop (bit x.val &&& b.val) = 0 := by decide +kernel
theorem pop_bit : ∀ x : Fin 4, pop (bit x.val &&& bit x.val) = 1 ∧ pop (bit x.val) = 1 := by decide +kernel

theorem ch_ev {n : Nat} {xs : List Int} (h : chB (n : Int) xs = true) (hl : xs.length = 2 ^ n) (n4 : n ≤ 4) (x : Nat) (hx : x < n) : evTo (bit x) xs xs.length = 12 * nth xs (bit x) := by
  have h16 : xs.length ≤ 16 := by rw [hl]; exact Nat.pow_le_pow_right (n := 2) (by omega) n4
  rw [evTo_sm, sm_single (bit x) (by rw [hl]; exact bit_lt_pow hx)]
  · obtain ⟨p1, p2⟩ := pop_bit ⟨x, by omega⟩
    simp only at p1 p2
    rw [evA, p1, p2]; simp
  · intro b hb hne
    by_cases z : nth xs b = 0
    · rw [evA, z]; simp
    · have hs : single b = true := by
        cases e : single b
        · exact absurd (ch_zero h b hb e) z
        · rfl
      have := pop_single ⟨x, by omega⟩ ⟨b, by omega⟩ hs hne
      simp only at this
      rw [evA, this]; simp

/-- The answer with the greatest share has the whole for its level. -/
theorem ch_best {s : Int} {xs L K : List Int} (h : chB s xs = true) (law : ChLaw s xs L K) (b : Nat) (hb : (b : Int) < s) (hmax : ∀ x : Nat, (x : Int) < s → evTo (bit x) xs xs.length ≤ evTo (bit b) xs xs.length) : nth L b = sumL xs := by
  have hk := chB_ok h
  obtain ⟨n, rfl, n1, n4, hl⟩ := szOf hk
  have hn : L.length = n := by have := law.size; omega
  refine law.best b (by omega) fun x hx => ?_
  have := hmax x (by omega)
  rw [ch_ev h hl n4 x (by omega), ch_ev h hl n4 b (by omega)] at this
  omega

theorem ch_sum0 {s : Int} {xs : List Int} (h : chB s xs = true) : sumL xs ≠ nth xs 0 := by
  have hk := chB_ok h
  obtain ⟨n, rfl, n1, n4, hl⟩ := szOf hk
  have := ch_zero h 0 (by rw [hl]; exact Nat.two_pow_pos _) (by decide)
  have := hk.sum1
  omega

end Go.Proofs.Ytmbipmdflbddbaa
