/- What is believed, given a set: the reference. -/
import Derived.Test.YtjmfjgoehicgcaaV7
set_option linter.unusedVariables false
set_option linter.unusedSimpArgs false
namespace Go.Proofs.Ytjmfjgoehicgcaa
open Go.RowKit

/-- A quotient in lowest terms, of numbers that are not too great. -/
theorem lowCop (n d g : Nat) (hg : 0 < g) (hd : 0 < d) (hc : Nat.gcd n d = 1) (h1 : n ≤ 1000000000) (h2 : d ≤ 1000000000) :
    lowOk ((g * n : Nat) : Int) ((g * d : Nat) : Int) = true ∧ lowN ((g * n : Nat) : Int) ((g * d : Nat) : Int) = n ∧ lowD ((g * n : Nat) : Int) ((g * d : Nat) : Int) = d := by
  have hgcd : Nat.gcd (g * n) (g * d) = g := by rw [Nat.gcd_mul_left, hc, Nat.mul_one]
  have hG : lowG ((g * n : Nat) : Int) ((g * d : Nat) : Int) = (g : Int) := by
    unfold lowG
    rw [Int.natAbs_natCast, Int.natAbs_natCast, hgcd]
    have : ¬ ((g * d : Nat) : Int) < 0 := by omega
    simp only [this, if_false]
  have e1 : ((g * n : Nat) : Int).tdiv (g : Int) = (n : Int) := by
    rw [← Int.ofNat_tdiv, Nat.mul_div_cancel_left _ hg]
  have e2 : ((g * d : Nat) : Int).tdiv (g : Int) = (d : Int) := by
    rw [← Int.ofNat_tdiv, Nat.mul_div_cancel_left _ hg]
  have hok : lowOk ((g * n : Nat) : Int) ((g * d : Nat) : Int) = true := by
    unfold lowOk
    rw [hG, e1, e2]
    simp [fracB, inB, hc]
    omega
  refine ⟨hok, ?_, ?_⟩
  · unfold lowN; rw [hok, hG]; simpa using e1
  · unfold lowD; rw [hok, hG]; simpa using e2

theorem lowOther (N D : Int) (h0 : 0 ≤ N) (h1 : N ≤ D) (h2 : 0 < D) (h3 : D ≤ 1000000000) :
    lowOk N D = true ∧ 0 ≤ lowN N D ∧ lowN N D ≤ lowD N D ∧ 0 < lowD N D ∧ lowD N D ≤ D ∧ lowOk (lowD N D - lowN N D) (lowD N D) = lowOk (D - N) D ∧ lowN (lowD N D - lowN N D) (lowD N D) = lowN (D - N) D ∧ lowD (lowD N D - lowN N D) (lowD N D) = lowD (D - N) D := by
  obtain ⟨a, rfl⟩ : ∃ a : Nat, N = a := ⟨N.toNat, by omega⟩
  obtain ⟨b, rfl⟩ : ∃ b : Nat, D = b := ⟨D.toNat, by omega⟩
  have hg : 0 < Nat.gcd a b := Nat.gcd_pos_of_pos_right a (by omega)
  obtain ⟨n, hn⟩ := Nat.gcd_dvd_left a b
  obtain ⟨d, hd⟩ := Nat.gcd_dvd_right a b
  have hcop : Nat.gcd n d = 1 := by
    have h := Nat.gcd_mul_left (Nat.gcd a b) n d
    rw [← hn, ← hd] at h
    exact Nat.eq_of_mul_eq_mul_left hg (by rw [← h, Nat.mul_one])
  generalize Nat.gcd a b = g at hg hn hd
  subst hn hd
  have hd0 : 0 < d := Nat.pos_of_ne_zero fun h => by subst h; simp at h2
  have hnd : n ≤ d := Nat.le_of_mul_le_mul_left (by omega) hg
  have hdD : d ≤ g * d := Nat.le_mul_of_pos_left d hg
  have hcop2 : Nat.gcd (d - n) d = 1 := by rw [Nat.gcd_self_sub_left hnd]; exact hcop
  obtain ⟨o1, o2, o3⟩ := lowCop n d g hg hd0 hcop (by omega) (by omega)
  obtain ⟨p1, p2, p3⟩ := lowCop (d - n) d g hg hd0 hcop2 (by omega) (by omega)
  obtain ⟨q1, q2, q3⟩ := lowCop (d - n) d 1 (by omega) hd0 hcop2 (by omega) (by omega)
  rw [Nat.one_mul, Nat.one_mul] at q1 q2 q3
  have e1 : (((g * d : Nat) : Int) - ((g * n : Nat) : Int)) = ((g * (d - n) : Nat) : Int) := by
    rw [Nat.mul_sub]
    have := Nat.mul_le_mul_left g hnd
    omega
  have e2 : ((d : Int) - (n : Int)) = ((d - n : Nat) : Int) := by omega
  rw [o2, o3, e1, e2, p1, p2, p3, q1, q2, q3]
  exact ⟨o1, by omega, by omega, by omega, by omega, rfl, rfl, rfl⟩

theorem and_oth : ∀ a b : Fin 16, ∀ k : Fin 5, a.val < 2 ^ k.val → b.val < 2 ^ k.val → a.val &&& (2 ^ k.val - 1 - b.val) = dif a.val b.val := by decide +kernel

theorem setB_neg (s : Int) : setB s (-1) = false := by simp [setB]

/-- All other answers are a set, and what is possible with them. -/
theorem oth_ok {s : Int} {xs : List Int} (hk : MassOk s xs) (a b : Nat) (ha : (a : Int) < pow2 s) (hb : (b : Int) < pow2 s) :
    setB s (xs.length - 1 - b) = true ∧ a &&& ((xs.length : Int) - 1 - (b : Int)).toNat = dif a b := by
  have h1 := hk.s1
  have h4 := hk.s4
  have hl := hk.len
  refine ⟨by simp [setB]; omega, ?_⟩
  obtain ⟨k, rfl⟩ : ∃ k : Nat, s = k := ⟨s.toNat, by omega⟩
  have hp : pow2 (k : Int) = ((2 ^ k : Nat) : Int) := by simp [pow2]
  have h5 : 2 ^ k ≤ 16 := by have := pow2_bd k h1 h4; omega
  rw [hp] at ha hb hl
  have := and_oth ⟨a, by omega⟩ ⟨b, by omega⟩ ⟨k, by omega⟩ (by show a < 2 ^ k; omega) (by show b < 2 ^ k; omega)
  rw [hl, show (((2 ^ k : Nat) : Int) - 1 - (b : Int)).toNat = 2 ^ k - 1 - b by omega]
  exact this

theorem pgG_oth (s : Int) (xs : List Int) (b a : Int) : pgG s xs (othP s xs b) a = pgG s xs b a := by
  unfold pgG
  cases hb : msB s xs b
  · rw [othNo hb]; simp [msB, setB_neg]
  · rw [othYes hb]
    have h1 : massB s xs = true ∧ setB s b = true := by simpa [msB] using hb
    have hk := massB_ok h1.1
    obtain ⟨nb, rfl, hb16, hbl⟩ := setB_nat hk.s1 hk.s4 h1.2
    have := (oth_ok hk 0 nb (by have := pow2_bd s hk.s1 hk.s4; omega) hbl).1
    simp [msB, h1.1, this]

/-- What is believed: what is not possible with all other answers. -/
theorem dif_meet : ∀ a b k : Fin 16, meetB (dif a.val b.val) k.val = true → meetB a.val k.val = true := by decide +kernel

theorem subIn_bd (a b : Nat) (ha : a < 16) (hb : b < 16) (xs : List Int) (h : allB 0 1000000 xs = true) (hx : xs.length ≤ 16) : ∀ k, k ≤ xs.length → sumTo (meetB (dif a b)) xs k ≤ sumTo (meetB a) xs k := by
  intro k hk
  induction k with
  | zero => simp [sumTo]
  | succ k ih =>
    have h1 := ih (by omega)
    have h2 := allB_nth h k (by omega)
    have h3 := dif_meet ⟨a, ha⟩ ⟨b, hb⟩ ⟨k, by omega⟩
    rw [sumTo_succ, sumTo_succ]
    cases hm : meetB (dif a b) k
    · cases hm2 : meetB a k
      · simpa using h1
      · simp; omega
    · rw [h3 hm]; simp; omega

end Go.Proofs.Ytjmfjgoehicgcaa