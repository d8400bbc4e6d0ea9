/- Plain facts on fractions in lowest terms, and on what is given. -/
import Derived.Test.YtjmfjgoehicgcaaZ7
import Derived.Test.YtjmfjgoehicgcaaE2
import Derived.Test.YtjmfjgoehicgcaaV8
set_option linter.unusedVariables false
set_option linter.unusedSimpArgs false
namespace Go.Proofs.Ytjmfjgoehicgcaa
open Go.RowKit

/-- Lowest terms of N over D, where D is positive. -/
theorem low_red (N D : Int) (hD : 0 < D) : ∃ n d g : Int, 0 < g ∧ N = g * n ∧ D = g * d ∧ 0 < d ∧ Nat.gcd n.natAbs d.natAbs = 1 ∧ lowOk N D = fracB n d ∧ (fracB n d = true → lowN N D = n ∧ lowD N D = d) := by
  have hg : 0 < Nat.gcd N.natAbs D.natAbs := Nat.gcd_pos_of_pos_right _ (by omega)
  have hG : lowG N D = ((Nat.gcd N.natAbs D.natAbs : Nat) : Int) := by
    unfold lowG; rw [if_neg (by omega)]
  obtain ⟨g, hge⟩ : ∃ g, g = Nat.gcd N.natAbs D.natAbs := ⟨_, rfl⟩
  rw [← hge] at hg hG
  have d1 : (g : Int) ∣ N := Int.ofNat_dvd_left.2 (by rw [hge]; exact Nat.gcd_dvd_left _ _)
  have d2 : (g : Int) ∣ D := Int.ofNat_dvd_left.2 (by rw [hge]; exact Nat.gcd_dvd_right _ _)
  obtain ⟨n, hn⟩ := d1
  obtain ⟨d, hd⟩ := d2
  have e1 : N.tdiv (g : Int) = n := by rw [hn]; exact Int.mul_tdiv_cancel_left _ (by omega)
  have e2 : D.tdiv (g : Int) = d := by rw [hd]; exact Int.mul_tdiv_cancel_left _ (by omega)
  have hcop : Nat.gcd n.natAbs d.natAbs = 1 := by
    have h := Nat.gcd_mul_left g n.natAbs d.natAbs
    have a1 : g * n.natAbs = N.natAbs := by rw [hn, Int.natAbs_mul, Int.natAbs_natCast]
    have a2 : g * d.natAbs = D.natAbs := by rw [hd, Int.natAbs_mul, Int.natAbs_natCast]
    rw [a1, a2, ← hge] at h
    exact Nat.eq_of_mul_eq_mul_left hg (by rw [← h, Nat.mul_one])
  have hok : lowOk N D = fracB n d := by unfold lowOk; rw [hG, e1, e2]
  have hd0 : 0 < d := by
    rw [hd] at hD
    exact Int.pos_of_mul_pos_right hD (by omega) |> fun h => h
  refine ⟨n, d, (g : Int), by omega, hn, hd, hd0, hcop, hok, fun h => ?_⟩
  constructor
  · unfold lowN; rw [hok, if_pos h, hG, e1]
  · unfold lowD; rw [hok, if_pos h, hG, e2]

theorem fracB_of {n d : Int} (h1 : -1000000000 ≤ n) (h2 : n ≤ 1000000000) (h3 : 0 < d) (h4 : d ≤ 1000000000) (hc : Nat.gcd n.natAbs d.natAbs = 1) : fracB n d = true := by
  simp [fracB, inB, hc]; omega

/-- A fraction between 0 and 1, not too great. -/
structure Part01 (N D n d : Int) : Prop where
  ok : lowOk N D = true
  num : lowN N D = n
  den : lowD N D = d
  frac : fracB n d = true
  pos : 0 < d
  low : 0 ≤ n
  high : n ≤ d
  cross : n * D = N * d

theorem part01 (N D : Int) (h0 : 0 ≤ N) (h1 : N ≤ D) (h2 : 0 < D) (h3 : D ≤ 1000000000) : Part01 N D (lowN N D) (lowD N D) := by
  obtain ⟨n, d, g, hg, hn, hd, hd0, hc, hok, hv⟩ := low_red N D h2
  have hn0 : 0 ≤ n := by
    by_cases h : 0 ≤ n
    · exact h
    · have : g * n < 0 := Int.mul_neg_of_pos_of_neg hg (by omega)
      omega
  have hnd : n ≤ d := Int.le_of_mul_le_mul_left (by rw [← hn, ← hd]; exact h1) hg
  have hdD : d ≤ D := by
    have : 1 * d ≤ g * d := Int.mul_le_mul_of_nonneg_right (by omega) (by omega)
    omega
  have hf : fracB n d = true := fracB_of (by omega) (by omega) hd0 (by omega) hc
  obtain ⟨e1, e2⟩ := hv hf
  rw [e1, e2]
  exact ⟨by rw [hok]; exact hf, e1, e2, hf, hd0, hn0, hnd, by rw [hn, hd]; ac_rfl⟩

/-- Coprime fractions of one value are one. -/
theorem cop_unique {n d m k : Int} (hd : 0 < d) (hk : 0 < k) (c1 : Nat.gcd n.natAbs d.natAbs = 1) (c2 : Nat.gcd m.natAbs k.natAbs = 1) (h : n * k = m * d) : n = m ∧ d = k := by
  have hn : n.natAbs * k.natAbs = m.natAbs * d.natAbs := by rw [← Int.natAbs_mul, ← Int.natAbs_mul, h]
  have a1 : d.natAbs ∣ k.natAbs := Nat.Coprime.dvd_of_dvd_mul_left (k := d.natAbs) (m := n.natAbs) (by rw [Nat.coprime_comm]; exact c1) ⟨m.natAbs, by rw [hn, Nat.mul_comm]⟩
  have a2 : k.natAbs ∣ d.natAbs := Nat.Coprime.dvd_of_dvd_mul_left (k := k.natAbs) (m := m.natAbs) (by rw [Nat.coprime_comm]; exact c2) ⟨n.natAbs, by rw [← hn, Nat.mul_comm]⟩
  have e := Nat.dvd_antisymm a1 a2
  have e2 : d = k := by omega
  subst e2
  exact ⟨Int.eq_of_mul_eq_mul_right (by omega) h, rfl⟩

theorem low_same (N D M E : Int) (hD : 0 < D) (hE : 0 < E) (h : N * E = M * D) : lowOk N D = lowOk M E ∧ lowN N D = lowN M E ∧ lowD N D = lowD M E := by
  obtain ⟨n, d, g, hg, hn, hd, hd0, hc, hok, hv⟩ := low_red N D hD
  obtain ⟨m, e, q, hq, hm, he, he0, hc2, hok2, hv2⟩ := low_red M E hE
  have key : n * e = m * d := by
    rw [hn, hd, hm, he] at h
    have h1 : (g * q) * (n * e) = (g * q) * (m * d) := by
      calc (g * q) * (n * e) = g * n * (q * e) := by ac_rfl
        _ = q * m * (g * d) := h
        _ = (g * q) * (m * d) := by ac_rfl
    exact Int.eq_of_mul_eq_mul_left (by have := Int.mul_pos hg hq; omega) h1
  obtain ⟨rfl, rfl⟩ := cop_unique hd0 he0 hc hc2 key
  refine ⟨by rw [hok, hok2], ?_⟩
  cases hf : fracB n d
  · have o1 : lowOk N D = false := by rw [hok, hf]
    have o2 : lowOk M E = false := by rw [hok2, hf]
    simp [lowN, lowD, o1, o2]
  · obtain ⟨a, b⟩ := hv hf
    obtain ⟨a2, b2⟩ := hv2 hf
    rw [a, b, a2, b2]; exact ⟨rfl, rfl⟩

/-- One fraction is not less than another one, if their parts say so. -/
theorem less_no {N D M E n d m e : Int} (p : Part01 N D n d) (q : Part01 M E m e) (hD : 0 < D) (hE : 0 < E) (h : M * D ≤ N * E) : lessB n d m e = false := by
  have key : ¬ n * e < m * d := by
    intro hlt
    have h1 : (n * e) * (D * E) < (m * d) * (D * E) := Int.mul_lt_mul_of_pos_right hlt (Int.mul_pos hD hE)
    have e1 : (n * e) * (D * E) = (N * E) * (d * e) := by
      have := p.cross
      calc (n * e) * (D * E) = (n * D) * (e * E) := by ac_rfl
        _ = (N * d) * (e * E) := by rw [this]
        _ = (N * E) * (d * e) := by ac_rfl
    have e2 : (m * d) * (D * E) = (M * D) * (d * e) := by
      have := q.cross
      calc (m * d) * (D * E) = (m * E) * (d * D) := by ac_rfl
        _ = (M * e) * (d * D) := by rw [this]
        _ = (M * D) * (d * e) := by ac_rfl
    rw [e1, e2] at h1
    have h2 : (M * D) * (d * e) ≤ (N * E) * (d * e) := Int.mul_le_mul_of_nonneg_right h (Int.le_of_lt (Int.mul_pos p.pos q.pos))
    omega
  simp [lessB]
  intro _ _
  omega

end Go.Proofs.Ytjmfjgoehicgcaa
