/- What is believed, given a set: the reference. -/
import Derived.Test.YtjmfjgoehicgcaaV7
import Derived.Test.YtjmfjgoehicgcaaMgT5
import Derived.Test.YtjmfjgoehicgcaaE2
import Derived.Test.YtjmfjgoehicgcaaMgS10
import Derived.Test.YtjmfjgoehicgcaaD3
import Derived.Test.YtjmfjgoehicgcaaMgDD
set_option linter.unusedVariables false
set_option linter.unusedSimpArgs false
namespace Go.Proofs.Ytjmfjgoehicgcaa
open Go.RowKit

/-- A quotient in lowest terms, of numbers that are not too great. -/
theorem lowCop (n d g : Nat) (hg : 0 < g) (hd : 0 < d) (hc : Nat.gcd n d = 1) (h1 : n ≤ 1000000000) (h2 : d ≤ 1000000000) :
    lowOk ((g * n : Nat) : Int) ((g * d : Nat) : Int) = true ∧ lowN ((g * n : Nat) : Int) ((g * d : Nat) : Int) = n ∧ lowD ((g * n : Nat) : Int) ((g * d : Nat) : Int) = d := by
  have hgcd : Nat.gcd (g * n) (g * d) = g := by rw [Nat.gcd_mul_left, hc, Nat.mul_one]
  have hG : lowG ((g * n : Nat) : Int) ((g * d : Nat) : Int) = (g : Int) := by
    unfold lowG
    rw [Int.natAbs_natCast, Int.natAbs_natCast, hgcd]
    have : ¬ ((g * d : Nat) : Int) < 0 := by omega
    simp only [this, if_false]
  have e1 : ((g * n : Nat) : Int).tdiv (g : Int) = (n : Int) := by
    rw [← Int.ofNat_tdiv, Nat.mul_div_cancel_left _ hg]
  have e2 : ((g * d : Nat) : Int).tdiv (g : Int) = (d : Int) := by
    rw [← Int.ofNat_tdiv, Nat.mul_div_cancel_left _ hg]
  have hok : lowOk ((g * n : Nat) : Int) ((g * d : Nat) : Int) = true := by
    unfold lowOk
    rw [hG, e1, e2]
    simp [fracB, inB, hc]
    omega
  refine ⟨hok, ?_, ?_⟩
  · unfold lowN; rw [hok, hG]; simpa using e1
  · unfold lowD; rw [hok, hG]; simpa using e2

theorem lowOther (N D : Int) (h0 : 0 ≤ N) (h1 : N ≤ D) (h2 : 0 < D) (h3 : D ≤ 1000000000) :
    lowOk N D = true ∧ 0 ≤ lowN N D ∧ lowN N D ≤ lowD N D ∧ 0 < lowD N D ∧ lowD N D ≤ D ∧ lowOk (lowD N D - lowN N D) (lowD N D) = lowOk (D - N) D ∧ lowN (lowD N D - lowN N D) (lowD N D) = lowN (D - N) D ∧ lowD (lowD N D - lowN N D) (lowD N D) = lowD (D - N) D := by
  obtain ⟨a, rfl⟩ : ∃ a : Nat, N = a := ⟨N.toNat, by omega⟩
  obtain ⟨b, rfl⟩ : ∃ b : Nat, D = b := ⟨D.toNat, by omega⟩
  have hg : 0 < Nat.gcd a b := Nat.gcd_pos_of_pos_right a (by omega)
  obtain ⟨n, hn⟩ := Nat.gcd_dvd_left a b
  obtain ⟨d, hd⟩ := Nat.gcd_dvd_right a b
  have hcop : Nat.gcd n d = 1 := by
    have h := Nat.gcd_mul_left (Nat.gcd a b) n d
    rw [← hn, ← hd] at h
    exact Nat.eq_of_mul_eq_mul_left hg (by rw [← h, Nat.mul_one])
  generalize Nat.gcd a b = g at hg hn hd
  subst hn hd
  have hd0 : 0 < d := Nat.pos_of_ne_zero fun h => by subst h; simp at h2
  have hnd : n ≤ d := Nat.le_of_mul_le_mul_left (by omega) hg
  have hdD : d ≤ g * d := Nat.le_mul_of_pos_left d hg
  have hcop2 : Nat.gcd (d - n) d = 1 := by rw [Nat.gcd_self_sub_left hnd]; exact hcop
  obtain ⟨o1, o2, o3⟩ := lowCop n d g hg hd0 hcop (by omega) (by omega)
  obtain ⟨p1, p2, p3⟩ := lowCop (d - n) d g hg hd0 hcop2 (by omega) (by omega)
  obtain ⟨q1, q2, q3⟩ := lowCop (d - n) d 1 (by omega) hd0 hcop2 (by omega) (by omega)
  rw [Nat.one_mul, Nat.one_mul] at q1 q2 q3
  have e1 : (((g * d : Nat) : Int) - ((g * n : Nat) : Int)) = ((g * (d - n) : Nat) : Int) := by
    rw [Nat.mul_sub]
    have := Nat.mul_le_mul_left g hnd
    omega
  have e2 : ((d : Int) - (n : Int)) = ((d - n : Nat) : Int) := by omega
  rw [o2, o3, e1, e2, p1, p2, p3, q1, q2, q3]
  exact ⟨o1, by omega, by omega, by omega, by omega, rfl, rfl, rfl⟩

theorem and_oth : ∀ a b : Fin 16, ∀ k : Fin 5, a.val < 2 ^ k.val → b.val < 2 ^ k.val → a.val &&& (2 ^ k.val - 1 - b.val) = dif a.val b.val := by decide +kernel

theorem setB_neg (s : Int) : setB s (-1) = false := by simp [setB]

/-- All other answers are a set, and what is possible with them. -/
theorem oth_ok {s : Int} {xs : List Int} (hk : MassOk s xs) (a b : Nat) (ha : (a : Int) < pow2 s) (hb : (b : Int) < pow2 s) :
    setB s (xs.length - 1 - b) = true ∧ a &&& ((xs.length : Int) - 1 - (b : Int)).toNat = dif a b := by
  have h1 := hk.s1
  have h4 := hk.s4
  have hl := hk.len
  refine ⟨by simp [setB]; omega, ?_⟩
  obtain ⟨k, rfl⟩ : ∃ k : Nat, s = k := ⟨s.toNat, by omega⟩
  have hp : pow2 (k : Int) = ((2 ^ k : Nat) : Int) := by simp [pow2]
  have h5 : 2 ^ k ≤ 16 := by have := pow2_bd k h1 h4; omega
  rw [hp] at ha hb hl
  have := and_oth ⟨a, by omega⟩ ⟨b, by omega⟩ ⟨k, by omega⟩ (by show a < 2 ^ k; omega) (by show b < 2 ^ k; omega)
  rw [hl, show (((2 ^ k : Nat) : Int) - 1 - (b : Int)).toNat = 2 ^ k - 1 - b by omega]
  exact this

theorem pgG_oth (s : Int) (xs : List Int) (b a : Int) : pgG s xs (othP s xs b) a = pgG s xs b a := by
  unfold pgG
  cases hb : msB s xs b
  · rw [othNo hb]; simp [msB, setB_neg]
  · rw [othYes hb]
    have h1 : massB s xs = true ∧ setB s b = true := by simpa [msB] using hb
    have hk := massB_ok h1.1
    obtain ⟨nb, rfl, hb16, hbl⟩ := setB_nat hk.s1 hk.s4 h1.2
    have := (oth_ok hk 0 nb (by have := pow2_bd s hk.s1 hk.s4; omega) hbl).1
    simp [msB, h1.1, this]

/-- What is believed: what is not possible with all other answers. -/
theorem dif_meet : ∀ a b k : Fin 16, meetB (dif a.val b.val) k.val = true → meetB a.val k.val = true := by decide +kernel

theorem subIn_bd (a b : Nat) (ha : a < 16) (hb : b < 16) (xs : List Int) (h : allB 0 1000000 xs = true) (hx : xs.length ≤ 16) : ∀ k, k ≤ xs.length → sumTo (meetB (dif a b)) xs k ≤ sumTo (meetB a) xs k := by
  intro k hk
  induction k with
  | zero => simp [sumTo]
  | succ k ih =>
    have h1 := ih (by omega)
    have h2 := allB_nth h k (by omega)
    have h3 := dif_meet ⟨a, ha⟩ ⟨b, hb⟩ ⟨k, by omega⟩
    rw [sumTo_succ, sumTo_succ]
    cases hm : meetB (dif a b) k
    · cases hm2 : meetB a k
      · simpa using h1
      · simp; omega
    · rw [h3 hm]; simp; omega

end Go.Proofs.Ytjmfjgoehicgcaa
/- Plain facts on fractions in lowest terms, and on what is given. -/
set_option linter.unusedVariables false
set_option linter.unusedSimpArgs false
namespace Go.Proofs.Ytjmfjgoehicgcaa
open Go.RowKit

/-- Lowest terms of N over D, where D is positive. -/
theorem low_red (N D : Int) (hD : 0 < D) : ∃ n d g : Int, 0 < g ∧ N = g * n ∧ D = g * d ∧ 0 < d ∧ Nat.gcd n.natAbs d.natAbs = 1 ∧ lowOk N D = fracB n d ∧ (fracB n d = true → lowN N D = n ∧ lowD N D = d) := by
  have hg : 0 < Nat.gcd N.natAbs D.natAbs := Nat.gcd_pos_of_pos_right _ (by omega)
  have hG : lowG N D = ((Nat.gcd N.natAbs D.natAbs : Nat) : Int) := by
    unfold lowG; rw [if_neg (by omega)]
  obtain ⟨g, hge⟩ : ∃ g, g = Nat.gcd N.natAbs D.natAbs := ⟨_, rfl⟩
  rw [← hge] at hg hG
  have d1 : (g : Int) ∣ N := Int.ofNat_dvd_left.2 (by rw [hge]; exact Nat.gcd_dvd_left _ _)
  have d2 : (g : Int) ∣ D := Int.ofNat_dvd_left.2 (by rw [hge]; exact Nat.gcd_dvd_right _ _)
  obtain ⟨n, hn⟩ := d1
  obtain ⟨d, hd⟩ := d2
  have e1 : N.tdiv (g : Int) = n := by rw [hn]; exact Int.mul_tdiv_cancel_left _ (by omega)
  have e2 : D.tdiv (g : Int) = d := by rw [hd]; exact Int.mul_tdiv_cancel_left _ (by omega)
  have hcop : Nat.gcd n.natAbs d.natAbs = 1 := by
    have h := Nat.gcd_mul_left g n.natAbs d.natAbs
    have a1 : g * n.natAbs = N.natAbs := by rw [hn, Int.natAbs_mul, Int.natAbs_natCast]
    have a2 : g * d.natAbs = D.natAbs := by rw [hd, Int.natAbs_mul, Int.natAbs_natCast]
    rw [a1, a2, ← hge] at h
    exact Nat.eq_of_mul_eq_mul_left hg (by rw [← h, Nat.mul_one])
  have hok : lowOk N D = fracB n d := by unfold lowOk; rw [hG, e1, e2]
  have hd0 : 0 < d := by
    rw [hd] at hD
    exact Int.pos_of_mul_pos_right hD (by omega) |> fun h => h
  refine ⟨n, d, (g : Int), by omega, hn, hd, hd0, hcop, hok, fun h => ?_⟩
  constructor
  · unfold lowN; rw [hok, if_pos h, hG, e1]
  · unfold lowD; rw [hok, if_pos h, hG, e2]

theorem fracB_of {n d : Int} (h1 : -1000000000 ≤ n) (h2 : n ≤ 1000000000) (h3 : 0 < d) (h4 : d ≤ 1000000000) (hc : Nat.gcd n.natAbs d.natAbs = 1) : fracB n d = true := by
  simp [fracB, inB, hc]; omega

/-- A fraction between 0 and 1, not too great. -/
structure Part01 (N D n d : Int) : Prop where
  ok : lowOk N D = true
  num : lowN N D = n
  den : lowD N D = d
  frac : fracB n d = true
  pos : 0 < d
  low : 0 ≤ n
  high : n ≤ d
  cross : n * D = N * d

theorem part01 (N D : Int) (h0 : 0 ≤ N) (h1 : N ≤ D) (h2 : 0 < D) (h3 : D ≤ 1000000000) : Part01 N D (lowN N D) (lowD N D) := by
  obtain ⟨n, d, g, hg, hn, hd, hd0, hc, hok, hv⟩ := low_red N D h2
  have hn0 : 0 ≤ n := by
    by_cases h : 0 ≤ n
    · exact h
    · have : g * n < 0 := Int.mul_neg_of_pos_of_neg hg (by omega)
      omega
  have hnd : n ≤ d := Int.le_of_mul_le_mul_left (by rw [← hn, ← hd]; exact h1) hg
  have hdD : d ≤ D := by
    have : 1 * d ≤ g * d := Int.mul_le_mul_of_nonneg_right (by omega) (by omega)
    omega
  have hf : fracB n d = true := fracB_of (by omega) (by omega) hd0 (by omega) hc
  obtain ⟨e1, e2⟩ := hv hf
  rw [e1, e2]
  exact ⟨by rw [hok]; exact hf, e1, e2, hf, hd0, hn0, hnd, by rw [hn, hd]; ac_rfl⟩

/-- Coprime fractions of one value are one. -/
theorem cop_unique {n d m k : Int} (hd : 0 < d) (hk : 0 < k) (c1 : Nat.gcd n.natAbs d.natAbs = 1) (c2 : Nat.gcd m.natAbs k.natAbs = 1) (h : n * k = m * d) : n = m ∧ d = k := by
  have hn : n.natAbs * k.natAbs = m.natAbs * d.natAbs := by rw [← Int.natAbs_mul, ← Int.natAbs_mul, h]
  have a1 : d.natAbs ∣ k.natAbs := Nat.Coprime.dvd_of_dvd_mul_left (k := d.natAbs) (m := n.natAbs) (by rw [Nat.coprime_comm]; exact c1) ⟨m.natAbs, by rw [hn, Nat.mul_comm]⟩
  have a2 : k.natAbs ∣ d.natAbs := Nat.Coprime.dvd_of_dvd_mul_left (k := k.natAbs) (m := m.natAbs) (by rw [Nat.coprime_comm]; exact c2) ⟨n.natAbs, by rw [← hn, Nat.mul_comm]⟩
  have e := Nat.dvd_antisymm a1 a2
  have e2 : d = k := by omega
  subst e2
  exact ⟨Int.eq_of_mul_eq_mul_right (by omega) h, rfl⟩

theorem low_same (N D M E : Int) (hD : 0 < D) (hE : 0 < E) (h : N * E = M * D) : lowOk N D = lowOk M E ∧ lowN N D = lowN M E ∧ lowD N D = lowD M E := by
  obtain ⟨n, d, g, hg, hn, hd, hd0, hc, hok, hv⟩ := low_red N D hD
  obtain ⟨m, e, q, hq, hm, he, he0, hc2, hok2, hv2⟩ := low_red M E hE
  have key : n * e = m * d := by
    rw [hn, hd, hm, he] at h
    have h1 : (g * q) * (n * e) = (g * q) * (m * d) := by
      calc (g * q) * (n * e) = g * n * (q * e) := by ac_rfl
        _ = q * m * (g * d) := h
        _ = (g * q) * (m * d) := by ac_rfl
    exact Int.eq_of_mul_eq_mul_left (by have := Int.mul_pos hg hq; omega) h1
  obtain ⟨rfl, rfl⟩ := cop_unique hd0 he0 hc hc2 key
  refine ⟨by rw [hok, hok2], ?_⟩
  cases hf : fracB n d
  · have o1 : lowOk N D = false := by rw [hok, hf]
    have o2 : lowOk M E = false := by rw [hok2, hf]
    simp [lowN, lowD, o1, o2]
  · obtain ⟨a, b⟩ := hv hf
    obtain ⟨a2, b2⟩ := hv2 hf
    rw [a, b, a2, b2]; exact ⟨rfl, rfl⟩

/-- One fraction is not less than another one, if their parts say so. -/
theorem less_no {N D M E n d m e : Int} (p : Part01 N D n d) (q : Part01 M E m e) (hD : 0 < D) (hE : 0 < E) (h : M * D ≤ N * E) : lessB n d m e = false := by
  have key : ¬ n * e < m * d := by
    intro hlt
    have h1 : (n * e) * (D * E) < (m * d) * (D * E) := Int.mul_lt_mul_of_pos_right hlt (Int.mul_pos hD hE)
    have e1 : (n * e) * (D * E) = (N * E) * (d * e) := by
      have := p.cross
      calc (n * e) * (D * E) = (n * D) * (e * E) := by ac_rfl
        _ = (N * d) * (e * E) := by rw [this]
        _ = (N * E) * (d * e) := by ac_rfl
    have e2 : (m * d) * (D * E) = (M * D) * (d * e) := by
      have := q.cross
      calc (m * d) * (D * E) = (m * E) * (d * D) := by ac_rfl
        _ = (M * e) * (d * D) := by rw [this]
        _ = (M * D) * (d * e) := by ac_rfl
    rw [e1, e2] at h1
    have h2 : (M * D) * (d * e) ≤ (N * E) * (d * e) := Int.mul_le_mul_of_nonneg_right h (Int.le_of_lt (Int.mul_pos p.pos q.pos))
    omega
  simp [lessB]
  intro _ _
  omega

end Go.Proofs.Ytjmfjgoehicgcaa

/- Plain facts on masses that are learned, and on what is given. -/
set_option linter.unusedVariables false
set_option linter.unusedSimpArgs false
namespace Go.Proofs.Ytjmfjgoehicgcaa
open Go.RowKit

theorem and_lt_len {n s : Nat} (a e : Nat) (he : e < n) : a &&& e < n := Nat.lt_of_le_of_lt Nat.and_le_right he

/-- A sum over what is cut. -/
theorem cut_sum (p : Nat → Bool) (a : Nat) (xs : List Int) : sm xs.length (fun c => if p c = true then nth (cutP a xs) c else 0) = sm xs.length (fun e => if p (a &&& e) = true then nth xs e else 0) := by
  have h := sm_push (n := xs.length) (m := xs.length) (fun b => a &&& b) (fun b hb => Nat.lt_of_le_of_lt Nat.and_le_right hb) (nth xs) (fun c => if p c = true then 1 else 0)
  have e1 : sm xs.length (fun c => if p c = true then nth (cutP a xs) c else 0) = sm xs.length (fun c => (if p c = true then 1 else 0) * sm xs.length (fun b => if a &&& b = c then nth xs b else 0)) := by
    apply sm_congr
    intro c hc
    rw [cutP, acc_nth _ _ _ _ _ hc]
    cases p c <;> simp
  rw [e1, h]
  apply sm_congr
  intro e _
  cases p (a &&& e) <;> simp

theorem nonP_nth (L : List Int) (c : Nat) (hc : c < L.length) : nth (nonP L) c = if c = 0 then 0 else nth L c := by
  by_cases h : c = 0
  · subst h; rw [nonP, nth_eq _ _ (by rw [List.length_set]; exact hc), List.getElem_set_self]; rfl
  · rw [nonP, nth_set_off _ _ _ _ h, if_neg h]

theorem ln_sum (p : Nat → Bool) (h0 : p 0 = false) (a : Nat) (xs : List Int) : sm xs.length (fun c => if p c = true then nth (lnP a xs) c else 0) = sm xs.length (fun e => if p (a &&& e) = true then nth xs e else 0) := by
  rw [← cut_sum]
  apply sm_congr
  intro c hc
  rw [lnP, nonP_nth _ _ (by rw [cutP_len]; exact hc)]
  by_cases e : c = 0
  · subst e; simp [h0]
  · rw [if_neg e]

theorem possS_sm (a : Nat) (xs : List Int) : possS a xs = sm xs.length (fun e => if meetB a e = true then nth xs e else 0) := by rw [possS, sumTo_sm]
theorem imS_sm (a : Nat) (xs : List Int) : imS a xs = sm xs.length (fun e => if inSet a e = true then nth xs e else 0) := by rw [imS, sumTo_sm]

theorem ln_total (a : Nat) (xs : List Int) : sumL (lnP a xs) = possS a xs := by
  have h := ln_sum (fun c => c != 0) (by simp) a xs
  rw [possS_sm, sumL_sm, lnP_len]
  refine Eq.trans (sm_congr fun c hc => ?_) (h.trans (sm_congr fun e _ => ?_))
  · by_cases e : c = 0
    · subst e; rw [lnP, nonP_nth _ _ (by rw [cutP_len]; exact hc)]; simp
    · simp [e]
  · simp [meetB]

theorem meet_and : ∀ a b e : Fin 16, meetB b.val (a.val &&& e.val) = meetB (a.val &&& b.val) e.val := by decide +kernel
theorem foc_dif : ∀ a b e : Fin 16, focT b.val (a.val &&& e.val) = (meetB a.val e.val && !meetB (dif a.val b.val) e.val) := by decide +kernel
theorem dif_sub : ∀ a b e : Fin 16, meetB (dif a.val b.val) e.val = true → meetB a.val e.val = true := by decide +kernel

theorem ln_poss (a b : Nat) (ha : a < 16) (hb : b < 16) (xs : List Int) (hl : xs.length ≤ 16) : possS b (lnP a xs) = possS (a &&& b) xs := by
  rw [possS_sm, possS_sm, lnP_len, ln_sum (meetB b) (by simp [meetB])]
  apply sm_congr
  intro e he
  rw [meet_and ⟨a, ha⟩ ⟨b, hb⟩ ⟨e, by omega⟩]

theorem ln_bel (a b : Nat) (ha : a < 16) (hb : b < 16) (xs : List Int) (hl : xs.length ≤ 16) : bS b (lnP a xs) = possS a xs - possS (dif a b) xs := by
  rw [possS_sm, possS_sm, bS, lnP_len, ln_sum (focT b) (by simp [focT]), ← sm_sub]
  apply sm_congr
  intro e he
  rw [foc_dif ⟨a, ha⟩ ⟨b, hb⟩ ⟨e, by omega⟩]
  have := dif_sub ⟨a, ha⟩ ⟨b, hb⟩ ⟨e, by omega⟩
  simp only at this
  cases h1 : meetB a e
  · cases h2 : meetB (dif a b) e
    · simp
    · rw [this h2] at h1; cases h1
  · cases h2 : meetB (dif a b) e <;> simp

theorem poss_le (a b : Nat) (ha : a < 16) (hb : b < 16) (xs : List Int) (hl : xs.length ≤ 16) {M : Int} (h : allB 0 M xs = true) (hs : ∀ e : Fin 16, meetB a e.val = true → meetB b e.val = true) : possS a xs ≤ possS b xs := by
  rw [possS_sm, possS_sm]
  apply sm_le
  intro e he
  have h0 := (allB_nth h e he).1
  have := hs ⟨e, by omega⟩
  simp only at this
  cases h1 : meetB a e
  · simp; split <;> omega
  · simp [this h1]

theorem poss_and : ∀ a b e : Fin 16, meetB (a.val &&& b.val) e.val = true → meetB a.val e.val = true := by decide +kernel

theorem poss_nonneg (a : Nat) (xs : List Int) {M : Int} (h : allB 0 M xs = true) : 0 ≤ possS a xs := by
  rw [possS_sm]; exact sm_nonneg fun e he => by have := (allB_nth h e he).1; split <;> omega
theorem im_nonneg (a : Nat) (xs : List Int) {M : Int} (h : allB 0 M xs = true) : 0 ≤ imS a xs := by
  rw [imS_sm]; exact sm_nonneg fun e he => by have := (allB_nth h e he).1; split <;> omega
theorem poss_total (a : Nat) {s : Int} {xs : List Int} (h : MassOk s xs) : possS a xs ≤ 1000000 := by
  refine Int.le_trans ?_ h.sum2
  rw [possS_sm, sumL_sm]; exact sm_le fun e he => by have := (allB_nth h.all e he).1; split <;> omega

theorem ln_wide (a : Nat) (xs : List Int) (hl : xs.length ≤ 16) (h : allB 0 1000000 xs = true) : allB 0 4611686018427387904 (lnP a xs) = true := nonP_all (by omega) (cutP_wide a xs hl h)

/-- What is learned, where it can be. -/
structure Learned (s : Int) (xs : List Int) (a : Nat) (K : List Int) : Prop where
  low : Low s (lnP a xs) K
  len : K.length = xs.length
  ok : gOk (msB s xs (a : Int)) s (lnP (a : Int).toNat xs) = true
  val : gL (msB s xs (a : Int)) s (lnP (a : Int).toNat xs) = K
  size : gS (msB s xs (a : Int)) s (lnP (a : Int).toNat xs) = s

theorem learn_ok {s : Int} {xs : List Int} {a : Nat} (hm : msB s xs (a : Int) = true) (hp : 0 < possS a xs) : ∃ K, Learned s xs a K := by
  obtain ⟨h1, h2⟩ := msB_parts hm
  have hk := massB_ok h1
  have hok : mkOk s (lnP a xs) = true := mk_ok hk.sz (by rw [lnP_len]; exact hk.len) (ln_wide a xs hk.l16 hk.all) (by rw [ln_total]; exact hp) (by rw [ln_total]; exact poss_total a hk)
  have hl := mk_low hok
  refine ⟨mkL s (lnP a xs), hl, by rw [← hl.len, lnP_len], ?_, ?_, ?_⟩
  · simp [gOk, hm, hok]
  · simp [gL, hm]
  · simp [gS, hm, mkS, hok]

theorem possS_mul (b : Nat) (d : Int) (P K : List Int) (hl : P.length = K.length) (hm : ∀ k, k < K.length → nth P k = d * nth K k) : possS b P = d * possS b K := by
  rw [possS_sm, possS_sm, hl, ← sm_mul]
  apply sm_congr
  intro k hk
  rw [hm k hk]; split <;> simp

/-- What is believed and possible when a set is learned, and the least chance. -/
theorem fOk_eq {g : Bool} {N D : Int} (h : g = true → lowOk N D = true) : fOk g N D = g := by
  cases g
  · rfl
  · simp [fOk, h rfl]

theorem pg_parts {s : Int} {xs : List Int} {b a : Int} (h : pgG s xs b a = true) : ∃ n m : Nat, a = (n : Int) ∧ b = (m : Int) ∧ n < 16 ∧ m < 16 ∧ (n : Int) < pow2 s ∧ (m : Int) < pow2 s ∧ massB s xs = true ∧ msB s xs a = true ∧ msB s xs b = true ∧ 0 < possS n xs := by
  simp only [pgG, Bool.and_eq_true, Bool.not_eq_true', beq_eq_false_iff_ne] at h
  obtain ⟨h1, h2, h3⟩ := h
  obtain ⟨m1, s1⟩ := msB_parts h1
  obtain ⟨_, s2⟩ := msB_parts h2
  have hk := massB_ok m1
  obtain ⟨n, rfl, n16, np⟩ := setB_nat hk.s1 hk.s4 s1
  obtain ⟨m, rfl, m16, mp⟩ := setB_nat hk.s1 hk.s4 s2
  have := poss_nonneg n xs hk.all
  simp only [Int.toNat_natCast] at h3
  exact ⟨n, m, rfl, rfl, n16, m16, np, mp, m1, h1, h2, by omega⟩

/-- The bounds of what is given. -/
structure GivenBd (xs : List Int) (n m : Nat) : Prop where
  pos : 0 < possS n xs
  top : possS n xs ≤ 1000000
  r0 : 0 ≤ possS (n &&& m) xs
  r1 : possS (n &&& m) xs ≤ possS n xs
  q0 : 0 ≤ possS (dif n m) xs
  q1 : possS (dif n m) xs ≤ possS n xs
  both : possS n xs ≤ possS (dif n m) xs + possS (n &&& m) xs

theorem meet_both : ∀ a b e : Fin 16, meetB a.val e.val = true → (meetB (dif a.val b.val) e.val || meetB (a.val &&& b.val) e.val) = true := by decide +kernel

theorem given_bd {s : Int} {xs : List Int} (hk : MassOk s xs) (n m : Nat) (hn : n < 16) (hm : m < 16) (hp : 0 < possS n xs) : GivenBd xs n m := by
  refine ⟨hp, poss_total n hk, poss_nonneg _ _ hk.all, ?_, poss_nonneg _ _ hk.all, ?_, ?_⟩
  · exact poss_le _ _ (and_lt16 n m hn) hn xs hk.l16 hk.all fun e => poss_and ⟨n, hn⟩ ⟨m, hm⟩ e
  · exact poss_le _ _ (dif_lt n m hn) hn xs hk.l16 hk.all fun e => dif_sub ⟨n, hn⟩ ⟨m, hm⟩ e
  · rw [possS_sm, possS_sm, possS_sm, ← sm_add]
    apply sm_le
    intro e he
    have h0 := (allB_nth hk.all e he).1
    have := meet_both ⟨n, hn⟩ ⟨m, hm⟩ ⟨e, by have := hk.l16; omega⟩
    simp only at this
    cases h1 : meetB n e
    · simp; split <;> split <;> omega
    · have := this h1
      cases h2 : meetB (dif n m) e <;> cases h3 : meetB (n &&& m) e <;> simp [h2, h3] at this ⊢ <;> omega

theorem given_oks (s : Int) (xs : List Int) (b a : Int) :
    fOk (pgG s xs b a) (possS a.toNat xs - possS (dif a.toNat b.toNat) xs) (possS a.toNat xs) = pgG s xs b a ∧
    fOk (pgG s xs b a) (possS (a.toNat &&& b.toNat) xs) (possS a.toNat xs) = pgG s xs b a := by
  constructor
  all_goals
    apply fOk_eq
    intro h
    obtain ⟨n, m, rfl, rfl, n16, m16, np, mp, hm, _, _, hp⟩ := pg_parts h
    have g := given_bd (massB_ok hm) n m n16 m16 hp
    obtain ⟨g1, g2, g3, g4, g5, g6, g7⟩ := g
    simp only [Int.toNat_natCast]
    exact (part01 _ _ (by omega) (by omega) (by omega) (by omega)).ok

/-- All that the law on what is given says, where it can be learned. -/
structure Given (s : Int) (xs : List Int) (n m : Nat) (K : List Int) (N1 D1 N2 D2 : Int) : Prop where
  learned : Learned s xs n K
  mass : massB s K = true
  bel : fN (msB s K (m : Int)) (imS (m : Int).toNat K - nth K 0) (sumL K) = N1 ∧ fD (msB s K (m : Int)) (imS (m : Int).toNat K - nth K 0) (sumL K) = D1
  pos : fN (msB s K (m : Int)) (possS (m : Int).toNat K) (sumL K) = N2 ∧ fD (msB s K (m : Int)) (possS (m : Int).toNat K) (sumL K) = D2
  less : lessB N2 D2 N1 D1 = false

theorem given_law {s : Int} {xs : List Int} {b a : Int} (h : pgG s xs b a = true) : ∃ n m : Nat, ∃ K : List Int, a = (n : Int) ∧ b = (m : Int) ∧
    Given s xs n m K (fN (pgG s xs b a) (possS a.toNat xs - possS (dif a.toNat b.toNat) xs) (possS a.toNat xs)) (fD (pgG s xs b a) (possS a.toNat xs - possS (dif a.toNat b.toNat) xs) (possS a.toNat xs))
      (fN (pgG s xs b a) (possS (a.toNat &&& b.toNat) xs) (possS a.toNat xs)) (fD (pgG s xs b a) (possS (a.toNat &&& b.toNat) xs) (possS a.toNat xs)) := by
  obtain ⟨n, m, rfl, rfl, n16, m16, np, mp, hm, ha, hb, hp⟩ := pg_parts h
  have hk := massB_ok hm
  obtain ⟨K, hL⟩ := learn_ok ha hp
  have g := given_bd hk n m n16 m16 hp
  refine ⟨n, m, K, rfl, rfl, hL, hL.low.mass, ?_, ?_, ?_⟩
  all_goals simp only [Int.toNat_natCast, fN, fD, h, if_true]
  · have hmK : msB s K (m : Int) = true := by simp [msB, hL.low.mass, (msB_parts hb).2]
    simp only [hmK, if_true]
    obtain ⟨d, hd, hmul⟩ := hL.low.mul
    have kK := massB_ok hL.low.mass
    have hl0 : 0 < K.length := by have := kK.len; have := pow2_bd s kK.s1 kK.s4; omega
    have e1 : possS n xs - possS (dif n m) xs = d * bS m K := by rw [← ln_bel n m n16 m16 xs hk.l16]; exact bS_mul (n := 0) m d _ _ hL.low.len hmul
    have e2 : possS n xs = d * sumL K := by rw [← ln_total]; exact sumL_mul d _ _ hL.low.len hmul
    have s1 := kK.sum1
    rw [bS_eq m K hl0]
    have := low_same (bS m K) (sumL K) (possS n xs - possS (dif n m) xs) (possS n xs) (by omega) hp (by rw [e1, e2]; ac_rfl)
    exact ⟨this.2.1, this.2.2⟩
  · have hmK : msB s K (m : Int) = true := by simp [msB, hL.low.mass, (msB_parts hb).2]
    simp only [hmK, if_true]
    obtain ⟨d, hd, hmul⟩ := hL.low.mul
    have kK := massB_ok hL.low.mass
    have e1 : possS (n &&& m) xs = d * possS m K := by rw [← ln_poss n m n16 m16 xs hk.l16]; exact possS_mul m d _ _ hL.low.len hmul
    have e2 : possS n xs = d * sumL K := by rw [← ln_total]; exact sumL_mul d _ _ hL.low.len hmul
    have s1 := kK.sum1
    have := low_same (possS m K) (sumL K) (possS (n &&& m) xs) (possS n xs) (by omega) hp (by rw [e1, e2]; ac_rfl)
    exact ⟨this.2.1, this.2.2⟩
  · obtain ⟨g1, g2, g3, g4, g5, g6, g7⟩ := g
    exact less_no (part01 (possS (n &&& m) xs) (possS n xs) (by omega) (by omega) (by omega) (by omega)) (part01 (possS n xs - possS (dif n m) xs) (possS n xs) (by omega) (by omega) (by omega) (by omega)) hp hp
      (Int.mul_le_mul_of_nonneg_right (by omega) (by omega))

end Go.Proofs.Ytjmfjgoehicgcaa

/- Plain laws on learning: joining a sure source, cutting made normal. -/
set_option linter.unusedVariables false
set_option linter.unusedSimpArgs false
namespace Go.Proofs.Ytjmfjgoehicgcaa
open Go.RowKit

theorem gcd_scale {P Q : List Int} {d : Int} (hl : P.length = Q.length) (h : ∀ k, k < Q.length → nth P k = d * nth Q k) : gcdL P = d.natAbs * gcdL Q := by
  have key : ∀ k, k ≤ Q.length → gcdL (P.take k) = d.natAbs * gcdL (Q.take k) := by
    intro k
    induction k with
    | zero => intro _; simp [gcdL]
    | succ k ih =>
      intro hk
      rw [take_succ_getD P k (by omega), take_succ_getD Q k (by omega), gcdL_snoc, gcdL_snoc, ih (by omega), h k (by omega), Int.natAbs_mul, Nat.gcd_mul_left]
  have := key Q.length (Nat.le_refl _)
  rwa [← hl, List.take_length, hl, List.take_length] at this

/-- Parts in proportion make the same mass. -/
theorem mk_scale {s : Int} {P Q : List Int} {d : Int} (hd : 0 < d) (hl : P.length = Q.length) (h : ∀ k, k < Q.length → nth P k = d * nth Q k) : mkOk s P = mkOk s Q ∧ mkS s P = mkS s Q ∧ mkL s P = mkL s Q := by
  have hg := gcd_scale hl h
  have hq : quoTo P P.length = quoTo Q Q.length := by
    refine nth_ext2 _ _ (by rw [quoTo_len, quoTo_len, hl]) fun k hk => ?_
    rw [quoTo_len] at hk
    rw [quo_nth P k hk, quo_nth Q k (by omega), hg, h k (by omega)]
    rw [Int.natCast_mul, Int.natAbs_of_nonneg (by omega)]
    exact Int.mul_ediv_mul_of_pos _ _ hd
  have hz : (gcdL P = 0) ↔ (gcdL Q = 0) := by
    rw [hg, Nat.mul_eq_zero]
    constructor
    · rintro (e | e)
      · omega
      · exact e
    · exact .inr
  have ho : mkOk s P = mkOk s Q := by
    unfold mkOk
    rw [hq]
    by_cases c : gcdL Q = 0
    · simp [c, hz.2 c]
    · have : ¬ gcdL P = 0 := fun e => c (hz.1 e)
      simp [c, this]
  exact ⟨ho, by unfold mkS; rw [ho], by unfold mkL; rw [ho, hq]⟩

theorem nonP_scale {P Q : List Int} {d : Int} (hl : P.length = Q.length) (h : ∀ k, k < Q.length → nth P k = d * nth Q k) : (nonP P).length = (nonP Q).length ∧ ∀ k, k < (nonP Q).length → nth (nonP P) k = d * nth (nonP Q) k := by
  refine ⟨by rw [nonP_len, nonP_len, hl], fun k hk => ?_⟩
  rw [nonP_len] at hk
  rw [nonP_nth P k (by omega), nonP_nth Q k hk]
  by_cases c : k = 0
  · rw [if_pos c, if_pos c]; omega
  · rw [if_neg c, if_neg c, h k hk]

theorem cut_total (a : Nat) (xs : List Int) : sumL (cutP a xs) = sumL xs := by
  rw [sumL_sm, cutP_len]
  have h := cut_sum (fun _ => true) a xs
  simp only [if_true] at h
  rw [h, sumL_sm]

theorem cut_fine (s : Int) (xs : List Int) (a : Int) : gOk (msB s xs a) s (cutP a.toNat xs) = msB s xs a := by
  cases h : msB s xs a
  · rfl
  · obtain ⟨h1, h2⟩ := msB_parts h
    have hk := massB_ok h1
    have := hk.sum1
    have := hk.sum2
    have hok : mkOk s (cutP a.toNat xs) = true := mk_ok hk.sz (by rw [cutP_len]; exact hk.len) (cutP_wide a.toNat xs hk.l16 hk.all) (by rw [cut_total]; omega) (by rw [cut_total]; omega)
    simp [gOk, hok]

/-- All that the law on learning says. -/
structure LearnLaw (s : Int) (xs C K : List Int) (n : Nat) (OK : Bool) (SK : Int) : Prop where
  cutS : gS (msB s xs (n : Int)) s (cutP (n : Int).toNat xs) = s
  cutL : gL (msB s xs (n : Int)) s (cutP (n : Int).toNat xs) = C
  mass : massB s C = true
  len : C.length = xs.length
  lenx : xs.length ≤ 16
  one : 1 ≤ xs.length
  sure : suG s (n : Int) = true ∧ suS s (n : Int) = s ∧ suL s (n : Int) = sureL xs.length n
  conj : gOk (bothB s xs s (sureL xs.length n)) s (cjP xs (sureL xs.length n)) = true ∧ gS (bothB s xs s (sureL xs.length n)) s (cjP xs (sureL xs.length n)) = s ∧ gL (bothB s xs s (sureL xs.length n)) s (cjP xs (sureL xs.length n)) = C
  join : gOk (bothB s xs s (sureL xs.length n)) s (nonP (cjP xs (sureL xs.length n))) = OK ∧ gS (bothB s xs s (sureL xs.length n)) s (nonP (cjP xs (sureL xs.length n))) = SK ∧ gL (bothB s xs s (sureL xs.length n)) s (nonP (cjP xs (sureL xs.length n))) = K
  norm : gOk (massB s C) s (nonP C) = OK ∧ gS (massB s C) s (nonP C) = SK ∧ gL (massB s C) s (nonP C) = K
  poss : OK = decide (0 < psR s xs (n : Int))

theorem learn_law {s : Int} {xs : List Int} {a : Int} (h : msB s xs a = true) : ∃ n : Nat, ∃ C, a = (n : Int) ∧
    LearnLaw s xs C (gL (msB s xs a) s (lnP a.toNat xs)) n (gOk (msB s xs a) s (lnP a.toNat xs)) (gS (msB s xs a) s (lnP a.toNat xs)) := by
  obtain ⟨h1, h2⟩ := msB_parts h
  have hk := massB_ok h1
  obtain ⟨n, rfl, n16, np⟩ := setB_nat hk.s1 hk.s4 h2
  have hnl : n < xs.length := by have := hk.len; omega
  have hp2 := pow2_bd s hk.s1 hk.s4
  have hfin := cut_fine s xs (n : Int)
  rw [h, Int.toNat_natCast] at hfin
  have hcok : mkOk s (cutP n xs) = true := by simpa [gOk] using hfin
  have hcl := mk_low hcok
  have hsm : massB s (sureL xs.length n) = true := sure_massB hk.s1 hk.s4 hk.len hnl
  have hb : bothB s xs s (sureL xs.length n) = true := by simp [bothB, h1, hsm]
  have hcj : cjP xs (sureL xs.length n) = cutP n xs := together_cut xs n hnl
  have hsu : suG s (n : Int) = true := by simp only [suG, h2, Bool.and_true]; exact hk.sz
  have hpn : (pow2 s).toNat = xs.length := by have := hk.len; omega
  obtain ⟨d, hd, hmul⟩ := hcl.mul
  have hsc := nonP_scale hcl.len hmul
  have hms := mk_scale (s := s) hd hsc.1 hsc.2
  refine ⟨n, mkL s (cutP n xs), rfl, ?_, ?_, hcl.mass, by rw [← hcl.len, cutP_len], hk.l16, by omega, ⟨hsu, (su_yes hsu).1, by rw [(su_yes hsu).2, hpn, Int.toNat_natCast]⟩, ?_, ?_, ?_, ?_⟩
  · simp [gS, h, mkS, hcok]
  · simp [gL, h]
  · rw [hb, hcj]; simp [gOk, gS, gL, mkS, hcok]
  · rw [hb, hcj, h, Int.toNat_natCast]; exact ⟨rfl, rfl, rfl⟩
  · rw [hcl.mass, h, Int.toNat_natCast]
    simp only [gOk, gS, gL, Bool.true_and, if_true, lnP]
    exact ⟨hms.1.symm, hms.2.1.symm, hms.2.2.symm⟩
  · rw [h, Int.toNat_natCast]
    simp only [gOk, Bool.true_and, psR, h, if_true, Int.toNat_natCast]
    have hp0 := poss_nonneg n xs hk.all
    cases hok : mkOk s (lnP n xs)
    · have := mk_no hk.sz (by rw [lnP_len]; exact hk.len) (ln_wide n xs hk.l16 hk.all) (by rw [ln_total]; exact poss_total n hk) hok
      rw [ln_total] at this
      simp [this]
    · have hl := mk_low hok
      obtain ⟨e, he, hm⟩ := hl.mul
      have kK := massB_ok hl.mass
      have s1 := kK.sum1
      have e2 : possS n xs = e * sumL (mkL s (lnP n xs)) := by rw [← ln_total]; exact sumL_mul e _ _ hl.len hm
      have : 0 < e * sumL (mkL s (lnP n xs)) := Int.mul_pos he (by omega)
      simp; omega

end Go.Proofs.Ytjmfjgoehicgcaa

/- Plain laws: learning two sets is learning both, and evidence is joined before or after. -/
set_option linter.unusedVariables false
set_option linter.unusedSimpArgs false
namespace Go.Proofs.Ytjmfjgoehicgcaa
open Go.RowKit

theorem lnP_nth (a : Nat) (xs : List Int) (c : Nat) (hc : c < xs.length) : nth (lnP a xs) c = if c = 0 then 0 else sm xs.length (fun e => if a &&& e = c then nth xs e else 0) := by
  rw [lnP, nonP_nth _ _ (by rw [cutP_len]; exact hc)]
  by_cases h : c = 0
  · rw [if_pos h, if_pos h]
  · rw [if_neg h, if_neg h, cutP, acc_nth _ _ _ _ _ hc]

theorem ln_ln (a b : Nat) (xs : List Int) : lnP b (lnP a xs) = lnP (a &&& b) xs := by
  refine nth_ext2 _ _ (by rw [lnP_len, lnP_len, lnP_len]) fun c hc => ?_
  rw [lnP_len, lnP_len] at hc
  rw [lnP_nth b _ c (by rw [lnP_len]; exact hc), lnP_nth _ xs c hc, lnP_len]
  by_cases h : c = 0
  · rw [if_pos h, if_pos h]
  · rw [if_neg h, if_neg h]
    have := ln_sum (fun e => decide (b &&& e = c)) (by simp; omega) a xs
    simp only [decide_eq_true_eq] at this
    rw [this]
    apply sm_congr
    intro e _
    rw [Nat.and_comm a b, Nat.and_assoc]

theorem lnP_scale (a : Nat) {P Q : List Int} {d : Int} (hl : P.length = Q.length) (h : ∀ k, k < Q.length → nth P k = d * nth Q k) : (lnP a P).length = (lnP a Q).length ∧ ∀ k, k < (lnP a Q).length → nth (lnP a P) k = d * nth (lnP a Q) k := by
  refine ⟨by rw [lnP_len, lnP_len, hl], fun k hk => ?_⟩
  rw [lnP_len] at hk
  rw [lnP_nth a P k (by omega), lnP_nth a Q k hk]
  by_cases c : k = 0
  · rw [if_pos c, if_pos c]; omega
  · rw [if_neg c, if_neg c, hl, ← sm_mul]
    apply sm_congr
    intro e he
    rw [h e he]; split <;> simp

theorem togIn_nth (f : Nat → Nat) (x : Int) (ys zs : List Int) (c : Nat) (hc : c < zs.length) : ∀ k, nth (togIn f x ys zs k) c = nth zs c + sm k (fun b => if f b = c then x * nth ys b else 0)
  | 0 => by simp [togIn, sm]
  | k + 1 => by
    rw [togIn_succ, nth_addAt _ _ _ _ (by rw [togIn_len]; exact hc), togIn_nth f x ys zs c hc k, sm]
    by_cases h : c = f k
    · rw [if_pos h, if_pos h.symm]; omega
    · rw [if_neg h, if_neg (fun e => h e.symm)]; omega

theorem togTo_nth (f : Nat → Nat → Nat) (xs ys zs : List Int) (c : Nat) (hc : c < zs.length) : ∀ k, nth (togTo f xs ys zs k) c = nth zs c + sm k (fun a => sm ys.length (fun b => if f a b = c then nth xs a * nth ys b else 0))
  | 0 => by simp [togTo, sm]
  | k + 1 => by
    rw [togTo_succ, togIn_nth _ _ _ _ _ (by rw [togTo_len]; exact hc), togTo_nth f xs ys zs c hc k, sm]; omega

theorem cj_nth (xs ys : List Int) (c : Nat) (hc : c < xs.length) : nth (cjP xs ys) c = sm xs.length (fun a => sm ys.length (fun b => if a &&& b = c then nth xs a * nth ys b else 0)) := by
  rw [cjP, togTo_nth _ _ _ _ _ (by rw [zeros_len]; exact hc), zeros_nth]; omega

/-- What is conjoined and then learned: a sum over pairs. -/
theorem lncj_nth (n : Nat) (xs ys : List Int) (c : Nat) (hc : c < xs.length) (h0 : c ≠ 0) : sm xs.length (fun e => if n &&& e = c then nth (cjP xs ys) e else 0) = sm xs.length (fun a => sm ys.length (fun b => if n &&& (a &&& b) = c then nth xs a * nth ys b else 0)) := by
  rw [sm_congr (g := fun e => sm xs.length (fun a => sm ys.length (fun b => if a &&& b = e then (if n &&& e = c then nth xs a * nth ys b else 0) else 0))) (fun e he => by
    rw [cj_nth xs ys e he]
    by_cases h : n &&& e = c
    · simp only [h, if_true]
    · simp only [h, if_false, ite_self, sm_zero])]
  rw [sm_swap]
  apply sm_congr
  intro a ha
  rw [sm_swap]
  apply sm_congr
  intro b hb
  exact (sm_single (a &&& b) (Nat.lt_of_le_of_lt Nat.and_le_left ha) (fun k hk hne => if_neg (fun e => hne e.symm))).trans (by rw [if_pos rfl])

theorem ln_join (n : Nat) (xs ys : List Int) : lnP n (nonP (cjP xs ys)) = nonP (cjP (lnP n xs) ys) := by
  refine nth_ext2 _ _ (by rw [lnP_len, nonP_len, cjP_len, nonP_len, cjP_len, lnP_len]) fun c hc => ?_
  rw [lnP_len, nonP_len, cjP_len] at hc
  rw [lnP_nth n _ c (by rw [nonP_len, cjP_len]; exact hc), nonP_nth _ c (by rw [cjP_len, lnP_len]; exact hc), nonP_len, cjP_len]
  by_cases h : c = 0
  · rw [if_pos h, if_pos h]
  · rw [if_neg h, if_neg h]
    have e1 : sm xs.length (fun e => if n &&& e = c then nth (nonP (cjP xs ys)) e else 0) = sm xs.length (fun e => if n &&& e = c then nth (cjP xs ys) e else 0) := by
      apply sm_congr
      intro e he
      by_cases g : n &&& e = c
      · rw [if_pos g, if_pos g, nonP_nth _ _ (by rw [cjP_len]; exact he), if_neg (fun z => by subst z; simp at g; omega)]
      · rw [if_neg g, if_neg g]
    rw [e1, lncj_nth n xs ys c hc h, cj_nth _ _ c (by rw [lnP_len]; exact hc), lnP_len]
    -- sum over the sets of the mass that is learned
    have e2 : sm xs.length (fun a => sm ys.length (fun b => if a &&& b = c then nth (lnP n xs) a * nth ys b else 0)) = sm ys.length (fun b => nth ys b * sm xs.length (fun a => if n &&& a &&& b = c then nth xs a else 0)) := by
      rw [sm_swap]
      apply sm_congr
      intro b hb
      have hp := ln_sum (fun a => decide (a &&& b = c)) (by simp; omega) n xs
      simp only [decide_eq_true_eq] at hp
      rw [← hp, ← sm_mul]
      apply sm_congr
      intro a ha
      split
      · rw [Int.mul_comm]
      · simp
    rw [e2, sm_swap]
    apply sm_congr
    intro b hb
    rw [← sm_mul]
    apply sm_congr
    intro a ha
    rw [← Nat.and_assoc]
    split
    · rw [Int.mul_comm]
    · simp

theorem cj_scale (ys : List Int) {P Q : List Int} {d : Int} (hl : P.length = Q.length) (h : ∀ k, k < Q.length → nth P k = d * nth Q k) : (cjP P ys).length = (cjP Q ys).length ∧ ∀ k, k < (cjP Q ys).length → nth (cjP P ys) k = d * nth (cjP Q ys) k := by
  refine ⟨by rw [cjP_len, cjP_len, hl], fun k hk => ?_⟩
  rw [cjP_len] at hk
  rw [cj_nth P ys k (by omega), cj_nth Q ys k hk, hl, ← sm_mul]
  apply sm_congr
  intro a ha
  rw [← sm_mul]
  apply sm_congr
  intro b hb
  rw [h a ha]
  split
  · rw [Int.mul_assoc]
  · simp

/-- All that the law on learning two sets says. -/
structure TwiceLaw (s : Int) (xs K : List Int) (n : Nat) : Prop where
  mass : massB s xs = true
  massK : massB s K = true
  len : K.length = xs.length
  l16 : xs.length ≤ 16
  gs : gS (msB s xs (n : Int)) s (lnP (n : Int).toNat xs) = s
  n16 : n < 16
  same : ∀ m : Nat, (m : Int) < pow2 s → (gOk (msB s K (m : Int)) s (lnP (m : Int).toNat K) = gOk (msB s xs ((n &&& m : Nat) : Int)) s (lnP ((n &&& m : Nat) : Int).toNat xs)) ∧
    (gS (msB s K (m : Int)) s (lnP (m : Int).toNat K) = gS (msB s xs ((n &&& m : Nat) : Int)) s (lnP ((n &&& m : Nat) : Int).toNat xs)) ∧
    (gL (msB s K (m : Int)) s (lnP (m : Int).toNat K) = gL (msB s xs ((n &&& m : Nat) : Int)) s (lnP ((n &&& m : Nat) : Int).toNat xs))
  join : ∀ (t : Int) (zs : List Int) (S : Int) (J : List Int), gOk (bothB s xs t zs) s (nonP (cjP xs zs)) = true → S = gS (bothB s xs t zs) s (nonP (cjP xs zs)) → J = gL (bothB s xs t zs) s (nonP (cjP xs zs)) →
    gOk (msB S J (n : Int)) S (lnP (n : Int).toNat J) = true → gOk (bothB s K t zs) s (nonP (cjP K zs)) = true →
    gS (msB S J (n : Int)) S (lnP (n : Int).toNat J) = gS (bothB s K t zs) s (nonP (cjP K zs)) ∧ gL (msB S J (n : Int)) S (lnP (n : Int).toNat J) = gL (bothB s K t zs) s (nonP (cjP K zs))

theorem gOk_parts {g : Bool} {s : Int} {L : List Int} (h : gOk g s L = true) : g = true ∧ mkOk s L = true ∧ gS g s L = s ∧ gL g s L = mkL s L := by
  simp only [gOk, Bool.and_eq_true] at h
  obtain ⟨h1, h2⟩ := h
  subst h1
  exact ⟨rfl, h2, by simp [gS, mkS, h2], by simp [gL]⟩

theorem and_lt_pow {s : Int} {n m : Nat} (h : (m : Int) < pow2 s) : ((n &&& m : Nat) : Int) < pow2 s := by
  have : n &&& m ≤ m := Nat.and_le_right
  omega

theorem twice_law {s : Int} {xs : List Int} {a : Int} (h : gOk (msB s xs a) s (lnP a.toNat xs) = true) : ∃ n : Nat, a = (n : Int) ∧ TwiceLaw s xs (gL (msB s xs a) s (lnP a.toNat xs)) n := by
  obtain ⟨hm, hok, e1, e2⟩ := gOk_parts h
  obtain ⟨h1, h2⟩ := msB_parts hm
  have hk := massB_ok h1
  obtain ⟨n, rfl, n16, np⟩ := setB_nat hk.s1 hk.s4 h2
  rw [Int.toNat_natCast] at hok e1 e2
  rw [Int.toNat_natCast, e2]
  have hl := mk_low hok
  obtain ⟨d, hd, hmul⟩ := hl.mul
  have hlen : (mkL s (lnP n xs)).length = xs.length := by rw [← hl.len, lnP_len]
  refine ⟨n, rfl, h1, hl.mass, hlen, hk.l16, by rw [Int.toNat_natCast]; exact e1, n16, fun m hmp => ?_, fun t zs S J j1 hS hJ j2 j3 => ?_⟩
  · have hmK : msB s (mkL s (lnP n xs)) (m : Int) = true := by simp [msB, hl.mass, setB, hmp]
    have hmX : msB s xs ((n &&& m : Nat) : Int) = true := by simp [msB, h1, setB, and_lt_pow hmp]
    rw [hmK, hmX, Int.toNat_natCast, Int.toNat_natCast, ← ln_ln]
    have sc := lnP_scale m hl.len hmul
    have ms := mk_scale (s := s) hd sc.1 sc.2
    simp only [gOk, gS, gL, Bool.true_and, if_true]
    exact ⟨ms.1.symm, ms.2.1.symm, ms.2.2.symm⟩
  · obtain ⟨b1, o1, s1, l1⟩ := gOk_parts j1
    rw [s1] at hS
    rw [l1] at hJ
    subst hS
    obtain ⟨b2, o2, s2, l2⟩ := gOk_parts j2
    obtain ⟨b3, o3, s3, l3⟩ := gOk_parts j3
    rw [s2, s3, l2, l3]
    refine ⟨rfl, ?_⟩
    rw [Int.toNat_natCast] at o2 ⊢
    have lj := mk_low o1
    rw [← hJ] at lj
    obtain ⟨e, he, hmj⟩ := lj.mul
    -- the two lists of parts are in proportion
    have sc1 := lnP_scale n lj.len hmj
    have sc2a := cj_scale zs hl.len hmul
    have sc2 := nonP_scale sc2a.1 sc2a.2
    have m1 := mk_scale (s := S) he sc1.1 sc1.2
    have m2 := mk_scale (s := S) hd sc2.1 sc2.2
    rw [← m1.2.2, ← m2.2.2, ln_join]

end Go.Proofs.Ytjmfjgoehicgcaa

/- Plain laws on distances of masses. -/
set_option linter.unusedVariables false
set_option linter.unusedSimpArgs false
namespace Go.Proofs.Ytjmfjgoehicgcaa
open Go.RowKit

/-- A valid fraction with the value of N over D. -/
structure Fr (N D n d : Int) : Prop where
  frac : fracB n d = true
  pos : 0 < d
  pos2 : 0 < D
  cross : n * D = N * d

theorem fr_low {N D : Int} (hD : 0 < D) (h : lowOk N D = true) : Fr N D (lowN N D) (lowD N D) := by
  obtain ⟨n, d, g, hg, hn, hd, hd0, hc, hok, hv⟩ := low_red N D hD
  have hf : fracB n d = true := by rw [← hok]; exact h
  obtain ⟨e1, e2⟩ := hv hf
  rw [e1, e2]
  exact ⟨hf, hd0, hD, by rw [hn, hd]; ac_rfl⟩

theorem fr_less {N D M E n d m e : Int} (p : Fr N D n d) (q : Fr M E m e) (h : M * D ≤ N * E) : lessB n d m e = false := by
  have key : ¬ n * e < m * d := by
    intro hlt
    have h1 : (n * e) * (D * E) < (m * d) * (D * E) := Int.mul_lt_mul_of_pos_right hlt (Int.mul_pos p.pos2 q.pos2)
    have e1 : (n * e) * (D * E) = (N * E) * (d * e) := by
      have := p.cross
      calc (n * e) * (D * E) = (n * D) * (e * E) := by ac_rfl
        _ = (N * d) * (e * E) := by rw [this]
        _ = (N * E) * (d * e) := by ac_rfl
    have e2 : (m * d) * (D * E) = (M * D) * (d * e) := by
      have := q.cross
      calc (m * d) * (D * E) = (m * E) * (d * D) := by ac_rfl
        _ = (M * e) * (d * D) := by rw [this]
        _ = (M * D) * (d * e) := by ac_rfl
    rw [e1, e2] at h1
    have h2 : (M * D) * (d * e) ≤ (N * E) * (d * e) := Int.mul_le_mul_of_nonneg_right h (Int.le_of_lt (Int.mul_pos p.pos q.pos))
    omega
  simp [lessB]
  intro _ _
  omega

theorem fr_minus {N D n d : Int} (p : Fr N D n d) : Fr (-N) D (mnN n d) (mnD n d) := by
  have hf := p.frac
  have bd := frac_bd hf
  have hm : fracB (-n) d = true := by
    simp only [fracB, Bool.and_eq_true, decide_eq_true_eq, Int.natAbs_neg] at hf ⊢
    exact ⟨by simp [inB]; omega, hf.2⟩
  rw [mnN, mnD, if_pos hf, if_pos hf]
  exact ⟨hm, p.pos, p.pos2, by rw [Int.neg_mul, Int.neg_mul, p.cross]⟩

theorem fr_add {N D M E n d m e : Int} (p : Fr N D n d) (q : Fr M E m e) (h : fOk (twoF n d m e) (n * e + m * d) (d * e) = true) :
    Fr (N * E + M * D) (D * E) (fN (twoF n d m e) (n * e + m * d) (d * e)) (fD (twoF n d m e) (n * e + m * d) (d * e)) := by
  simp only [fOk, Bool.and_eq_true] at h
  obtain ⟨h1, h2⟩ := h
  rw [fN, fD, if_pos h1, if_pos h1]
  have f := fr_low (Int.mul_pos p.pos q.pos) h2
  refine ⟨f.frac, f.pos, Int.mul_pos p.pos2 q.pos2, ?_⟩
  obtain ⟨S, hS⟩ : ∃ S, S = lowN (n * e + m * d) (d * e) := ⟨_, rfl⟩
  obtain ⟨T, hT⟩ : ∃ T, T = lowD (n * e + m * d) (d * e) := ⟨_, rfl⟩
  have c := f.cross
  rw [← hS, ← hT] at c ⊢
  have hde : 0 < d * e := Int.mul_pos p.pos q.pos
  have e1 : (n * e + m * d) * (D * E) = (N * E + M * D) * (d * e) := by
    have p1 := p.cross
    have q1 := q.cross
    calc (n * e + m * d) * (D * E) = (n * D) * (e * E) + (m * E) * (d * D) := by rw [Int.add_mul]; congr 1 <;> ac_rfl
      _ = (N * d) * (e * E) + (M * e) * (d * D) := by rw [p1, q1]
      _ = (N * E + M * D) * (d * e) := by rw [Int.add_mul]; congr 1 <;> ac_rfl
  have e2 : (d * e) * (S * (D * E)) = (d * e) * ((N * E + M * D) * T) := by
    calc (d * e) * (S * (D * E)) = (S * (d * e)) * (D * E) := by ac_rfl
      _ = ((n * e + m * d) * T) * (D * E) := by rw [c]
      _ = ((n * e + m * d) * (D * E)) * T := by ac_rfl
      _ = ((N * E + M * D) * (d * e)) * T := by rw [e1]
      _ = (d * e) * ((N * E + M * D) * T) := by ac_rfl
  exact Int.eq_of_mul_eq_mul_left (by omega) e2

theorem fr_of {g : Bool} {N D : Int} (hD : 0 < D) (h : fOk g N D = true) : Fr N D (fN g N D) (fD g N D) := by
  simp only [fOk, Bool.and_eq_true] at h
  rw [fN, fD, if_pos h.1, if_pos h.1]
  exact fr_low hD h.2

theorem apTo_sm (xs ys : List Int) (k : Nat) : apTo xs ys k = sm k (apM xs ys) := by
  induction k with
  | zero => simp [apTo, sm]
  | succ k ih => rw [apTo_succ, sm, ih]

theorem apM_ge (xs ys : List Int) (k : Nat) : 0 ≤ apM xs ys k ∧ apA xs ys k ≤ apM xs ys k := by
  unfold apM; split <;> omega

theorem apA_neg (xs ys : List Int) (k : Nat) : apA ys xs k = - apA xs ys k := by unfold apA; omega

theorem apM_dif (xs ys : List Int) (k : Nat) : apM xs ys k - apM ys xs k = apA xs ys k := by
  have := apA_neg xs ys k
  unfold apM
  split <;> split <;> omega

theorem apA_sum (xs ys : List Int) (hl : xs.length = ys.length) : sm xs.length (apA xs ys) = 0 := by
  have e : sm xs.length (apA xs ys) = sm xs.length (fun k => sumL ys * nth xs k - sumL xs * nth ys k) := by
    apply sm_congr
    intro k _
    unfold apA
    rw [Int.mul_comm (nth xs k), Int.mul_comm (nth ys k)]
  rw [e, sm_sub, sm_mul, sm_mul, ← sumL_sm]
  have : sm xs.length (fun k => nth ys k) = sumL ys := by rw [hl, sumL_sm]
  rw [this, Int.mul_comm]; omega

theorem ap_swap (xs ys : List Int) (hl : xs.length = ys.length) : apTo ys xs ys.length = apTo xs ys xs.length := by
  rw [apTo_sm, apTo_sm, ← hl]
  have h := apA_sum xs ys hl
  rw [sm_congr (g := fun k => apM xs ys k - apM ys xs k) (fun k _ => (apM_dif xs ys k).symm), sm_sub] at h
  omega

theorem ap_zero {s : Int} {xs ys : List Int} (hx : massB s xs = true) (hy : massB s ys = true) (hl : xs.length = ys.length) (h : apTo xs ys xs.length = 0) : xs = ys := by
  have kx := massB_ok hx
  have ky := massB_ok hy
  rw [apTo_sm] at h
  have hz := sm_eq_zero (fun k _ => (apM_ge xs ys k).1) (Int.le_of_eq h)
  have hn : ∀ k, k < xs.length → apA xs ys k ≤ 0 := fun k hk => by have := (apM_ge xs ys k).2; have := hz k hk; omega
  have hs := apA_sum xs ys hl
  have hs2 : sm xs.length (fun k => 0 - apA xs ys k) = 0 := by rw [sm_sub, sm_zero]; omega
  have h0 := sm_eq_zero (n := xs.length) (f := fun k => 0 - apA xs ys k) (fun k hk => by have := hn k hk; omega) (Int.le_of_eq hs2)
  have s1 := kx.sum1
  have s2 := ky.sum1
  refine low_unique hx hy hl (sumL ys) (sumL xs) (by omega) (by omega) fun k hk => ?_
  have := h0 k hk
  unfold apA at this
  rw [Int.mul_comm (sumL ys), Int.mul_comm (sumL xs)]
  omega

theorem ap_self (xs : List Int) (n : Nat) : apTo xs xs n = 0 := by
  rw [apTo_sm, sm_congr (g := fun _ => 0) (fun k _ => by simp [apM, apA]), sm_zero]

theorem ap_le {s t : Int} {xs ys : List Int} (hx : MassOk s xs) (hy : MassOk t ys) (hl : xs.length = ys.length) : 0 ≤ apTo xs ys xs.length ∧ apTo xs ys xs.length ≤ sumL xs * sumL ys := by
  refine ⟨(apTo_bd hx hy hl _ (Nat.le_refl _)).1, ?_⟩
  rw [apTo_sm, sumL_sm xs, Int.mul_comm, ← sm_mul]
  refine sm_le fun k hk => ?_
  have := apA_bd hx hy hl k hk
  unfold apM apA
  rw [Int.mul_comm (sumL ys)]
  split <;> omega

theorem ap_poss {s t : Int} {xs ys : List Int} (hx : MassOk s xs) (hy : MassOk t ys) (hl : xs.length = ys.length) (a : Nat) : possS a xs * sumL ys - possS a ys * sumL xs ≤ apTo xs ys xs.length := by
  rw [apTo_sm, possS_sm, possS_sm, ← hl, Int.mul_comm _ (sumL ys), Int.mul_comm _ (sumL xs), ← sm_mul, ← sm_mul, ← sm_sub]
  refine sm_le fun k hk => ?_
  have := apM_ge xs ys k
  by_cases c : meetB a k = true
  · rw [if_pos c, if_pos c, Int.mul_comm (sumL ys), Int.mul_comm (sumL xs)]
    exact this.2
  · rw [if_neg c, if_neg c]; omega

theorem ap_tri {s t u : Int} {xs ys zs : List Int} (hx : MassOk s xs) (hy : MassOk t ys) (hz : MassOk u zs) (h1 : xs.length = ys.length) (h2 : xs.length = zs.length) :
    sumL zs * apTo xs ys xs.length ≤ sumL ys * apTo xs zs xs.length + sumL xs * apTo zs ys zs.length := by
  rw [apTo_sm, apTo_sm, apTo_sm, ← h2, ← sm_mul, ← sm_mul, ← sm_mul, ← sm_add]
  refine sm_le fun k hk => ?_
  have p1 := apM_ge xs zs k
  have p2 := apM_ge zs ys k
  have wx : 0 ≤ sumL xs := by have := hx.sum1; omega
  have wy : 0 ≤ sumL ys := by have := hy.sum1; omega
  have wz : 0 ≤ sumL zs := by have := hz.sum1; omega
  have q1 : sumL ys * apA xs zs k ≤ sumL ys * apM xs zs k := Int.mul_le_mul_of_nonneg_left p1.2 wy
  have q2 : sumL xs * apA zs ys k ≤ sumL xs * apM zs ys k := Int.mul_le_mul_of_nonneg_left p2.2 wx
  have q3 : 0 ≤ sumL ys * apM xs zs k := Int.mul_nonneg wy p1.1
  have q4 : 0 ≤ sumL xs * apM zs ys k := Int.mul_nonneg wx p2.1
  have e : sumL zs * apA xs ys k = sumL ys * apA xs zs k + sumL xs * apA zs ys k := by
    unfold apA
    rw [Int.mul_sub, Int.mul_sub, Int.mul_sub]
    have a1 : sumL zs * (nth xs k * sumL ys) = sumL ys * (nth xs k * sumL zs) := by ac_rfl
    have a2 : sumL zs * (nth ys k * sumL xs) = sumL xs * (nth ys k * sumL zs) := by ac_rfl
    have a3 : sumL ys * (nth zs k * sumL xs) = sumL xs * (nth zs k * sumL ys) := by ac_rfl
    omega
  by_cases c : apA xs ys k < 0
  · have : apM xs ys k = 0 := by unfold apM; rw [if_pos c]
    rw [this]; omega
  · have : apM xs ys k = apA xs ys k := by unfold apM; rw [if_neg c]
    rw [this]; omega

theorem both_swap {s t : Int} {xs ys : List Int} (h : bothB s xs t ys = true) : bothB t ys s xs = true := by
  obtain ⟨h1, h2, h3, _⟩ := bothB_ok h
  simp only [bothB, Bool.and_eq_true, decide_eq_true_eq] at h ⊢
  exact ⟨h.2.1, h.1, h.2.2.symm⟩

def dsN (s : Int) (xs : List Int) (t : Int) (ys : List Int) : Int := fN (bothB s xs t ys) (apTo xs ys xs.length) (sumL xs * sumL ys)
def dsD (s : Int) (xs : List Int) (t : Int) (ys : List Int) : Int := fD (bothB s xs t ys) (apTo xs ys xs.length) (sumL xs * sumL ys)
def dsO (s : Int) (xs : List Int) (t : Int) (ys : List Int) : Bool := fOk (bothB s xs t ys) (apTo xs ys xs.length) (sumL xs * sumL ys)
def psN (s : Int) (xs : List Int) (a : Int) : Int := fN (msB s xs a) (possS a.toNat xs) (sumL xs)
def psD (s : Int) (xs : List Int) (a : Int) : Int := fD (msB s xs a) (possS a.toNat xs) (sumL xs)
def adN (n d m e : Int) : Int := fN (twoF n d m e) (n * e + m * d) (d * e)
def adD (n d m e : Int) : Int := fD (twoF n d m e) (n * e + m * d) (d * e)
def adO (n d m e : Int) : Bool := fOk (twoF n d m e) (n * e + m * d) (d * e)

theorem ds_fr {s t : Int} {xs ys : List Int} (h : dsO s xs t ys = true) : bothB s xs t ys = true ∧ Fr (apTo xs ys xs.length) (sumL xs * sumL ys) (dsN s xs t ys) (dsD s xs t ys) := by
  have hb : bothB s xs t ys = true := by simp only [dsO, fOk, Bool.and_eq_true] at h; exact h.1
  obtain ⟨hx, hy, _, _⟩ := bothB_ok hb
  have s1 := hx.sum1
  have s2 := hy.sum1
  exact ⟨hb, fr_of (Int.mul_pos (by omega) (by omega)) h⟩

/-- All that the law on distances says. -/
structure DistLaw (s : Int) (xs : List Int) (t : Int) (ys : List Int) (N D : Int) : Prop where
  size : s = t
  len : xs.length = ys.length
  l16 : xs.length ≤ 16
  swN : dsN t ys s xs = N
  swD : dsD t ys s xs = D
  swO : dsO t ys s xs = true
  zero : N = 0 ↔ xs = ys
  le : N ≤ D
  part : ∀ a : Nat, a < xs.length → adO (psN s xs (a : Int)) (psD s xs (a : Int)) (mnN (psN t ys (a : Int)) (psD t ys (a : Int))) (mnD (psN t ys (a : Int)) (psD t ys (a : Int))) = true →
    lessB N D (adN (psN s xs (a : Int)) (psD s xs (a : Int)) (mnN (psN t ys (a : Int)) (psD t ys (a : Int))) (mnD (psN t ys (a : Int)) (psD t ys (a : Int)))) (adD (psN s xs (a : Int)) (psD s xs (a : Int)) (mnN (psN t ys (a : Int)) (psD t ys (a : Int))) (mnD (psN t ys (a : Int)) (psD t ys (a : Int)))) = false
  tri : ∀ (u : Int) (zs : List Int), dsO s xs u zs = true → dsO u zs t ys = true → adO (dsN s xs u zs) (dsD s xs u zs) (dsN u zs t ys) (dsD u zs t ys) = true →
    lessB (adN (dsN s xs u zs) (dsD s xs u zs) (dsN u zs t ys) (dsD u zs t ys)) (adD (dsN s xs u zs) (dsD s xs u zs) (dsN u zs t ys) (dsD u zs t ys)) N D = false

theorem dist_law {s t : Int} {xs ys : List Int} (h : dsO s xs t ys = true) : DistLaw s xs t ys (dsN s xs t ys) (dsD s xs t ys) := by
  obtain ⟨hb, f⟩ := ds_fr h
  obtain ⟨hx, hy, rfl, hl⟩ := bothB_ok hb
  have hmx : massB s xs = true := by simp only [bothB, Bool.and_eq_true] at hb; exact hb.1
  have hmy : massB s ys = true := by simp only [bothB, Bool.and_eq_true] at hb; exact hb.2.1
  have s1 := hx.sum1
  have s2 := hy.sum1
  have hle := ap_le hx hy hl
  have hsw := ap_swap xs ys hl
  have hbs := both_swap hb
  have bd := frac_bd f.frac
  refine ⟨rfl, hl, hx.l16, ?_, ?_, ?_, ?_, ?_, fun a ha hg => ?_, fun u zs g1 g2 g3 => ?_⟩
  · rw [dsN, dsN, hbs, hb, hsw, Int.mul_comm (sumL ys)]
  · rw [dsD, dsD, hbs, hb, hsw, Int.mul_comm (sumL ys)]
  · rw [dsO, hbs, hsw, Int.mul_comm (sumL ys)]; rw [dsO, hb] at h; exact h
  · constructor
    · intro h0
      have c := f.cross
      rw [h0, Int.zero_mul] at c
      rcases Int.mul_eq_zero.1 c.symm with e | e
      · exact ap_zero hmx hmy hl e
      · omega
    · intro e
      have c := f.cross
      rw [show apTo xs ys xs.length = 0 by rw [← e]; exact ap_self _ _, Int.zero_mul] at c
      rcases Int.mul_eq_zero.1 c with e | e
      · exact e
      · have := f.pos2; omega
  · have c := f.cross
    have h1 : dsN s xs s ys * (sumL xs * sumL ys) ≤ dsD s xs s ys * (sumL xs * sumL ys) := by
      rw [c, Int.mul_comm (dsD s xs s ys)]
      exact Int.mul_le_mul_of_nonneg_right hle.2 (by omega)
    exact Int.le_of_mul_le_mul_right h1 f.pos2
  · have hpw : (a : Int) < pow2 s := by have := hx.len; omega
    have m1 : msB s xs (a : Int) = true := by simp [msB, hmx, setB, hpw]
    have m2 : msB s ys (a : Int) = true := by simp [msB, hmy, setB, hpw]
    have k1 := poss_total a hx
    have k2 := poss_total a hy
    have z1 := poss_nonneg a xs hx.all
    have z2 := poss_nonneg a ys hy.all
    have t1 : possS a xs ≤ sumL xs := by rw [possS_sm, sumL_sm]; exact sm_le fun e he => by have := (allB_nth hx.all e he).1; split <;> omega
    have t2 : possS a ys ≤ sumL ys := by rw [possS_sm, sumL_sm]; exact sm_le fun e he => by have := (allB_nth hy.all e he).1; split <;> omega
    have s3 := hx.sum2
    have s4 := hy.sum2
    have f1 : Fr (possS a xs) (sumL xs) (psN s xs (a : Int)) (psD s xs (a : Int)) := by
      rw [psN, psD, Int.toNat_natCast]
      exact fr_of (by omega) (by rw [m1]; simp only [fOk, Bool.true_and]; exact (part01 _ _ z1 t1 (by omega) (by omega)).ok)
    have f2 : Fr (possS a ys) (sumL ys) (psN s ys (a : Int)) (psD s ys (a : Int)) := by
      rw [psN, psD, Int.toNat_natCast]
      exact fr_of (by omega) (by rw [m2]; simp only [fOk, Bool.true_and]; exact (part01 _ _ z2 t2 (by omega) (by omega)).ok)
    have f3 := fr_add f1 (fr_minus f2) hg
    refine fr_less f f3 ?_
    have := ap_poss hx hy hl a
    exact Int.mul_le_mul_of_nonneg_right (by rw [Int.neg_mul, ← Int.sub_eq_add_neg]; exact this) (Int.le_of_lt f.pos2)
  · obtain ⟨b1, f1⟩ := ds_fr g1
    obtain ⟨b2, f2⟩ := ds_fr g2
    obtain ⟨_, hz, _, l1⟩ := bothB_ok b1
    have f3 := fr_add f1 f2 g3
    refine fr_less f3 f ?_
    have tri := ap_tri hx hy hz hl l1
    have s5 := hz.sum1
    have wpos : 0 ≤ sumL xs * sumL zs * sumL ys := Int.mul_nonneg (Int.mul_nonneg (by omega) (by omega)) (by omega)
    have := Int.mul_le_mul_of_nonneg_right tri wpos
    calc apTo xs ys xs.length * (sumL xs * sumL zs * (sumL zs * sumL ys)) = (sumL zs * apTo xs ys xs.length) * (sumL xs * sumL zs * sumL ys) := by ac_rfl
      _ ≤ (sumL ys * apTo xs zs xs.length + sumL xs * apTo zs ys zs.length) * (sumL xs * sumL zs * sumL ys) := this
      _ = (apTo xs zs xs.length * (sumL zs * sumL ys) + apTo zs ys zs.length * (sumL xs * sumL zs)) * (sumL xs * sumL ys) := by
        rw [Int.add_mul, Int.add_mul]; congr 1 <;> ac_rfl

end Go.Proofs.Ytjmfjgoehicgcaa
