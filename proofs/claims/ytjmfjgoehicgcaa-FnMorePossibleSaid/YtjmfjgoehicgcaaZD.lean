/- Plain laws on distances of masses. -/
import Derived.Test.YtjmfjgoehicgcaaZG
import Derived.Test.YtjmfjgoehicgcaaD9
set_option linter.unusedVariables false
set_option linter.unusedSimpArgs false
namespace Go.Proofs.Ytjmfjgoehicgcaa
open Go.RowKit

/-- A valid fraction with the value of N over D. -/
structure Fr (N D n d : Int) : Prop where
  frac : fracB n d = true
  pos : 0 < d
  pos2 : 0 < D
  cross : n * D = N * d

theorem fr_low {N D : Int} (hD : 0 < D) (h : lowOk N D = true) : Fr N D (lowN N D) (lowD N D) := by
  obtain ⟨n, d, g, hg, hn, hd, hd0, hc, hok, hv⟩ := low_red N D hD
  have hf : fracB n d = true := by rw [← hok]; exact h
  obtain ⟨e1, e2⟩ := hv hf
  rw [e1, e2]
  exact ⟨hf, hd0, hD, by rw [hn, hd]; ac_rfl⟩

theorem fr_less {N D M E n d m e : Int} (p : Fr N D n d) (q : Fr M E m e) (h : M * D ≤ N * E) : lessB n d m e = false := by
  have key : ¬ n * e < m * d := by
    intro hlt
    have h1 : (n * e) * (D * E) < (m * d) * (D * E) := Int.mul_lt_mul_of_pos_right hlt (Int.mul_pos p.pos2 q.pos2)
    have e1 : (n * e) * (D * E) = (N * E) * (d * e) := by
      have := p.cross
      calc (n * e) * (D * E) = (n * D) * (e * E) := by ac_rfl
        _ = (N * d) * (e * E) := by rw [this]
        _ = (N * E) * (d * e) := by ac_rfl
    have e2 : (m * d) * (D * E) = (M * D) * (d * e) := by
      have := q.cross
      calc (m * d) * (D * E) = (m * E) * (d * D) := by ac_rfl
        _ = (M * e) * (d * D) := by rw [this]
        _ = (M * D) * (d * e) := by ac_rfl
    rw [e1, e2] at h1
    have h2 : (M * D) * (d * e) ≤ (N * E) * (d * e) := Int.mul_le_mul_of_nonneg_right h (Int.le_of_lt (Int.mul_pos p.pos q.pos))
    omega
  simp [lessB]
  intro _ _
  omega

theorem fr_minus {N D n d : Int} (p : Fr N D n d) : Fr (-N) D (mnN n d) (mnD n d) := by
  have hf := p.frac
  have bd := frac_bd hf
  have hm : fracB (-n) d = true := by
    simp only [fracB, Bool.and_eq_true, decide_eq_true_eq, Int.natAbs_neg] at hf ⊢
    exact ⟨by simp [inB]; omega, hf.2⟩
  rw [mnN, mnD, if_pos hf, if_pos hf]
  exact ⟨hm, p.pos, p.pos2, by rw [Int.neg_mul, Int.neg_mul, p.cross]⟩

theorem fr_add {N D M E n d m e : Int} (p : Fr N D n d) (q : Fr M E m e) (h : fOk (twoF n d m e) (n * e + m * d) (d * e) = true) :
    Fr (N * E + M * D) (D * E) (fN (twoF n d m e) (n * e + m * d) (d * e)) (fD (twoF n d m e) (n * e + m * d) (d * e)) := by
  simp only [fOk, Bool.and_eq_true] at h
  obtain ⟨h1, h2⟩ := h
  rw [fN, fD, if_pos h1, if_pos h1]
  have f := fr_low (Int.mul_pos p.pos q.pos) h2
  refine ⟨f.frac, f.pos, Int.mul_pos p.pos2 q.pos2, ?_⟩
  obtain ⟨S, hS⟩ : ∃ S, S = lowN (n * e + m * d) (d * e) := ⟨_, rfl⟩
  obtain ⟨T, hT⟩ : ∃ T, T = lowD (n * e + m * d) (d * e) := ⟨_, rfl⟩
  have c := f.cross
  rw [← hS, ← hT] at c ⊢
  have hde : 0 < d * e := Int.mul_pos p.pos q.pos
  have e1 : (n * e + m * d) * (D * E) = (N * E + M * D) * (d * e) := by
    have p1 := p.cross
    have q1 := q.cross
    calc (n * e + m * d) * (D * E) = (n * D) * (e * E) + (m * E) * (d * D) := by rw [Int.add_mul]; congr 1 <;> ac_rfl
      _ = (N * d) * (e * E) + (M * e) * (d * D) := by rw [p1, q1]
      _ = (N * E + M * D) * (d * e) := by rw [Int.add_mul]; congr 1 <;> ac_rfl
  have e2 : (d * e) * (S * (D * E)) = (d * e) * ((N * E + M * D) * T) := by
    calc (d * e) * (S * (D * E)) = (S * (d * e)) * (D * E) := by ac_rfl
      _ = ((n * e + m * d) * T) * (D * E) := by rw [c]
      _ = ((n * e + m * d) * (D * E)) * T := by ac_rfl
      _ = ((N * E + M * D) * (d * e)) * T := by rw [e1]
      _ = (d * e) * ((N * E + M * D) * T) := by ac_rfl
  exact Int.eq_of_mul_eq_mul_left (by omega) e2

theorem fr_of {g : Bool} {N D : Int} (hD : 0 < D) (h : fOk g N D = true) : Fr N D (fN g N D) (fD g N D) := by
  simp only [fOk, Bool.and_eq_true] at h
  rw [fN, fD, if_pos h.1, if_pos h.1]
  exact fr_low hD h.2

theorem apTo_sm (xs ys : List Int) (k : Nat) : apTo xs ys k = sm k (apM xs ys) := by
  induction k with
  | zero => simp [apTo, sm]
  | succ k ih => rw [apTo_succ, sm, ih]

theorem apM_ge (xs ys : List Int) (k : Nat) : 0 ≤ apM xs ys k ∧ apA xs ys k ≤ apM xs ys k := by
  unfold apM; split <;> omega

theorem apA_neg (xs ys : List Int) (k : Nat) : apA ys xs k = - apA xs ys k := by unfold apA; omega

theorem apM_dif (xs ys : List Int) (k : Nat) : apM xs ys k - apM ys xs k = apA xs ys k := by
  have := apA_neg xs ys k
  unfold apM
  split <;> split <;> omega

theorem apA_sum (xs ys : List Int) (hl : xs.length = ys.length) : sm xs.length (apA xs ys) = 0 := by
  have e : sm xs.length (apA xs ys) = sm xs.length (fun k => sumL ys * nth xs k - sumL xs * nth ys k) := by
    apply sm_congr
    intro k _
    unfold apA
    rw [Int.mul_comm (nth xs k), Int.mul_comm (nth ys k)]
  rw [e, sm_sub, sm_mul, sm_mul, ← sumL_sm]
  have : sm xs.length (fun k => nth ys k) = sumL ys := by rw [hl, sumL_sm]
  rw [this, Int.mul_comm]; omega

theorem ap_swap (xs ys : List Int) (hl : xs.length = ys.length) : apTo ys xs ys.length = apTo xs ys xs.length := by
  rw [apTo_sm, apTo_sm, ← hl]
  have h := apA_sum xs ys hl
  rw [sm_congr (g := fun k => apM xs ys k - apM ys xs k) (fun k _ => (apM_dif xs ys k).symm), sm_sub] at h
  omega

theorem ap_zero {s : Int} {xs ys : List Int} (hx : massB s xs = true) (hy : massB s ys = true) (hl : xs.length = ys.length) (h : apTo xs ys xs.length = 0) : xs = ys := by
  have kx := massB_ok hx
  have ky := massB_ok hy
  rw [apTo_sm] at h
  have hz := sm_eq_zero (fun k _ => (apM_ge xs ys k).1) (Int.le_of_eq h)
  have hn : ∀ k, k < xs.length → apA xs ys k ≤ 0 := fun k hk => by have := (apM_ge xs ys k).2; have := hz k hk; omega
  have hs := apA_sum xs ys hl
  have hs2 : sm xs.length (fun k => 0 - apA xs ys k) = 0 := by rw [sm_sub, sm_zero]; omega
  have h0 := sm_eq_zero (n := xs.length) (f := fun k => 0 - apA xs ys k) (fun k hk => by have := hn k hk; omega) (Int.le_of_eq hs2)
  have s1 := kx.sum1
  have s2 := ky.sum1
  refine low_unique hx hy hl (sumL ys) (sumL xs) (by omega) (by omega) fun k hk => ?_
  have := h0 k hk
  unfold apA at this
  rw [Int.mul_comm (sumL ys), Int.mul_comm (sumL xs)]
  omega

theorem ap_self (xs : List Int) (n : Nat) : apTo xs xs n = 0 := by
  rw [apTo_sm, sm_congr (g := fun _ => 0) (fun k _ => by simp [apM, apA]), sm_zero]

theorem ap_le {s t : Int} {xs ys : List Int} (hx : MassOk s xs) (hy : MassOk t ys) (hl : xs.length = ys.length) : 0 ≤ apTo xs ys xs.length ∧ apTo xs ys xs.length ≤ sumL xs * sumL ys := by
  refine ⟨(apTo_bd hx hy hl _ (Nat.le_refl _)).1, ?_⟩
  rw [apTo_sm, sumL_sm xs, Int.mul_comm, ← sm_mul]
  refine sm_le fun k hk => ?_
  have := apA_bd hx hy hl k hk
  unfold apM apA
  rw [Int.mul_comm (sumL ys)]
  split <;> omega

theorem ap_poss {s t : Int} {xs ys : List Int} (hx : MassOk s xs) (hy : MassOk t ys) (hl : xs.length = ys.length) (a : Nat) : possS a xs * sumL ys - possS a ys * sumL xs ≤ apTo xs ys xs.length := by
  rw [apTo_sm, possS_sm, possS_sm, ← hl, Int.mul_comm _ (sumL ys), Int.mul_comm _ (sumL xs), ← sm_mul, ← sm_mul, ← sm_sub]
  refine sm_le fun k hk => ?_
  have := apM_ge xs ys k
  by_cases c : meetB a k = true
  · rw [if_pos c, if_pos c, Int.mul_comm (sumL ys), Int.mul_comm (sumL xs)]
    exact this.2
  · rw [if_neg c, if_neg c]; omega

theorem ap_tri {s t u : Int} {xs ys zs : List Int} (hx : MassOk s xs) (hy : MassOk t ys) (hz : MassOk u zs) (h1 : xs.length = ys.length) (h2 : xs.length = zs.length) :
    sumL zs * apTo xs ys xs.length ≤ sumL ys * apTo xs zs xs.length + sumL xs * apTo zs ys zs.length := by
  rw [apTo_sm, apTo_sm, apTo_sm, ← h2, ← sm_mul, ← sm_mul, ← sm_mul, ← sm_add]
  refine sm_le fun k hk => ?_
  have p1 := apM_ge xs zs k
  have p2 := apM_ge zs ys k
  have wx : 0 ≤ sumL xs := by have := hx.sum1; omega
  have wy : 0 ≤ sumL ys := by have := hy.sum1; omega
  have wz : 0 ≤ sumL zs := by have := hz.sum1; omega
  have q1 : sumL ys * apA xs zs k ≤ sumL ys * apM xs zs k := Int.mul_le_mul_of_nonneg_left p1.2 wy
  have q2 : sumL xs * apA zs ys k ≤ sumL xs * apM zs ys k := Int.mul_le_mul_of_nonneg_left p2.2 wx
  have q3 : 0 ≤ sumL ys * apM xs zs k := Int.mul_nonneg wy p1.1
  have q4 : 0 ≤ sumL xs * apM zs ys k := Int.mul_nonneg wx p2.1
  have e : sumL zs * apA xs ys k = sumL ys * apA xs zs k + sumL xs * apA zs ys k := by
    unfold apA
    rw [Int.mul_sub, Int.mul_sub, Int.mul_sub]
    have a1 : sumL zs * (nth xs k * sumL ys) = sumL ys * (nth xs k * sumL zs) := by ac_rfl
    have a2 : sumL zs * (nth ys k * sumL xs) = sumL xs * (nth ys k * sumL zs) := by ac_rfl
    have a3 : sumL ys * (nth zs k * sumL xs) = sumL xs * (nth zs k * sumL ys) := by ac_rfl
    omega
  by_cases c : apA xs ys k < 0
  · have : apM xs ys k = 0 := by unfold apM; rw [if_pos c]
    rw [this]; omega
  · have : apM xs ys k = apA xs ys k := by unfold apM; rw [if_neg c]
    rw [this]; omega

theorem both_swap {s t : Int} {xs ys : List Int} (h : bothB s xs t ys = true) : bothB t ys s xs = true := by
  obtain ⟨h1, h2, h3, _⟩ := bothB_ok h
  simp only [bothB, Bool.and_eq_true, decide_eq_true_eq] at h ⊢
  exact ⟨h.2.1, h.1, h.2.2.symm⟩

def dsN (s : Int) (xs : List Int) (t : Int) (ys : List Int) : Int := fN (bothB s xs t ys) (apTo xs ys xs.length) (sumL xs * sumL ys)
def dsD (s : Int) (xs : List Int) (t : Int) (ys : List Int) : Int := fD (bothB s xs t ys) (apTo xs ys xs.length) (sumL xs * sumL ys)
def dsO (s : Int) (xs : List Int) (t : Int) (ys : List Int) : Bool := fOk (bothB s xs t ys) (apTo xs ys xs.length) (sumL xs * sumL ys)
def psN (s : Int) (xs : List Int) (a : Int) : Int := fN (msB s xs a) (possS a.toNat xs) (sumL xs)
def psD (s : Int) (xs : List Int) (a : Int) : Int := fD (msB s xs a) (possS a.toNat xs) (sumL xs)
def adN (n d m e : Int) : Int := fN (twoF n d m e) (n * e + m * d) (d * e)
def adD (n d m e : Int) : Int := fD (twoF n d m e) (n * e + m * d) (d * e)
def adO (n d m e : Int) : Bool := fOk (twoF n d m e) (n * e + m * d) (d * e)

theorem ds_fr {s t : Int} {xs ys : List Int} (h : dsO s xs t ys = true) : bothB s xs t ys = true ∧ Fr (apTo xs ys xs.length) (sumL xs * sumL ys) (dsN s xs t ys) (dsD s xs t ys) := by
  have hb : bothB s xs t ys = true := by simp only [dsO, fOk, Bool.and_eq_true] at h; exact h.1
  obtain ⟨hx, hy, _, _⟩ := bothB_ok hb
  have s1 := hx.sum1
  have s2 := hy.sum1
  exact ⟨hb, fr_of (Int.mul_pos (by omega) (by omega)) h⟩

/-- All that the law on distances says. -/
structure DistLaw (s : Int) (xs : List Int) (t : Int) (ys : List Int) (N D : Int) : Prop where
  size : s = t
  len : xs.length = ys.length
  l16 : xs.length ≤ 16
  swN : dsN t ys s xs = N
  swD : dsD t ys s xs = D
  swO : dsO t ys s xs = true
  zero : N = 0 ↔ xs = ys
  le : N ≤ D
  part : ∀ a : Nat, a < xs.length → adO (psN s xs (a : Int)) (psD s xs (a : Int)) (mnN (psN t ys (a : Int)) (psD t ys (a : Int))) (mnD (psN t ys (a : Int)) (psD t ys (a : Int))) = true →
    lessB N D (adN (psN s xs (a : Int)) (psD s xs (a : Int)) (mnN (psN t ys (a : Int)) (psD t ys (a : Int))) (mnD (psN t ys (a : Int)) (psD t ys (a : Int)))) (adD (psN s xs (a : Int)) (psD s xs (a : Int)) (mnN (psN t ys (a : Int)) (psD t ys (a : Int))) (mnD (psN t ys (a : Int)) (psD t ys (a : Int)))) = false
  tri : ∀ (u : Int) (zs : List Int), dsO s xs u zs = true → dsO u zs t ys = true → adO (dsN s xs u zs) (dsD s xs u zs) (dsN u zs t ys) (dsD u zs t ys) = true →
    lessB (adN (dsN s xs u zs) (dsD s xs u zs) (dsN u zs t ys) (dsD u zs t ys)) (adD (dsN s xs u zs) (dsD s xs u zs) (dsN u zs t ys) (dsD u zs t ys)) N D = false

theorem dist_law {s t : Int} {xs ys : List Int} (h : dsO s xs t ys = true) : DistLaw s xs t ys (dsN s xs t ys) (dsD s xs t ys) := by
  obtain ⟨hb, f⟩ := ds_fr h
  obtain ⟨hx, hy, rfl, hl⟩ := bothB_ok hb
  have hmx : massB s xs = true := by simp only [bothB, Bool.and_eq_true] at hb; exact hb.1
  have hmy : massB s ys = true := by simp only [bothB, Bool.and_eq_true] at hb; exact hb.2.1
  have s1 := hx.sum1
  have s2 := hy.sum1
  have hle := ap_le hx hy hl
  have hsw := ap_swap xs ys hl
  have hbs := both_swap hb
  have bd := frac_bd f.frac
  refine ⟨rfl, hl, hx.l16, ?_, ?_, ?_, ?_, ?_, fun a ha hg => ?_, fun u zs g1 g2 g3 => ?_⟩
  · rw [dsN, dsN, hbs, hb, hsw, Int.mul_comm (sumL ys)]
  · rw [dsD, dsD, hbs, hb, hsw, Int.mul_comm (sumL ys)]
  · rw [dsO, hbs, hsw, Int.mul_comm (sumL ys)]; rw [dsO, hb] at h; exact h
  · constructor
    · intro h0
      have c := f.cross
      rw [h0, Int.zero_mul] at c
      rcases Int.mul_eq_zero.1 c.symm with e | e
      · exact ap_zero hmx hmy hl e
      · omega
    · intro e
      have c := f.cross
      rw [show apTo xs ys xs.length = 0 by rw [← e]; exact ap_self _ _, Int.zero_mul] at c
      rcases Int.mul_eq_zero.1 c with e | e
      · exact e
      · have := f.pos2; omega
  · have c := f.cross
    have h1 : dsN s xs s ys * (sumL xs * sumL ys) ≤ dsD s xs s ys * (sumL xs * sumL ys) := by
      rw [c, Int.mul_comm (dsD s xs s ys)]
      exact Int.mul_le_mul_of_nonneg_right hle.2 (by omega)
    exact Int.le_of_mul_le_mul_right h1 f.pos2
  · have hpw : (a : Int) < pow2 s := by have := hx.len; omega
    have m1 : msB s xs (a : Int) = true := by simp [msB, hmx, setB, hpw]
    have m2 : msB s ys (a : Int) = true := by simp [msB, hmy, setB, hpw]
    have k1 := poss_total a hx
    have k2 := poss_total a hy
    have z1 := poss_nonneg a xs hx.all
    have z2 := poss_nonneg a ys hy.all
    have t1 : possS a xs ≤ sumL xs := by rw [possS_sm, sumL_sm]; exact sm_le fun e he => by have := (allB_nth hx.all e he).1; split <;> omega
    have t2 : possS a ys ≤ sumL ys := by rw [possS_sm, sumL_sm]; exact sm_le fun e he => by have := (allB_nth hy.all e he).1; split <;> omega
    have s3 := hx.sum2
    have s4 := hy.sum2
    have f1 : Fr (possS a xs) (sumL xs) (psN s xs (a : Int)) (psD s xs (a : Int)) := by
      rw [psN, psD, Int.toNat_natCast]
      exact fr_of (by omega) (by rw [m1]; simp only [fOk, Bool.true_and]; exact (part01 _ _ z1 t1 (by omega) (by omega)).ok)
    have f2 : Fr (possS a ys) (sumL ys) (psN s ys (a : Int)) (psD s ys (a : Int)) := by
      rw [psN, psD, Int.toNat_natCast]
      exact fr_of (by omega) (by rw [m2]; simp only [fOk, Bool.true_and]; exact (part01 _ _ z2 t2 (by omega) (by omega)).ok)
    have f3 := fr_add f1 (fr_minus f2) hg
    refine fr_less f f3 ?_
    have := ap_poss hx hy hl a
    exact Int.mul_le_mul_of_nonneg_right (by rw [Int.neg_mul, ← Int.sub_eq_add_neg]; exact this) (Int.le_of_lt f.pos2)
  · obtain ⟨b1, f1⟩ := ds_fr g1
    obtain ⟨b2, f2⟩ := ds_fr g2
    obtain ⟨_, hz, _, l1⟩ := bothB_ok b1
    have f3 := fr_add f1 f2 g3
    refine fr_less f3 f ?_
    have tri := ap_tri hx hy hz hl l1
    have s5 := hz.sum1
    have wpos : 0 ≤ sumL xs * sumL zs * sumL ys := Int.mul_nonneg (Int.mul_nonneg (by omega) (by omega)) (by omega)
    have := Int.mul_le_mul_of_nonneg_right tri wpos
    calc apTo xs ys xs.length * (sumL xs * sumL zs * (sumL zs * sumL ys)) = (sumL zs * apTo xs ys xs.length) * (sumL xs * sumL zs * sumL ys) := by ac_rfl
      _ ≤ (sumL ys * apTo xs zs xs.length + sumL xs * apTo zs ys zs.length) * (sumL xs * sumL zs * sumL ys) := this
      _ = (apTo xs zs xs.length * (sumL zs * sumL ys) + apTo zs ys zs.length * (sumL xs * sumL zs)) * (sumL xs * sumL ys) := by
        rw [Int.add_mul, Int.add_mul]; congr 1 <;> ac_rfl

end Go.Proofs.Ytjmfjgoehicgcaa
