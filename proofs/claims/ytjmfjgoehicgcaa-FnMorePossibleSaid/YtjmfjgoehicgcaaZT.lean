/- Plain laws on masses that are discounted. -/
import Derived.Test.YtjmfjgoehicgcaaMZ
import Derived.Test.YtjmfjgoehicgcaaZX
import Derived.Test.YtjmfjgoehicgcaaZD
import Derived.Test.YtjmfjgoehicgcaaE4
set_option linter.unusedVariables false
set_option linter.unusedSimpArgs false
namespace Go.Proofs.Ytjmfjgoehicgcaa
open Go.RowKit

theorem frac_unique {n d m e : Int} (h : fracB n d = true) (k : fracB m e = true) (hx : n * e = m * d) : n = m ∧ d = e := by
  have hb := frac_bd h
  have kb := frac_bd k
  simp only [fracB, Bool.and_eq_true, decide_eq_true_eq] at h k
  have g1 := h.2.2
  have g2 := k.2.2
  have key := congrArg Int.natAbs hx
  rw [Int.natAbs_mul, Int.natAbs_mul] at key
  have d1 : d.natAbs ∣ e.natAbs := Nat.Coprime.dvd_of_dvd_mul_left (Nat.Coprime.symm g1) ⟨m.natAbs, by rw [key, Nat.mul_comm]⟩
  have d2 : e.natAbs ∣ d.natAbs := Nat.Coprime.dvd_of_dvd_mul_left (Nat.Coprime.symm g2) ⟨n.natAbs, by rw [← key, Nat.mul_comm]⟩
  have e1 := Nat.dvd_antisymm d1 d2
  have e2 : d = e := by omega
  subst e2
  exact ⟨Int.eq_of_mul_eq_mul_right (by omega) hx, rfl⟩

theorem fr_one {N D M E n d m e : Int} (p : Fr N D n d) (q : Fr M E m e) (h : N * E = M * D) : n = m ∧ d = e := by
  refine frac_unique p.frac q.frac ?_
  have a := p.cross
  have b := q.cross
  have p2 := p.pos2
  have q2 := q.pos2
  have key : (n * e) * (D * E) = (m * d) * (D * E) := by grind
  exact Int.eq_of_mul_eq_mul_right (Int.ne_of_gt (Int.mul_pos p2 q2)) key

theorem low_small {N D : Int} (hD : 0 < D) (h1 : 0 ≤ N) (h2 : N ≤ 1000000000) (h3 : D ≤ 1000000000) : lowOk N D = true := by
  obtain ⟨n, d, g, hg, hn, hd, hd0, hc, hok, _⟩ := low_red N D hD
  rw [hok]
  have n0 : 0 ≤ n := by
    rcases Int.lt_or_le n 0 with h | h
    · have := Int.mul_neg_of_pos_of_neg hg h; omega
    · exact h
  have n1 : n ≤ N := by rw [hn]; have := Int.mul_le_mul_of_nonneg_right (show 1 ≤ g by omega) n0; omega
  have d1 : d ≤ D := by rw [hd]; have := Int.mul_le_mul_of_nonneg_right (show 1 ≤ g by omega) (Int.le_of_lt hd0); omega
  simp only [fracB, Bool.and_eq_true, decide_eq_true_eq]
  refine ⟨?_, ?_, hc⟩
  · simp [inB]; omega
  · simp [inB]; omega

theorem sure_sum {n a : Nat} (ha : a < n) : sumL (sureL n a) = 1 := by
  rw [sumL_sm, sureL_len]
  have h : ∀ m, sm m (nth (sureL n a)) = if a < m then 1 else 0 := by
    intro m
    induction m with
    | zero => simp [sm]
    | succ m ih =>
      rw [sm, ih, sureL_nth _ _ _ ha]
      by_cases e : m = a
      · subst e; simp
      · rw [if_neg e]
        by_cases l : a < m
        · rw [if_pos l, if_pos (by omega)]; rfl
        · rw [if_neg l, if_neg (by omega)]; rfl
  rw [h, if_pos ha]

theorem disc_alg (x F X n d n2 d2 n3 d3 g1 g2 g3 K S1 K2 K3 : Int) (h1 : g1 * K = n * x + (d - n) * F * X) (h2 : g1 * S1 = d * X) (h3 : g2 * K2 = n2 * K + (d2 - n2) * F * S1) (h4 : g3 * K3 = n3 * x + (d3 - n3) * F * X) (h5 : n3 * (d * d2) = n * n2 * d3) : (g1 * g2 * d3) * K2 = (d * d2 * g3) * K3 := by
  grind

/-- What a discounted mass is. -/
structure DiscLaw (s : Int) (xs : List Int) (n d : Int) (K : List Int) : Prop where
  mass : massB s xs = true
  massK : massB s K = true
  len : K.length = xs.length
  l16 : xs.length ≤ 16
  share : shB n d = true
  zero : n ≤ 0 → K = fuL xs
  one : d ≤ n → K = xs
  two : ∀ n2 d2, gOk (mixG s K s (fuL K) n2 d2) s (mixP K (fuL K) n2 d2) = true → fOk (twoF n d n2 d2) (n * n2) (d * d2) = true →
    gOk (mixG s xs s (fuL xs) (fN (twoF n d n2 d2) (n * n2) (d * d2)) (fD (twoF n d n2 d2) (n * n2) (d * d2))) s (mixP xs (fuL xs) (fN (twoF n d n2 d2) (n * n2) (d * d2)) (fD (twoF n d n2 d2) (n * n2) (d * d2))) = true →
    gL (mixG s K s (fuL K) n2 d2) s (mixP K (fuL K) n2 d2) = gL (mixG s xs s (fuL xs) (fN (twoF n d n2 d2) (n * n2) (d * d2)) (fD (twoF n d n2 d2) (n * n2) (d * d2))) s (mixP xs (fuL xs) (fN (twoF n d n2 d2) (n * n2) (d * d2)) (fD (twoF n d n2 d2) (n * n2) (d * d2))) ∧
    gS (mixG s K s (fuL K) n2 d2) s (mixP K (fuL K) n2 d2) = s ∧
    gS (mixG s xs s (fuL xs) (fN (twoF n d n2 d2) (n * n2) (d * d2)) (fD (twoF n d n2 d2) (n * n2) (d * d2))) s (mixP xs (fuL xs) (fN (twoF n d n2 d2) (n * n2) (d * d2)) (fD (twoF n d n2 d2) (n * n2) (d * d2))) = s
  part : ∀ b : Nat, b + 1 < xs.length → ∀ sn sd, sn = fN (msB s xs (b : Int)) (nth xs b) (sumL xs) → sd = fD (msB s xs (b : Int)) (nth xs b) (sumL xs) →
    fOk (twoF sn sd n d) (sn * n) (sd * d) = true →
    fN (msB s K (b : Int)) (nth K b) (sumL K) = fN (twoF sn sd n d) (sn * n) (sd * d) ∧ fD (msB s K (b : Int)) (nth K b) (sumL K) = fD (twoF sn sd n d) (sn * n) (sd * d)

theorem mix_parts {s t : Int} {xs ys : List Int} {n d : Int} (h : mixG s xs t ys n d = true) : bothB s xs t ys = true ∧ shB n d = true ∧ d ≤ 1000 := by
  simp only [mixG, Bool.and_eq_true, decide_eq_true_eq] at h
  exact ⟨h.1, h.2.1, h.2.2⟩

theorem disc_law {s : Int} {xs : List Int} {n d : Int} (h : gOk (mixG s xs s (fuL xs) n d) s (mixP xs (fuL xs) n d) = true) :
    gS (mixG s xs s (fuL xs) n d) s (mixP xs (fuL xs) n d) = s ∧ DiscLaw s xs n d (gL (mixG s xs s (fuL xs) n d) s (mixP xs (fuL xs) n d)) := by
  obtain ⟨hm, hok, e1, e2⟩ := gOk_parts h
  obtain ⟨hb, hsh, h1000⟩ := mix_parts hm
  obtain ⟨hk, hj, _, hlen⟩ := bothB_ok hb
  have hx : massB s xs = true := by simp only [bothB, Bool.and_eq_true] at hb; exact hb.1
  have hf : massB s (fuL xs) = true := by simp only [bothB, Bool.and_eq_true] at hb; exact hb.2.1
  obtain ⟨n0, nd, d1⟩ := shB_ok hsh
  refine ⟨e1, ?_⟩
  rw [e2]
  have hl := mk_low hok
  obtain ⟨g1, hg1, hmul⟩ := hl.mul
  have hlK : (mkL s (mixP xs (fuL xs) n d)).length = xs.length := by rw [← hl.len, mixP_len]
  obtain ⟨K, hKe⟩ : ∃ K, K = mkL s (mixP xs (fuL xs) n d) := ⟨_, rfl⟩
  rw [← hKe] at hmul hlK hl ⊢
  have kK := massB_ok hl.mass
  have hx2 : 2 ≤ xs.length := by have := hk.len; have := pow2_bd s hk.s1 hk.s4; omega
  have fs : sumL (fuL xs) = 1 := sure_sum (by omega)
  have hFK : fuL K = fuL xs := by rw [fuL, fuL, hlK]
  have X1 := hk.sum1
  have hmix : ∀ b, b < xs.length → g1 * nth K b = n * nth xs b + (d - n) * nth (fuL xs) b * sumL xs := by
    intro b hb
    rw [← hmul b (by rw [hlK]; exact hb), mixP_nth _ _ _ _ _ hb, mixN, fs, Int.mul_one]
  have hsum : g1 * sumL K = d * sumL xs := by
    rw [sumL_sm K, hlK, ← sm_mul, sm_congr hmix, sm_add, sm_mul, ← sumL_sm xs]
    rw [sm_congr (g := fun b => ((d - n) * sumL xs) * nth (fuL xs) b) (fun b _ => by ac_rfl), sm_mul, ← fuL_len xs, ← sumL_sm (fuL xs), fs]
    grind
  have hK1 := kK.sum1
  refine ⟨hx, hl.mass, hlK, hk.l16, hsh, fun hn => ?_, fun hd => ?_, fun n2 d2 h2 ht h3 => ?_, fun b hb sn sd hsn hsd ht => ?_⟩
  · have hn' : n = 0 := by omega
    subst hn'
    exact low_unique hl.mass hf (by rw [hlK, fuL_len]) g1 (d * sumL xs) hg1 (Int.mul_pos (by omega) (by omega)) fun k hk' => by
      rw [hlK] at hk'
      have := hmix k hk'
      grind
  · have hn' : n = d := by omega
    subst hn'
    exact low_unique hl.mass hx hlK g1 n hg1 (by omega) fun k hk' => by
      rw [hlK] at hk'
      have := hmix k hk'
      grind
  · simp only [fOk, Bool.and_eq_true] at ht
    obtain ⟨t1, t2⟩ := ht
    simp only [fN, fD, if_pos t1] at h3 ⊢
    have tf : fracB n2 d2 = true := by simp only [twoF, Bool.and_eq_true] at t1; exact t1.2
    have tb := frac_bd tf
    have fr := fr_low (Int.mul_pos (show 0 < d by omega) (show 0 < d2 by omega)) t2
    have cross := fr.cross
    have d30 := fr.pos
    obtain ⟨n3, hn3⟩ : ∃ z, z = lowN (n * n2) (d * d2) := ⟨_, rfl⟩
    obtain ⟨d3, hd3⟩ : ∃ z, z = lowD (n * n2) (d * d2) := ⟨_, rfl⟩
    rw [← hn3, ← hd3] at h3 cross ⊢
    rw [← hd3] at d30
    obtain ⟨_, ok2, e3, e4⟩ := gOk_parts h2
    obtain ⟨_, ok3, e5, e6⟩ := gOk_parts h3
    have l2 := mk_low ok2
    have l3 := mk_low ok3
    obtain ⟨g2, hg2, m2⟩ := l2.mul
    obtain ⟨g3, hg3, m3⟩ := l3.mul
    have ll2 : (mkL s (mixP K (fuL K) n2 d2)).length = xs.length := by rw [← l2.len, mixP_len, hlK]
    have ll3 : (mkL s (mixP xs (fuL xs) n3 d3)).length = xs.length := by rw [← l3.len, mixP_len]
    refine ⟨?_, e3, e5⟩
    rw [e4, e6]
    refine low_unique l2.mass l3.mass (by rw [ll2, ll3]) (g1 * g2 * d3) (d * d2 * g3) (Int.mul_pos (Int.mul_pos hg1 hg2) d30) (Int.mul_pos (Int.mul_pos (by omega) (by omega)) hg3) fun k hk' => ?_
    rw [ll2] at hk'
    have q2 := m2 k (by rw [ll2]; exact hk')
    have q3 := m3 k (by rw [ll3]; exact hk')
    have q1 := hmix k hk'
    generalize nth (mkL s (mixP K (fuL K) n2 d2)) k = K2 at *
    generalize nth (mkL s (mixP xs (fuL xs) n3 d3)) k = K3 at *
    rw [mixP_nth _ _ _ _ _ (by rw [hlK]; exact hk'), mixN, hFK, fs, Int.mul_one] at q2
    rw [mixP_nth _ _ _ _ _ hk', mixN, fs, Int.mul_one] at q3
    exact disc_alg _ _ _ _ _ _ _ _ _ _ _ _ _ _ _ _ q1 hsum q2.symm q3.symm cross
  · have bset : ((b : Int) < pow2 s) := by have := hk.len; omega
    have mx : msB s xs (b : Int) = true := by simp [msB, hx, setB, bset]
    have mk' : msB s K (b : Int) = true := by simp [msB, hl.mass, setB, bset]
    have ux := allB_nth hk.all b (by omega)
    have uk := allB_nth kK.all b (by rw [hlK]; omega)
    have f1 := fr_low (show 0 < sumL xs by omega) (low_small (show 0 < sumL xs by omega) ux.1 (by omega) (by have := hk.sum2; omega))
    have f2 := fr_low (show 0 < sumL K by omega) (low_small (show 0 < sumL K by omega) uk.1 (by omega) (by have := kK.sum2; omega))
    simp only [fN, fD, if_pos mx] at hsn hsd
    rw [← hsn, ← hsd] at f1
    simp only [fOk, Bool.and_eq_true] at ht
    obtain ⟨t1, t2⟩ := ht
    simp only [fN, fD, if_pos t1, if_pos mk']
    have f3 := fr_low (Int.mul_pos f1.pos (show 0 < d by omega)) t2
    refine fr_one f2 f3 ?_
    have q1 := hmix b (by omega)
    have hz : nth (fuL xs) b = 0 := by rw [fuL, sureL_nth _ _ _ (by omega), if_neg (by omega)]
    rw [hz] at q1
    have c1 := f1.cross
    have hg0 : g1 * sumL xs ≠ 0 := Int.ne_of_gt (Int.mul_pos hg1 (by omega))
    refine Int.eq_of_mul_eq_mul_left hg0 ?_
    clear f1 f2 f3 hk hj hl kK hmul hmix e1 e2 hok h hm hb hx hf hsh
    generalize nth K b = K1 at *
    generalize nth xs b = x at *
    generalize sumL xs = X at *
    generalize sumL K = S1 at *
    grind

end Go.Proofs.Ytjmfjgoehicgcaa
