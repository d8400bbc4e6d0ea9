/- Fractions that are multiplied, shares of a mass, no evidence. -/
import Derived.Test.YtjmfjgoehicgcaaE2
import Derived.Test.YtjmfjgoehicgcaaMZ
import Derived.Test.YtjmfjgoehicgcaaMgV8
import Derived.Test.YtjmfjgoehicgcaaMgDC
import Derived.Test.YtjmfjgoehicgcaaMgZH
import Derived.Test.YtjmfjgoehicgcaaMgS10
import Derived.Test.YtjmfjgoehicgcaaV7
set_option linter.unusedVariables false
set_option linter.unusedSimpArgs false
namespace Go.Proofs.Ytjmfjgoehicgcaa
open Go.RowKit

def neS (s : Int) : Int := if szB s = true then s else 0
def neL (s : Int) : List Int := if szB s = true then sureL (pow2 s).toNat ((pow2 s).toNat - 1) else []

set_option maxHeartbeats 1000000 in
theorem iNoEvidence_any (s : Int) (w : World) :
    Calls Try.prog 33 #[.int .i64 s] w fun e w' => ∃ v, e = .returned (.tuple #[.agg #[.int .i64 (neS s), v], .bool (szB s)]) ∧ Own w.heap.size w' v (neL s) ∧ Below w.heap.size w w' := by
  obtain ⟨W, hW⟩ : ∃ W : World, W = w.alloc (.cells #[.int .i64 0, .slice none 0 0] 27) := ⟨_, rfl⟩
  have hbW : Below w.heap.size w W := by subst hW; exact belowAlloc _ _
  have hsz : W.heap.size = w.heap.size + 1 := by subst hW; simp
  have hR : VarInv W w.heap.size 0 (.slice none 0 0) := by subst hW; exact VarInv.made _ _ _ _
  have HWW := Lib.hid hW
  have HSZ := Lib.hid hsz
  have s0 := hR.c0
  have s1 := hR.c1
  have s2 := hR.f0
  have s3 := hR.f1
  clear hW hsz
  cases h1 : szB s
  · have HS : Hid (neS s = 0 ∧ neL s = []) := Lib.hid (by simp [neS, neL, h1])
    have H1 := Lib.hid h1
    clear h1
    go_enter Try.func33, Try.ntmps33
    go_wp2_with fail
    rw [← HWW.out]
    refine (isSize_any _ _).mono ?_
    rintro e w' ⟨rfl, rfl⟩
    rw [H1.out]
    go_wp2
    refine bodyPost_ret (v := .tuple #[.agg #[.int .i64 0, .slice none 0 0], .bool false]) (by simp [results, Try.results33, go_sem, s0, s1, s2, s3]) rfl ⟨_, by rw [HS.out.1], by rw [HS.out.2]; exact Own.nil _ _, ?_⟩
    exact (hbW.setCell (by show _ ≤ w.heap.size; omega) _).setCell (by show _ ≤ w.heap.size; omega) _
  · have k14 : 1 ≤ s ∧ s ≤ 4 := by simpa [szB, inB] using h1
    obtain ⟨k1, k4⟩ := k14
    have HS : Hid (neS s = s ∧ neL s = sureL (pow2 s).toNat ((pow2 s).toNat - 1)) := Lib.hid (by simp [neS, neL, h1])
    have hpb := pow2_bd s k1 k4
    obtain ⟨N, hN⟩ : ∃ N : Nat, (N : Int) = pow2 s := ⟨(pow2 s).toNat, by omega⟩
    have hN16 : N ≤ 16 := by omega
    have hNt : Hid ((pow2 s).toNat = N) := Lib.hid (by omega)
    have HN := Lib.hid hN
    have hN2 : 2 ≤ N := by omega
    have HT : Hid (pow2 s - 1 = ((N - 1 : Nat) : Int)) := Lib.hid (by omega)
    have H1 := Lib.hid h1
    clear h1 hN hpb
    go_enter Try.func33, Try.ntmps33
    go_wp2_with fail
    rw [← HWW.out]
    refine (isSize_any _ _).mono ?_
    rintro e w' ⟨rfl, rfl⟩
    rw [H1.out]
    go_wp2_with fail
    refine (fullSetR_any s _ k1 k4).mono ?_
    rintro e w' ⟨rfl, rfl⟩
    go_wp2_with fail
    refine (sureMass_v s (pow2 s - 1) (N - 1) N _ HT.out k1 k4 HN.out (by omega) hN16).mono ?_
    rintro e w1 ⟨v, rfl, ho, hb1⟩
    obtain ⟨p2, c2, rfl, _hr⟩ := ho.shape
    have jR := hR.later hb1
    clear s0 s1 s2 s3 _hr
    have s0 := jR.c0
    have s1 := jR.c1
    have s2 := jR.f0
    have s3 := jR.f1
    have z1 := hb1.size
    go_wp2
    refine bodyPost_ret (v := .tuple #[.agg #[.int .i64 s, .slice p2 (sureL N (N - 1)).length c2], .bool true]) (by simp [results, Try.results33, go_sem, s0, s1, s2, s3]) rfl ⟨_, by rw [HS.out.1], ?_, ?_⟩
    · rw [HS.out.2, hNt.out]; exact ((ho.setBelow (by show w.heap.size < _; have := HSZ.out; omega) _).setBelow (by show w.heap.size < _; have := HSZ.out; omega) _).mono (by have := HSZ.out; omega)
    · exact ((hbW.thenB hb1).setCell (by show _ ≤ w.heap.size; omega) _).setCell (by show _ ≤ w.heap.size; omega) _

end Go.Proofs.Ytjmfjgoehicgcaa

/- Plain laws on masses that are discounted. -/
set_option linter.unusedVariables false
set_option linter.unusedSimpArgs false
namespace Go.Proofs.Ytjmfjgoehicgcaa
open Go.RowKit

theorem frac_unique {n d m e : Int} (h : fracB n d = true) (k : fracB m e = true) (hx : n * e = m * d) : n = m ∧ d = e := by
  have hb := frac_bd h
  have kb := frac_bd k
  simp only [fracB, Bool.and_eq_true, decide_eq_true_eq] at h k
  have g1 := h.2.2
  have g2 := k.2.2
  have key := congrArg Int.natAbs hx
  rw [Int.natAbs_mul, Int.natAbs_mul] at key
  have d1 : d.natAbs ∣ e.natAbs := Nat.Coprime.dvd_of_dvd_mul_left (Nat.Coprime.symm g1) ⟨m.natAbs, by rw [key, Nat.mul_comm]⟩
  have d2 : e.natAbs ∣ d.natAbs := Nat.Coprime.dvd_of_dvd_mul_left (Nat.Coprime.symm g2) ⟨n.natAbs, by rw [← key, Nat.mul_comm]⟩
  have e1 := Nat.dvd_antisymm d1 d2
  have e2 : d = e := by omega
  subst e2
  exact ⟨Int.eq_of_mul_eq_mul_right (by omega) hx, rfl⟩

theorem fr_one {N D M E n d m e : Int} (p : Fr N D n d) (q : Fr M E m e) (h : N * E = M * D) : n = m ∧ d = e := by
  refine frac_unique p.frac q.frac ?_
  have a := p.cross
  have b := q.cross
  have p2 := p.pos2
  have q2 := q.pos2
  have key : (n * e) * (D * E) = (m * d) * (D * E) := by grind
  exact Int.eq_of_mul_eq_mul_right (Int.ne_of_gt (Int.mul_pos p2 q2)) key

theorem low_small {N D : Int} (hD : 0 < D) (h1 : 0 ≤ N) (h2 : N ≤ 1000000000) (h3 : D ≤ 1000000000) : lowOk N D = true := by
  obtain ⟨n, d, g, hg, hn, hd, hd0, hc, hok, _⟩ := low_red N D hD
  rw [hok]
  have n0 : 0 ≤ n := by
    rcases Int.lt_or_le n 0 with h | h
    · have := Int.mul_neg_of_pos_of_neg hg h; omega
    · exact h
  have n1 : n ≤ N := by rw [hn]; have := Int.mul_le_mul_of_nonneg_right (show 1 ≤ g by omega) n0; omega
  have d1 : d ≤ D := by rw [hd]; have := Int.mul_le_mul_of_nonneg_right (show 1 ≤ g by omega) (Int.le_of_lt hd0); omega
  simp only [fracB, Bool.and_eq_true, decide_eq_true_eq]
  refine ⟨?_, ?_, hc⟩
  · simp [inB]; omega
  · simp [inB]; omega

theorem sure_sum {n a : Nat} (ha : a < n) : sumL (sureL n a) = 1 := by
  rw [sumL_sm, sureL_len]
  have h : ∀ m, sm m (nth (sureL n a)) = if a < m then 1 else 0 := by
    intro m
    induction m with
    | zero => simp [sm]
    | succ m ih =>
      rw [sm, ih, sureL_nth _ _ _ ha]
      by_cases e : m = a
      · subst e; simp
      · rw [if_neg e]
        by_cases l : a < m
        · rw [if_pos l, if_pos (by omega)]; rfl
        · rw [if_neg l, if_neg (by omega)]; rfl
  rw [h, if_pos ha]

theorem disc_alg (x F X n d n2 d2 n3 d3 g1 g2 g3 K S1 K2 K3 : Int) (h1 : g1 * K = n * x + (d - n) * F * X) (h2 : g1 * S1 = d * X) (h3 : g2 * K2 = n2 * K + (d2 - n2) * F * S1) (h4 : g3 * K3 = n3 * x + (d3 - n3) * F * X) (h5 : n3 * (d * d2) = n * n2 * d3) : (g1 * g2 * d3) * K2 = (d * d2 * g3) * K3 := by
  grind

/-- What a discounted mass is. -/
structure DiscLaw (s : Int) (xs : List Int) (n d : Int) (K : List Int) : Prop where
  mass : massB s xs = true
  massK : massB s K = true
  len : K.length = xs.length
  l16 : xs.length ≤ 16
  share : shB n d = true
  zero : n ≤ 0 → K = fuL xs
  one : d ≤ n → K = xs
  two : ∀ n2 d2, gOk (mixG s K s (fuL K) n2 d2) s (mixP K (fuL K) n2 d2) = true → fOk (twoF n d n2 d2) (n * n2) (d * d2) = true →
    gOk (mixG s xs s (fuL xs) (fN (twoF n d n2 d2) (n * n2) (d * d2)) (fD (twoF n d n2 d2) (n * n2) (d * d2))) s (mixP xs (fuL xs) (fN (twoF n d n2 d2) (n * n2) (d * d2)) (fD (twoF n d n2 d2) (n * n2) (d * d2))) = true →
    gL (mixG s K s (fuL K) n2 d2) s (mixP K (fuL K) n2 d2) = gL (mixG s xs s (fuL xs) (fN (twoF n d n2 d2) (n * n2) (d * d2)) (fD (twoF n d n2 d2) (n * n2) (d * d2))) s (mixP xs (fuL xs) (fN (twoF n d n2 d2) (n * n2) (d * d2)) (fD (twoF n d n2 d2) (n * n2) (d * d2))) ∧
    gS (mixG s K s (fuL K) n2 d2) s (mixP K (fuL K) n2 d2) = s ∧
    gS (mixG s xs s (fuL xs) (fN (twoF n d n2 d2) (n * n2) (d * d2)) (fD (twoF n d n2 d2) (n * n2) (d * d2))) s (mixP xs (fuL xs) (fN (twoF n d n2 d2) (n * n2) (d * d2)) (fD (twoF n d n2 d2) (n * n2) (d * d2))) = s
  part : ∀ b : Nat, b + 1 < xs.length → ∀ sn sd, sn = fN (msB s xs (b : Int)) (nth xs b) (sumL xs) → sd = fD (msB s xs (b : Int)) (nth xs b) (sumL xs) →
    fOk (twoF sn sd n d) (sn * n) (sd * d) = true →
    fN (msB s K (b : Int)) (nth K b) (sumL K) = fN (twoF sn sd n d) (sn * n) (sd * d) ∧ fD (msB s K (b : Int)) (nth K b) (sumL K) = fD (twoF sn sd n d) (sn * n) (sd * d)

theorem mix_parts {s t : Int} {xs ys : List Int} {n d : Int} (h : mixG s xs t ys n d = true) : bothB s xs t ys = true ∧ shB n d = true ∧ d ≤ 1000 := by
  simp only [mixG, Bool.and_eq_true, decide_eq_true_eq] at h
  exact ⟨h.1, h.2.1, h.2.2⟩

theorem disc_law {s : Int} {xs : List Int} {n d : Int} (h : gOk (mixG s xs s (fuL xs) n d) s (mixP xs (fuL xs) n d) = true) :
    gS (mixG s xs s (fuL xs) n d) s (mixP xs (fuL xs) n d) = s ∧ DiscLaw s xs n d (gL (mixG s xs s (fuL xs) n d) s (mixP xs (fuL xs) n d)) := by
  obtain ⟨hm, hok, e1, e2⟩ := gOk_parts h
  obtain ⟨hb, hsh, h1000⟩ := mix_parts hm
  obtain ⟨hk, hj, _, hlen⟩ := bothB_ok hb
  have hx : massB s xs = true := by simp only [bothB, Bool.and_eq_true] at hb; exact hb.1
  have hf : massB s (fuL xs) = true := by simp only [bothB, Bool.and_eq_true] at hb; exact hb.2.1
  obtain ⟨n0, nd, d1⟩ := shB_ok hsh
  refine ⟨e1, ?_⟩
  rw [e2]
  have hl := mk_low hok
  obtain ⟨g1, hg1, hmul⟩ := hl.mul
  have hlK : (mkL s (mixP xs (fuL xs) n d)).length = xs.length := by rw [← hl.len, mixP_len]
  obtain ⟨K, hKe⟩ : ∃ K, K = mkL s (mixP xs (fuL xs) n d) := ⟨_, rfl⟩
  rw [← hKe] at hmul hlK hl ⊢
  have kK := massB_ok hl.mass
  have hx2 : 2 ≤ xs.length := by have := hk.len; have := pow2_bd s hk.s1 hk.s4; omega
  have fs : sumL (fuL xs) = 1 := sure_sum (by omega)
  have hFK : fuL K = fuL xs := by rw [fuL, fuL, hlK]
  have X1 := hk.sum1
  have hmix : ∀ b, b < xs.length → g1 * nth K b = n * nth xs b + (d - n) * nth (fuL xs) b * sumL xs := by
    intro b hb
    rw [← hmul b (by rw [hlK]; exact hb), mixP_nth _ _ _ _ _ hb, mixN, fs, Int.mul_one]
  have hsum : g1 * sumL K = d * sumL xs := by
    rw [sumL_sm K, hlK, ← sm_mul, sm_congr hmix, sm_add, sm_mul, ← sumL_sm xs]
    rw [sm_congr (g := fun b => ((d - n) * sumL xs) * nth (fuL xs) b) (fun b _ => by ac_rfl), sm_mul, ← fuL_len xs, ← sumL_sm (fuL xs), fs]
    grind
  have hK1 := kK.sum1
  refine ⟨hx, hl.mass, hlK, hk.l16, hsh, fun hn => ?_, fun hd => ?_, fun n2 d2 h2 ht h3 => ?_, fun b hb sn sd hsn hsd ht => ?_⟩
  · have hn' : n = 0 := by omega
    subst hn'
    exact low_unique hl.mass hf (by rw [hlK, fuL_len]) g1 (d * sumL xs) hg1 (Int.mul_pos (by omega) (by omega)) fun k hk' => by
      rw [hlK] at hk'
      have := hmix k hk'
      grind
  · have hn' : n = d := by omega
    subst hn'
    exact low_unique hl.mass hx hlK g1 n hg1 (by omega) fun k hk' => by
      rw [hlK] at hk'
      have := hmix k hk'
      grind
  · simp only [fOk, Bool.and_eq_true] at ht
    obtain ⟨t1, t2⟩ := ht
    simp only [fN, fD, if_pos t1] at h3 ⊢
    have tf : fracB n2 d2 = true := by simp only [twoF, Bool.and_eq_true] at t1; exact t1.2
    have tb := frac_bd tf
    have fr := fr_low (Int.mul_pos (show 0 < d by omega) (show 0 < d2 by omega)) t2
    have cross := fr.cross
    have d30 := fr.pos
    obtain ⟨n3, hn3⟩ : ∃ z, z = lowN (n * n2) (d * d2) := ⟨_, rfl⟩
    obtain ⟨d3, hd3⟩ : ∃ z, z = lowD (n * n2) (d * d2) := ⟨_, rfl⟩
    rw [← hn3, ← hd3] at h3 cross ⊢
    rw [← hd3] at d30
    obtain ⟨_, ok2, e3, e4⟩ := gOk_parts h2
    obtain ⟨_, ok3, e5, e6⟩ := gOk_parts h3
    have l2 := mk_low ok2
    have l3 := mk_low ok3
    obtain ⟨g2, hg2, m2⟩ := l2.mul
    obtain ⟨g3, hg3, m3⟩ := l3.mul
    have ll2 : (mkL s (mixP K (fuL K) n2 d2)).length = xs.length := by rw [← l2.len, mixP_len, hlK]
    have ll3 : (mkL s (mixP xs (fuL xs) n3 d3)).length = xs.length := by rw [← l3.len, mixP_len]
    refine ⟨?_, e3, e5⟩
    rw [e4, e6]
    refine low_unique l2.mass l3.mass (by rw [ll2, ll3]) (g1 * g2 * d3) (d * d2 * g3) (Int.mul_pos (Int.mul_pos hg1 hg2) d30) (Int.mul_pos (Int.mul_pos (by omega) (by omega)) hg3) fun k hk' => ?_
    rw [ll2] at hk'
    have q2 := m2 k (by rw [ll2]; exact hk')
    have q3 := m3 k (by rw [ll3]; exact hk')
    have q1 := hmix k hk'
    generalize nth (mkL s (mixP K (fuL K) n2 d2)) k = K2 at *
    generalize nth (mkL s (mixP xs (fuL xs) n3 d3)) k = K3 at *
    rw [mixP_nth _ _ _ _ _ (by rw [hlK]; exact hk'), mixN, hFK, fs, Int.mul_one] at q2
    rw [mixP_nth _ _ _ _ _ hk', mixN, fs, Int.mul_one] at q3
    exact disc_alg _ _ _ _ _ _ _ _ _ _ _ _ _ _ _ _ q1 hsum q2.symm q3.symm cross
  · have bset : ((b : Int) < pow2 s) := by have := hk.len; omega
    have mx : msB s xs (b : Int) = true := by simp [msB, hx, setB, bset]
    have mk' : msB s K (b : Int) = true := by simp [msB, hl.mass, setB, bset]
    have ux := allB_nth hk.all b (by omega)
    have uk := allB_nth kK.all b (by rw [hlK]; omega)
    have f1 := fr_low (show 0 < sumL xs by omega) (low_small (show 0 < sumL xs by omega) ux.1 (by omega) (by have := hk.sum2; omega))
    have f2 := fr_low (show 0 < sumL K by omega) (low_small (show 0 < sumL K by omega) uk.1 (by omega) (by have := kK.sum2; omega))
    simp only [fN, fD, if_pos mx] at hsn hsd
    rw [← hsn, ← hsd] at f1
    simp only [fOk, Bool.and_eq_true] at ht
    obtain ⟨t1, t2⟩ := ht
    simp only [fN, fD, if_pos t1, if_pos mk']
    have f3 := fr_low (Int.mul_pos f1.pos (show 0 < d by omega)) t2
    refine fr_one f2 f3 ?_
    have q1 := hmix b (by omega)
    have hz : nth (fuL xs) b = 0 := by rw [fuL, sureL_nth _ _ _ (by omega), if_neg (by omega)]
    rw [hz] at q1
    have c1 := f1.cross
    have hg0 : g1 * sumL xs ≠ 0 := Int.ne_of_gt (Int.mul_pos hg1 (by omega))
    refine Int.eq_of_mul_eq_mul_left hg0 ?_
    clear f1 f2 f3 hk hj hl kK hmul hmix e1 e2 hok h hm hb hx hf hsh
    generalize nth K b = K1 at *
    generalize nth xs b = x at *
    generalize sumL xs = X at *
    generalize sumL K = S1 at *
    grind

end Go.Proofs.Ytjmfjgoehicgcaa

/- Plain laws on what is more possible. -/
set_option linter.unusedVariables false
set_option linter.unusedSimpArgs false
namespace Go.Proofs.Ytjmfjgoehicgcaa
open Go.RowKit

def otB (n a : Nat) : Nat := 2 ^ n - 1 - a
theorem inSet_ot : ∀ n : Fin 5, ∀ a c : Fin 16, a.val < 2 ^ n.val → c.val < 2 ^ n.val → inSet a.val c.val = !meetB (otB n.val a.val) c.val := by decide +kernel

theorem im_possP (n a : Nat) (xs : List Int) (hn : n ≤ 4) (hl : xs.length = 2 ^ n) (ha : a < 2 ^ n) : imS a xs = sumL xs - possS (otB n a) xs := by
  have p16 : 2 ^ n ≤ 16 := Nat.pow_le_pow_right (n := 2) (by omega) hn
  rw [imS_sm, possS_sm, sumL_sm, ← sm_sub]
  apply sm_congr
  intro e he
  have h := inSet_ot ⟨n, by omega⟩ ⟨a, by omega⟩ ⟨e, by omega⟩ ha (by show e < 2 ^ n; omega)
  simp only at h
  rw [h]
  cases meetB (otB n a) e <;> simp

theorem im_extF {N : Nat} {f g : Nat → Int} (h : ∀ a, a < N → sm N (fun e => if inSet a e = true then f e else 0) = sm N (fun e => if inSet a e = true then g e else 0)) : ∀ a, a < N → f a = g a := by
  intro a
  induction a using Nat.strongRecOn with
  | _ a ih =>
    intro ha
    have e := h a ha
    have d : sm N (fun e => (if inSet a e = true then f e else 0) - (if inSet a e = true then g e else 0)) = 0 := by rw [sm_sub]; omega
    rw [sm_single a ha (fun k hk hne => by
      by_cases hs : inSet a k = true
      · have hle : k ≤ a := by
          have : k &&& a = k := by simpa [inSet, subB] using hs
          rw [← this]; exact Nat.and_le_right
        rw [if_pos hs, if_pos hs, ih k (by omega) hk]; omega
      · rw [if_neg hs, if_neg hs]; omega)] at d
    have hs : inSet a a = true := by simp [inSet, subB, Nat.and_self]
    rw [if_pos hs, if_pos hs] at d
    omega

theorem mpTo_iff {xs ys : List Int} {k : Nat} : mpTo xs ys k = true ↔ ∀ a, a < k → possS a xs * sumL ys ≤ possS a ys * sumL xs := by
  simp only [mpTo, List.all_eq_true, List.mem_range, decide_eq_true_eq, possS]
theorem mcTo_iff {xs ys : List Int} {k : Nat} : mcTo xs ys k = true ↔ ∀ a, a < k → coS a xs * sumL ys ≤ coS a ys * sumL xs := by
  simp only [mcTo, List.all_eq_true, List.mem_range, decide_eq_true_eq, coS]

/-- All sets before k are implied by the first at least as much. -/
def imTo (xs ys : List Int) (k : Nat) : Bool := (List.range k).all fun a => decide (imS a ys * sumL xs ≤ imS a xs * sumL ys)
theorem imTo_succ (xs ys : List Int) (k : Nat) : imTo xs ys (k + 1) = (imTo xs ys k && decide (imS k ys * sumL xs ≤ imS k xs * sumL ys)) := by simp [imTo, List.range_succ]
theorem imTo_iff {xs ys : List Int} {k : Nat} : imTo xs ys k = true ↔ ∀ a, a < k → imS a ys * sumL xs ≤ imS a xs * sumL ys := by
  simp only [imTo, List.all_eq_true, List.mem_range, decide_eq_true_eq]

theorem mass_pow {s : Int} {xs : List Int} (hk : MassOk s xs) : ∃ n : Nat, n ≤ 4 ∧ 1 ≤ n ∧ s = n ∧ xs.length = 2 ^ n := by
  have h1 := hk.s1
  have h4 := hk.s4
  have hl := hk.len
  obtain ⟨n, rfl⟩ := Int.eq_ofNat_of_zero_le (show 0 ≤ s by omega)
  refine ⟨n, by omega, by omega, rfl, ?_⟩
  have : pow2 (n : Int) = ((2 ^ n : Nat) : Int) := by simp [pow2]
  rw [this] at hl
  exact_mod_cast hl

theorem imTo_mp {s t : Int} {xs ys : List Int} (hk : MassOk s xs) (hj : MassOk t ys) (hl : xs.length = ys.length) : imTo xs ys xs.length = mpTo xs ys xs.length := by
  obtain ⟨n, hn, -, -, hx⟩ := mass_pow hk
  have hy : ys.length = 2 ^ n := by rw [← hl, hx]
  have ot : ∀ a, a < 2 ^ n → otB n a < 2 ^ n ∧ otB n (otB n a) = a := fun a ha => by unfold otB; omega
  rw [Bool.eq_iff_iff, imTo_iff, mpTo_iff, hx]
  constructor
  · intro h a ha
    have e := h (otB n a) (ot a ha).1
    rw [im_possP n _ xs hn hx (ot a ha).1, im_possP n _ ys hn hy (ot a ha).1, (ot a ha).2, Int.sub_mul, Int.sub_mul, Int.mul_comm (sumL ys) (sumL xs)] at e
    omega
  · intro h a ha
    have e := h (otB n a) (ot a ha).1
    rw [im_possP n a xs hn hx ha, im_possP n a ys hn hy ha, Int.sub_mul, Int.sub_mul, Int.mul_comm (sumL ys) (sumL xs)]
    omega

theorem mp_both {s t : Int} {xs ys : List Int} (hx : massB s xs = true) (hy : massB t ys = true) (hl : xs.length = ys.length) (h1 : mpTo xs ys xs.length = true) (h2 : mpTo ys xs ys.length = true) : xs = ys := by
  have hk := massB_ok hx
  have hj := massB_ok hy
  rw [← imTo_mp hk hj hl, imTo_iff] at h1
  rw [← imTo_mp hj hk hl.symm, imTo_iff] at h2
  have e : ∀ a, a < xs.length → nth xs a * sumL ys = nth ys a * sumL xs := by
    refine im_extF fun a ha => ?_
    have a1 := h1 a ha
    have a2 := h2 a (by omega)
    rw [imS_sm, imS_sm] at a1 a2
    have s1 : sm xs.length (fun e => if inSet a e = true then nth xs e * sumL ys else 0) = sumL ys * sm xs.length (fun e => if inSet a e = true then nth xs e else 0) := by
      rw [← sm_mul]; apply sm_congr; intro b _; split
      · exact Int.mul_comm _ _
      · simp
    have s2 : sm xs.length (fun e => if inSet a e = true then nth ys e * sumL xs else 0) = sumL xs * sm ys.length (fun e => if inSet a e = true then nth ys e else 0) := by
      rw [hl, ← sm_mul]; apply sm_congr; intro b _; split
      · exact Int.mul_comm _ _
      · simp
    rw [s1, s2, Int.mul_comm (sumL ys), Int.mul_comm (sumL xs)]
    omega
  refine low_unique hx hy hl (sumL ys) (sumL xs) (by have := hj.sum1; omega) (by have := hk.sum1; omega) fun k hk' => ?_
  rw [Int.mul_comm, e k hk', Int.mul_comm]

theorem poss_le_sum {s : Int} {xs : List Int} (hk : MassOk s xs) (a : Nat) : possS a xs ≤ sumL xs := by
  rw [possS_sm, sumL_sm]
  refine sm_le fun e he => ?_
  have := (allB_nth hk.all e he).1
  split <;> omega
theorem co_sm (a : Nat) (xs : List Int) : coS a xs = sm xs.length (fun e => if subB a e = true then nth xs e else 0) := by rw [coS, sumTo_sm]
theorem co_le_sum {s : Int} {xs : List Int} (hk : MassOk s xs) (a : Nat) : coS a xs ≤ sumL xs := by
  rw [co_sm, sumL_sm]
  refine sm_le fun e he => ?_
  have := (allB_nth hk.all e he).1
  split <;> omega

theorem meet_top : ∀ n : Fin 5, ∀ a : Fin 16, a.val < 2 ^ n.val → (meetB a.val (2 ^ n.val - 1) = decide (a.val ≠ 0)) ∧ subB a.val (2 ^ n.val - 1) = true := by decide +kernel

theorem fu_nth (xs : List Int) (k : Nat) (h : 0 < xs.length) : nth (fuL xs) k = if k = xs.length - 1 then 1 else 0 := by rw [fuL, sureL_nth _ _ _ (by omega)]

theorem none_poss {s : Int} {xs : List Int} (hk : MassOk s xs) (a : Nat) (ha : a < xs.length) : possS a (fuL xs) = if a = 0 then 0 else 1 := by
  obtain ⟨n, hn, hn1, -, hl⟩ := mass_pow hk
  have p16 : 2 ^ n ≤ 16 := Nat.pow_le_pow_right (n := 2) (by omega) hn
  have h0 : 0 < xs.length := by omega
  rw [possS_sm, fuL_len, sm_single (xs.length - 1) (by omega) (fun k hk' hne => by rw [fu_nth xs k h0, if_neg hne]; split <;> rfl), fu_nth xs _ h0, if_pos rfl, hl]
  have := (meet_top ⟨n, by omega⟩ ⟨a, by omega⟩ (by show a < 2 ^ n; omega)).1
  simp only at this
  rw [this]
  by_cases e : a = 0 <;> simp [e]

theorem none_co {s : Int} {xs : List Int} (hk : MassOk s xs) (a : Nat) (ha : a < xs.length) : coS a (fuL xs) = 1 := by
  obtain ⟨n, hn, hn1, -, hl⟩ := mass_pow hk
  have p16 : 2 ^ n ≤ 16 := Nat.pow_le_pow_right (n := 2) (by omega) hn
  have h0 : 0 < xs.length := by omega
  rw [co_sm, fuL_len, sm_single (xs.length - 1) (by omega) (fun k hk' hne => by rw [fu_nth xs k h0, if_neg hne]; split <;> rfl), fu_nth xs _ h0, if_pos rfl, hl]
  have := (meet_top ⟨n, by omega⟩ ⟨a, by omega⟩ (by show a < 2 ^ n; omega)).2
  simp only at this
  rw [if_pos this]

theorem none_mass {s : Int} {xs : List Int} (hk : MassOk s xs) : massB s (fuL xs) = true := by
  rw [fuL]; exact sure_massB hk.s1 hk.s4 hk.len (by have := hk.len; have := pow2_bd s hk.s1 hk.s4; omega)

theorem none_both {s : Int} {xs : List Int} (hx : massB s xs = true) : bothB s xs s (fuL xs) = true := by
  simp only [bothB, hx, none_mass (massB_ok hx), Bool.true_and]; simp

theorem none_mp {s : Int} {xs : List Int} (hx : massB s xs = true) : mpB s xs s (fuL xs) = true := by
  have hk := massB_ok hx
  have h1 : 0 < xs.length := by have := hk.len; have := pow2_bd s hk.s1 hk.s4; omega
  simp only [mpB, none_both hx, Bool.true_and]
  rw [mpTo_iff]
  intro a ha
  rw [none_poss hk a ha, show sumL (fuL xs) = 1 from sure_sum (by omega), Int.mul_one]
  by_cases e : a = 0
  · subst e
    rw [if_pos rfl, Int.zero_mul, possS_sm, sm_congr (g := fun _ => 0) (fun e _ => by simp [meetB]), sm_zero]; exact Int.le_refl _
  · rw [if_neg e, Int.one_mul]; exact poss_le_sum hk a

theorem none_mc {s : Int} {xs : List Int} (hx : massB s xs = true) : mcB s xs s (fuL xs) = true := by
  have hk := massB_ok hx
  have h1 : 0 < xs.length := by have := hk.len; have := pow2_bd s hk.s1 hk.s4; omega
  simp only [mcB, none_both hx, Bool.true_and]
  rw [mcTo_iff]
  intro a ha
  rw [none_co hk a ha, show sumL (fuL xs) = 1 from sure_sum (by omega), Int.mul_one, Int.one_mul]; exact co_le_sum hk a

/-- What is so of two masses of one question. -/
structure MpLaw (s : Int) (xs ys : List Int) : Prop where
  mx : massB s xs = true
  my : massB s ys = true
  len : xs.length = ys.length
  all : imTo xs ys xs.length = mpB s xs s ys
  eq : mpB s xs s ys = true → mpB s ys s xs = true → xs = ys
  mp : mpB s xs s (fuL xs) = true
  mc : mcB s xs s (fuL xs) = true

theorem both_parts {s t : Int} {xs ys : List Int} (h : bothB s xs t ys = true) : massB s xs = true ∧ massB t ys = true ∧ s = t := by
  simp only [bothB, Bool.and_eq_true, decide_eq_true_eq] at h
  exact ⟨h.1, h.2.1, h.2.2⟩

theorem mp_law {s : Int} {xs ys : List Int} (h : bothB s xs s ys = true) : MpLaw s xs ys := by
  obtain ⟨hx, hy, _⟩ := both_parts h
  obtain ⟨hk, hj, _, hl⟩ := bothB_ok h
  refine ⟨hx, hy, by omega, ?_, fun h1 h2 => ?_, none_mp hx, none_mc hx⟩
  · rw [imTo_mp hk hj (by omega), mpB, h, Bool.true_and]
  · simp only [mpB, Bool.and_eq_true] at h1 h2
    exact mp_both hx hy (by omega) h1.2 h2.2

end Go.Proofs.Ytjmfjgoehicgcaa

/- Plain facts: what goes to smaller sets makes a mass tell more; the mean size of sets. -/
set_option linter.unusedVariables false
set_option linter.unusedSimpArgs false
namespace Go.Proofs.Ytjmfjgoehicgcaa
open Go.RowKit

/-- What goes to some sets comes from such as have what they have. -/
theorem Flow.push {N : Nat} {sup dem : Nat → Int} {G : Nat → Nat → Int} (g : Flow N sup dem G) (P : Nat → Bool) (hP : ∀ a b, a < N → b < N → subB a b = true → P a = true → P b = true) : sm N (onl P dem) ≤ sm N (onl P sup) := by
  have e1 : sm N (onl P dem) = sm N (onl P fun a => sm N (fun b => G b a)) := sm_congr fun a ha => by unfold onl; dsimp only; rw [g.col a ha]
  have e2 : sm N (onl P sup) = sm N (onl P fun b => sm N (fun a => G b a)) := sm_congr fun b hb => by unfold onl; dsimp only; rw [g.row b hb]
  have e3 : sm N (onl P fun a => sm N (fun b => G b a)) = sm N (onl P fun a => sm N (onl P fun b => G b a)) := sm_congr fun a ha => by
    unfold onl
    dsimp only
    cases hp : P a
    · simp
    · rw [if_pos rfl, if_pos rfl]
      exact (onl_all (P := P) (f := fun b => G b a) fun b hb hb2 => by
        cases hs : subB a b
        · exact g.sub b a hb ha hs
        · rw [hP a b ha hb hs hp] at hb2; cases hb2).symm
  rw [e1, e2, e3, ← onl_swap]
  refine sm_le fun b hb => ?_
  unfold onl
  dsimp only
  split
  · exact onl_le (P := P) (f := fun a => G b a) fun a ha => g.nn b a hb ha
  · exact Int.le_refl _

theorem sumTo_onl (P : Nat → Bool) (xs : List Int) (c : Int) : sm xs.length (onl P fun a => nth xs a * c) = sumTo P xs xs.length * c := by
  rw [sumTo_sm, Int.mul_comm, ← sm_mul]
  apply sm_congr
  intro a _
  unfold onl
  split
  · exact Int.mul_comm _ _
  · simp

theorem meet_mono {S a b : Nat} (h : subB a b = true) (hm : meetB S a = true) : meetB S b = true := by
  have h1 : a &&& b = a := by simpa [subB] using h
  simp only [meetB, bne_iff_ne, ne_eq] at hm ⊢
  intro h2
  apply hm
  rw [← h1, Nat.and_comm a b, ← Nat.and_assoc, h2, Nat.zero_and]
theorem sub_trans {S a b : Nat} (h : subB a b = true) (hm : subB S a = true) : subB S b = true := by
  have h1 : a &&& b = a := by simpa [subB] using h
  have h2 : S &&& a = S := by simpa [subB] using hm
  have h3 : S &&& b = S := by rw [← h2, Nat.and_assoc, h1]
  simpa [subB] using h3

theorem spec_mp {xs ys : List Int} (hl : ys.length = xs.length) (h : flB xs.length (supS xs ys) (demS xs ys) = true) : mpTo xs ys xs.length = true ∧ mcTo xs ys xs.length = true := by
  obtain ⟨G, g⟩ := flB_iff.1 h
  refine ⟨mpTo_iff.2 fun S _ => ?_, mcTo_iff.2 fun S _ => ?_⟩
  · have := g.push (meetB S) (fun a b _ _ hs hm => meet_mono hs hm)
    have e1 : sm xs.length (onl (meetB S) (demS xs ys)) = possS S xs * sumL ys := sumTo_onl _ _ _
    have e2 : sm xs.length (onl (meetB S) (supS xs ys)) = possS S ys * sumL xs := by rw [← hl]; exact sumTo_onl _ _ _
    rw [e1, e2] at this
    exact this
  · have := g.push (subB S) (fun a b _ _ hs hm => sub_trans hs hm)
    have e1 : sm xs.length (onl (subB S) (demS xs ys)) = coS S xs * sumL ys := sumTo_onl _ _ _
    have e2 : sm xs.length (onl (subB S) (supS xs ys)) = coS S ys * sumL xs := by rw [← hl]; exact sumTo_onl _ _ _
    rw [e1, e2] at this
    exact this

end Go.Proofs.Ytjmfjgoehicgcaa

/- The mean size of sets: the program. -/
set_option linter.unusedVariables false
set_option linter.unusedSimpArgs false
namespace Go.Proofs.Ytjmfjgoehicgcaa
open Go.RowKit

/-- The sizes of sets, each as often as it is believed. -/
def meS (xs : List Int) (k : Nat) : Int := sm k (fun a => nth xs a * (pop a : Int))
theorem meS_succ (xs : List Int) (k : Nat) : meS xs (k + 1) = meS xs k + nth xs k * (pop k : Int) := rfl
theorem popLe4 (a : Nat) (h : a < 16) : pop a ≤ 4 := (count_bits ⟨a, h⟩).2.2.1
theorem meS_bd {xs : List Int} (ha : allB 0 1000000 xs = true) : ∀ k, k ≤ xs.length → k ≤ 16 → 0 ≤ meS xs k ∧ meS xs k ≤ 4000000 * k := by
  intro k
  induction k with
  | zero => intro _ _; exact ⟨Int.le_refl _, by simp [meS, sm]⟩
  | succ k ih =>
    intro h1 h2
    obtain ⟨i1, i2⟩ := ih (by omega) (by omega)
    have hv := allB_nth ha k (by omega)
    have hp := popLe4 k (by omega)
    have h3 : 0 ≤ nth xs k * (pop k : Int) := Int.mul_nonneg hv.1 (by omega)
    have h4 : nth xs k * (pop k : Int) ≤ 1000000 * 4 := Int.mul_le_mul hv.2 (by omega) (by omega) (by omega)
    rw [meS_succ]
    omega

/-- A set's size is how many single answers it meets. -/
theorem pop_meet : ∀ n : Fin 5, ∀ a : Fin 16, a.val < 2 ^ n.val → (pop a.val : Int) = sm n.val (fun i => if meetB (2 ^ i) a.val = true then 1 else 0) := by decide +kernel

theorem meS_poss {xs : List Int} {n : Nat} (hn : n ≤ 4) (hl : xs.length = 2 ^ n) : meS xs xs.length = sm n (fun i => possS (2 ^ i) xs) := by
  have h16 : (2 : Nat) ^ n ≤ 16 := by have := Nat.pow_le_pow_right (n := 2) (by omega) hn; omega
  have e1 : meS xs xs.length = sm xs.length (fun a => sm n (fun i => if meetB (2 ^ i) a = true then nth xs a else 0)) := by
    unfold meS
    apply sm_congr
    intro a ha
    rw [pop_meet ⟨n, by omega⟩ ⟨a, by omega⟩ (by show a < 2 ^ n; omega), ← sm_mul]
    apply sm_congr
    intro i _
    dsimp only
    split <;> simp
  rw [e1, sm_swap]
  apply sm_congr
  intro i _
  unfold possS
  rw [sumTo_sm]

/-- Where each set is at least as possible, sets are at least as great on the average. -/
theorem mp_mean {s : Int} {xs ys : List Int} (hx : MassOk s xs) (hl : ys.length = xs.length) (h : mpTo xs ys xs.length = true) : meS xs xs.length * sumL ys ≤ meS ys ys.length * sumL xs := by
  obtain ⟨n, n4, n1, hs, hxl⟩ := mass_pow hx
  rw [meS_poss n4 hxl, meS_poss n4 (hl.trans hxl), Int.mul_comm, Int.mul_comm (sm n _), ← sm_mul, ← sm_mul]
  refine sm_le fun i hi => ?_
  have := mpTo_iff.1 h (2 ^ i) (by rw [hxl]; exact Nat.pow_lt_pow_right (by omega) hi)
  rw [Int.mul_comm, Int.mul_comm (sumL xs)]
  exact this

def msG (s : Int) (xs : List Int) : Bool := massB s xs

set_option maxHeartbeats 2000000 in
theorem iMeanSize_any (s : Int) (p : Option Addr) (c : Nat) (xs : List Int) (w : World) (hx : Reads w p xs) (hxm : xs.length ≤ 1048576) :
    Calls Try.prog 43 #[.agg #[.int .i64 s, .slice p xs.length c]] w fun e w' => e = .returned (.tuple #[.agg #[.int .i64 (fN (massB s xs) (meS xs xs.length) (sumL xs)), .int .i64 (fD (massB s xs) (meS xs xs.length) (sumL xs))], .bool (fOk (massB s xs) (meS xs xs.length) (sumL xs))]) ∧ Below w.heap.size w w' := by
  obtain ⟨W, hW⟩ : ∃ W : World, W = (w.alloc (.cells #[.int .i64 s, .slice p xs.length c] 27)).alloc (.cells #[.int .i64 0, .int .i64 0] 32) := ⟨_, rfl⟩
  have bW : Below w.heap.size w W := by subst hW; exact (belowAlloc _ _).thenB (belowAlloc _ _)
  have hsz : W.heap.size = w.heap.size + 2 := by subst hW; simp
  have b0 : VarInv W w.heap.size s (.slice p xs.length c) := by subst hW; exact (VarInv.made _ _ _ _).later (belowAlloc _ _)
  have bR : VarInv W (w.heap.size + 1) 0 (.int .i64 0) := by
    subst hW
    have h := VarInv.made (w.alloc (.cells #[.int .i64 s, .slice p xs.length c] 27)) 0 (.int .i64 0) 32
    rw [allocSz] at h
    exact h
  have HWW := Lib.hid hW
  clear hW
  cases hm : massB s xs
  · obtain ⟨eN, eD, eO⟩ := fNo (num := meS xs xs.length) (den := sumL xs) (g := false) rfl
    have HE := Lib.hid (And.intro eN (And.intro eD eO))
    clear eN eD eO
    go_enter Try.func43, Try.ntmps43
    go_wp2_with fail
    rw [← HWW.out]
    refine (isMass_any _ _ _ _ _ (hx.below bW) hxm).mono ?_
    rintro e w1 ⟨rfl, hb⟩
    rw [hm]
    replace bR := bR.later hb
    have s0 := bR.c0
    have s1 := bR.c1
    have s2 := bR.f0
    have s3 := bR.f1
    replace bW := bW.thenB hb
    clear hb
    go_wp2
    refine bodyPost_ret (v := .tuple #[.agg #[.int .i64 0, .int .i64 0], .bool false]) (by simp [results, Try.results43, go_sem, s0, s1, s2, s3]) rfl ⟨by rw [HE.out.1, HE.out.2.1, HE.out.2.2], ?_⟩
    exact (bW.setCell (by show _ ≤ w.heap.size + 1; omega) _).setCell (by show _ ≤ w.heap.size + 1; omega) _
  · have hk := massB_ok hm
    obtain ⟨eN, eD, eO⟩ := fYes (num := meS xs xs.length) (den := sumL xs) (g := true) rfl
    have HE := Lib.hid (And.intro eN (And.intro eD eO))
    have HK := Lib.hid hk
    have h16 := hk.l16
    clear eN eD eO hk
    have HMM := Lib.hid hm
    clear hm
    go_enter Try.func43, Try.ntmps43
    go_wp2_with fail
    rw [← HWW.out]
    refine (isMass_any _ _ _ _ _ (hx.below bW) hxm).mono ?_
    rintro e w1 ⟨rfl, hb⟩
    rw [HMM.out]
    replace b0 := b0.later hb
    replace bR := bR.later hb
    replace bW := bW.thenB hb
    have hx1 := hx.below bW
    have b0_0 := b0.c0
    have b0_1 := b0.c1
    clear hb hx
    go_wp2_with fail
    clear b0_0 b0_1
    go_loop [4, 14] (fun v i => ∃ k : Nat, k ≤ xs.length ∧ i = .int .i64 k ∧ v = .int .i64 (meS xs k)) (fun _ i => xs.length - (intOf i).toNat)
    case atStart => exact ⟨0, Nat.zero_le _, rfl, rfl⟩
    case round =>
      obtain ⟨k, hk, rfl, rfl⟩ := hrel
      by_cases hlt : k < xs.length
      · obtain ⟨bb, oo, rfl, hbl, hc⟩ := hx1 k hlt
        have hs := Lib.hid (meS_succ xs k)
        have hv := allB_nth HK.out.all k hlt
        have hp := popLe4 k (by omega)
        obtain ⟨i1, i2⟩ := meS_bd HK.out.all k (by omega) (by omega)
        have hkz : (k : Int) < (xs.length : Int) := by omega
        have hk16 : k < 16 := by omega
        have h3 : 0 ≤ nth xs k * (pop k : Int) := Int.mul_nonneg hv.1 (by omega)
        have h4 : nth xs k * (pop k : Int) ≤ 1000000 * 4 := Int.mul_le_mul hv.2 (by omega) (by omega) (by omega)
        have hw1 : wrap64 (nth xs k * ((pop k : Nat) : Int)) = nth xs k * ((pop k : Nat) : Int) := IntWalk.wrap64_in _ ⟨by omega, by omega⟩
        go_wp2_with fail
        refine (OnesCount_any k _ hk16).mono ?_
        rintro e w' ⟨rfl, rfl⟩
        go_wp2
        exact ⟨⟨k + 1, by omega, by go_num, by rw [hs.out]⟩, by simp [intOf]; omega⟩
      · have h1 : k = xs.length := by omega
        subst h1
        have b0_0 := b0.c0
        have b0_1 := b0.c1
        have hms := meS_bd HK.out.all xs.length (Nat.le_refl _) h16
        have hs1 := HK.out.sum1
        have hs2 := HK.out.sum2
        go_wp2_with fail
        refine (wholeOf_any _ _ _ _ _ hx1 hxm HK.out.all).mono ?_
        rintro e w2 ⟨rfl, hb⟩
        replace bR := bR.later hb
        replace bW := bW.thenB hb
        clear hb b0_0 b0_1
        go_wp2_with fail
        refine (lowest_any _ _ _ (by omega) (by omega) (by omega) (by omega) (by omega)).mono ?_
        rintro e w3 ⟨rfl, hb⟩
        replace bR := bR.later hb
        replace bW := bW.thenB hb
        have s0 := bR.c0
        have s1 := bR.c1
        have s2 := bR.f0
        have s3 := bR.f1
        clear hb
        go_wp2
        refine bodyPost_ret (v := .tuple #[.agg #[.int .i64 (lowN (meS xs xs.length) (sumL xs)), .int .i64 (lowD (meS xs xs.length) (sumL xs))], .bool (lowOk (meS xs xs.length) (sumL xs))]) (by simp [results, Try.results43, go_sem, s0, s1, s2, s3]) rfl ⟨by rw [HE.out.1, HE.out.2.1, HE.out.2.2], ?_⟩
        exact (bW.setCell (by show _ ≤ w.heap.size + 1; omega) _).setCell (by show _ ≤ w.heap.size + 1; omega) _

end Go.Proofs.Ytjmfjgoehicgcaa
