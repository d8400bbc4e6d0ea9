/- Plain laws on masses of sources that are right or wrong in part. -/
import Derived.Test.YtjmfjgoehicgcaaNB
import Derived.Test.YtjmfjgoehicgcaaZT
set_option linter.unusedVariables false
set_option linter.unusedSimpArgs false
namespace Go.Proofs.Ytjmfjgoehicgcaa
open Go.RowKit

/-- The parts of a source that is sure of all answers n times in d, and of none otherwise. -/
def srcL (m : Nat) (n d : Int) : List Int := ((zeros m).set (m - 1) (d - n)).set 0 n
theorem srcL_len (m : Nat) (n d : Int) : (srcL m n d).length = m := by rw [srcL, List.length_set, List.length_set, zeros_len]
theorem srcL_nth (m : Nat) (n d : Int) (k : Nat) (h2 : 2 ≤ m) (hk : k < m) : nth (srcL m n d) k = if k = 0 then n else if k = m - 1 then d - n else 0 := by
  rw [nth_eq _ _ (by rw [srcL_len]; exact hk)]
  simp only [srcL, List.getElem_set]
  by_cases h0 : k = 0
  · subst h0; simp
  · rw [if_neg (fun e => h0 e.symm), if_neg h0]
    by_cases h1 : k = m - 1
    · rw [if_pos h1.symm, if_pos h1]
    · rw [if_neg (fun e => h1 e.symm), if_neg h1]; simp [zeros]

theorem sm_two {m : Nat} (f : Nat → Int) (h2 : 2 ≤ m) (hf : ∀ k, k < m → k ≠ 0 → k ≠ m - 1 → f k = 0) : sm m f = f 0 + f (m - 1) := by
  rw [sm_congr (g := fun k => (if k = 0 then f 0 else 0) + (if k = m - 1 then f (m - 1) else 0)) (fun k hk => by
    by_cases h0 : k = 0
    · subst h0; rw [if_pos rfl, if_neg (by omega)]; omega
    · by_cases h1 : k = m - 1
      · subst h1; rw [if_neg h0, if_pos rfl]; omega
      · rw [if_neg h0, if_neg h1, hf k hk h0 h1]; rfl), sm_add, sm_one, sm_one, if_pos (by omega), if_pos (by omega)]

theorem xor_top16 : ∀ k : Fin 5, ∀ a c : Fin 16, a.val < 2 ^ k.val → c.val < 2 ^ k.val → (a.val ^^^ (2 ^ k.val - 1) = c.val ↔ a.val = 2 ^ k.val - 1 - c.val) := by decide +kernel
theorem len_pow {s : Int} {n : Nat} (h1 : 1 ≤ s) (h4 : s ≤ 4) (hn : (n : Int) = pow2 s) : n = 2 ^ s.toNat := by
  have hk : (n : Int) = 2 ^ s.toNat := by rw [hn]; rcases (show s = 1 ∨ s = 2 ∨ s = 3 ∨ s = 4 by omega) with rfl | rfl | rfl | rfl <;> rfl
  exact_mod_cast hk
theorem xor_top {s : Int} {n : Nat} (h1 : 1 ≤ s) (h4 : s ≤ 4) (hn : (n : Int) = pow2 s) (a c : Nat) (ha : a < n) (hc : c < n) : a ^^^ (n - 1) = c ↔ a = n - 1 - c := by
  have hp := pow2_bd s h1 h4
  have hk2 := len_pow h1 h4 hn
  have := xor_top16 ⟨s.toNat, by omega⟩ ⟨a, by omega⟩ ⟨c, by omega⟩ (by show a < 2 ^ s.toNat; omega) (by show c < 2 ^ s.toNat; omega)
  rw [hk2]; exact this

theorem df_src {s : Int} {xs : List Int} {n d : Int} (hk : MassOk s xs) (c : Nat) (hc : c < xs.length) : nth (dfP xs (srcL xs.length n d)) c = n * nth xs c + (d - n) * nth xs (xs.length - 1 - c) := by
  have h2 : 2 ≤ xs.length := by have := hk.len; have := pow2_bd s hk.s1 hk.s4; omega
  rw [dfP, togTo_nth _ _ _ _ _ (by rw [zeros_len]; exact hc), zeros_nth, srcL_len]
  have h : ∀ a, a < xs.length → sm xs.length (fun b => if a ^^^ b = c then nth xs a * nth (srcL xs.length n d) b else 0) = (if a = c then n * nth xs c else 0) + (if a = xs.length - 1 - c then (d - n) * nth xs (xs.length - 1 - c) else 0) := by
    intro a ha
    rw [sm_two _ h2 (fun b hb h0 h1 => by rw [srcL_nth _ _ _ _ h2 hb, if_neg h0, if_neg h1, Int.mul_zero]; split <;> rfl), Nat.xor_zero, srcL_nth _ _ _ _ h2 (show 0 < xs.length by omega), if_pos rfl, srcL_nth _ _ _ _ h2 (show xs.length - 1 < xs.length by omega), if_neg (show ¬ xs.length - 1 = 0 by omega), if_pos rfl]
    have e := xor_top hk.s1 hk.s4 hk.len a c ha hc
    by_cases e1 : a = c
    · subst e1
      rw [if_pos rfl, if_pos rfl, Int.mul_comm (nth xs a) n]
      by_cases e2 : a = xs.length - 1 - a
      · rw [if_pos (e.2 e2), if_pos e2, ← e2, Int.mul_comm (nth xs a) (d - n)]
      · rw [if_neg (fun x => e2 (e.1 x)), if_neg e2]
    · rw [if_neg e1, if_neg e1]
      by_cases e2 : a = xs.length - 1 - c
      · rw [if_pos (e.2 e2), if_pos e2, ← e2, Int.mul_comm (nth xs a) (d - n)]
      · rw [if_neg (fun x => e2 (e.1 x)), if_neg e2]
  rw [sm_congr h, sm_add, sm_one, sm_one, if_pos hc, if_pos (by omega)]
  omega

theorem rev_sum {s : Int} {xs : List Int} (hk : MassOk s xs) : sumL (rvL xs) = sumL xs := by
  have h : ∀ (l : List Int) (a b : Int), l.foldl (· + ·) (a + b) = a + l.foldl (· + ·) b := by
    intro l
    induction l with
    | nil => intro a b; rfl
    | cons y l ih => intro a b; simp only [List.foldl_cons]; rw [Int.add_assoc, ih]
  have : ∀ l : List Int, sumL l.reverse = sumL l := by
    intro l
    induction l with
    | nil => rfl
    | cons y l ih => rw [List.reverse_cons, sumL_snoc, ih]; simp only [sumL, List.foldl_cons]; rw [show (0 : Int) + y = y + 0 by omega, h]; omega
  exact this xs

theorem gcd_rest (n d : Int) (h0 : 0 ≤ n) (h : n ≤ d) (hg : Nat.gcd n.natAbs d.natAbs = 1) : Nat.gcd (d - n).natAbs d.natAbs = 1 ∧ Nat.gcd n.natAbs (d - n).natAbs = 1 := by
  obtain ⟨a, rfl⟩ := Int.eq_ofNat_of_zero_le h0
  obtain ⟨b, rfl⟩ : ∃ b : Nat, d = (a : Int) + b := ⟨(d - a).toNat, by omega⟩
  have e1 : ((a : Int) + b - a).natAbs = b := by omega
  have e2 : ((a : Int) + b).natAbs = a + b := by omega
  rw [e1, e2]
  rw [e2, Int.natAbs_natCast] at hg
  rw [Int.natAbs_natCast]
  have h1 : Nat.gcd a b = 1 := by simpa using hg
  exact ⟨by rw [Nat.gcd_comm]; simpa using h1, h1⟩

theorem frac_low {n d : Int} (h : fracB n d = true) : lowOk n d = true ∧ lowN n d = n ∧ lowD n d = d := by
  have hb := frac_bd h
  have ok : lowOk n d = true := by
    obtain ⟨a, e, g, hg, hn, hd, he, hc, hok, _⟩ := low_red n d (by omega)
    have hf := h
    simp only [fracB, Bool.and_eq_true, decide_eq_true_eq] at hf
    have g1 : g.natAbs ∣ 1 := by rw [← hf.2.2]; exact Nat.dvd_gcd (by rw [hn, Int.natAbs_mul]; exact Nat.dvd_mul_right _ _) (by rw [hd, Int.natAbs_mul]; exact Nat.dvd_mul_right _ _)
    have g2 : g = 1 := by have := Nat.dvd_one.1 g1; omega
    subst g2
    rw [Int.one_mul] at hn hd
    subst hn hd
    rw [hok]; exact h
  have f := fr_low (by omega) ok
  have := frac_unique f.frac h f.cross
  exact ⟨ok, this.1, this.2⟩

/-- What the mass of a source is that is right or wrong in part. -/
structure RelLaw (s : Int) (xs : List Int) (n d : Int) (K : List Int) : Prop where
  mass : massB s xs = true
  massK : massB s K = true
  len : K.length = xs.length
  l16 : xs.length ≤ 16
  share : shB n d = true
  d1000 : d ≤ 1000
  mn : mnN n d = -n
  md : mnD n d = d
  an : adN 1 1 (-n) d = d - n
  ad : adD 1 1 (-n) d = d
  other : gS (mixG s xs s (rvL xs) (d - n) d) s (mixP xs (rvL xs) (d - n) d) = s ∧ gOk (mixG s xs s (rvL xs) (d - n) d) s (mixP xs (rvL xs) (d - n) d) = true ∧ gL (mixG s xs s (rvL xs) (d - n) d) s (mixP xs (rvL xs) (d - n) d) = rvL K
  src : gS (mmG s (srcL xs.length n d)) s (srcL xs.length n d) = s ∧ gOk (mmG s (srcL xs.length n d)) s (srcL xs.length n d) = true ∧ gL (mmG s (srcL xs.length n d)) s (srcL xs.length n d) = srcL xs.length n d
  both : bothB s xs s (srcL xs.length n d) = true
  differ : mkS s (dfP xs (srcL xs.length n d)) = s ∧ mkOk s (dfP xs (srcL xs.length n d)) = true ∧ mkL s (dfP xs (srcL xs.length n d)) = K

theorem rel_law {s : Int} {xs : List Int} {n d : Int} (h : gOk (mixG s xs s (rvL xs) n d) s (mixP xs (rvL xs) n d) = true) :
    gS (mixG s xs s (rvL xs) n d) s (mixP xs (rvL xs) n d) = s ∧ RelLaw s xs n d (gL (mixG s xs s (rvL xs) n d) s (mixP xs (rvL xs) n d)) := by
  obtain ⟨hm, hok, e1, e2⟩ := gOk_parts h
  obtain ⟨hb, hsh, h1000⟩ := mix_parts hm
  obtain ⟨hk, hj, _, hlen⟩ := bothB_ok hb
  have hx : massB s xs = true := by simp only [bothB, Bool.and_eq_true] at hb; exact hb.1
  have hf : massB s (rvL xs) = true := by simp only [bothB, Bool.and_eq_true] at hb; exact hb.2.1
  obtain ⟨n0, nd, d1⟩ := shB_ok hsh
  have hfr : fracB n d = true := by simp only [shB, Bool.and_eq_true] at hsh; exact hsh.1
  have hg : Nat.gcd n.natAbs d.natAbs = 1 := by simp only [fracB, Bool.and_eq_true, decide_eq_true_eq] at hfr; exact hfr.2.2
  obtain ⟨gr1, gr2⟩ := gcd_rest n d n0 nd hg
  have hbd := frac_bd hfr
  have hfr2 : fracB (d - n) d = true := fracB_of (by omega) (by omega) (by omega) (by omega) gr1
  have hsh2 : shB (d - n) d = true := by simp only [shB, hfr2, Bool.true_and, Bool.and_eq_true, decide_eq_true_eq]; omega
  have hx2 : 2 ≤ xs.length := by have := hk.len; have := pow2_bd s hk.s1 hk.s4; omega
  have X1 := hk.sum1
  have X2 := hk.sum2
  refine ⟨e1, ?_⟩
  rw [e2]
  have hl := mk_low hok
  obtain ⟨g1, hg1, hmul⟩ := hl.mul
  have hlK : (mkL s (mixP xs (rvL xs) n d)).length = xs.length := by rw [← hl.len, mixP_len]
  obtain ⟨K, hKe⟩ : ∃ K, K = mkL s (mixP xs (rvL xs) n d) := ⟨_, rfl⟩
  rw [← hKe] at hmul hlK hl ⊢
  have kK := massB_ok hl.mass
  have rs := rev_sum hk
  have hmix : ∀ b, b < xs.length → g1 * nth K b = (n * nth xs b + (d - n) * nth xs (xs.length - 1 - b)) * sumL xs := by
    intro b hb
    rw [← hmul b (by rw [hlK]; exact hb), mixP_nth _ _ _ _ _ hb, mixN, rs, rvL_nth _ _ hb]
    grind
  have hrvK : massB s (rvL K) = true := by
    have hmB := hl.mass
    simp only [massB, Bool.and_eq_true] at hmB ⊢
    obtain ⟨m1, m2, m3, m4, m5⟩ := hmB
    refine ⟨m1, by rw [rvL_len]; exact m2, ?_, by rw [rev_sum kK]; exact m4, ?_⟩
    · simp only [allB, rvL, List.all_reverse]; exact m3
    · have hgK := kK.gcd
      have : gcdL (rvL K) ∣ gcdL K := dvd_gcdL K _ fun j hj => by
        have := gcdL_dvd (rvL K) (K.length - 1 - j) (by rw [rvL_len]; omega)
        rw [rvL_nth _ _ (by omega), show K.length - 1 - (K.length - 1 - j) = j by omega] at this
        exact this
      rw [hgK] at this
      simpa using this
  have hsrc : sumL (srcL xs.length n d) = d := by
    rw [sumL_sm, srcL_len, sm_two _ hx2 (fun k hk h0 h1 => by rw [srcL_nth _ _ _ _ hx2 hk, if_neg h0, if_neg h1]), srcL_nth _ _ _ _ hx2 (by omega), if_pos rfl, srcL_nth _ _ _ _ hx2 (by omega), if_neg (by omega), if_pos rfl]
    omega
  have hsall : ∀ M, 1000 ≤ M → allB 0 M (srcL xs.length n d) = true := fun M hM => by
    rw [allB_iff]
    intro k hk
    rw [srcL_len] at hk
    rw [srcL_nth _ _ _ _ hx2 hk]
    split
    · omega
    · split <;> omega
  have hsm : massB s (srcL xs.length n d) = true := by
    simp only [massB, Bool.and_eq_true, decide_eq_true_eq]
    refine ⟨hk.sz, by rw [srcL_len]; exact hk.len, hsall _ (by omega), by rw [hsrc]; simp [inB]; omega, ?_⟩
    have i0 := gcdL_dvd (srcL xs.length n d) 0 (by rw [srcL_len]; omega)
    have i1 := gcdL_dvd (srcL xs.length n d) (xs.length - 1) (by rw [srcL_len]; omega)
    rw [srcL_nth _ _ _ _ hx2 (by omega), if_pos rfl] at i0
    rw [srcL_nth _ _ _ _ hx2 (by omega), if_neg (by omega), if_pos rfl] at i1
    have := Nat.dvd_gcd (Int.ofNat_dvd_left.1 i0) (Int.ofNat_dvd_left.1 i1)
    rw [gr2] at this
    simpa using this
  have hslow : Low s (srcL xs.length n d) (srcL xs.length n d) := ⟨hsm, rfl, 1, by omega, fun k _ => (Int.one_mul _).symm⟩
  obtain ⟨sok, sL⟩ := low_mk hslow
  have hmm : mmG s (srcL xs.length n d) = true := by simp only [mmG, hk.sz, Bool.true_and, Bool.and_eq_true, decide_eq_true_eq]; exact ⟨by rw [srcL_len]; exact hk.len, hsall _ (by omega)⟩
  refine ⟨hx, hl.mass, hlK, hk.l16, hsh, h1000, by simp [mnN, hfr], by simp [mnD, hfr], ?_, ?_, ?_, ?_, ?_, ?_⟩
  · have tf : twoF 1 1 (-n) d = true := by simp only [twoF, fracB, Int.natAbs_neg, hg]; simp [inB]; omega
    simp only [adN, fN, if_pos tf]
    rw [show (1 : Int) * d + -n * 1 = d - n by omega, Int.one_mul]
    exact (frac_low hfr2).2.1
  · have tf : twoF 1 1 (-n) d = true := by simp only [twoF, fracB, Int.natAbs_neg, hg]; simp [inB]; omega
    simp only [adD, fD, if_pos tf]
    rw [show (1 : Int) * d + -n * 1 = d - n by omega, Int.one_mul]
    exact (frac_low hfr2).2.2
  · have hmg : mixG s xs s (rvL xs) (d - n) d = true := by simp [mixG, hb, hsh2]; exact h1000
    have hlow : Low s (mixP xs (rvL xs) (d - n) d) (rvL K) := ⟨hrvK, by rw [mixP_len, rvL_len, hlK], g1, hg1, fun k hk' => by
      rw [rvL_len, hlK] at hk'
      rw [mixP_nth _ _ _ _ _ hk', mixN, rs, rvL_nth _ _ hk', rvL_nth _ _ (by omega), hlK, hmix _ (by omega), show xs.length - 1 - (xs.length - 1 - k) = k by omega]
      grind⟩
    obtain ⟨o1, o2⟩ := low_mk hlow
    simp only [gS, gOk, gL, hmg, if_true, Bool.true_and]
    exact ⟨by simp [mkS, o1], o1, o2⟩
  · simp only [gS, gOk, gL, hmm, if_true, Bool.true_and]
    exact ⟨by simp [mkS, sok], sok, sL⟩
  · simp only [bothB, hx, hsm, Bool.true_and]; simp
  · have hsc := mk_scale (s := s) (P := mixP xs (rvL xs) n d) (Q := dfP xs (srcL xs.length n d)) (d := sumL xs) (by omega) (by rw [mixP_len, dfP_len]) (fun k hk' => by
      rw [dfP_len] at hk'
      rw [mixP_nth _ _ _ _ _ hk', mixN, rs, rvL_nth _ _ hk', df_src hk k hk']
      grind)
    rw [← hsc.1, ← hsc.2.1, ← hsc.2.2]
    exact ⟨by simp [mkS, hok], hok, hKe.symm⟩

end Go.Proofs.Ytjmfjgoehicgcaa
