/- Plain laws on learning: joining a sure source, cutting made normal. -/
import Derived.Test.YtjmfjgoehicgcaaZG
import Derived.Test.YtjmfjgoehicgcaaN2
import Derived.Test.YtjmfjgoehicgcaaD3
set_option linter.unusedVariables false
set_option linter.unusedSimpArgs false
namespace Go.Proofs.Ytjmfjgoehicgcaa
open Go.RowKit

theorem gcd_scale {P Q : List Int} {d : Int} (hl : P.length = Q.length) (h : ∀ k, k < Q.length → nth P k = d * nth Q k) : gcdL P = d.natAbs * gcdL Q := by
  have key : ∀ k, k ≤ Q.length → gcdL (P.take k) = d.natAbs * gcdL (Q.take k) := by
    intro k
    induction k with
    | zero => intro _; simp [gcdL]
    | succ k ih =>
      intro hk
      rw [take_succ_getD P k (by omega), take_succ_getD Q k (by omega), gcdL_snoc, gcdL_snoc, ih (by omega), h k (by omega), Int.natAbs_mul, Nat.gcd_mul_left]
  have := key Q.length (Nat.le_refl _)
  rwa [← hl, List.take_length, hl, List.take_length] at this

/-- Parts in proportion make the same mass. -/
theorem mk_scale {s : Int} {P Q : List Int} {d : Int} (hd : 0 < d) (hl : P.length = Q.length) (h : ∀ k, k < Q.length → nth P k = d * nth Q k) : mkOk s P = mkOk s Q ∧ mkS s P = mkS s Q ∧ mkL s P = mkL s Q := by
  have hg := gcd_scale hl h
  have hq : quoTo P P.length = quoTo Q Q.length := by
    refine nth_ext2 _ _ (by rw [quoTo_len, quoTo_len, hl]) fun k hk => ?_
    rw [quoTo_len] at hk
    rw [quo_nth P k hk, quo_nth Q k (by omega), hg, h k (by omega)]
    rw [Int.natCast_mul, Int.natAbs_of_nonneg (by omega)]
    exact Int.mul_ediv_mul_of_pos _ _ hd
  have hz : (gcdL P = 0) ↔ (gcdL Q = 0) := by
    rw [hg, Nat.mul_eq_zero]
    constructor
    · rintro (e | e)
      · omega
      · exact e
    · exact .inr
  have ho : mkOk s P = mkOk s Q := by
    unfold mkOk
    rw [hq]
    by_cases c : gcdL Q = 0
    · simp [c, hz.2 c]
    · have : ¬ gcdL P = 0 := fun e => c (hz.1 e)
      simp [c, this]
  exact ⟨ho, by unfold mkS; rw [ho], by unfold mkL; rw [ho, hq]⟩

theorem nonP_scale {P Q : List Int} {d : Int} (hl : P.length = Q.length) (h : ∀ k, k < Q.length → nth P k = d * nth Q k) : (nonP P).length = (nonP Q).length ∧ ∀ k, k < (nonP Q).length → nth (nonP P) k = d * nth (nonP Q) k := by
  refine ⟨by rw [nonP_len, nonP_len, hl], fun k hk => ?_⟩
  rw [nonP_len] at hk
  rw [nonP_nth P k (by omega), nonP_nth Q k hk]
  by_cases c : k = 0
  · rw [if_pos c, if_pos c]; omega
  · rw [if_neg c, if_neg c, h k hk]

theorem cut_total (a : Nat) (xs : List Int) : sumL (cutP a xs) = sumL xs := by
  rw [sumL_sm, cutP_len]
  have h := cut_sum (fun _ => true) a xs
  simp only [if_true] at h
  rw [h, sumL_sm]

theorem cut_fine (s : Int) (xs : List Int) (a : Int) : gOk (msB s xs a) s (cutP a.toNat xs) = msB s xs a := by
  cases h : msB s xs a
  · rfl
  · obtain ⟨h1, h2⟩ := msB_parts h
    have hk := massB_ok h1
    have := hk.sum1
    have := hk.sum2
    have hok : mkOk s (cutP a.toNat xs) = true := mk_ok hk.sz (by rw [cutP_len]; exact hk.len) (cutP_wide a.toNat xs hk.l16 hk.all) (by rw [cut_total]; omega) (by rw [cut_total]; omega)
    simp [gOk, hok]

/-- All that the law on learning says. -/
structure LearnLaw (s : Int) (xs C K : List Int) (n : Nat) (OK : Bool) (SK : Int) : Prop where
  cutS : gS (msB s xs (n : Int)) s (cutP (n : Int).toNat xs) = s
  cutL : gL (msB s xs (n : Int)) s (cutP (n : Int).toNat xs) = C
  mass : massB s C = true
  len : C.length = xs.length
  lenx : xs.length ≤ 16
  one : 1 ≤ xs.length
  sure : suG s (n : Int) = true ∧ suS s (n : Int) = s ∧ suL s (n : Int) = sureL xs.length n
  conj : gOk (bothB s xs s (sureL xs.length n)) s (cjP xs (sureL xs.length n)) = true ∧ gS (bothB s xs s (sureL xs.length n)) s (cjP xs (sureL xs.length n)) = s ∧ gL (bothB s xs s (sureL xs.length n)) s (cjP xs (sureL xs.length n)) = C
  join : gOk (bothB s xs s (sureL xs.length n)) s (nonP (cjP xs (sureL xs.length n))) = OK ∧ gS (bothB s xs s (sureL xs.length n)) s (nonP (cjP xs (sureL xs.length n))) = SK ∧ gL (bothB s xs s (sureL xs.length n)) s (nonP (cjP xs (sureL xs.length n))) = K
  norm : gOk (massB s C) s (nonP C) = OK ∧ gS (massB s C) s (nonP C) = SK ∧ gL (massB s C) s (nonP C) = K
  poss : OK = decide (0 < psR s xs (n : Int))

theorem learn_law {s : Int} {xs : List Int} {a : Int} (h : msB s xs a = true) : ∃ n : Nat, ∃ C, a = (n : Int) ∧
    LearnLaw s xs C (gL (msB s xs a) s (lnP a.toNat xs)) n (gOk (msB s xs a) s (lnP a.toNat xs)) (gS (msB s xs a) s (lnP a.toNat xs)) := by
  obtain ⟨h1, h2⟩ := msB_parts h
  have hk := massB_ok h1
  obtain ⟨n, rfl, n16, np⟩ := setB_nat hk.s1 hk.s4 h2
  have hnl : n < xs.length := by have := hk.len; omega
  have hp2 := pow2_bd s hk.s1 hk.s4
  have hfin := cut_fine s xs (n : Int)
  rw [h, Int.toNat_natCast] at hfin
  have hcok : mkOk s (cutP n xs) = true := by simpa [gOk] using hfin
  have hcl := mk_low hcok
  have hsm : massB s (sureL xs.length n) = true := sure_massB hk.s1 hk.s4 hk.len hnl
  have hb : bothB s xs s (sureL xs.length n) = true := by simp [bothB, h1, hsm]
  have hcj : cjP xs (sureL xs.length n) = cutP n xs := together_cut xs n hnl
  have hsu : suG s (n : Int) = true := by simp only [suG, h2, Bool.and_true]; exact hk.sz
  have hpn : (pow2 s).toNat = xs.length := by have := hk.len; omega
  obtain ⟨d, hd, hmul⟩ := hcl.mul
  have hsc := nonP_scale hcl.len hmul
  have hms := mk_scale (s := s) hd hsc.1 hsc.2
  refine ⟨n, mkL s (cutP n xs), rfl, ?_, ?_, hcl.mass, by rw [← hcl.len, cutP_len], hk.l16, by omega, ⟨hsu, (su_yes hsu).1, by rw [(su_yes hsu).2, hpn, Int.toNat_natCast]⟩, ?_, ?_, ?_, ?_⟩
  · simp [gS, h, mkS, hcok]
  · simp [gL, h]
  · rw [hb, hcj]; simp [gOk, gS, gL, mkS, hcok]
  · rw [hb, hcj, h, Int.toNat_natCast]; exact ⟨rfl, rfl, rfl⟩
  · rw [hcl.mass, h, Int.toNat_natCast]
    simp only [gOk, gS, gL, Bool.true_and, if_true, lnP]
    exact ⟨hms.1.symm, hms.2.1.symm, hms.2.2.symm⟩
  · rw [h, Int.toNat_natCast]
    simp only [gOk, Bool.true_and, psR, h, if_true, Int.toNat_natCast]
    have hp0 := poss_nonneg n xs hk.all
    cases hok : mkOk s (lnP n xs)
    · have := mk_no hk.sz (by rw [lnP_len]; exact hk.len) (ln_wide n xs hk.l16 hk.all) (by rw [ln_total]; exact poss_total n hk) hok
      rw [ln_total] at this
      simp [this]
    · have hl := mk_low hok
      obtain ⟨e, he, hm⟩ := hl.mul
      have kK := massB_ok hl.mass
      have s1 := kK.sum1
      have e2 : possS n xs = e * sumL (mkL s (lnP n xs)) := by rw [← ln_total]; exact sumL_mul e _ _ hl.len hm
      have : 0 < e * sumL (mkL s (lnP n xs)) := Int.mul_pos he (by omega)
      simp; omega

end Go.Proofs.Ytjmfjgoehicgcaa
