/- The plain law on the least chance among cases. -/
import Derived.Test.YtkpnenbkfphldaaZG
import Derived.Test.YtkpnenbkfphldaaV9
set_option linter.unusedVariables false
set_option linter.unusedSimpArgs false
namespace Go.Proofs.Ytkpnenbkfphldaa
open Go.RowKit

theorem lg_bits1 : ∀ a b e : Fin 16, e.val ≠ 0 → inSet (a.val &&& b.val) e.val = true → (meetB a.val e.val && (!meetB (dif a.val b.val) e.val && meetB (a.val &&& b.val) e.val)) = true := by decide +kernel
theorem lg_bits2 : ∀ a b e : Fin 16, e.val ≠ 0 → inSet (dif a.val b.val) e.val = true → (meetB a.val e.val && (!meetB (a.val &&& b.val) e.val && meetB (dif a.val b.val) e.val)) = true := by decide +kernel
theorem and_othL : ∀ a b : Fin 16, ∀ k : Fin 5, a.val < 2 ^ k.val → b.val < 2 ^ k.val → a.val &&& (2 ^ k.val - 1 - b.val) = dif a.val b.val ∧ dif a.val (2 ^ k.val - 1 - b.val) = a.val &&& b.val := by decide +kernel

structure LgBd (xs : List Int) (n m : Nat) : Prop where
  i0 : 0 ≤ imS (n &&& m) xs
  j0 : 0 ≤ imS (dif n m) xs
  r0 : 0 ≤ possS (n &&& m) xs
  q0 : 0 ≤ possS (dif n m) xs
  ir : imS (n &&& m) xs ≤ possS (n &&& m) xs
  jq : imS (dif n m) xs ≤ possS (dif n m) xs
  iq : imS (n &&& m) xs + possS (dif n m) xs ≤ possS n xs
  jr : imS (dif n m) xs + possS (n &&& m) xs ≤ possS n xs
  top : possS n xs ≤ 1000000

theorem lg_bd {s : Int} {xs : List Int} (hk : MassOk s xs) (h0 : nth xs 0 = 0) (n m : Nat) (hn : n < 16) (hm : m < 16) : LgBd xs n m := by
  have l16 := hk.l16
  have step : ∀ (f g : Nat → Int), (∀ e, e < xs.length → e ≠ 0 → f e ≤ g e) → f 0 = 0 → 0 ≤ g 0 → sm xs.length f ≤ sm xs.length g := fun f g h1 h2 h3 => sm_le fun e he => by
    by_cases c : e = 0
    · subst c; omega
    · exact h1 e he c
  refine ⟨im_nonneg _ _ hk.all, im_nonneg _ _ hk.all, poss_nonneg _ _ hk.all, poss_nonneg _ _ hk.all, ?_, ?_, ?_, ?_, poss_total n hk⟩
  · rw [imS_sm, possS_sm]
    refine step _ _ (fun e he c => ?_) (by simp [h0]) (by simp [h0])
    have p0 := (allB_nth hk.all e he).1
    have := lg_bits1 ⟨n, hn⟩ ⟨m, hm⟩ ⟨e, by omega⟩ c
    simp only [Bool.and_eq_true] at this
    by_cases d : inSet (n &&& m) e = true
    · rw [if_pos d, if_pos (this d).2.2]; omega
    · rw [if_neg d]; split <;> omega
  · rw [imS_sm, possS_sm]
    refine step _ _ (fun e he c => ?_) (by simp [h0]) (by simp [h0])
    have p0 := (allB_nth hk.all e he).1
    have := lg_bits2 ⟨n, hn⟩ ⟨m, hm⟩ ⟨e, by omega⟩ c
    simp only [Bool.and_eq_true] at this
    by_cases d : inSet (dif n m) e = true
    · rw [if_pos d, if_pos (this d).2.2]; omega
    · rw [if_neg d]; split <;> omega
  · rw [imS_sm, possS_sm, possS_sm, ← sm_add]
    refine step _ _ (fun e he c => ?_) (by simp [h0]) (by simp [h0])
    have p0 := (allB_nth hk.all e he).1
    have := lg_bits1 ⟨n, hn⟩ ⟨m, hm⟩ ⟨e, by omega⟩ c
    have ds := dif_sub ⟨n, hn⟩ ⟨m, hm⟩ ⟨e, by omega⟩
    simp only [Bool.and_eq_true, Bool.not_eq_true'] at this ds
    by_cases d : inSet (n &&& m) e = true
    · rw [if_pos d, if_pos (this d).1, if_neg (by rw [(this d).2.1]; simp)]; omega
    · rw [if_neg d]
      by_cases d2 : meetB (dif n m) e = true
      · rw [if_pos d2, if_pos (ds d2)]; omega
      · rw [if_neg d2]; split <;> omega
  · rw [imS_sm, possS_sm, possS_sm, ← sm_add]
    refine step _ _ (fun e he c => ?_) (by simp [h0]) (by simp [h0])
    have p0 := (allB_nth hk.all e he).1
    have := lg_bits2 ⟨n, hn⟩ ⟨m, hm⟩ ⟨e, by omega⟩ c
    have ds := poss_and ⟨n, hn⟩ ⟨m, hm⟩ ⟨e, by omega⟩
    simp only [Bool.and_eq_true, Bool.not_eq_true'] at this ds
    by_cases d : inSet (dif n m) e = true
    · rw [if_pos d, if_pos (this d).1, if_neg (by rw [(this d).2.1]; simp)]; omega
    · rw [if_neg d]
      by_cases d2 : meetB (n &&& m) e = true
      · rw [if_pos d2, if_pos (ds d2)]; omega
      · rw [if_neg d2]; split <;> omega

/-- All that the law on the least chance says. -/
structure LgLaw (s : Int) (xs : List Int) (b a N1 D1 N2 D2 N3 D3 M3 E3 N4 D4 N5 D5 : Int) : Prop where
  g : (fN (pgG s xs b a) (possS a.toNat xs - possS (dif a.toNat b.toNat) xs) (possS a.toNat xs) = N2 ∧ fD (pgG s xs b a) (possS a.toNat xs - possS (dif a.toNat b.toNat) xs) (possS a.toNat xs) = D2) ∧ fOk (pgG s xs b a) (possS a.toNat xs - possS (dif a.toNat b.toNat) xs) (possS a.toNat xs) = true
  o : (fN (lgG s xs (otR s b) a) (imS (a.toNat &&& (otR s b).toNat) xs) (imS (a.toNat &&& (otR s b).toNat) xs + possS (dif a.toNat (otR s b).toNat) xs) = N3 ∧ fD (lgG s xs (otR s b) a) (imS (a.toNat &&& (otR s b).toNat) xs) (imS (a.toNat &&& (otR s b).toNat) xs + possS (dif a.toNat (otR s b).toNat) xs) = D3) ∧ fOk (lgG s xs (otR s b) a) (imS (a.toNat &&& (otR s b).toNat) xs) (imS (a.toNat &&& (otR s b).toNat) xs + possS (dif a.toNat (otR s b).toNat) xs) = true
  m : mnN N3 D3 = M3 ∧ mnD N3 D3 = E3
  h : fN (twoF 1 1 M3 E3) (1 * E3 + M3 * 1) (1 * E3) = N4 ∧ fD (twoF 1 1 M3 E3) (1 * E3 + M3 * 1) (1 * E3) = D4
  p : fN (pgG s xs b a) (possS (a.toNat &&& b.toNat) xs) (possS a.toNat xs) = N5 ∧ fD (pgG s xs b a) (possS (a.toNat &&& b.toNat) xs) (possS a.toNat xs) = D5
  l1 : lessB N2 D2 N1 D1 = false
  l2 : lessB N4 D4 N5 D5 = false
  l3 : lessB N4 D4 N1 D1 = false
  n0 : 0 ≤ N1
  n1 : N1 ≤ D1

theorem lg_parts {s : Int} {xs : List Int} {b a : Int} (h : lgG s xs b a = true) : massB s xs = true ∧ nth xs 0 = 0 ∧ ∃ n m : Nat, a = (n : Int) ∧ b = (m : Int) ∧ n < 16 ∧ m < 16 ∧ (n : Int) < pow2 s ∧ (m : Int) < pow2 s ∧ 0 < imS n xs := by
  simp only [lgG, normB, Bool.and_eq_true, Bool.not_eq_true', beq_eq_false_iff_ne, beq_iff_eq] at h
  obtain ⟨⟨h1, h2⟩, h3, h4, h5⟩ := h
  have hk := massB_ok h1
  obtain ⟨n, rfl, n16, np⟩ := setB_nat hk.s1 hk.s4 h3
  obtain ⟨m, rfl, m16, mp⟩ := setB_nat hk.s1 hk.s4 h4
  have := im_nonneg n xs hk.all
  simp only [Int.toNat_natCast] at h5
  exact ⟨h1, h2, n, m, rfl, rfl, n16, m16, np, mp, by omega⟩

theorem lg_ok (s : Int) (xs : List Int) (b a : Int) : fOk (lgG s xs b a) (imS (a.toNat &&& b.toNat) xs) (imS (a.toNat &&& b.toNat) xs + possS (dif a.toNat b.toNat) xs) = lgG s xs b a := by
  apply fOk_eq
  intro h
  obtain ⟨hm, hz, n, m, rfl, rfl, n16, m16, np, mp, hi⟩ := lg_parts h
  have hk := massB_ok hm
  have bd := lg_bd hk hz n m n16 m16
  have lp := low_pos n m n16 m16 xs hk.all hk.l16 xs.length (Nat.le_refl _)
  obtain ⟨g1, g2, g3, g4, g5, g6, g7, g8, g9⟩ := bd
  have lp2 : imS n xs ≤ imS (n &&& m) xs + possS (dif n m) xs := lp
  simp only [Int.toNat_natCast]
  exact (part01 _ _ (by omega) (by omega) (by omega) (by omega)).ok

theorem lg_law {s : Int} {xs : List Int} {b a : Int} (h : lgG s xs b a = true) : ∃ N2 D2 N3 D3 M3 E3 N4 D4 N5 D5 : Int,
    LgLaw s xs b a (fN (lgG s xs b a) (imS (a.toNat &&& b.toNat) xs) (imS (a.toNat &&& b.toNat) xs + possS (dif a.toNat b.toNat) xs)) (fD (lgG s xs b a) (imS (a.toNat &&& b.toNat) xs) (imS (a.toNat &&& b.toNat) xs + possS (dif a.toNat b.toNat) xs)) N2 D2 N3 D3 M3 E3 N4 D4 N5 D5 := by
  have h' := h
  obtain ⟨hm, hz, n, m, rfl, rfl, n16, m16, np, mp, hi⟩ := lg_parts h
  have hk := massB_ok hm
  obtain ⟨g1, g2, g3, g4, g5, g6, g7, g8, g9⟩ := lg_bd hk hz n m n16 m16
  have lp : imS n xs ≤ imS (n &&& m) xs + possS (dif n m) xs := low_pos n m n16 m16 xs hk.all hk.l16 xs.length (Nat.le_refl _)
  -- the other set
  have hsz : szB s = true := hk.sz
  have hs4 := hk.s4
  have hs1 := hk.s1
  have hpw : pow2 s = ((2 ^ s.toNat : Nat) : Int) := by simp [pow2]
  have hot : otR s (m : Int) = ((2 ^ s.toNat - 1 - m : Nat) : Int) := by
    have hsb : setB s (m : Int) = true := by simp only [setB, decide_eq_true_eq]; omega
    rw [otR, hsz, hsb]
    simp only [Bool.and_self, if_true]
    omega
  obtain ⟨m', hm'⟩ : ∃ m', m' = 2 ^ s.toNat - 1 - m := ⟨_, rfl⟩
  rw [← hm'] at hot
  have hp16 : 2 ^ s.toNat ≤ 16 := Nat.pow_le_pow_right (n := 2) (by omega) (show s.toNat ≤ 4 by omega)
  have hnP : n < 2 ^ s.toNat := by have := np; rw [hpw] at this; exact Int.ofNat_lt.1 this
  have hmP : m < 2 ^ s.toNat := by have := mp; rw [hpw] at this; exact Int.ofNat_lt.1 this
  have hm'P : m' < 2 ^ s.toNat := by rw [hm']; omega
  have hm'p : (m' : Int) < pow2 s := by rw [hpw]; exact Int.ofNat_lt.2 hm'P
  have hm'16 : m' < 16 := by omega
  obtain ⟨e1, e2⟩ := and_othL ⟨n, n16⟩ ⟨m, m16⟩ ⟨s.toNat, by omega⟩ hnP hmP
  simp only at e1 e2
  rw [← hm'] at e1 e2
  have lp2 : imS n xs ≤ imS (n &&& m') xs + possS (dif n m') xs := low_pos n m' n16 hm'16 xs hk.all hk.l16 xs.length (Nat.le_refl _)
  rw [e1, e2] at lp2
  have hlg2 : lgG s xs (m' : Int) (n : Int) = true := by
    simp only [lgG, Bool.and_eq_true] at h' ⊢
    refine ⟨h'.1, h'.2.1, ?_, h'.2.2.2⟩
    simp only [setB, decide_eq_true_eq]; omega
  have hpg : pgG s xs (m : Int) (n : Int) = true := by
    simp only [lgG, Bool.and_eq_true] at h'
    simp only [pgG, msB, hm, Bool.true_and, Bool.and_eq_true, Bool.not_eq_true', beq_eq_false_iff_ne]
    refine ⟨h'.2.1, h'.2.2.1, ?_⟩
    rw [Int.toNat_natCast]; omega
  -- the five fractions
  have F := part01 (imS (n &&& m) xs) (imS (n &&& m) xs + possS (dif n m) xs) (by omega) (by omega) (by omega) (by omega)
  have G := part01 (possS n xs - possS (dif n m) xs) (possS n xs) (by omega) (by omega) (by omega) (by omega)
  have Ot := part01 (imS (dif n m) xs) (imS (dif n m) xs + possS (n &&& m) xs) (by omega) (by omega) (by omega) (by omega)
  have Hi := part01 (possS (n &&& m) xs) (imS (dif n m) xs + possS (n &&& m) xs) (by omega) (by omega) (by omega) (by omega)
  have Pp := part01 (possS (n &&& m) xs) (possS n xs) (by omega) (by omega) (by omega) (by omega)
  have hminus : fracB (-(lowN (imS (dif n m) xs) (imS (dif n m) xs + possS (n &&& m) xs))) (lowD (imS (dif n m) xs) (imS (dif n m) xs + possS (n &&& m) xs)) = true := by
    have := Ot.frac
    have bd := frac_bd this
    simp only [fracB, Bool.and_eq_true, decide_eq_true_eq, Int.natAbs_neg] at this ⊢
    exact ⟨by simp [inB]; omega, this.2⟩
  have hhigh := low_same (1 * lowD (imS (dif n m) xs) (imS (dif n m) xs + possS (n &&& m) xs) + -(lowN (imS (dif n m) xs) (imS (dif n m) xs + possS (n &&& m) xs)) * 1) (1 * lowD (imS (dif n m) xs) (imS (dif n m) xs + possS (n &&& m) xs)) (possS (n &&& m) xs) (imS (dif n m) xs + possS (n &&& m) xs) (by have := Ot.pos; omega) (by omega) (by
    have := Ot.cross
    simp only [Int.one_mul, Int.mul_one]
    rw [Int.add_mul, Int.neg_mul, this, ← Int.sub_eq_add_neg, Int.mul_add, Int.mul_comm (imS (dif n m) xs), Int.mul_comm (possS (n &&& m) xs)]
    omega)
  obtain ⟨t, ht⟩ : ∃ t, possS n xs = imS (n &&& m) xs + possS (dif n m) xs + t := ⟨possS n xs - imS (n &&& m) xs - possS (dif n m) xs, by omega⟩
  refine ⟨_, _, _, _, _, _, _, _, _, _, ⟨⟨rfl, rfl⟩, ?_⟩, ⟨⟨rfl, rfl⟩, ?_⟩, ⟨rfl, rfl⟩, ⟨rfl, rfl⟩, ⟨rfl, rfl⟩, ?_, ?_, ?_, ?_, ?_⟩
  all_goals simp only [hot, Int.toNat_natCast, e1, e2, fN, fD, fOk, h', hlg2, hpg, if_true, Bool.true_and]
  · exact G.ok
  · exact Ot.ok
  · refine less_no G F (by omega) (by omega) ?_
    have hq : possS n xs - possS (dif n m) xs = imS (n &&& m) xs + t := by omega
    rw [hq, ht]
    have tq : 0 ≤ t * possS (dif n m) xs := Int.mul_nonneg (by omega) (by omega)
    simp only [Int.add_mul, Int.mul_add]
    rw [Int.mul_comm t (imS (n &&& m) xs)]
    omega
  · have tw : twoF 1 1 (mnN (lowN (imS (dif n m) xs) (imS (dif n m) xs + possS (n &&& m) xs)) (lowD (imS (dif n m) xs) (imS (dif n m) xs + possS (n &&& m) xs))) (mnD (lowN (imS (dif n m) xs) (imS (dif n m) xs + possS (n &&& m) xs)) (lowD (imS (dif n m) xs) (imS (dif n m) xs + possS (n &&& m) xs))) = true := by
      rw [mnN, mnD, if_pos Ot.frac, if_pos Ot.frac, twoF, hminus]; decide
    rw [tw, mnN, mnD, if_pos Ot.frac, if_pos Ot.frac]
    simp only [if_true]
    rw [hhigh.2.1, hhigh.2.2]
    exact less_no Hi Pp (by omega) (by omega) (Int.mul_le_mul_of_nonneg_left (by omega) (by omega))
  · have tw : twoF 1 1 (mnN (lowN (imS (dif n m) xs) (imS (dif n m) xs + possS (n &&& m) xs)) (lowD (imS (dif n m) xs) (imS (dif n m) xs + possS (n &&& m) xs))) (mnD (lowN (imS (dif n m) xs) (imS (dif n m) xs + possS (n &&& m) xs)) (lowD (imS (dif n m) xs) (imS (dif n m) xs + possS (n &&& m) xs))) = true := by
      rw [mnN, mnD, if_pos Ot.frac, if_pos Ot.frac, twoF, hminus]; decide
    rw [tw, mnN, mnD, if_pos Ot.frac, if_pos Ot.frac]
    simp only [if_true]
    rw [hhigh.2.1, hhigh.2.2]
    refine less_no Hi F (by omega) (by omega) ?_
    have pr : imS (n &&& m) xs * imS (dif n m) xs ≤ possS (n &&& m) xs * possS (dif n m) xs := Int.mul_le_mul g5 g6 g2 g3
    simp only [Int.mul_add]
    rw [Int.mul_comm (imS (n &&& m) xs) (possS (n &&& m) xs)]
    omega
  · exact F.low
  · exact F.high

end Go.Proofs.Ytkpnenbkfphldaa
