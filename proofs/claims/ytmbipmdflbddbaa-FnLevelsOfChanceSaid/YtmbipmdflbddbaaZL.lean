/- Plain laws on the mass of levels: its possibilities are the levels, in proportion. -/
import Derived.Test.YtmbipmdflbddbaaZM
import Derived.Test.YtmbipmdflbddbaaP1m
import Derived.Test.YtmbipmdflbddbaaZG
import Derived.Test.YtmbipmdflbddbaaN9
import Derived.Test.YtmbipmdflbddbaaO8
set_option linter.unusedVariables false
set_option linter.unusedSimpArgs false
namespace Go.Proofs.Ytmbipmdflbddbaa
open Go.RowKit

theorem meetB_iff (a b : Nat) : meetB a b = true ↔ ∃ i, a.testBit i = true ∧ b.testBit i = true := by
  unfold meetB
  rw [bne_iff_ne]
  constructor
  · intro h
    by_cases e : ∃ i, a.testBit i = true ∧ b.testBit i = true
    · exact e
    · refine absurd (Nat.eq_of_testBit_eq fun i => ?_) h
      rw [Nat.testBit_and, Nat.zero_testBit]
      cases ha : a.testBit i
      · rfl
      · cases hb : b.testBit i
        · rfl
        · exact absurd ⟨i, ha, hb⟩ e
  · rintro ⟨i, ha, hb⟩ h
    have := congrArg (fun n : Nat => n.testBit i) h
    simp [Nat.testBit_and, ha, hb] at this

theorem posTo_parts (xs : List Int) (a : Nat) : ∀ k, 0 ≤ posTo xs a k ∧ (∀ i, i < k → a.testBit i = true → nth xs i ≤ posTo xs a k) ∧ (posTo xs a k = 0 ∨ ∃ i, i < k ∧ a.testBit i = true ∧ nth xs i = posTo xs a k)
  | 0 => ⟨by simp [posTo], fun i hi => by omega, .inl (by simp [posTo])⟩
  | k + 1 => by
    obtain ⟨h0, h1, h2⟩ := posTo_parts xs a k
    rw [posTo_succ]
    by_cases e : a.testBit k = true
    · rw [if_pos e]
      refine ⟨by omega, ?_, ?_⟩
      · intro i hi hv
        by_cases c : i = k
        · subst c; omega
        · have := h1 i (by omega) hv; omega
      · by_cases c : posTo xs a k ≤ nth xs k
        · exact .inr ⟨k, by omega, e, by omega⟩
        · rcases h2 with h2 | ⟨y, hy, hv, h2⟩
          · left; omega
          · right; exact ⟨y, by omega, hv, by omega⟩
    · rw [if_neg e]
      refine ⟨h0, ?_, ?_⟩
      · intro i hi hv
        by_cases c : i = k
        · subst c; exact absurd hv e
        · exact h1 i (by omega) hv
      · rcases h2 with h2 | ⟨y, hy, hv, h2⟩
        · exact .inl h2
        · exact .inr ⟨y, by omega, hv, h2⟩

theorem lt_posTo {xs : List Int} {a k : Nat} {t : Int} (h0 : 0 ≤ t) : t < posTo xs a k ↔ ∃ i, i < k ∧ a.testBit i = true ∧ t < nth xs i := by
  obtain ⟨p0, p1, p2⟩ := posTo_parts xs a k
  constructor
  · intro h
    rcases p2 with e | ⟨i, hi, hv, e⟩
    · omega
    · exact ⟨i, hi, hv, by omega⟩
  · rintro ⟨i, hi, hv, h⟩
    have := p1 i hi hv; omega

theorem posTo_top (xs : List Int) (a k : Nat) (hk : k ≤ xs.length) : posTo xs a k ≤ topL xs := by
  obtain ⟨p0, p1, p2⟩ := posTo_parts xs a k
  obtain ⟨t0, t1, t2⟩ := topL_parts xs
  rcases p2 with e | ⟨i, hi, hv, e⟩
  · omega
  · rw [← e]; exact t1 i (by omega)

/-- A cut meets a set exactly if an answer of the set has the level. -/
theorem meet_cutTo (xs : List Int) (a : Nat) (t : Nat) (k : Nat) : meetB a (cutTo xs ((t : Int) + 1) k) = true ↔ (t : Int) < posTo xs a k := by
  rw [meetB_iff, lt_posTo (by omega)]
  constructor
  · rintro ⟨i, ha, hb⟩
    rw [cutTo_bit, Bool.and_eq_true, decide_eq_true_eq, decide_eq_true_eq] at hb
    exact ⟨i, hb.1, ha, by omega⟩
  · rintro ⟨i, hi, ha, hv⟩
    refine ⟨i, ha, ?_⟩
    rw [cutTo_bit, Bool.and_eq_true, decide_eq_true_eq, decide_eq_true_eq]
    exact ⟨hi, by omega⟩

theorem lv_sum (p : Nat → Bool) (xs : List Int) : sm (2 ^ xs.length) (fun a => if p a = true then nth (lvP xs) a else 0) = sm (topL xs).toNat (fun t => if p (cutTo xs ((t : Int) + 1) xs.length) = true then 1 else 0) := by
  rw [sm_congr (g := fun a => sm (topL xs).toNat (fun t => if cutTo xs ((t : Int) + 1) xs.length = a then (if p a = true then 1 else 0) else 0)) (fun a ha => by
    rw [lvP_nth xs a ha]
    unfold lvF
    by_cases e : p a = true
    · simp only [e, if_true]
    · replace e : p a = false := by simpa using e
      simp only [e, Bool.false_eq_true, if_false, ite_self, sm_zero])]
  rw [sm_swap]
  apply sm_congr
  intro t ht
  rw [sm_single (cutTo xs ((t : Int) + 1) xs.length) (cutTo_lt _ _ _) (fun k hk hne => if_neg (Ne.symm hne)), if_pos rfl]

theorem lv_poss (xs : List Int) (a : Nat) : possS a (lvP xs) = posTo xs a xs.length := by
  obtain ⟨p0, _, _⟩ := posTo_parts xs a xs.length
  have pt := posTo_top xs a xs.length (Nat.le_refl _)
  rw [possS_sm, lvP_len, lv_sum]
  rw [sm_congr (g := fun t : Nat => if 0 ≤ (t : Int) ∧ (t : Int) < posTo xs a xs.length then 1 else 0) (fun t ht => by
    by_cases e : (t : Int) < posTo xs a xs.length
    · rw [if_pos ((meet_cutTo xs a t _).2 e), if_pos ⟨by omega, e⟩]
    · rw [if_neg (fun h => e ((meet_cutTo xs a t _).1 h)), if_neg (fun h => e h.2)])]
  rw [sm_interval _ _ _ (Int.le_refl _) p0 (by omega)]
  omega

theorem lv_sumL (xs : List Int) (h : 0 ≤ topL xs) : sumL (lvP xs) = topL xs := by
  rw [sumL_sm, lvP_len]
  have e := lv_sum (fun _ => true) xs
  simp only [if_true] at e
  rw [e, sm_const]
  omega

theorem cut_some (xs : List Int) (t : Nat) (h : (t : Int) < topL xs) : cutTo xs ((t : Int) + 1) xs.length ≠ 0 := by
  obtain ⟨t0, t1, t2⟩ := topL_parts xs
  rcases t2 with e | ⟨i, hi, e⟩
  · omega
  · intro h0
    have hb := cutTo_bit xs ((t : Int) + 1) xs.length i
    rw [h0, Nat.zero_testBit] at hb
    have : (decide (i < xs.length) && decide ((t : Int) + 1 ≤ nth xs i)) = true := by simp; omega
    rw [this] at hb; cases hb

theorem focT_oth : ∀ k : Fin 5, ∀ a c : Fin 16, a.val < 2 ^ k.val → c.val < 2 ^ k.val → c.val ≠ 0 → focT a.val c.val = !meetB (othB k.val a.val) c.val := by decide +kernel

theorem lv_bel (xs : List Int) (hl : xs.length ≤ 4) (a : Nat) (ha : a < 2 ^ xs.length) : bS a (lvP xs) = topL xs - posTo xs (othB xs.length a) xs.length := by
  obtain ⟨p0, _, _⟩ := posTo_parts xs (othB xs.length a) xs.length
  have pt := posTo_top xs (othB xs.length a) xs.length (Nat.le_refl _)
  have p16 : 2 ^ xs.length ≤ 16 := Nat.pow_le_pow_right (n := 2) (by omega) hl
  rw [bS, lvP_len, lv_sum]
  rw [sm_congr (g := fun t : Nat => if posTo xs (othB xs.length a) xs.length ≤ (t : Int) ∧ (t : Int) < topL xs then 1 else 0) (fun t ht => by
    have hc := cut_some xs t (by omega)
    have hlt := cutTo_lt xs ((t : Int) + 1) xs.length
    have hf := focT_oth ⟨xs.length, by omega⟩ ⟨a, by omega⟩ ⟨_, Nat.lt_of_lt_of_le hlt p16⟩ ha hlt hc
    simp only at hf
    rw [hf]
    by_cases e : (t : Int) < posTo xs (othB xs.length a) xs.length
    · rw [(meet_cutTo xs _ t _).2 e, if_neg (by simp), if_neg (fun h => by omega)]
    · have : meetB (othB xs.length a) (cutTo xs ((t : Int) + 1) xs.length) = false := by
        cases hm : meetB (othB xs.length a) (cutTo xs ((t : Int) + 1) xs.length)
        · rfl
        · exact absurd ((meet_cutTo xs _ t _).1 hm) e
      rw [this, if_pos (by rfl), if_pos ⟨by omega, by omega⟩])]
  rw [sm_interval _ _ _ p0 pt (by omega)]

theorem lv_zero (xs : List Int) : nth (lvP xs) 0 = 0 := by
  rw [lvP_nth xs 0 (Nat.two_pow_pos _)]
  unfold lvF
  rw [sm_congr (g := fun _ => 0) (fun t ht => if_neg (cut_some xs t (by omega))), sm_zero]

/-- A set with a part is the cut at some answer's level. -/
theorem lv_focal (xs : List Int) (a : Nat) (ha : a < 2 ^ xs.length) (h : nth (lvP xs) a ≠ 0) : ∃ i, i < xs.length ∧ cutTo xs (nth xs i) xs.length = a := by
  rw [lvP_nth xs a ha] at h
  have hex : ∃ t, t < (topL xs).toNat ∧ cutTo xs ((t : Int) + 1) xs.length = a := by
    by_cases e : ∃ t, t < (topL xs).toNat ∧ cutTo xs ((t : Int) + 1) xs.length = a
    · exact e
    · refine absurd ?_ h
      unfold lvF
      rw [sm_congr (g := fun _ => 0) (fun t ht => if_neg (fun h => e ⟨t, ht, h⟩)), sm_zero]
  obtain ⟨t, ht, hc⟩ := hex
  obtain ⟨t0, t1, t2⟩ := topL_parts xs
  have hx : ∃ i, i < xs.length ∧ (t : Int) < nth xs i := by
    rcases t2 with e | ⟨i, hi, e⟩
    · omega
    · exact ⟨i, hi, by omega⟩
  obtain ⟨i, hi, v1, v2, _⟩ := least_value xs t xs.length hx
  refine ⟨i, hi, ?_⟩
  rw [← hc]
  exact cutTo_congr xs _ _ _ fun j hj => ⟨fun hv => by omega, fun hv => v2 j hj (by omega)⟩

theorem subB_iff (a b : Nat) : subB a b = true ↔ ∀ i, a.testBit i = true → b.testBit i = true := by
  unfold subB
  rw [beq_iff_eq]
  constructor
  · intro h i ha
    have := congrArg (fun n : Nat => n.testBit i) h
    simp only [Nat.testBit_and, ha, Bool.true_and] at this
    exact this
  · intro h
    refine Nat.eq_of_testBit_eq fun i => ?_
    rw [Nat.testBit_and]
    cases ha : a.testBit i
    · rfl
    · rw [h i ha]; rfl

/-- Cuts have one another. -/
theorem cut_nested (xs : List Int) (l m : Int) (k : Nat) : cmpN (cutTo xs l k) (cutTo xs m k) = true := by
  unfold cmpN
  rw [Bool.or_eq_true, subB_iff, subB_iff]
  by_cases e : l ≤ m
  · right
    intro i h
    rw [cutTo_bit, Bool.and_eq_true, decide_eq_true_eq, decide_eq_true_eq] at h ⊢
    exact ⟨h.1, by omega⟩
  · left
    intro i h
    rw [cutTo_bit, Bool.and_eq_true, decide_eq_true_eq, decide_eq_true_eq] at h ⊢
    exact ⟨h.1, by omega⟩

/-- The mass of valid levels. -/
structure LvMass (xs K : List Int) : Prop where
  ok : mkOk (xs.length : Int) (lvP xs) = true
  low : Low (xs.length : Int) (lvP xs) K
  val : mkL (xs.length : Int) (lvP xs) = K
  gok : gOk (lvB xs) (xs.length : Int) (lvP xs) = true
  gval : gL (lvB xs) (xs.length : Int) (lvP xs) = K
  gsize : gS (lvB xs) (xs.length : Int) (lvP xs) = xs.length
  mass : massB (xs.length : Int) K = true
  len : K.length = 2 ^ xs.length
  zero : nth K 0 = 0
  norm : normB (xs.length : Int) K = true
  nest : neG (xs.length : Int) K = true
  focal : ∀ a, a < 2 ^ xs.length → nth K a ≠ 0 → ∃ i, i < xs.length ∧ cutTo xs (nth xs i) xs.length = a
  prop : ∃ d : Int, 0 < d ∧ topL xs = d * sumL K ∧ (∀ a, posTo xs a xs.length = d * possS a K) ∧ ∀ a, a < 2 ^ xs.length → topL xs - posTo xs (othB xs.length a) xs.length = d * bS a K

theorem lvB_parts {xs : List Int} (h : lvB xs = true) : 1 ≤ xs.length ∧ xs.length ≤ 4 ∧ allB 0 1000000 xs = true ∧ 0 < topL xs ∧ topL xs ≤ 1000000 := by
  have hk := lvB_ok h
  exact ⟨hk.l1, hk.l4, hk.all, hk.top, (topL_bd hk.all).2⟩

theorem lv_mass {xs : List Int} (h : lvB xs = true) : ∃ K, LvMass xs K := by
  obtain ⟨l1, l4, hall, ht, ht2⟩ := lvB_parts h
  have hl : ((lvP xs).length : Int) = pow2 (xs.length : Int) := by rw [lvP_len, pow2_nat]
  have hs := lv_sumL xs (by omega)
  have hok : mkOk (xs.length : Int) (lvP xs) = true := mk_ok (lvB_sz h) hl (lvP_all hall) (by omega) (by omega)
  have low := mk_low hok
  have hlen : (mkL (xs.length : Int) (lvP xs)).length = 2 ^ xs.length := by rw [← low.len, lvP_len]
  obtain ⟨d, hd, hmul⟩ := low.mul
  have hz : nth (mkL (xs.length : Int) (lvP xs)) 0 = 0 := by
    have := hmul 0 (by rw [hlen]; exact Nat.two_pow_pos _)
    rw [lv_zero] at this
    rcases Int.mul_eq_zero.1 this.symm with e | e
    · omega
    · exact e
  have hfoc : ∀ a, a < 2 ^ xs.length → nth (mkL (xs.length : Int) (lvP xs)) a ≠ 0 → ∃ i, i < xs.length ∧ cutTo xs (nth xs i) xs.length = a := by
    intro a ha hne
    refine lv_focal xs a ha ?_
    rw [hmul a (by rw [hlen]; exact ha)]
    intro e
    rcases Int.mul_eq_zero.1 e with e | e
    · omega
    · exact hne e
  refine ⟨mkL (xs.length : Int) (lvP xs), hok, low, rfl, by simp [gOk, h, hok], by simp [gL, h], by simp [gS, h, mkS, hok], low.mass, hlen, hz, by simp [normB, low.mass, hz], ?_, hfoc, d, hd, ?_, ?_, ?_⟩
  · have : nsB (focL (mkL (xs.length : Int) (lvP xs)) (mkL (xs.length : Int) (lvP xs)).length) = true := by
      refine nsB_yes fun i hi k hk => ?_
      obtain ⟨a, ea, ha, na⟩ := focL_at _ _ i hi
      obtain ⟨b, eb, hb, nb⟩ := focL_at _ _ k hk
      rw [ea, eb, Int.toNat_natCast, Int.toNat_natCast]
      rw [hlen] at ha hb
      obtain ⟨i, _, ei⟩ := hfoc a ha na
      obtain ⟨j, _, ej⟩ := hfoc b hb nb
      rw [← ei, ← ej]
      exact cut_nested xs _ _ _
    simp [neG, low.mass, this]
  · rw [← hs]; exact sumL_mul d _ _ low.len hmul
  · intro a; rw [← lv_poss]; exact possS_mul a d _ _ low.len hmul
  · intro a ha; rw [← lv_bel xs l4 a ha]; exact bS_mul (n := 0) a d _ _ low.len hmul

theorem lv_no {xs : List Int} (h : lvB xs = false) : gOk (lvB xs) (xs.length : Int) (lvP xs) = false ∧ gS (lvB xs) (xs.length : Int) (lvP xs) = 0 ∧ gL (lvB xs) (xs.length : Int) (lvP xs) = [] := by
  rw [h]; exact ⟨rfl, rfl, rfl⟩
theorem lv_gok (xs : List Int) : gOk (lvB xs) (xs.length : Int) (lvP xs) = lvB xs := by
  cases h : lvB xs
  · rfl
  · obtain ⟨K, hK⟩ := lv_mass h
    rw [← h]; rw [hK.gok, h]

theorem full_bits (n i : Nat) : (2 ^ n - 1).testBit i = decide (i < n) := Nat.testBit_two_pow_sub_one n i

theorem posTo_full (xs : List Int) (h : allB 0 1000000 xs = true) : posTo xs (2 ^ xs.length - 1) xs.length = topL xs := by
  obtain ⟨p0, p1, p2⟩ := posTo_parts xs (2 ^ xs.length - 1) xs.length
  obtain ⟨t0, t1, t2⟩ := topL_parts xs
  have := posTo_top xs (2 ^ xs.length - 1) xs.length (Nat.le_refl _)
  rcases t2 with e | ⟨i, hi, e⟩
  · omega
  · have := p1 i hi (by rw [full_bits]; simpa using hi)
    omega

theorem posTo_bit (xs : List Int) (h : allB 0 1000000 xs = true) (x : Nat) (hx : x < xs.length) : posTo xs (bit x) xs.length = nth xs x := by
  obtain ⟨p0, p1, p2⟩ := posTo_parts xs (bit x) xs.length
  have h1 := p1 x hx (by rw [bit, Nat.testBit_two_pow]; simp)
  have h0 := (allB_nth h x hx).1
  rcases p2 with e | ⟨i, hi, hb, e⟩
  · omega
  · rw [bit, Nat.testBit_two_pow, decide_eq_true_eq] at hb
    subst hb; exact e.symm

end Go.Proofs.Ytmbipmdflbddbaa
