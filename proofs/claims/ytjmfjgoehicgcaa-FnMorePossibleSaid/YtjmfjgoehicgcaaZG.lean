/- Plain facts on masses that are learned, and on what is given. -/
import Derived.Test.YtjmfjgoehicgcaaZQ
set_option linter.unusedVariables false
set_option linter.unusedSimpArgs false
namespace Go.Proofs.Ytjmfjgoehicgcaa
open Go.RowKit

theorem and_lt_len {n s : Nat} (a e : Nat) (he : e < n) : a &&& e < n := Nat.lt_of_le_of_lt Nat.and_le_right he

/-- A sum over what is cut. -/
theorem cut_sum (p : Nat → Bool) (a : Nat) (xs : List Int) : sm xs.length (fun c => if p c = true then nth (cutP a xs) c else 0) = sm xs.length (fun e => if p (a &&& e) = true then nth xs e else 0) := by
  have h := sm_push (n := xs.length) (m := xs.length) (fun b => a &&& b) (fun b hb => Nat.lt_of_le_of_lt Nat.and_le_right hb) (nth xs) (fun c => if p c = true then 1 else 0)
  have e1 : sm xs.length (fun c => if p c = true then nth (cutP a xs) c else 0) = sm xs.length (fun c => (if p c = true then 1 else 0) * sm xs.length (fun b => if a &&& b = c then nth xs b else 0)) := by
    apply sm_congr
    intro c hc
    rw [cutP, acc_nth _ _ _ _ _ hc]
    cases p c <;> simp
  rw [e1, h]
  apply sm_congr
  intro e _
  cases p (a &&& e) <;> simp

theorem nonP_nth (L : List Int) (c : Nat) (hc : c < L.length) : nth (nonP L) c = if c = 0 then 0 else nth L c := by
  by_cases h : c = 0
  · subst h; rw [nonP, nth_eq _ _ (by rw [List.length_set]; exact hc), List.getElem_set_self]; rfl
  · rw [nonP, nth_set_off _ _ _ _ h, if_neg h]

theorem ln_sum (p : Nat → Bool) (h0 : p 0 = false) (a : Nat) (xs : List Int) : sm xs.length (fun c => if p c = true then nth (lnP a xs) c else 0) = sm xs.length (fun e => if p (a &&& e) = true then nth xs e else 0) := by
  rw [← cut_sum]
  apply sm_congr
  intro c hc
  rw [lnP, nonP_nth _ _ (by rw [cutP_len]; exact hc)]
  by_cases e : c = 0
  · subst e; simp [h0]
  · rw [if_neg e]

theorem possS_sm (a : Nat) (xs : List Int) : possS a xs = sm xs.length (fun e => if meetB a e = true then nth xs e else 0) := by rw [possS, sumTo_sm]
theorem imS_sm (a : Nat) (xs : List Int) : imS a xs = sm xs.length (fun e => if inSet a e = true then nth xs e else 0) := by rw [imS, sumTo_sm]

theorem ln_total (a : Nat) (xs : List Int) : sumL (lnP a xs) = possS a xs := by
  have h := ln_sum (fun c => c != 0) (by simp) a xs
  rw [possS_sm, sumL_sm, lnP_len]
  refine Eq.trans (sm_congr fun c hc => ?_) (h.trans (sm_congr fun e _ => ?_))
  · by_cases e : c = 0
    · subst e; rw [lnP, nonP_nth _ _ (by rw [cutP_len]; exact hc)]; simp
    · simp [e]
  · simp [meetB]

theorem meet_and : ∀ a b e : Fin 16, meetB b.val (a.val &&& e.val) = meetB (a.val &&& b.val) e.val := by decide +kernel
theorem foc_dif : ∀ a b e : Fin 16, focT b.val (a.val &&& e.val) = (meetB a.val e.val && !meetB (dif a.val b.val) e.val) := by decide +kernel
theorem dif_sub : ∀ a b e : Fin 16, meetB (dif a.val b.val) e.val = true → meetB a.val e.val = true := by decide +kernel

theorem ln_poss (a b : Nat) (ha : a < 16) (hb : b < 16) (xs : List Int) (hl : xs.length ≤ 16) : possS b (lnP a xs) = possS (a &&& b) xs := by
  rw [possS_sm, possS_sm, lnP_len, ln_sum (meetB b) (by simp [meetB])]
  apply sm_congr
  intro e he
  rw [meet_and ⟨a, ha⟩ ⟨b, hb⟩ ⟨e, by omega⟩]

theorem ln_bel (a b : Nat) (ha : a < 16) (hb : b < 16) (xs : List Int) (hl : xs.length ≤ 16) : bS b (lnP a xs) = possS a xs - possS (dif a b) xs := by
  rw [possS_sm, possS_sm, bS, lnP_len, ln_sum (focT b) (by simp [focT]), ← sm_sub]
  apply sm_congr
  intro e he
  rw [foc_dif ⟨a, ha⟩ ⟨b, hb⟩ ⟨e, by omega⟩]
  have := dif_sub ⟨a, ha⟩ ⟨b, hb⟩ ⟨e, by omega⟩
  simp only at this
  cases h1 : meetB a e
  · cases h2 : meetB (dif a b) e
    · simp
    · rw [this h2] at h1; cases h1
  · cases h2 : meetB (dif a b) e <;> simp

theorem poss_le (a b : Nat) (ha : a < 16) (hb : b < 16) (xs : List Int) (hl : xs.length ≤ 16) {M : Int} (h : allB 0 M xs = true) (hs : ∀ e : Fin 16, meetB a e.val = true → meetB b e.val = true) : possS a xs ≤ possS b xs := by
  rw [possS_sm, possS_sm]
  apply sm_le
  intro e he
  have h0 := (allB_nth h e he).1
  have := hs ⟨e, by omega⟩
  simp only at this
  cases h1 : meetB a e
  · simp; split <;> omega
  · simp [this h1]

theorem poss_and : ∀ a b e : Fin 16, meetB (a.val &&& b.val) e.val = true → meetB a.val e.val = true := by decide +kernel

theorem poss_nonneg (a : Nat) (xs : List Int) {M : Int} (h : allB 0 M xs = true) : 0 ≤ possS a xs := by
  rw [possS_sm]; exact sm_nonneg fun e he => by have := (allB_nth h e he).1; split <;> omega
theorem im_nonneg (a : Nat) (xs : List Int) {M : Int} (h : allB 0 M xs = true) : 0 ≤ imS a xs := by
  rw [imS_sm]; exact sm_nonneg fun e he => by have := (allB_nth h e he).1; split <;> omega
theorem poss_total (a : Nat) {s : Int} {xs : List Int} (h : MassOk s xs) : possS a xs ≤ 1000000 := by
  refine Int.le_trans ?_ h.sum2
  rw [possS_sm, sumL_sm]; exact sm_le fun e he => by have := (allB_nth h.all e he).1; split <;> omega

theorem ln_wide (a : Nat) (xs : List Int) (hl : xs.length ≤ 16) (h : allB 0 1000000 xs = true) : allB 0 4611686018427387904 (lnP a xs) = true := nonP_all (by omega) (cutP_wide a xs hl h)

/-- What is learned, where it can be. -/
structure Learned (s : Int) (xs : List Int) (a : Nat) (K : List Int) : Prop where
  low : Low s (lnP a xs) K
  len : K.length = xs.length
  ok : gOk (msB s xs (a : Int)) s (lnP (a : Int).toNat xs) = true
  val : gL (msB s xs (a : Int)) s (lnP (a : Int).toNat xs) = K
  size : gS (msB s xs (a : Int)) s (lnP (a : Int).toNat xs) = s

theorem learn_ok {s : Int} {xs : List Int} {a : Nat} (hm : msB s xs (a : Int) = true) (hp : 0 < possS a xs) : ∃ K, Learned s xs a K := by
  obtain ⟨h1, h2⟩ := msB_parts hm
  have hk := massB_ok h1
  have hok : mkOk s (lnP a xs) = true := mk_ok hk.sz (by rw [lnP_len]; exact hk.len) (ln_wide a xs hk.l16 hk.all) (by rw [ln_total]; exact hp) (by rw [ln_total]; exact poss_total a hk)
  have hl := mk_low hok
  refine ⟨mkL s (lnP a xs), hl, by rw [← hl.len, lnP_len], ?_, ?_, ?_⟩
  · simp [gOk, hm, hok]
  · simp [gL, hm]
  · simp [gS, hm, mkS, hok]

theorem possS_mul (b : Nat) (d : Int) (P K : List Int) (hl : P.length = K.length) (hm : ∀ k, k < K.length → nth P k = d * nth K k) : possS b P = d * possS b K := by
  rw [possS_sm, possS_sm, hl, ← sm_mul]
  apply sm_congr
  intro k hk
  rw [hm k hk]; split <;> simp

/-- What is believed and possible when a set is learned, and the least chance. -/
theorem fOk_eq {g : Bool} {N D : Int} (h : g = true → lowOk N D = true) : fOk g N D = g := by
  cases g
  · rfl
  · simp [fOk, h rfl]

theorem pg_parts {s : Int} {xs : List Int} {b a : Int} (h : pgG s xs b a = true) : ∃ n m : Nat, a = (n : Int) ∧ b = (m : Int) ∧ n < 16 ∧ m < 16 ∧ (n : Int) < pow2 s ∧ (m : Int) < pow2 s ∧ massB s xs = true ∧ msB s xs a = true ∧ msB s xs b = true ∧ 0 < possS n xs := by
  simp only [pgG, Bool.and_eq_true, Bool.not_eq_true', beq_eq_false_iff_ne] at h
  obtain ⟨h1, h2, h3⟩ := h
  obtain ⟨m1, s1⟩ := msB_parts h1
  obtain ⟨_, s2⟩ := msB_parts h2
  have hk := massB_ok m1
  obtain ⟨n, rfl, n16, np⟩ := setB_nat hk.s1 hk.s4 s1
  obtain ⟨m, rfl, m16, mp⟩ := setB_nat hk.s1 hk.s4 s2
  have := poss_nonneg n xs hk.all
  simp only [Int.toNat_natCast] at h3
  exact ⟨n, m, rfl, rfl, n16, m16, np, mp, m1, h1, h2, by omega⟩

/-- The bounds of what is given. -/
structure GivenBd (xs : List Int) (n m : Nat) : Prop where
  pos : 0 < possS n xs
  top : possS n xs ≤ 1000000
  r0 : 0 ≤ possS (n &&& m) xs
  r1 : possS (n &&& m) xs ≤ possS n xs
  q0 : 0 ≤ possS (dif n m) xs
  q1 : possS (dif n m) xs ≤ possS n xs
  both : possS n xs ≤ possS (dif n m) xs + possS (n &&& m) xs

theorem meet_both : ∀ a b e : Fin 16, meetB a.val e.val = true → (meetB (dif a.val b.val) e.val || meetB (a.val &&& b.val) e.val) = true := by decide +kernel

theorem given_bd {s : Int} {xs : List Int} (hk : MassOk s xs) (n m : Nat) (hn : n < 16) (hm : m < 16) (hp : 0 < possS n xs) : GivenBd xs n m := by
  refine ⟨hp, poss_total n hk, poss_nonneg _ _ hk.all, ?_, poss_nonneg _ _ hk.all, ?_, ?_⟩
  · exact poss_le _ _ (and_lt16 n m hn) hn xs hk.l16 hk.all fun e => poss_and ⟨n, hn⟩ ⟨m, hm⟩ e
  · exact poss_le _ _ (dif_lt n m hn) hn xs hk.l16 hk.all fun e => dif_sub ⟨n, hn⟩ ⟨m, hm⟩ e
  · rw [possS_sm, possS_sm, possS_sm, ← sm_add]
    apply sm_le
    intro e he
    have h0 := (allB_nth hk.all e he).1
    have := meet_both ⟨n, hn⟩ ⟨m, hm⟩ ⟨e, by have := hk.l16; omega⟩
    simp only at this
    cases h1 : meetB n e
    · simp; split <;> split <;> omega
    · have := this h1
      cases h2 : meetB (dif n m) e <;> cases h3 : meetB (n &&& m) e <;> simp [h2, h3] at this ⊢ <;> omega

theorem given_oks (s : Int) (xs : List Int) (b a : Int) :
    fOk (pgG s xs b a) (possS a.toNat xs - possS (dif a.toNat b.toNat) xs) (possS a.toNat xs) = pgG s xs b a ∧
    fOk (pgG s xs b a) (possS (a.toNat &&& b.toNat) xs) (possS a.toNat xs) = pgG s xs b a := by
  constructor
  all_goals
    apply fOk_eq
    intro h
    obtain ⟨n, m, rfl, rfl, n16, m16, np, mp, hm, _, _, hp⟩ := pg_parts h
    have g := given_bd (massB_ok hm) n m n16 m16 hp
    obtain ⟨g1, g2, g3, g4, g5, g6, g7⟩ := g
    simp only [Int.toNat_natCast]
    exact (part01 _ _ (by omega) (by omega) (by omega) (by omega)).ok

/-- All that the law on what is given says, where it can be learned. -/
structure Given (s : Int) (xs : List Int) (n m : Nat) (K : List Int) (N1 D1 N2 D2 : Int) : Prop where
  learned : Learned s xs n K
  mass : massB s K = true
  bel : fN (msB s K (m : Int)) (imS (m : Int).toNat K - nth K 0) (sumL K) = N1 ∧ fD (msB s K (m : Int)) (imS (m : Int).toNat K - nth K 0) (sumL K) = D1
  pos : fN (msB s K (m : Int)) (possS (m : Int).toNat K) (sumL K) = N2 ∧ fD (msB s K (m : Int)) (possS (m : Int).toNat K) (sumL K) = D2
  less : lessB N2 D2 N1 D1 = false

theorem given_law {s : Int} {xs : List Int} {b a : Int} (h : pgG s xs b a = true) : ∃ n m : Nat, ∃ K : List Int, a = (n : Int) ∧ b = (m : Int) ∧
    Given s xs n m K (fN (pgG s xs b a) (possS a.toNat xs - possS (dif a.toNat b.toNat) xs) (possS a.toNat xs)) (fD (pgG s xs b a) (possS a.toNat xs - possS (dif a.toNat b.toNat) xs) (possS a.toNat xs))
      (fN (pgG s xs b a) (possS (a.toNat &&& b.toNat) xs) (possS a.toNat xs)) (fD (pgG s xs b a) (possS (a.toNat &&& b.toNat) xs) (possS a.toNat xs)) := by
  obtain ⟨n, m, rfl, rfl, n16, m16, np, mp, hm, ha, hb, hp⟩ := pg_parts h
  have hk := massB_ok hm
  obtain ⟨K, hL⟩ := learn_ok ha hp
  have g := given_bd hk n m n16 m16 hp
  refine ⟨n, m, K, rfl, rfl, hL, hL.low.mass, ?_, ?_, ?_⟩
  all_goals simp only [Int.toNat_natCast, fN, fD, h, if_true]
  · have hmK : msB s K (m : Int) = true := by simp [msB, hL.low.mass, (msB_parts hb).2]
    simp only [hmK, if_true]
    obtain ⟨d, hd, hmul⟩ := hL.low.mul
    have kK := massB_ok hL.low.mass
    have hl0 : 0 < K.length := by have := kK.len; have := pow2_bd s kK.s1 kK.s4; omega
    have e1 : possS n xs - possS (dif n m) xs = d * bS m K := by rw [← ln_bel n m n16 m16 xs hk.l16]; exact bS_mul (n := 0) m d _ _ hL.low.len hmul
    have e2 : possS n xs = d * sumL K := by rw [← ln_total]; exact sumL_mul d _ _ hL.low.len hmul
    have s1 := kK.sum1
    rw [bS_eq m K hl0]
    have := low_same (bS m K) (sumL K) (possS n xs - possS (dif n m) xs) (possS n xs) (by omega) hp (by rw [e1, e2]; ac_rfl)
    exact ⟨this.2.1, this.2.2⟩
  · have hmK : msB s K (m : Int) = true := by simp [msB, hL.low.mass, (msB_parts hb).2]
    simp only [hmK, if_true]
    obtain ⟨d, hd, hmul⟩ := hL.low.mul
    have kK := massB_ok hL.low.mass
    have e1 : possS (n &&& m) xs = d * possS m K := by rw [← ln_poss n m n16 m16 xs hk.l16]; exact possS_mul m d _ _ hL.low.len hmul
    have e2 : possS n xs = d * sumL K := by rw [← ln_total]; exact sumL_mul d _ _ hL.low.len hmul
    have s1 := kK.sum1
    have := low_same (possS m K) (sumL K) (possS (n &&& m) xs) (possS n xs) (by omega) hp (by rw [e1, e2]; ac_rfl)
    exact ⟨this.2.1, this.2.2⟩
  · obtain ⟨g1, g2, g3, g4, g5, g6, g7⟩ := g
    exact less_no (part01 (possS (n &&& m) xs) (possS n xs) (by omega) (by omega) (by omega) (by omega)) (part01 (possS n xs - possS (dif n m) xs) (possS n xs) (by omega) (by omega) (by omega) (by omega)) hp hp
      (Int.mul_le_mul_of_nonneg_right (by omega) (by omega))

end Go.Proofs.Ytjmfjgoehicgcaa
