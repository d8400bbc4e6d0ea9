/- Plain laws: learning two sets is learning both, and evidence is joined before or after. -/
import Derived.Test.YtjmfjgoehicgcaaZW
set_option linter.unusedVariables false
set_option linter.unusedSimpArgs false
namespace Go.Proofs.Ytjmfjgoehicgcaa
open Go.RowKit

theorem lnP_nth (a : Nat) (xs : List Int) (c : Nat) (hc : c < xs.length) : nth (lnP a xs) c = if c = 0 then 0 else sm xs.length (fun e => if a &&& e = c then nth xs e else 0) := by
  rw [lnP, nonP_nth _ _ (by rw [cutP_len]; exact hc)]
  by_cases h : c = 0
  · rw [if_pos h, if_pos h]
  · rw [if_neg h, if_neg h, cutP, acc_nth _ _ _ _ _ hc]

theorem ln_ln (a b : Nat) (xs : List Int) : lnP b (lnP a xs) = lnP (a &&& b) xs := by
  refine nth_ext2 _ _ (by rw [lnP_len, lnP_len, lnP_len]) fun c hc => ?_
  rw [lnP_len, lnP_len] at hc
  rw [lnP_nth b _ c (by rw [lnP_len]; exact hc), lnP_nth _ xs c hc, lnP_len]
  by_cases h : c = 0
  · rw [if_pos h, if_pos h]
  · rw [if_neg h, if_neg h]
    have := ln_sum (fun e => decide (b &&& e = c)) (by simp; omega) a xs
    simp only [decide_eq_true_eq] at this
    rw [this]
    apply sm_congr
    intro e _
    rw [Nat.and_comm a b, Nat.and_assoc]

theorem lnP_scale (a : Nat) {P Q : List Int} {d : Int} (hl : P.length = Q.length) (h : ∀ k, k < Q.length → nth P k = d * nth Q k) : (lnP a P).length = (lnP a Q).length ∧ ∀ k, k < (lnP a Q).length → nth (lnP a P) k = d * nth (lnP a Q) k := by
  refine ⟨by rw [lnP_len, lnP_len, hl], fun k hk => ?_⟩
  rw [lnP_len] at hk
  rw [lnP_nth a P k (by omega), lnP_nth a Q k hk]
  by_cases c : k = 0
  · rw [if_pos c, if_pos c]; omega
  · rw [if_neg c, if_neg c, hl, ← sm_mul]
    apply sm_congr
    intro e he
    rw [h e he]; split <;> simp

theorem togIn_nth (f : Nat → Nat) (x : Int) (ys zs : List Int) (c : Nat) (hc : c < zs.length) : ∀ k, nth (togIn f x ys zs k) c = nth zs c + sm k (fun b => if f b = c then x * nth ys b else 0)
  | 0 => by simp [togIn, sm]
  | k + 1 => by
    rw [togIn_succ, nth_addAt _ _ _ _ (by rw [togIn_len]; exact hc), togIn_nth f x ys zs c hc k, sm]
    by_cases h : c = f k
    · rw [if_pos h, if_pos h.symm]; omega
    · rw [if_neg h, if_neg (fun e => h e.symm)]; omega

theorem togTo_nth (f : Nat → Nat → Nat) (xs ys zs : List Int) (c : Nat) (hc : c < zs.length) : ∀ k, nth (togTo f xs ys zs k) c = nth zs c + sm k (fun a => sm ys.length (fun b => if f a b = c then nth xs a * nth ys b else 0))
  | 0 => by simp [togTo, sm]
  | k + 1 => by
    rw [togTo_succ, togIn_nth _ _ _ _ _ (by rw [togTo_len]; exact hc), togTo_nth f xs ys zs c hc k, sm]; omega

theorem cj_nth (xs ys : List Int) (c : Nat) (hc : c < xs.length) : nth (cjP xs ys) c = sm xs.length (fun a => sm ys.length (fun b => if a &&& b = c then nth xs a * nth ys b else 0)) := by
  rw [cjP, togTo_nth _ _ _ _ _ (by rw [zeros_len]; exact hc), zeros_nth]; omega

/-- What is conjoined and then learned: a sum over pairs. -/
theorem lncj_nth (n : Nat) (xs ys : List Int) (c : Nat) (hc : c < xs.length) (h0 : c ≠ 0) : sm xs.length (fun e => if n &&& e = c then nth (cjP xs ys) e else 0) = sm xs.length (fun a => sm ys.length (fun b => if n &&& (a &&& b) = c then nth xs a * nth ys b else 0)) := by
  rw [sm_congr (g := fun e => sm xs.length (fun a => sm ys.length (fun b => if a &&& b = e then (if n &&& e = c then nth xs a * nth ys b else 0) else 0))) (fun e he => by
    rw [cj_nth xs ys e he]
    by_cases h : n &&& e = c
    · simp only [h, if_true]
    · simp only [h, if_false, ite_self, sm_zero])]
  rw [sm_swap]
  apply sm_congr
  intro a ha
  rw [sm_swap]
  apply sm_congr
  intro b hb
  exact (sm_single (a &&& b) (Nat.lt_of_le_of_lt Nat.and_le_left ha) (fun k hk hne => if_neg (fun e => hne e.symm))).trans (by rw [if_pos rfl])

theorem ln_join (n : Nat) (xs ys : List Int) : lnP n (nonP (cjP xs ys)) = nonP (cjP (lnP n xs) ys) := by
  refine nth_ext2 _ _ (by rw [lnP_len, nonP_len, cjP_len, nonP_len, cjP_len, lnP_len]) fun c hc => ?_
  rw [lnP_len, nonP_len, cjP_len] at hc
  rw [lnP_nth n _ c (by rw [nonP_len, cjP_len]; exact hc), nonP_nth _ c (by rw [cjP_len, lnP_len]; exact hc), nonP_len, cjP_len]
  by_cases h : c = 0
  · rw [if_pos h, if_pos h]
  · rw [if_neg h, if_neg h]
    have e1 : sm xs.length (fun e => if n &&& e = c then nth (nonP (cjP xs ys)) e else 0) = sm xs.length (fun e => if n &&& e = c then nth (cjP xs ys) e else 0) := by
      apply sm_congr
      intro e he
      by_cases g : n &&& e = c
      · rw [if_pos g, if_pos g, nonP_nth _ _ (by rw [cjP_len]; exact he), if_neg (fun z => by subst z; simp at g; omega)]
      · rw [if_neg g, if_neg g]
    rw [e1, lncj_nth n xs ys c hc h, cj_nth _ _ c (by rw [lnP_len]; exact hc), lnP_len]
    -- sum over the sets of the mass that is learned
    have e2 : sm xs.length (fun a => sm ys.length (fun b => if a &&& b = c then nth (lnP n xs) a * nth ys b else 0)) = sm ys.length (fun b => nth ys b * sm xs.length (fun a => if n &&& a &&& b = c then nth xs a else 0)) := by
      rw [sm_swap]
      apply sm_congr
      intro b hb
      have hp := ln_sum (fun a => decide (a &&& b = c)) (by simp; omega) n xs
      simp only [decide_eq_true_eq] at hp
      rw [← hp, ← sm_mul]
      apply sm_congr
      intro a ha
      split
      · rw [Int.mul_comm]
      · simp
    rw [e2, sm_swap]
    apply sm_congr
    intro b hb
    rw [← sm_mul]
    apply sm_congr
    intro a ha
    rw [← Nat.and_assoc]
    split
    · rw [Int.mul_comm]
    · simp

theorem cj_scale (ys : List Int) {P Q : List Int} {d : Int} (hl : P.length = Q.length) (h : ∀ k, k < Q.length → nth P k = d * nth Q k) : (cjP P ys).length = (cjP Q ys).length ∧ ∀ k, k < (cjP Q ys).length → nth (cjP P ys) k = d * nth (cjP Q ys) k := by
  refine ⟨by rw [cjP_len, cjP_len, hl], fun k hk => ?_⟩
  rw [cjP_len] at hk
  rw [cj_nth P ys k (by omega), cj_nth Q ys k hk, hl, ← sm_mul]
  apply sm_congr
  intro a ha
  rw [← sm_mul]
  apply sm_congr
  intro b hb
  rw [h a ha]
  split
  · rw [Int.mul_assoc]
  · simp

/-- All that the law on learning two sets says. -/
structure TwiceLaw (s : Int) (xs K : List Int) (n : Nat) : Prop where
  mass : massB s xs = true
  massK : massB s K = true
  len : K.length = xs.length
  l16 : xs.length ≤ 16
  gs : gS (msB s xs (n : Int)) s (lnP (n : Int).toNat xs) = s
  n16 : n < 16
  same : ∀ m : Nat, (m : Int) < pow2 s → (gOk (msB s K (m : Int)) s (lnP (m : Int).toNat K) = gOk (msB s xs ((n &&& m : Nat) : Int)) s (lnP ((n &&& m : Nat) : Int).toNat xs)) ∧
    (gS (msB s K (m : Int)) s (lnP (m : Int).toNat K) = gS (msB s xs ((n &&& m : Nat) : Int)) s (lnP ((n &&& m : Nat) : Int).toNat xs)) ∧
    (gL (msB s K (m : Int)) s (lnP (m : Int).toNat K) = gL (msB s xs ((n &&& m : Nat) : Int)) s (lnP ((n &&& m : Nat) : Int).toNat xs))
  join : ∀ (t : Int) (zs : List Int) (S : Int) (J : List Int), gOk (bothB s xs t zs) s (nonP (cjP xs zs)) = true → S = gS (bothB s xs t zs) s (nonP (cjP xs zs)) → J = gL (bothB s xs t zs) s (nonP (cjP xs zs)) →
    gOk (msB S J (n : Int)) S (lnP (n : Int).toNat J) = true → gOk (bothB s K t zs) s (nonP (cjP K zs)) = true →
    gS (msB S J (n : Int)) S (lnP (n : Int).toNat J) = gS (bothB s K t zs) s (nonP (cjP K zs)) ∧ gL (msB S J (n : Int)) S (lnP (n : Int).toNat J) = gL (bothB s K t zs) s (nonP (cjP K zs))

theorem gOk_parts {g : Bool} {s : Int} {L : List Int} (h : gOk g s L = true) : g = true ∧ mkOk s L = true ∧ gS g s L = s ∧ gL g s L = mkL s L := by
  simp only [gOk, Bool.and_eq_true] at h
  obtain ⟨h1, h2⟩ := h
  subst h1
  exact ⟨rfl, h2, by simp [gS, mkS, h2], by simp [gL]⟩

theorem and_lt_pow {s : Int} {n m : Nat} (h : (m : Int) < pow2 s) : ((n &&& m : Nat) : Int) < pow2 s := by
  have : n &&& m ≤ m := Nat.and_le_right
  omega

theorem twice_law {s : Int} {xs : List Int} {a : Int} (h : gOk (msB s xs a) s (lnP a.toNat xs) = true) : ∃ n : Nat, a = (n : Int) ∧ TwiceLaw s xs (gL (msB s xs a) s (lnP a.toNat xs)) n := by
  obtain ⟨hm, hok, e1, e2⟩ := gOk_parts h
  obtain ⟨h1, h2⟩ := msB_parts hm
  have hk := massB_ok h1
  obtain ⟨n, rfl, n16, np⟩ := setB_nat hk.s1 hk.s4 h2
  rw [Int.toNat_natCast] at hok e1 e2
  rw [Int.toNat_natCast, e2]
  have hl := mk_low hok
  obtain ⟨d, hd, hmul⟩ := hl.mul
  have hlen : (mkL s (lnP n xs)).length = xs.length := by rw [← hl.len, lnP_len]
  refine ⟨n, rfl, h1, hl.mass, hlen, hk.l16, by rw [Int.toNat_natCast]; exact e1, n16, fun m hmp => ?_, fun t zs S J j1 hS hJ j2 j3 => ?_⟩
  · have hmK : msB s (mkL s (lnP n xs)) (m : Int) = true := by simp [msB, hl.mass, setB, hmp]
    have hmX : msB s xs ((n &&& m : Nat) : Int) = true := by simp [msB, h1, setB, and_lt_pow hmp]
    rw [hmK, hmX, Int.toNat_natCast, Int.toNat_natCast, ← ln_ln]
    have sc := lnP_scale m hl.len hmul
    have ms := mk_scale (s := s) hd sc.1 sc.2
    simp only [gOk, gS, gL, Bool.true_and, if_true]
    exact ⟨ms.1.symm, ms.2.1.symm, ms.2.2.symm⟩
  · obtain ⟨b1, o1, s1, l1⟩ := gOk_parts j1
    rw [s1] at hS
    rw [l1] at hJ
    subst hS
    obtain ⟨b2, o2, s2, l2⟩ := gOk_parts j2
    obtain ⟨b3, o3, s3, l3⟩ := gOk_parts j3
    rw [s2, s3, l2, l3]
    refine ⟨rfl, ?_⟩
    rw [Int.toNat_natCast] at o2 ⊢
    have lj := mk_low o1
    rw [← hJ] at lj
    obtain ⟨e, he, hmj⟩ := lj.mul
    -- the two lists of parts are in proportion
    have sc1 := lnP_scale n lj.len hmj
    have sc2a := cj_scale zs hl.len hmul
    have sc2 := nonP_scale sc2a.1 sc2a.2
    have m1 := mk_scale (s := S) he sc1.1 sc1.2
    have m2 := mk_scale (s := S) hd sc2.1 sc2.2
    rw [← m1.2.2, ← m2.2.2, ln_join]

end Go.Proofs.Ytjmfjgoehicgcaa
