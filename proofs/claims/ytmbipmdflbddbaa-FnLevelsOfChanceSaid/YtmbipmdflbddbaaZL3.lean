/- Plain laws: masses with the same possibilities are one; the levels of nested masses, of chances, along an order. -/
import Derived.Test.YtmbipmdflbddbaaZL2
import Derived.Test.YtmbipmdflbddbaaC9
import Derived.Test.YtmbipmdflbddbaaU9
set_option linter.unusedVariables false
set_option linter.unusedSimpArgs false
namespace Go.Proofs.Ytmbipmdflbddbaa
open Go.RowKit

theorem inSet_oth : ∀ n : Fin 5, ∀ a c : Fin 16, a.val < 2 ^ n.val → c.val < 2 ^ n.val → inSet a.val c.val = !meetB (othB n.val a.val) c.val := by decide +kernel

theorem im_poss (n a : Nat) (xs : List Int) (hn : n ≤ 4) (hl : xs.length = 2 ^ n) (ha : a < 2 ^ n) : imS a xs = sumL xs - possS (othB n a) xs := by
  have p16 : 2 ^ n ≤ 16 := Nat.pow_le_pow_right (n := 2) (by omega) hn
  rw [imS_sm, possS_sm, sumL_sm, ← sm_sub]
  apply sm_congr
  intro e he
  have h := inSet_oth ⟨n, by omega⟩ ⟨a, by omega⟩ ⟨e, by omega⟩ ha (by show e < 2 ^ n; omega)
  simp only at h
  rw [h]
  cases meetB (othB n a) e <;> simp

theorem im_ext {xs ys : List Int} (hl : xs.length = ys.length) (h : ∀ a, a < xs.length → imS a xs = imS a ys) : xs = ys := by
  have key : ∀ a, a < xs.length → nth xs a = nth ys a := by
    intro a
    induction a using Nat.strongRecOn with
    | _ a ih =>
      intro ha
      have e := h a ha
      rw [imS_sm, imS_sm, ← hl] at e
      have d : sm xs.length (fun e => (if inSet a e = true then nth xs e else 0) - (if inSet a e = true then nth ys e else 0)) = 0 := by rw [sm_sub]; omega
      rw [sm_single a ha (fun k hk hne => by
        by_cases hs : inSet a k = true
        · have hle : k ≤ a := by
            have : k &&& a = k := by simpa [inSet, subB] using hs
            rw [← this]; exact Nat.and_le_right
          rw [if_pos hs, if_pos hs, ih k (by omega) hk]; omega
        · rw [if_neg hs, if_neg hs]; omega)] at d
      have hs : inSet a a = true := by simp [inSet, subB, Nat.and_self]
      rw [if_pos hs, if_pos hs] at d
      omega
  exact nth_ext2 xs ys hl key

theorem poss_ext {n : Nat} {xs ys : List Int} (hn : n ≤ 4) (hx : xs.length = 2 ^ n) (hy : ys.length = 2 ^ n) (hs : sumL xs = sumL ys) (h : ∀ a, a < 2 ^ n → possS a xs = possS a ys) : xs = ys := by
  refine im_ext (by rw [hx, hy]) fun a ha => ?_
  rw [hx] at ha
  rw [im_poss n a xs hn hx ha, im_poss n a ys hn hy ha, hs, h _ (by unfold othB; omega)]

theorem focL_has (xs : List Int) (k a : Nat) (ha : a < k) (h : nth xs a ≠ 0) : ∃ i, i < (focL xs k).length ∧ nth (focL xs k) i = (a : Int) := by
  have hm : ((a : Nat) : Int) ∈ focL xs k := by
    simp only [focL, List.mem_map, List.mem_filter, List.mem_range, bne_iff_ne]
    exact ⟨a, ⟨ha, h⟩, rfl⟩
  obtain ⟨i, hi, e⟩ := List.getElem_of_mem hm
  exact ⟨i, hi, by rw [nth_eq _ _ hi]; exact e⟩

theorem ne_pairs {s : Int} {xs : List Int} (h : neG s xs = true) (a b : Nat) (ha : a < xs.length) (hb : b < xs.length) (na : nth xs a ≠ 0) (nb : nth xs b ≠ 0) : subB a b = true ∨ subB b a = true := by
  simp only [neG, Bool.and_eq_true] at h
  obtain ⟨i, hi, ei⟩ := focL_has xs xs.length a ha na
  obtain ⟨k, hk, ek⟩ := focL_has xs xs.length b hb nb
  have := h.2
  simp only [nsB, List.all_eq_true, List.mem_range] at this
  have := this i hi k hk
  rw [ei, ek, Int.toNat_natCast, Int.toNat_natCast, cmpN, Bool.or_eq_true] at this
  exact this

theorem poss_mono (a b : Nat) {M : Int} (xs : List Int) (h : allB 0 M xs = true) (hs : ∀ e, e < xs.length → meetB a e = true → meetB b e = true) : possS a xs ≤ possS b xs := by
  rw [possS_sm, possS_sm]
  refine sm_le fun e he => ?_
  have h0 := (allB_nth h e he).1
  by_cases c : meetB a e = true
  · rw [if_pos c, if_pos (hs e he c)]; omega
  · rw [if_neg c]; split <;> omega

theorem bit_meet (x e : Nat) : meetB (bit x) e = true ↔ e.testBit x = true := by
  rw [meetB_iff]
  constructor
  · rintro ⟨i, hi, he⟩
    rw [bit, Nat.testBit_two_pow, decide_eq_true_eq] at hi
    subst hi; exact he
  · intro h
    exact ⟨x, by rw [bit, Nat.testBit_two_pow]; simp, h⟩

theorem testBit_len {n e i : Nat} (he : e < 2 ^ n) (h : e.testBit i = true) : i < n := by
  apply Nat.lt_of_not_le
  intro hle
  have := Nat.testBit_lt_two_pow (Nat.lt_of_lt_of_le he (Nat.pow_le_pow_right (by omega) hle))
  rw [this] at h; cases h

/-- In a nested mass a set is as possible as one of its answers. -/
theorem ne_poss {s : Int} {n : Nat} {xs : List Int} (h : neG s xs = true) (hl : xs.length = 2 ^ n) (a : Nat) (ha : a < 2 ^ n) : possS a xs = posTo (cnTo xs n) a n := by
  have hm : massB s xs = true := by simp only [neG, Bool.and_eq_true] at h; exact h.1
  have hk := massB_ok hm
  obtain ⟨p0, p1, p2⟩ := posTo_parts (cnTo xs n) a n
  have hle : posTo (cnTo xs n) a n ≤ possS a xs := by
    rcases p2 with e | ⟨i, hi, hb, e⟩
    · rw [e]; exact poss_nonneg _ _ hk.all
    · rw [← e, cn_nth xs n i hi]
      refine poss_mono _ _ xs hk.all fun e _ he => ?_
      rw [bit_meet] at he
      exact (meetB_iff _ _).2 ⟨i, hb, he⟩
  have hge : possS a xs ≤ posTo (cnTo xs n) a n := by
    -- the least focal set that meets the set
    by_cases hex : ∃ e, e < xs.length ∧ meetB a e = true ∧ nth xs e ≠ 0
    · have hmin : ∃ e, (e < xs.length ∧ meetB a e = true ∧ nth xs e ≠ 0) ∧ ∀ f, f < xs.length ∧ meetB a f = true ∧ nth xs f ≠ 0 → e ≤ f := by
        obtain ⟨e, he⟩ := hex
        induction e using Nat.strongRecOn with
        | _ e ih =>
          by_cases c : ∃ f, f < e ∧ (f < xs.length ∧ meetB a f = true ∧ nth xs f ≠ 0)
          · obtain ⟨f, hf, g⟩ := c; exact ih f hf g
          · exact ⟨e, he, fun f hf => Nat.le_of_not_lt fun hlt => c ⟨f, hlt, hf⟩⟩
      obtain ⟨e, ⟨he, hma, hne⟩, hmin⟩ := hmin
      obtain ⟨x, hax, hex⟩ := (meetB_iff _ _).1 hma
      have hxn : x < n := testBit_len ha hax
      refine Int.le_trans ?_ (p1 x hxn hax)
      rw [cn_nth xs n x hxn, possS_sm, possS_sm]
      refine sm_le fun f hf => ?_
      have h0 := (allB_nth hk.all f hf).1
      by_cases c : meetB a f = true
      · rw [if_pos c]
        by_cases z : nth xs f = 0
        · rw [z]; split <;> omega
        · have hle := hmin f ⟨hf, c, z⟩
          have hsub : subB e f = true := by
            rcases ne_pairs h e f he hf hne z with g | g
            · exact g
            · have : f &&& e = f := by simpa [subB] using g
              have : f ≤ e := by rw [← this]; exact Nat.and_le_right
              have : f = e := by omega
              subst this; simp [subB, Nat.and_self]
          rw [if_pos ((bit_meet x f).2 ((subB_iff e f).1 hsub x hex))]; omega
      · rw [if_neg c]; split <;> omega
    · rw [possS_sm, sm_congr (g := fun _ => 0) (fun e he => by
        by_cases c : meetB a e = true
        · rw [if_pos c]
          by_cases z : nth xs e = 0
          · exact z
          · exact absurd ⟨e, he, c, z⟩ hex
        · rw [if_neg c]), sm_zero]
      exact p0
  omega

theorem poss_whole {n : Nat} {xs : List Int} (hl : xs.length = 2 ^ n) (h0 : nth xs 0 = 0) : possS (2 ^ n - 1) xs = sumL xs := by
  rw [possS_sm, sumL_sm]
  apply sm_congr
  intro e he
  by_cases c : e = 0
  · subst c; rw [h0]; split <;> rfl
  · refine if_pos ((meetB_iff _ _).2 ?_)
    by_cases hex : ∃ i, e.testBit i = true
    · obtain ⟨i, hi⟩ := hex
      exact ⟨i, by rw [full_bits]; simpa using testBit_len (by rw [← hl]; exact he) hi, hi⟩
    · refine absurd (Nat.eq_of_testBit_eq fun i => ?_) c
      rw [Nat.zero_testBit]
      cases hi : e.testBit i
      · rfl
      · exact absurd ⟨i, hi⟩ hex

theorem szOf {s : Int} {xs : List Int} (h : MassOk s xs) : ∃ n : Nat, s = (n : Int) ∧ 1 ≤ n ∧ n ≤ 4 ∧ xs.length = 2 ^ n := by
  have h1 := h.s1
  have h4 := h.s4
  have hl := h.len
  refine ⟨s.toNat, by omega, by omega, by omega, ?_⟩
  rw [show s = (s.toNat : Int) by omega, pow2_nat] at hl
  omega

/-- Levels with the whole of a mass on top are valid. -/
theorem lvB_of {n : Nat} {L : List Int} (h1 : 1 ≤ n) (h4 : n ≤ 4) (hl : L.length = n) (h : allB 0 1000000 L = true) (ht : 0 < topL L) : lvB L = true := by
  simp only [lvB, szB, inB, h, Bool.and_true, Bool.and_eq_true, decide_eq_true_eq, hl]
  omega

/-- The law on the levels of a nested mass. -/
structure NestLaw (s : Int) (xs : List Int) (L : List Int) : Prop where
  list : loL s xs = L
  lv : lvB L = true
  size : (L.length : Int) = s
  gok : gOk (lvB L) (L.length : Int) (lvP L) = true
  gval : gL (lvB L) (L.length : Int) (lvP L) = xs
  gsize : gS (lvB L) (L.length : Int) (lvP L) = s
  wh : whS s xs = sumL xs
  top : posL L (((2 ^ L.length : Nat) : Int) - 1) = sumL xs
  len : xs.length = 2 ^ L.length
  cn : L = cnTo xs s.toNat

theorem nest_law {s : Int} {xs : List Int} (h : loG s xs = true) : ∃ L, NestLaw s xs L := by
  have hL : loL s xs = cnTo xs s.toNat := by simp [loL, h]
  simp only [loG, Bool.and_eq_true] at h
  obtain ⟨hne, hno⟩ := h
  have hm : massB s xs = true := by simp only [neG, Bool.and_eq_true] at hne; exact hne.1
  have hz : nth xs 0 = 0 := by simp only [normB, Bool.and_eq_true, beq_iff_eq] at hno; exact hno.2
  have hk := massB_ok hm
  obtain ⟨n, rfl, n1, n4, hl⟩ := szOf hk
  rw [Int.toNat_natCast] at hL
  have hcl : (cnTo xs n).length = n := cnTo_len xs n
  have hall : allB 0 1000000 (cnTo xs n) = true := allB_iff.2 fun k hk2 => by
    rw [hcl] at hk2
    rw [cn_nth xs n k hk2]; exact ⟨poss_nonneg _ _ hk.all, poss_total _ hk⟩
  have htop : topL (cnTo xs n) = sumL xs := by
    rw [← posTo_full (cnTo xs n) hall, hcl, ← ne_poss hne hl (2 ^ n - 1) (by have := Nat.two_pow_pos n; omega), poss_whole hl hz]
  have hs1 := hk.sum1
  have hlv : lvB (cnTo xs n) = true := lvB_of n1 n4 hcl hall (by omega)
  have hP : lvP (cnTo xs n) = xs := by
    refine poss_ext (n := n) n4 (by rw [lvP_len, hcl]) hl ?_ fun a ha => ?_
    · rw [lv_sumL _ (by omega), htop]
    · rw [lv_poss, hcl, ← ne_poss hne hl a ha]
  have hlow := low_mk (low_self hm)
  refine ⟨cnTo xs n, hL, hlv, by rw [hcl], ?_, ?_, ?_, by simp [whS, hm], ?_, by rw [hcl]; exact hl, by rw [Int.toNat_natCast]⟩
  · rw [hlv, hP, hcl, gOk, hlow.1]; rfl
  · rw [hlv, hP, hcl, gL, if_pos rfl, hlow.2]
  · rw [hlv, hP, hcl, gS, if_pos rfl, mkS, if_pos hlow.1]
  · rw [lvs_full hlv, htop]

theorem mp_of_lv {s : Int} {xs L K : List Int} (hm : massB s xs = true) (hK : LvMass L K) (hl : (L.length : Int) = s) (ht : topL L = sumL xs) (h : ∀ a, a < xs.length → possS a xs ≤ posTo L a L.length) : mpB s xs s K = true := by
  have hmk : massB s K = true := by rw [← hl]; exact hK.mass
  have hk := massB_ok hm
  have hkk := massB_ok hmk
  obtain ⟨d, hd, e1, e2, _⟩ := hK.prop
  simp only [mpB, bothB, hm, hmk, decide_true, Bool.and_true, Bool.true_and, mpTo, List.all_eq_true, List.mem_range, decide_eq_true_eq]
  intro a ha
  have hle := h a ha
  have hS := hkk.sum1
  show possS a xs * sumL K ≤ possS a K * sumL xs
  rw [← ht, e1, ← Int.mul_assoc, Int.mul_comm (possS a K) d, ← e2]
  exact Int.mul_le_mul_of_nonneg_right hle (by omega)

/-- The greatest of some numbers. -/
theorem max_of (P : Nat → Prop) [DecidablePred P] (f : Nat → Int) : ∀ k, (∃ i, i < k ∧ P i) → ∃ i, i < k ∧ P i ∧ ∀ j, j < k → P j → f j ≤ f i
  | 0, ⟨i, hi, _⟩ => by omega
  | k + 1, h => by
    by_cases e : ∃ i, i < k ∧ P i
    · obtain ⟨i, hi, h1, h2⟩ := max_of P f k e
      by_cases c : P k ∧ f i < f k
      · refine ⟨k, by omega, c.1, fun j hj hv => ?_⟩
        by_cases d : j = k
        · subst d; omega
        · have := h2 j (by omega) hv; omega
      · refine ⟨i, by omega, h1, fun j hj hv => ?_⟩
        by_cases d : j = k
        · subst d; exact Int.not_lt.1 fun h => c ⟨hv, h⟩
        · exact h2 j (by omega) hv
    · obtain ⟨i, hi, hv⟩ := h
      have d : i = k := by
        by_cases d : i = k
        · exact d
        · exact absurd ⟨i, by omega, hv⟩ e
      subst d
      refine ⟨i, hi, hv, fun j hj hv2 => ?_⟩
      by_cases d : j = i
      · subst d; omega
      · exact absurd ⟨j, by omega, hv2⟩ e

theorem ch_zero {s : Int} {xs : List Int} (h : chB s xs = true) (b : Nat) (hb : b < xs.length) (hs : single b = false) : nth xs b = 0 := by
  simp only [chB, Bool.and_eq_true] at h
  by_cases e : nth xs b = 0
  · exact e
  · have := chTo_false hb e hs
    rw [h.2] at this; cases this

theorem ch_sum {n : Nat} {xs : List Int} (h : chB (n : Int) xs = true) (hl : xs.length = 2 ^ n) (n1 : 1 ≤ n) (n4 : n ≤ 4) (p : Nat → Bool) :
    sm xs.length (fun b => if p b = true then nth xs b else 0) = sm n (fun y => if p (bit y) = true then nth xs (bit y) else 0) := by
  have z := fun b hb hs => ch_zero h b hb hs
  rcases (show n = 1 ∨ n = 2 ∨ n = 3 ∨ n = 4 by omega) with rfl | rfl | rfl | rfl
  · rw [hl] at z ⊢
    have z0 := z 0 (by decide) (by decide)
    simp only [sm, z0, ite_self, show (2 : Nat) ^ 1 = 2 from rfl, show bit 0 = 1 from rfl, Int.zero_add]
  · rw [hl] at z ⊢
    have z0 := z 0 (by decide) (by decide)
    have z3 := z 3 (by decide) (by decide)
    simp only [sm, z0, z3, ite_self, show (2 : Nat) ^ 2 = 4 from rfl, show bit 0 = 1 from rfl, show bit 1 = 2 from rfl, Int.zero_add, Int.add_zero]
  · rw [hl] at z ⊢
    have z0 := z 0 (by decide) (by decide)
    have z3 := z 3 (by decide) (by decide)
    have z5 := z 5 (by decide) (by decide)
    have z6 := z 6 (by decide) (by decide)
    have z7 := z 7 (by decide) (by decide)
    simp only [sm, z0, z3, z5, z6, z7, ite_self, show (2 : Nat) ^ 3 = 8 from rfl, show bit 0 = 1 from rfl, show bit 1 = 2 from rfl, show bit 2 = 4 from rfl, Int.zero_add, Int.add_zero]
  · rw [hl] at z ⊢
    have z0 := z 0 (by decide) (by decide)
    have z3 := z 3 (by decide) (by decide)
    have z5 := z 5 (by decide) (by decide)
    have z6 := z 6 (by decide) (by decide)
    have z7 := z 7 (by decide) (by decide)
    have z9 := z 9 (by decide) (by decide)
    have z10 := z 10 (by decide) (by decide)
    have z11 := z 11 (by decide) (by decide)
    have z12 := z 12 (by decide) (by decide)
    have z13 := z 13 (by decide) (by decide)
    have z14 := z 14 (by decide) (by decide)
    have z15 := z 15 (by decide) (by decide)
    simp only [sm, z0, z3, z5, z6, z7, z9, z10, z11, z12, z13, z14, z15, ite_self, show (2 : Nat) ^ 4 = 16 from rfl, show bit 0 = 1 from rfl, show bit 1 = 2 from rfl, show bit 2 = 4 from rfl, show bit 3 = 8 from rfl, Int.zero_add, Int.add_zero]

theorem lcS_sm (xs : List Int) (x k : Nat) : lcS xs x k = sm k (fun y => if nth xs (bit y) ≤ nth xs (bit x) then nth xs (bit y) else 0) := by
  induction k with
  | zero => simp [lcS, sm]
  | succ k ih =>
    rw [lcS_succ, sm, ih]
    split <;> simp

theorem lc_nth (xs : List Int) (n k x : Nat) (h : x < k) : nth (lcTo xs n k) x = lcS xs x n := by
  rw [nth_eq _ _ (by rw [lcTo_len]; exact h)]; simp [lcTo]

theorem bit_lt_pow {y n : Nat} (h : y < n) : bit y < 2 ^ n := Nat.pow_lt_pow_right (by omega) h

/-- The law on the levels of a chance. -/
structure ChLaw (s : Int) (xs L K : List Int) : Prop where
  list : lcL s xs = L
  lv : lvB L = true
  size : (L.length : Int) = s
  mass : LvMass L K
  ord : ∀ x y, x < L.length → y < L.length → (nth xs (bit x) < nth xs (bit y) ↔ nth L x < nth L y)
  bd : ∀ x, x < L.length → 0 ≤ nth L x ∧ nth L x ≤ 1000000
  mp : mpB s xs s K = true
  best : ∀ b, b < L.length → (∀ x, x < L.length → nth xs (bit x) ≤ nth xs (bit b)) → nth L b = sumL xs
  wh : whS s xs = sumL xs

theorem ch_law {s : Int} {xs : List Int} (h : chB s xs = true) : ∃ L K, ChLaw s xs L K := by
  have hL : lcL s xs = lcTo xs s.toNat s.toNat := by simp [lcL, h]
  have hk := chB_ok h
  have hm : massB s xs = true := by simp only [chB, Bool.and_eq_true] at h; exact h.1
  obtain ⟨n, rfl, n1, n4, hl⟩ := szOf hk
  rw [Int.toNat_natCast] at hL
  have hcl : (lcTo xs n n).length = n := lcTo_len xs n n
  have h0 : ∀ y, y < n → 0 ≤ nth xs (bit y) := fun y hy => (allB_nth hk.all (bit y) (by rw [hl]; exact bit_lt_pow hy)).1
  have hsum : sumL xs = sm n (fun y => nth xs (bit y)) := by
    have := ch_sum h hl n1 n4 (fun _ => true)
    simp only [if_true] at this
    rw [sumL_sm]; exact this
  have hle : ∀ x, x < n → lcS xs x n ≤ sumL xs := fun x hx => by
    rw [lcS_sm, hsum]
    exact sm_le fun y hy => by have := h0 y hy; split <;> omega
  have hge : ∀ x, x < n → 0 ≤ lcS xs x n := fun x hx => by
    rw [lcS_sm]
    exact sm_nonneg fun y hy => by have := h0 y hy; split <;> omega
  have hbest : ∀ b, b < n → (∀ x, x < n → nth xs (bit x) ≤ nth xs (bit b)) → lcS xs b n = sumL xs := fun b hb hx => by
    rw [lcS_sm, hsum]
    exact sm_congr fun y hy => if_pos (hx y hy)
  have hs1 := hk.sum1
  have hs2 := hk.sum2
  have hall : allB 0 1000000 (lcTo xs n n) = true := allB_iff.2 fun k hk2 => by
    rw [hcl] at hk2
    rw [lc_nth xs n n k hk2]
    have := hle k hk2; have := hge k hk2; omega
  have htop : topL (lcTo xs n n) = sumL xs := by
    obtain ⟨t0, t1, t2⟩ := topL_parts (lcTo xs n n)
    obtain ⟨b, hb, _, hmax⟩ := max_of (fun _ => True) (fun x => nth xs (bit x)) n ⟨0, by omega, trivial⟩
    have e := hbest b hb fun x hx => hmax x hx trivial
    have e2 := t1 b (by rw [hcl]; exact hb)
    rw [lc_nth xs n n b hb, e] at e2
    rcases t2 with e3 | ⟨i, hi, e3⟩
    · omega
    · rw [hcl] at hi
      rw [lc_nth xs n n i hi] at e3
      have := hle i hi; omega
  have hlv : lvB (lcTo xs n n) = true := lvB_of n1 n4 hcl hall (by omega)
  obtain ⟨K, hK⟩ := lv_mass hlv
  refine ⟨lcTo xs n n, K, hL, hlv, by rw [hcl], hK, ?_, ?_, ?_, ?_, by simp [whS, hm]⟩
  · rw [hcl]
    intro x y hx hy
    rw [lc_nth xs n n x hx, lc_nth xs n n y hy]
    constructor
    · intro hlt
      have d : nth xs (bit y) ≤ sm n (fun z => (if nth xs (bit z) ≤ nth xs (bit y) then nth xs (bit z) else 0) - (if nth xs (bit z) ≤ nth xs (bit x) then nth xs (bit z) else 0)) := by
        have := sm_pick (n := n) (f := fun z => (if nth xs (bit z) ≤ nth xs (bit y) then nth xs (bit z) else 0) - (if nth xs (bit z) ≤ nth xs (bit x) then nth xs (bit z) else 0)) (fun z hz => by
          have := h0 z hz
          show 0 ≤ (if nth xs (bit z) ≤ nth xs (bit y) then nth xs (bit z) else 0) - (if nth xs (bit z) ≤ nth xs (bit x) then nth xs (bit z) else 0)
          by_cases c1 : nth xs (bit z) ≤ nth xs (bit y)
          · rw [if_pos c1]; split <;> omega
          · rw [if_neg c1, if_neg (by omega)]; omega) y hy
        rw [if_pos (Int.le_refl _), if_neg (by omega)] at this
        omega
      rw [sm_sub, ← lcS_sm, ← lcS_sm] at d
      have := h0 x hx
      omega
    · intro hlt
      refine Int.not_le.1 fun hle2 => ?_
      have : lcS xs y n ≤ lcS xs x n := by
        rw [lcS_sm, lcS_sm]
        refine sm_le fun z hz => ?_
        have := h0 z hz
        by_cases c1 : nth xs (bit z) ≤ nth xs (bit y)
        · rw [if_pos c1, if_pos (by omega)]; omega
        · rw [if_neg c1]; split <;> omega
      omega
  · rw [hcl]
    intro x hx
    rw [lc_nth xs n n x hx]
    have := hle x hx; have := hge x hx; omega
  · refine mp_of_lv hm hK (by rw [hcl]) htop fun a ha => ?_
    rw [hl] at ha
    rw [hcl]
    obtain ⟨p0, p1, p2⟩ := posTo_parts (lcTo xs n n) a n
    rw [possS_sm, ch_sum h hl n1 n4 (meetB a)]
    by_cases hex : ∃ i, i < n ∧ a.testBit i = true
    · obtain ⟨x, hx, hax, hmax⟩ := max_of (fun i => a.testBit i = true) (fun x => nth xs (bit x)) n hex
      refine Int.le_trans ?_ (p1 x hx hax)
      rw [lc_nth xs n n x hx, lcS_sm]
      refine sm_le fun y hy => ?_
      have := h0 y hy
      by_cases c : meetB a (bit y) = true
      · rw [if_pos c]
        have hb : a.testBit y = true := by
          rw [meetB_comm, bit_meet] at c; exact c
        rw [if_pos (hmax y hy hb)]; omega
      · rw [if_neg c]; split <;> omega
    · rw [sm_congr (g := fun _ => 0) (fun y hy => if_neg fun c => by
        rw [meetB_comm, bit_meet] at c; exact hex ⟨y, hy, c⟩), sm_zero]
      exact p0
  · rw [hcl]
    intro b hb hx
    rw [lc_nth xs n n b hb]; exact hbest b hb hx

/-- Along an order: where a level lies, and what it is. -/
theorem ou1 : ∀ a : Fin 1, ∀ i : Fin 1, (upL some (nones 1) [(a.val : Int)] 1 1).getD (nth [(a.val : Int)] i.val).toNat none = some (upSet [(a.val : Int)] 1 i.val) := by decide +kernel
theorem ou2 : ∀ a b : Fin 2, ndTo [(a.val : Int), b.val] 2 = true → ∀ i : Fin 2, (upL some (nones 2) [(a.val : Int), b.val] 2 2).getD (nth [(a.val : Int), b.val] i.val).toNat none = some (upSet [(a.val : Int), b.val] 2 i.val) := by decide +kernel
theorem ou3 : ∀ a b c : Fin 3, ndTo [(a.val : Int), b.val, c.val] 3 = true → ∀ i : Fin 3, (upL some (nones 3) [(a.val : Int), b.val, c.val] 3 3).getD (nth [(a.val : Int), b.val, c.val] i.val).toNat none = some (upSet [(a.val : Int), b.val, c.val] 3 i.val) := by decide +kernel
theorem ou4 : ∀ a b c d : Fin 4, ndTo [(a.val : Int), b.val, c.val, d.val] 4 = true → ∀ i : Fin 4, (upL some (nones 4) [(a.val : Int), b.val, c.val, d.val] 4 4).getD (nth [(a.val : Int), b.val, c.val, d.val] i.val).toNat none = some (upSet [(a.val : Int), b.val, c.val, d.val] 4 i.val) := by decide +kernel
/-- A set that is not empty has a first answer of the order, and lies in what is left there. -/
theorem of1 : ∀ a : Fin 1, ∀ e : Fin 2, e.val ≠ 0 → ∃ i : Fin 1, e.val.testBit (nth [(a.val : Int)] i.val).toNat = true ∧ subB e.val (upSet [(a.val : Int)] 1 i.val) = true := by decide +kernel
theorem of2 : ∀ a b : Fin 2, ndTo [(a.val : Int), b.val] 2 = true → ∀ e : Fin 4, e.val ≠ 0 → ∃ i : Fin 2, e.val.testBit (nth [(a.val : Int), b.val] i.val).toNat = true ∧ subB e.val (upSet [(a.val : Int), b.val] 2 i.val) = true := by decide +kernel
theorem of3 : ∀ a b c : Fin 3, ndTo [(a.val : Int), b.val, c.val] 3 = true → ∀ e : Fin 8, e.val ≠ 0 → ∃ i : Fin 3, e.val.testBit (nth [(a.val : Int), b.val, c.val] i.val).toNat = true ∧ subB e.val (upSet [(a.val : Int), b.val, c.val] 3 i.val) = true := by decide +kernel
theorem of4 : ∀ a b c d : Fin 4, ndTo [(a.val : Int), b.val, c.val, d.val] 4 = true → ∀ e : Fin 16, e.val ≠ 0 → ∃ i : Fin 4, e.val.testBit (nth [(a.val : Int), b.val, c.val, d.val] i.val).toNat = true ∧ subB e.val (upSet [(a.val : Int), b.val, c.val, d.val] 4 i.val) = true := by decide +kernel
/-- Each answer has a place in the order. -/
theorem op1 : ∀ a : Fin 1, ∀ x : Fin 1, ∃ i : Fin 1, nth [(a.val : Int)] i.val = (x.val : Int) := by decide +kernel
theorem op2 : ∀ a b : Fin 2, ndTo [(a.val : Int), b.val] 2 = true → ∀ x : Fin 2, ∃ i : Fin 2, nth [(a.val : Int), b.val] i.val = (x.val : Int) := by decide +kernel
theorem op3 : ∀ a b c : Fin 3, ndTo [(a.val : Int), b.val, c.val] 3 = true → ∀ x : Fin 3, ∃ i : Fin 3, nth [(a.val : Int), b.val, c.val] i.val = (x.val : Int) := by decide +kernel
theorem op4 : ∀ a b c d : Fin 4, ndTo [(a.val : Int), b.val, c.val, d.val] 4 = true → ∀ x : Fin 4, ∃ i : Fin 4, nth [(a.val : Int), b.val, c.val, d.val] i.val = (x.val : Int) := by decide +kernel

structure OrdFacts (ts : List Int) (n : Nat) : Prop where
  len : ts.length = n
  rng : ∀ i, i < n → ∃ x : Nat, nth ts i = (x : Int) ∧ x < n
  at_ : ∀ i, i < n → (upL some (nones n) ts n n).getD (nth ts i).toNat none = some (upSet ts n i)
  first : ∀ e, e < 2 ^ n → e ≠ 0 → ∃ i, i < n ∧ e.testBit (nth ts i).toNat = true ∧ subB e (upSet ts n i) = true
  place : ∀ x : Nat, x < n → ∃ i, i < n ∧ nth ts i = (x : Int)

theorem ord_facts {n : Nat} {ts : List Int} (n1 : 1 ≤ n) (n4 : n ≤ 4) (h : ordB (n : Int) ts = true) : OrdFacts ts n := by
  obtain ⟨ha, hl, hn⟩ := ordB_ok h
  have hr : ∀ i, i < n → ∃ x : Nat, nth ts i = (x : Int) ∧ x < n := fun i hi => by
    have := allB_nth ha i (by omega)
    exact ⟨(nth ts i).toNat, by omega, by omega⟩
  refine ⟨by omega, hr, ?_, ?_, ?_⟩ <;> clear hr
  · rcases few (by omega) (by omega) ha hl with ⟨hs, a, rfl⟩ | ⟨hs, a, b, rfl⟩ | ⟨hs, a, b, c, rfl⟩ | ⟨hs, a, b, c, d, rfl⟩
    · obtain rfl : n = 1 := by omega
      exact fun i hi => ou1 a ⟨i, hi⟩
    · obtain rfl : n = 2 := by omega
      exact fun i hi => ou2 a b hn ⟨i, hi⟩
    · obtain rfl : n = 3 := by omega
      exact fun i hi => ou3 a b c hn ⟨i, hi⟩
    · obtain rfl : n = 4 := by omega
      exact fun i hi => ou4 a b c d hn ⟨i, hi⟩
  · rcases few (by omega) (by omega) ha hl with ⟨hs, a, rfl⟩ | ⟨hs, a, b, rfl⟩ | ⟨hs, a, b, c, rfl⟩ | ⟨hs, a, b, c, d, rfl⟩
    · obtain rfl : n = 1 := by omega
      intro e he h0; obtain ⟨i, h⟩ := of1 a ⟨e, he⟩ h0; exact ⟨i.val, i.isLt, h⟩
    · obtain rfl : n = 2 := by omega
      intro e he h0; obtain ⟨i, h⟩ := of2 a b hn ⟨e, he⟩ h0; exact ⟨i.val, i.isLt, h⟩
    · obtain rfl : n = 3 := by omega
      intro e he h0; obtain ⟨i, h⟩ := of3 a b c hn ⟨e, he⟩ h0; exact ⟨i.val, i.isLt, h⟩
    · obtain rfl : n = 4 := by omega
      intro e he h0; obtain ⟨i, h⟩ := of4 a b c d hn ⟨e, he⟩ h0; exact ⟨i.val, i.isLt, h⟩
  · rcases few (by omega) (by omega) ha hl with ⟨hs, a, rfl⟩ | ⟨hs, a, b, rfl⟩ | ⟨hs, a, b, c, rfl⟩ | ⟨hs, a, b, c, d, rfl⟩
    · obtain rfl : n = 1 := by omega
      intro x hx; obtain ⟨i, h⟩ := op1 a ⟨x, hx⟩; exact ⟨i.val, i.isLt, h⟩
    · obtain rfl : n = 2 := by omega
      intro x hx; obtain ⟨i, h⟩ := op2 a b hn ⟨x, hx⟩; exact ⟨i.val, i.isLt, h⟩
    · obtain rfl : n = 3 := by omega
      intro x hx; obtain ⟨i, h⟩ := op3 a b c hn ⟨x, hx⟩; exact ⟨i.val, i.isLt, h⟩
    · obtain rfl : n = 4 := by omega
      intro x hx; obtain ⟨i, h⟩ := op4 a b c d hn ⟨x, hx⟩; exact ⟨i.val, i.isLt, h⟩

/-- The law on outer levels. -/
structure OuLaw (s : Int) (xs ts L K : List Int) : Prop where
  list : ouL s xs ts = L
  lv : lvB L = true
  size : (L.length : Int) = s
  tlen : ts.length = L.length
  rng : ∀ i, i < L.length → ∃ x : Nat, nth ts i = (x : Int) ∧ x < L.length
  bd : ∀ x, x < L.length → 0 ≤ nth L x ∧ nth L x ≤ 1000000
  mass : LvMass L K
  dec : ∀ i, 1 ≤ i → i < L.length → nth L (nth ts i).toNat ≤ nth L (nth ts (i - 1)).toNat
  first : nth L (nth ts 0).toNat = sumL xs
  mp : mpB s xs s K = true
  wh : whS s xs = sumL xs
  one : 1 ≤ L.length

theorem ou_law {s : Int} {xs ts : List Int} (h : ouG s xs ts = true) : ∃ L K, OuLaw s xs ts L K := by
  have hL : ouL s xs ts = ouP xs ts := by simp [ouL, h]
  simp only [ouG, Bool.and_eq_true] at h
  obtain ⟨hno, ho⟩ := h
  have hk := normB_ok hno
  have hm : massB s xs = true := by simp only [normB, Bool.and_eq_true] at hno; exact hno.1
  have hz : nth xs 0 = 0 := by simp only [normB, Bool.and_eq_true, beq_iff_eq] at hno; exact hno.2
  obtain ⟨n, rfl, n1, n4, hl⟩ := szOf hk
  have of := ord_facts n1 n4 ho
  have hP : ouP xs ts = (upL some (nones n) ts n n).map (gOf fun a => possS a xs) := by
    rw [ouP, of.len, upL, upL, foldl_set_map]
    congr 1
    simp [nones, zeros, gOf]
  have hcl : (ouP xs ts).length = n := by rw [ouP, upL_len, zeros_len, of.len]
  have hat : ∀ i, i < n → nth (ouP xs ts) (nth ts i).toNat = possS (upSet ts n i) xs := fun i hi => by
    have e := of.at_ i hi
    obtain ⟨x, ex, hx⟩ := of.rng i hi
    rw [ex, Int.toNat_natCast] at e ⊢
    have hxl : x < (upL some (nones n) ts n n).length := by rw [upL_len]; simpa [nones] using hx
    rw [hP, nth_eq _ _ (by rw [List.length_map]; exact hxl), List.getElem_map]
    rw [List.getD_eq_getElem?_getD, List.getElem?_eq_getElem hxl, Option.getD_some] at e
    rw [e]; rfl
  have hs1 := hk.sum1
  have hall : allB 0 1000000 (ouP xs ts) = true := allB_iff.2 fun k hk2 => by
    rw [hcl] at hk2
    obtain ⟨i, hi, e⟩ := of.place k hk2
    have := hat i hi
    rw [e, Int.toNat_natCast] at this
    rw [this]; exact ⟨poss_nonneg _ _ hk.all, poss_total _ hk⟩
  have h00 : nth (ouP xs ts) (nth ts 0).toNat = sumL xs := by
    rw [hat 0 n1]; exact poss_whole hl hz
  have hpos : ∀ a, a < 2 ^ n → possS a xs ≤ posTo (ouP xs ts) a n := fun a ha => by
    obtain ⟨p0, p1, p2⟩ := posTo_parts (ouP xs ts) a n
    by_cases c : a = 0
    · subst c
      rw [possS_sm, sm_congr (g := fun _ => 0) (fun e _ => by simp [meetB]), sm_zero]; exact p0
    · obtain ⟨i, hi, hb, hsub⟩ := of.first a ha c
      obtain ⟨x, ex, hx⟩ := of.rng i hi
      have e := hat i hi
      rw [ex, Int.toNat_natCast] at hb e
      refine Int.le_trans ?_ (p1 x hx hb)
      rw [e]
      refine poss_mono _ _ xs hk.all fun f _ hf => ?_
      obtain ⟨j, h1, h2⟩ := (meetB_iff _ _).1 hf
      exact (meetB_iff _ _).2 ⟨j, (subB_iff _ _).1 hsub j h1, h2⟩
  have htop : topL (ouP xs ts) = sumL xs := by
    obtain ⟨t0, t1, t2⟩ := topL_parts (ouP xs ts)
    obtain ⟨x0, e0, hx0⟩ := of.rng 0 n1
    rw [e0, Int.toNat_natCast] at h00
    have := t1 x0 (by rw [hcl]; exact hx0)
    rcases t2 with e3 | ⟨k, hk2, e3⟩
    · omega
    · rw [hcl] at hk2
      obtain ⟨i, hi, e⟩ := of.place k hk2
      have e4 := hat i hi
      rw [e, Int.toNat_natCast] at e4
      have : possS (upSet ts n i) xs ≤ sumL xs := by
        rw [possS_sm, sumL_sm]
        exact sm_le fun f hf => by have := (allB_nth hk.all f hf).1; split <;> omega
      omega
  have hlv : lvB (ouP xs ts) = true := lvB_of n1 n4 hcl hall (by omega)
  obtain ⟨K, hK⟩ := lv_mass hlv
  refine ⟨ouP xs ts, K, hL, hlv, by rw [hcl], by rw [hcl]; exact of.len, by rw [hcl]; exact of.rng, fun x hx => allB_nth hall x hx, hK, ?_, h00, ?_, by simp [whS, hm], by rw [hcl]; exact n1⟩
  · rw [hcl]
    intro i h1 hi
    rw [hat i hi, hat (i - 1) (by omega)]
    obtain ⟨k, rfl⟩ : ∃ k, i = k + 1 := ⟨i - 1, by omega⟩
    rw [Nat.add_sub_cancel, upSet_succ]
    have hu := upSet_lt ts n n4 k
    have hl16 : xs.length ≤ 16 := hk.l16
    obtain ⟨x, ex, hx⟩ := of.rng k (by omega)
    rw [ex, Int.toNat_natCast]
    refine poss_mono _ _ xs hk.all fun f hf hm2 => ?_
    exact dif_meet ⟨_, hu⟩ ⟨bit x, bit_lt x (by omega)⟩ ⟨f, by omega⟩ hm2
  · exact mp_of_lv hm hK (by rw [hcl]) htop fun a ha => by rw [hl] at ha; rw [hcl]; exact hpos a ha

end Go.Proofs.Ytmbipmdflbddbaa
