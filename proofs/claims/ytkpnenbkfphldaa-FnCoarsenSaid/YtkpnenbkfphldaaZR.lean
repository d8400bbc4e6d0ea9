/- Plain laws on masses that are made coarse or fine. -/
import Derived.Test.YtkpnenbkfphldaaZX
import Derived.Test.YtkpnenbkfphldaaZN
import Derived.Test.YtkpnenbkfphldaaR7
import Derived.Test.YtkpnenbkfphldaaH1
set_option linter.unusedVariables false
set_option linter.unusedSimpArgs false
namespace Go.Proofs.Ytkpnenbkfphldaa
open Go.RowKit

theorem setTo_bit (p : Nat → Bool) (q : Nat → Nat) (y : Nat) : ∀ k, (setTo p q k).testBit y = true ↔ ∃ x, x < k ∧ p x = true ∧ q x = y
  | 0 => by simp [setTo]
  | k + 1 => by
    rw [setTo_succ]
    by_cases h : p k = true
    · rw [if_pos h, Nat.testBit_or, Bool.or_eq_true, setTo_bit p q y k, bit, Nat.testBit_two_pow, decide_eq_true_eq]
      constructor
      · rintro (⟨x, hx, h1, h2⟩ | e)
        · exact ⟨x, by omega, h1, h2⟩
        · exact ⟨k, by omega, h, e⟩
      · rintro ⟨x, hx, h1, h2⟩
        by_cases c : x = k
        · subst c; exact .inr h2
        · exact .inl ⟨x, by omega, h1, h2⟩
    · rw [if_neg h, setTo_bit p q y k]
      constructor
      · rintro ⟨x, hx, h1, h2⟩; exact ⟨x, by omega, h1, h2⟩
      · rintro ⟨x, hx, h1, h2⟩
        by_cases c : x = k
        · subst c; exact absurd h1 h
        · exact ⟨x, by omega, h1, h2⟩

theorem img_bit (ts : List Int) (a y : Nat) : (imgS ts a).testBit y = true ↔ ∃ x, x < ts.length ∧ a.testBit x = true ∧ (nth ts x).toNat = y := setTo_bit _ _ _ _
theorem bak_bit (ts : List Int) (a y : Nat) : (bakS ts a).testBit y = true ↔ y < ts.length ∧ a.testBit (nth ts y).toNat = true := by
  rw [bakS, setTo_bit]
  constructor
  · rintro ⟨x, hx, h1, rfl⟩; exact ⟨hx, h1⟩
  · rintro ⟨hx, h1⟩; exact ⟨y, hx, h1, rfl⟩

theorem mask_bit (ts : List Int) (y : Nat) : ∀ k, (maskTo ts k).testBit y = true ↔ ∃ x, x < k ∧ (nth ts x).toNat = y
  | 0 => by simp [maskTo]
  | k + 1 => by
    rw [maskTo_succ, Nat.testBit_or, Bool.or_eq_true, mask_bit ts y k, bit, Nat.testBit_two_pow, decide_eq_true_eq]
    constructor
    · rintro (⟨x, hx, h2⟩ | e)
      · exact ⟨x, by omega, h2⟩
      · exact ⟨k, by omega, e⟩
    · rintro ⟨x, hx, h2⟩
      by_cases c : x = k
      · subst c; exact .inr h2
      · exact .inl ⟨x, by omega, h2⟩

theorem bool_ext {a b : Bool} (h : a = true ↔ b = true) : a = b := by
  cases a <;> cases b <;> simp at h ⊢

/-- What is made fine and coarse again: the answers that were told apart. -/
theorem img_bak (ts : List Int) (b : Nat) : imgS ts (bakS ts b) = maskTo ts ts.length &&& b := by
  refine Nat.eq_of_testBit_eq fun y => bool_ext ?_
  rw [img_bit, Nat.testBit_and, Bool.and_eq_true, mask_bit]
  constructor
  · rintro ⟨x, hx, h1, h2⟩
    rw [bak_bit] at h1
    rw [h2] at h1
    exact ⟨⟨x, hx, h2⟩, h1.2⟩
  · rintro ⟨⟨x, hx, h2⟩, h3⟩
    exact ⟨x, hx, (bak_bit ts b x).2 ⟨hx, by rw [h2]; exact h3⟩, h2⟩

theorem acc_acc (F G : Nat → Nat) (xs : List Int) (n m : Nat) (hF : ∀ b, b < xs.length → F b < n) : accTo G (accTo F xs (zeros n) xs.length) (zeros m) n = accTo (fun b => G (F b)) xs (zeros m) xs.length := by
  refine nth_ext2 _ _ (by rw [accTo_len, accTo_len]) fun c hc => ?_
  rw [accTo_len, zeros_len] at hc
  rw [acc_nth _ _ _ _ _ hc, acc_nth _ _ _ _ _ hc]
  have h := sm_push (n := n) (m := xs.length) F hF (nth xs) (fun e => if G e = c then 1 else 0)
  rw [sm_congr (g := fun e => (if G e = c then 1 else 0) * sm xs.length (fun b => if F b = e then nth xs b else 0)) (fun e he => by
    rw [acc_nth _ _ _ _ _ he]; split <;> simp), h]
  apply sm_congr
  intro b _
  split <;> simp

theorem acc_scale (F : Nat → Nat) (n : Nat) {P Q : List Int} {d : Int} (hl : P.length = Q.length) (h : ∀ k, k < Q.length → nth P k = d * nth Q k) : (accTo F P (zeros n) P.length).length = (accTo F Q (zeros n) Q.length).length ∧ ∀ k, k < (accTo F Q (zeros n) Q.length).length → nth (accTo F P (zeros n) P.length) k = d * nth (accTo F Q (zeros n) Q.length) k := by
  refine ⟨by rw [accTo_len, accTo_len], fun k hk => ?_⟩
  rw [accTo_len, zeros_len] at hk
  rw [acc_nth _ _ _ _ _ hk, acc_nth _ _ _ _ _ hk, hl, ← sm_mul]
  apply sm_congr
  intro b hb
  rw [h b hb]; split <;> simp

theorem acc_total (F : Nat → Nat) (xs : List Int) (n : Nat) (hF : ∀ b, b < xs.length → F b < n) : sumL (accTo F xs (zeros n) xs.length) = sumL xs := by
  rw [sumL_sm, accTo_len, zeros_len]
  have h := sm_push (n := n) (m := xs.length) F hF (nth xs) (fun _ => 1)
  simp only [Int.one_mul] at h
  rw [sm_congr (g := fun c => sm xs.length (fun b => if F b = c then nth xs b else 0)) (fun c hc => acc_nth _ _ _ _ _ hc), h, sumL_sm]

theorem acc_some (F : Nat → Nat) (xs : List Int) (n : Nat) {M : Int} (hx : allB 0 M xs = true) (c : Nat) (hc : c < n) : nth (accTo F xs (zeros n) xs.length) c ≠ 0 ↔ ∃ b, b < xs.length ∧ F b = c ∧ nth xs b ≠ 0 := by
  rw [acc_nth _ _ _ _ _ hc]
  have h0 : ∀ b, b < xs.length → 0 ≤ (fun b => if F b = c then nth xs b else 0) b := fun b hb => by
    show 0 ≤ if F b = c then nth xs b else 0
    have := (allB_nth hx b hb).1; split <;> omega
  constructor
  · intro h
    by_cases e : ∃ b, b < xs.length ∧ F b = c ∧ nth xs b ≠ 0
    · exact e
    · refine absurd ?_ h
      rw [sm_congr (g := fun _ => 0) (fun b hb => by
        by_cases g : F b = c
        · rw [if_pos g]
          by_cases z : nth xs b = 0
          · exact z
          · exact absurd ⟨b, hb, g, z⟩ e
        · rw [if_neg g]), sm_zero]
  · rintro ⟨b, hb, g, z⟩ h
    have := sm_pick h0 b hb
    simp only [g, if_true] at this
    have := (allB_nth hx b hb).1
    omega

/-- Sums of coarse or fine parts. -/
theorem acc_pred (F : Nat → Nat) (xs : List Int) (n : Nat) (hF : ∀ b, b < xs.length → F b < n) (p : Nat → Bool) : sm n (fun c => if p c = true then nth (accTo F xs (zeros n) xs.length) c else 0) = sm xs.length (fun b => if p (F b) = true then nth xs b else 0) := by
  have h := sm_push (n := n) (m := xs.length) F hF (nth xs) (fun e => if p e = true then 1 else 0)
  rw [sm_congr (g := fun e => (if p e = true then 1 else 0) * sm xs.length (fun b => if F b = e then nth xs b else 0)) (fun e he => by
    rw [acc_nth _ _ _ _ _ he]; split <;> simp), h]
  apply sm_congr
  intro b _
  split <;> simp

/-- A mass that is made of another one along a map of sets. -/
structure Along (z : Int) (F : Nat → Nat) (xs K : List Int) : Prop where
  mass : massB z K = true
  len : K.length = 2 ^ z.toNat
  lt : ∀ b, b < xs.length → F b < 2 ^ z.toNat
  mul : ∃ d : Int, 0 < d ∧ ∀ k, k < K.length → nth (accTo F xs (zeros (2 ^ z.toNat)) xs.length) k = d * nth K k

theorem along_of {z : Int} {F : Nat → Nat} {xs : List Int} (hF : ∀ b, b < xs.length → F b < 2 ^ z.toNat) (h : mkOk z (accTo F xs (zeros (2 ^ z.toNat)) xs.length) = true) : Along z F xs (mkL z (accTo F xs (zeros (2 ^ z.toNat)) xs.length)) := by
  have hl := mk_low h
  exact ⟨hl.mass, by rw [← hl.len, accTo_len, zeros_len], hF, hl.mul⟩

theorem Along.pred {z : Int} {F : Nat → Nat} {xs K : List Int} (h : Along z F xs K) : ∃ d : Int, 0 < d ∧ (∀ p : Nat → Bool, sm xs.length (fun b => if p (F b) = true then nth xs b else 0) = d * sm K.length (fun c => if p c = true then nth K c else 0)) ∧ sumL xs = d * sumL K := by
  obtain ⟨d, hd, hm⟩ := h.mul
  have key : ∀ p : Nat → Bool, sm xs.length (fun b => if p (F b) = true then nth xs b else 0) = d * sm K.length (fun c => if p c = true then nth K c else 0) := fun p => by
    rw [← acc_pred F xs _ h.lt p, ← sm_mul, h.len]
    apply sm_congr
    intro c hc
    rw [hm c (by rw [h.len]; exact hc)]; split <;> simp
  refine ⟨d, hd, key, ?_⟩
  have := key (fun _ => true)
  simp only [if_true] at this
  rw [sumL_sm, sumL_sm]; exact this

theorem Along.some {z : Int} {F : Nat → Nat} {xs K : List Int} (h : Along z F xs K) {M : Int} (hx : allB 0 M xs = true) (c : Nat) (hc : c < K.length) : nth K c ≠ 0 ↔ ∃ b, b < xs.length ∧ F b = c ∧ nth xs b ≠ 0 := by
  obtain ⟨d, hd, hm⟩ := h.mul
  rw [← acc_some F xs (2 ^ z.toNat) hx c (by rw [← h.len]; exact hc), hm c hc]
  constructor
  · intro g e
    rcases Int.mul_eq_zero.1 e with e | e
    · omega
    · exact g e
  · intro g e
    rw [e] at g; simp at g

theorem pow_len {s : Int} {xs : List Int} (h : MassOk s xs) : xs.length = 2 ^ s.toNat := by
  have := h.len
  rw [pow2_toNat] at this
  omega

theorem ansB_all {ts : List Int} {n z : Int} (h : ansB ts n z = true) (h4 : z ≤ 4) : (ts.length : Int) = n ∧ ∀ x, x < ts.length → 0 ≤ nth ts x ∧ nth ts x < z := by
  obtain ⟨h1, h2⟩ := ansB_ok h
  exact ⟨h2, fun x hx => by have := allB_nth h1 x hx; omega⟩

/-- The law on masses that are made fine. -/
structure RfLaw (s : Int) (xs ts : List Int) (z : Int) (K C : List Int) : Prop where
  mass : massB s xs = true
  massK : massB z K = true
  l16 : xs.length ≤ 16
  lenK : K.length ≤ 16
  lent : ts.length ≤ 4
  rng : ∀ x, x < ts.length → 0 ≤ nth ts x ∧ nth ts x < 4
  hit : maskTo ts ts.length < xs.length
  back : gOk (coG z K ts s) s (coP K ts s) = true ∧ gS (coG z K ts s) s (coP K ts s) = s ∧ gL (coG z K ts s) s (coP K ts s) = C
  cut : gOk (msB s xs ((maskTo ts ts.length : Nat) : Int)) s (cutP ((maskTo ts ts.length : Nat) : Int).toNat xs) = true ∧ gS (msB s xs ((maskTo ts ts.length : Nat) : Int)) s (cutP ((maskTo ts ts.length : Nat) : Int).toNat xs) = s ∧ gL (msB s xs ((maskTo ts ts.length : Nat) : Int)) s (cutP ((maskTo ts ts.length : Nat) : Int).toNat xs) = C
  lenC : C.length ≤ 16
  whole : ((maskTo ts ts.length : Nat) : Int) = (xs.length : Int) - 1 → C = xs ∧ neG z K = neG s xs

theorem rf_law {s z : Int} {xs ts : List Int} (h : gOk (rfG s xs ts z) z (rfP xs ts z) = true) : gS (rfG s xs ts z) z (rfP xs ts z) = z ∧ ∃ C, RfLaw s xs ts z (gL (rfG s xs ts z) z (rfP xs ts z)) C := by
  obtain ⟨hg, hok, e1, e2⟩ := gOk_parts h
  refine ⟨e1, ?_⟩
  rw [e2]
  have hg' := hg
  simp only [rfG, Bool.and_eq_true] at hg'
  obtain ⟨hm, hz, ha⟩ := hg'
  have hk := massB_ok hm
  obtain ⟨z1, z4⟩ := sz_in hz
  obtain ⟨htl, hrg⟩ := ansB_all ha hk.s4
  have hxl := pow_len hk
  have s4 := hk.s4
  have s1 := hk.s1
  have hbl : ∀ b, b < xs.length → bakS ts b < 2 ^ z.toNat := fun b _ => by
    have := bakS_lt ts b
    rw [show ts.length = z.toNat by omega] at this; exact this
  have al := along_of (z := z) (F := bakS ts) (xs := xs) hbl hok
  obtain ⟨K, hK⟩ : ∃ K, K = mkL z (rfP xs ts z) := ⟨_, rfl⟩
  have al' : Along z (bakS ts) xs K := by rw [hK]; exact al
  rw [← hK]
  obtain ⟨d, hd, hmul⟩ := al'.mul
  have kK := massB_ok al'.mass
  have hit : maskTo ts ts.length < xs.length := by
    rw [hxl]
    refine Nat.lt_pow_two_of_testBit _ fun i hi => ?_
    cases e : (maskTo ts ts.length).testBit i
    · rfl
    · obtain ⟨x, hx, e2⟩ := (mask_bit ts i ts.length).1 e
      have := hrg x hx
      omega
  have hmh : msB s xs ((maskTo ts ts.length : Nat) : Int) = true := by
    simp only [msB, hm, Bool.true_and, setB, decide_eq_true_eq]
    have := hk.len; omega
  have hcut := cut_fine s xs ((maskTo ts ts.length : Nat) : Int)
  rw [hmh, Int.toNat_natCast] at hcut
  have hcok : mkOk s (cutP (maskTo ts ts.length) xs) = true := by simpa [gOk] using hcut
  have hcoG : coG z K ts s = true := by
    simp only [coG, al'.mass, Bool.true_and, Bool.and_eq_true]
    exact ⟨hk.sz, ha⟩
  -- coarse again
  have hcp : accTo (imgS ts) (rfP xs ts z) (zeros (2 ^ s.toNat)) (rfP xs ts z).length = cutP (maskTo ts ts.length) xs := by
    have hrl : (rfP xs ts z).length = 2 ^ z.toNat := by rw [rfP, accTo_len, zeros_len]
    rw [hrl, rfP, acc_acc (bakS ts) (imgS ts) xs _ _ hbl, cutP, hxl]
    exact accTo_ext _ _ _ _ _ fun b hb => by rw [img_bak]
  have hrl : (rfP xs ts z).length = K.length := by rw [rfP, accTo_len, zeros_len, al'.len]
  have sc := acc_scale (imgS ts) (2 ^ s.toNat) hrl hmul
  rw [hcp] at sc
  have ms := mk_scale (s := s) hd sc.1 sc.2
  refine ⟨mkL s (cutP (maskTo ts ts.length) xs), hm, al'.mass, hk.l16, kK.l16, by omega, fun x hx => by have := hrg x hx; omega, hit, ?_, ?_, ?_, ?_⟩
  · rw [hcoG]
    simp only [gOk, gS, gL, Bool.true_and, if_true, mkS]
    have e3 : mkOk s (coP K ts s) = true := by rw [coP, ← ms.1]; exact hcok
    exact ⟨e3, by rw [if_pos e3], by rw [coP]; exact ms.2.2.symm⟩
  · rw [hmh, Int.toNat_natCast]
    simp only [gOk, gS, gL, Bool.true_and, if_true, mkS]
    exact ⟨hcok, by rw [if_pos hcok], trivial⟩
  · have := mkL_len s (cutP (maskTo ts ts.length) xs)
    rw [cutP_len] at this
    have := hk.l16; omega
  · intro hw
    have hfull : ∀ i, i < s.toNat → (maskTo ts ts.length).testBit i = true := fun i hi => by
      rw [show maskTo ts ts.length = 2 ^ s.toNat - 1 by omega, full_bits]; simpa using hi
    have hsame : cutP (maskTo ts ts.length) xs = xs := by
      rw [cutP]
      refine nth_ext2 _ _ (by rw [accTo_len, zeros_len]) fun c hc => ?_
      rw [accTo_len, zeros_len] at hc
      rw [acc_nth _ _ _ _ _ hc, sm_single c hc (fun k hkl hne => if_neg fun e => hne (by
        rw [← e]
        refine (Nat.eq_of_testBit_eq fun i => bool_ext ?_).symm
        rw [Nat.testBit_and, Bool.and_eq_true]
        constructor
        · exact fun g => g.2
        · intro g
          exact ⟨hfull i (testBit_len (by rw [← hxl]; exact hkl) g), g⟩))]
      refine if_pos (Nat.eq_of_testBit_eq fun i => bool_ext ?_)
      rw [Nat.testBit_and, Bool.and_eq_true]
      constructor
      · exact fun g => g.2
      · intro g
        exact ⟨hfull i (testBit_len (by rw [← hxl]; exact hc) g), g⟩
    refine ⟨by rw [hsame]; exact (low_mk (low_self hm)).2, bool_ext ⟨fun g => ?_, fun g => ?_⟩⟩
    · refine ne_of hm fun a b ha hb na nb => ?_
      have la : bakS ts a < K.length := by rw [al'.len]; exact hbl a ha
      have lb : bakS ts b < K.length := by rw [al'.len]; exact hbl b hb
      have fa := (al'.some hk.all _ la).2 ⟨a, ha, rfl, na⟩
      have fb := (al'.some hk.all _ lb).2 ⟨b, hb, rfl, nb⟩
      have key : ∀ a b, a < xs.length → subB (bakS ts a) (bakS ts b) = true → subB a b = true := fun a b ha hs => by
        rw [subB_iff] at hs ⊢
        intro i hi
        obtain ⟨x, hx, e⟩ := (mask_bit ts i ts.length).1 (hfull i (testBit_len (by rw [← hxl]; exact ha) hi))
        have := hs x ((bak_bit ts a x).2 ⟨hx, by rw [e]; exact hi⟩)
        rw [bak_bit, e] at this
        exact this.2
      rcases ne_pairs g _ _ la lb fa fb with h1 | h1
      · exact .inl (key a b ha h1)
      · exact .inr (key b a hb h1)
    · refine ne_of al'.mass fun e f he hf ne nf => ?_
      obtain ⟨a, ha, rfl, na⟩ := (al'.some hk.all e he).1 ne
      obtain ⟨b, hb, rfl, nb⟩ := (al'.some hk.all f hf).1 nf
      have key : ∀ a b, subB a b = true → subB (bakS ts a) (bakS ts b) = true := fun a b hs => by
        rw [subB_iff] at hs ⊢
        intro i hi
        rw [bak_bit] at hi ⊢
        exact ⟨hi.1, hs _ hi.2⟩
      rcases ne_pairs g a b ha hb na nb with h1 | h1
      · exact .inl (key a b h1)
      · exact .inr (key b a h1)

/-- The law on masses that are made coarse. -/
structure CoLaw (s : Int) (xs ts : List Int) (z : Int) (K : List Int) : Prop where
  mass : massB s xs = true
  massK : massB z K = true
  l16 : xs.length ≤ 16
  lenK : K.length ≤ 16
  lent : ts.length ≤ 4
  rng : ∀ x, x < ts.length → 0 ≤ nth ts x ∧ nth ts x < 4
  bd : ∀ c : Nat, c < K.length → bakS ts c < xs.length
  im : ∀ c : Nat, c < K.length → imR z K (c : Int) * whS s xs = imR s xs ((bakS ts c : Nat) : Int) * whS z K
  ps : ∀ c : Nat, c < K.length → psR z K (c : Int) * whS s xs = psR s xs ((bakS ts c : Nat) : Int) * whS z K
  rg : ∀ c : Nat, c < K.length → (0 ≤ imR z K (c : Int) ∧ imR z K (c : Int) ≤ 16000000) ∧ (0 ≤ psR z K (c : Int) ∧ psR z K (c : Int) ≤ 16000000) ∧ (0 ≤ imR s xs ((bakS ts c : Nat) : Int) ∧ imR s xs ((bakS ts c : Nat) : Int) ≤ 16000000) ∧ (0 ≤ psR s xs ((bakS ts c : Nat) : Int) ∧ psR s xs ((bakS ts c : Nat) : Int) ≤ 16000000)
  wh : (1 ≤ whS s xs ∧ whS s xs ≤ 1000000) ∧ (1 ≤ whS z K ∧ whS z K ≤ 1000000)
  norm : normB z K = normB s xs
  nest : neG s xs = true → neG z K = true
  chance : chB s xs = true → chB z K = true

theorem single_bit : ∀ b : Fin 16, single b.val = true → ∃ x : Fin 4, b.val = bit x.val := by decide +kernel
theorem bit_single : ∀ x : Fin 4, single (bit x.val) = true := by decide +kernel

theorem co_law {s z : Int} {xs ts : List Int} (h : gOk (coG s xs ts z) z (coP xs ts z) = true) : gS (coG s xs ts z) z (coP xs ts z) = z ∧ CoLaw s xs ts z (gL (coG s xs ts z) z (coP xs ts z)) := by
  obtain ⟨hg, hok, e1, e2⟩ := gOk_parts h
  refine ⟨e1, ?_⟩
  rw [e2]
  have hg' := hg
  simp only [coG, Bool.and_eq_true] at hg'
  obtain ⟨hm, hz, ha⟩ := hg'
  have hk := massB_ok hm
  obtain ⟨z1, z4⟩ := sz_in hz
  obtain ⟨htl, hrg⟩ := ansB_all ha z4
  have hxl := pow_len hk
  have s4 := hk.s4
  have s1 := hk.s1
  have hil : ∀ b, b < xs.length → imgS ts b < 2 ^ z.toNat := fun b _ => imgS_lt (ansB_ok ha).1 b
  have al := along_of (z := z) (F := imgS ts) (xs := xs) hil hok
  obtain ⟨K, hK⟩ : ∃ K, K = mkL z (coP xs ts z) := ⟨_, rfl⟩
  have al' : Along z (imgS ts) xs K := by rw [hK]; exact al
  rw [← hK]
  have kK := massB_ok al'.mass
  obtain ⟨d, hd, hpr, hsum⟩ := al'.pred
  have hbl : ∀ c, bakS ts c < xs.length := fun c => by
    have := bakS_lt ts c
    rw [show ts.length = s.toNat by omega] at this; rw [hxl]; exact this
  have hmK : ∀ c : Nat, c < K.length → msB z K (c : Int) = true := fun c hc => by
    simp only [msB, al'.mass, Bool.true_and, setB, decide_eq_true_eq]; have := kK.len; omega
  have hmX : ∀ c : Nat, msB s xs ((bakS ts c : Nat) : Int) = true := fun c => by
    have := hbl c
    simp only [msB, hm, Bool.true_and, setB, decide_eq_true_eq]; have := hk.len; omega
  have whx : whS s xs = sumL xs := by simp [whS, hm]
  have whk : whS z K = sumL K := by simp [whS, al'.mass]
  -- a set's image lies in a set exactly if it lies in what is put into that set
  have hsub : ∀ c b, b < xs.length → inSet c (imgS ts b) = inSet (bakS ts c) b := fun c b hb => bool_ext (by
    unfold inSet
    rw [subB_iff, subB_iff]
    constructor
    · intro g x hx
      have hxs : x < ts.length := by have := testBit_len (n := s.toNat) (by rw [← hxl]; exact hb) hx; omega
      exact (bak_bit ts c x).2 ⟨hxs, g _ ((img_bit ts b _).2 ⟨x, hxs, hx, rfl⟩)⟩
    · intro g y hy
      obtain ⟨x, hx, h1, rfl⟩ := (img_bit ts b y).1 hy
      exact ((bak_bit ts c x).1 (g x h1)).2)
  have hmeet : ∀ c b, b < xs.length → meetB c (imgS ts b) = meetB (bakS ts c) b := fun c b hb => bool_ext (by
    rw [meetB_iff, meetB_iff]
    constructor
    · rintro ⟨y, h1, h2⟩
      obtain ⟨x, hx, h3, rfl⟩ := (img_bit ts b y).1 h2
      exact ⟨x, (bak_bit ts c x).2 ⟨hx, h1⟩, h3⟩
    · rintro ⟨x, h1, h2⟩
      obtain ⟨hx, h3⟩ := (bak_bit ts c x).1 h1
      exact ⟨_, h3, (img_bit ts b _).2 ⟨x, hx, h2, rfl⟩⟩)
  have him : ∀ c, imS (bakS ts c) xs = d * imS c K := fun c => by
    rw [imS_sm, imS_sm, ← hpr (inSet c)]
    exact sm_congr fun b hb => by rw [hsub c b hb]
  have hps : ∀ c, possS (bakS ts c) xs = d * possS c K := fun c => by
    rw [possS_sm, possS_sm, ← hpr (meetB c)]
    exact sm_congr fun b hb => by rw [hmeet c b hb]
  refine ⟨hm, al'.mass, hk.l16, kK.l16, by omega, fun x hx => by have := hrg x hx; omega, fun c _ => hbl c, fun c hc => ?_, fun c hc => ?_, fun c hc => ?_, ?_, ?_, ?_, ?_⟩
  · rw [whx, whk, imR, imR, if_pos (hmK c hc), if_pos (hmX c), Int.toNat_natCast, Int.toNat_natCast, him, hsum]; ac_rfl
  · rw [whx, whk, psR, psR, if_pos (hmK c hc), if_pos (hmX c), Int.toNat_natCast, Int.toNat_natCast, hps, hsum]; ac_rfl
  · rw [imR, imR, psR, psR, if_pos (hmK c hc), if_pos (hmX c), if_pos (hmK c hc), if_pos (hmX c)]
    exact ⟨imS_bd _ kK, possS_bd _ kK, imS_bd _ hk, possS_bd _ hk⟩
  · rw [whx, whk]; exact ⟨⟨hk.sum1, hk.sum2⟩, ⟨kK.sum1, kK.sum2⟩⟩
  · have h00 : imgS ts 0 = 0 := by
      refine Nat.eq_of_testBit_eq fun y => bool_ext ?_
      rw [img_bit]; simp
    have hzero : ∀ b, b < xs.length → imgS ts b = 0 → b = 0 := fun b hb g => by
      refine Nat.eq_of_testBit_eq fun x => bool_ext ⟨fun hx => ?_, fun hx => by simp at hx⟩
      have hxs : x < ts.length := by have := testBit_len (n := s.toNat) (by rw [← hxl]; exact hb) hx; omega
      have := (img_bit ts b _).2 ⟨x, hxs, hx, rfl⟩
      rw [g] at this; simp at this
    have k0 : 0 < K.length := by rw [al'.len]; exact Nat.two_pow_pos _
    have x0 : 0 < xs.length := by rw [hxl]; exact Nat.two_pow_pos _
    have e0 : nth K 0 ≠ 0 ↔ nth xs 0 ≠ 0 := by
      rw [al'.some hk.all 0 k0]
      constructor
      · rintro ⟨b, hb, g, n⟩
        have := hzero b hb g; subst this; exact n
      · intro n; exact ⟨0, x0, h00, n⟩
    unfold normB
    rw [hm, al'.mass]
    by_cases g : nth xs 0 = 0
    · have : nth K 0 = 0 := by
        by_cases g2 : nth K 0 = 0
        · exact g2
        · exact absurd g (e0.1 g2)
      rw [g, this]
    · have g' := e0.2 g
      rw [show (nth xs 0 == 0) = false from by simpa using g, show (nth K 0 == 0) = false from by simpa using g']
  · intro g
    refine ne_of al'.mass fun e f he hf ne nf => ?_
    obtain ⟨a, ha, rfl, na⟩ := (al'.some hk.all e he).1 ne
    obtain ⟨b, hb, rfl, nb⟩ := (al'.some hk.all f hf).1 nf
    have key : ∀ a b, subB a b = true → subB (imgS ts a) (imgS ts b) = true := fun a b hs => by
      rw [subB_iff] at hs ⊢
      intro i hi
      obtain ⟨x, hx, h1, h2⟩ := (img_bit ts a i).1 hi
      exact (img_bit ts b i).2 ⟨x, hx, hs x h1, h2⟩
    rcases ne_pairs g a b ha hb na nb with h1 | h1
    · exact .inl (key a b h1)
    · exact .inr (key b a h1)
  · intro g
    simp only [chB, Bool.and_eq_true] at g ⊢
    refine ⟨al'.mass, ?_⟩
    unfold chTo
    rw [List.all_eq_true]
    intro e he
    rw [List.mem_range] at he
    rw [Bool.or_eq_true, beq_iff_eq]
    by_cases ne : nth K e = 0
    · exact .inl ne
    · right
      obtain ⟨b, hb, rfl, nb⟩ := (al'.some hk.all e he).1 ne
      have hsb : single b = true := by
        cases hs : single b
        · have := chTo_false hb nb hs
          rw [g.2] at this; cases this
        · rfl
      obtain ⟨x, hx⟩ := single_bit ⟨b, by have := hk.l16; omega⟩ hsb
      simp only at hx
      have hxs : x.val < ts.length := by
        have := testBit_len (n := s.toNat) (i := x.val) (by rw [← hxl]; exact hb) (by rw [hx, bit, Nat.testBit_two_pow]; simp)
        omega
      have hy := hrg x.val hxs
      have : imgS ts b = bit (nth ts x.val).toNat := by
        refine Nat.eq_of_testBit_eq fun y => bool_ext ?_
        rw [img_bit, hx, bit, bit, Nat.testBit_two_pow, decide_eq_true_eq]
        constructor
        · rintro ⟨w, hw, h1, h2⟩
          rw [Nat.testBit_two_pow, decide_eq_true_eq] at h1
          subst h1; exact h2
        · intro h2
          exact ⟨x.val, hxs, by rw [Nat.testBit_two_pow]; simp, h2⟩
      rw [this]
      exact bit_single ⟨(nth ts x.val).toNat, by omega⟩

end Go.Proofs.Ytkpnenbkfphldaa
