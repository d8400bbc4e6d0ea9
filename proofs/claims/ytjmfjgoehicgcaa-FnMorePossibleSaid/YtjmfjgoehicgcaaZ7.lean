/- Plain facts on masses that are focused and learned. -/
import Derived.Test.YtjmfjgoehicgcaaZ1
import Derived.Test.YtjmfjgoehicgcaaE1
import Derived.Test.YtjmfjgoehicgcaaF7
import Derived.Test.YtjmfjgoehicgcaaL6
set_option linter.unusedVariables false
set_option linter.unusedSimpArgs false
namespace Go.Proofs.Ytjmfjgoehicgcaa
open Go.RowKit

theorem focTo_nth (a : Nat) (xs zs : List Int) (c : Nat) (hc : c < zs.length) : ∀ k, nth (focTo a xs zs k) c = if c < k ∧ focT a c = true then nth xs c else nth zs c
  | 0 => by simp [focTo]
  | k + 1 => by
    have ih := focTo_nth a xs zs c hc k
    cases h : focT a k
    · rw [focTo_no h, ih]
      by_cases e : c = k
      · subst e; simp [h]
      · have : (c < k + 1) = (c < k) := by simp; omega
        simp only [this]
    · rw [focTo_yes h]
      by_cases e : c = k
      · subst e
        rw [nth_eq _ _ (by rw [List.length_set, focTo_len]; exact hc), List.getElem_set_self]; simp [h]
      · rw [nth_set_off _ _ _ _ e, ih]
        have : (c < k + 1) = (c < k) := by simp; omega
        simp only [this]

theorem focP_nth (a : Nat) (xs : List Int) (c : Nat) (hc : c < xs.length) : nth (focP a xs) c = if focT a c = true then nth xs c else 0 := by
  rw [focP, focTo_nth a xs _ c (by rw [zeros_len]; exact hc), zeros_nth0]; simp [hc]

/-- What is believed, as a sum. -/
def bS (a : Nat) (xs : List Int) : Int := sm xs.length fun b => if focT a b = true then nth xs b else 0

theorem bS_eq (a : Nat) (xs : List Int) (h : 0 < xs.length) : imS a xs - nth xs 0 = bS a xs := by
  have e : sm xs.length (fun b => (if inSet a b = true then nth xs b else 0) - (if b = 0 then nth xs 0 else 0)) = bS a xs := by
    unfold bS
    apply sm_congr
    intro b hb
    by_cases h0 : b = 0
    · subst h0; simp [focT, inSet, subB]
    · cases h1 : subB b a <;> simp [focT, inSet, h0, h1]
  rw [sm_sub, sm_one, if_pos h] at e
  rw [imS, sumTo_sm]; exact e

theorem foc_sum (a : Nat) (xs : List Int) : sumL (focP a xs) = bS a xs := by
  rw [sumL_sm, focP_len, bS]; exact sm_congr fun b hb => focP_nth a xs b hb

theorem focT_and : ∀ a b c : Fin 16, (focT b.val c.val && focT a.val c.val) = focT (a.val &&& b.val) c.val := by decide +kernel
theorem focT_sub : ∀ a c : Fin 16, focT a.val c.val = true → a.val &&& c.val = c.val := by decide +kernel

theorem foc_bS (a b : Nat) (ha : a < 16) (hb : b < 16) (xs : List Int) (hl : xs.length ≤ 16) : bS b (focP a xs) = bS (a &&& b) xs := by
  unfold bS
  rw [focP_len]
  apply sm_congr
  intro c hc
  rw [focP_nth a xs c hc, ← focT_and ⟨a, ha⟩ ⟨b, hb⟩ ⟨c, by omega⟩]
  cases focT a c <;> cases focT b c <;> simp

theorem bS_mul {n : Nat} (b : Nat) (d : Int) (P K : List Int) (hl : P.length = K.length) (hm : ∀ k, k < K.length → nth P k = d * nth K k) : bS b P = d * bS b K := by
  unfold bS
  rw [hl, ← sm_mul]
  apply sm_congr
  intro k hk
  rw [hm k hk]; split <;> simp
theorem sumL_mul (d : Int) (P K : List Int) (hl : P.length = K.length) (hm : ∀ k, k < K.length → nth P k = d * nth K k) : sumL P = d * sumL K := by
  rw [sumL_sm, sumL_sm, hl, ← sm_mul]; exact sm_congr hm

theorem msB_parts {s : Int} {xs : List Int} {a : Int} (h : msB s xs a = true) : massB s xs = true ∧ setB s a = true := by
  simpa [msB] using h

/-- Only sets within a have parts. -/
def Within (a : Nat) (K : List Int) : Prop := ∀ b, b < K.length → nth K b ≠ 0 → a &&& b = b

theorem cut_within {a : Nat} {K : List Int} (h : Within a K) : cutP a K = K := by
  apply nth_ext2 _ _ (cutP_len a K)
  intro c hc
  rw [cutP_len] at hc
  rw [cutP, acc_nth _ _ _ _ _ hc, sm_congr (g := fun b => if b = c then nth K c else 0), sm_one, if_pos hc]
  intro b hb
  by_cases h0 : nth K b = 0
  · by_cases e : b = c
    · subst e; simp [h0]
    · simp [h0, e]
  · rw [h b hb h0]
    by_cases e : b = c
    · subst e; simp
    · simp [e]

theorem nonP_same {K : List Int} (h : nth K 0 = 0) : nonP K = K := by
  apply nth_ext2 _ _ (nonP_len K)
  intro c hc
  rw [nonP_len] at hc
  by_cases e : c = 0
  · subst e; rw [nonP, nth_eq _ _ (by rw [List.length_set]; exact hc), List.getElem_set_self, h]
  · rw [nonP, nth_set_off _ _ _ _ e]

structure Focused (s : Int) (xs : List Int) (a : Int) (K : List Int) : Prop where
  nat : ∃ n : Nat, a = (n : Int) ∧ n < 16
  mass : massB s K = true
  len : K.length = xs.length
  zero : nth K 0 = 0
  part : ∀ b : Nat, b < 16 → (b : Int) < pow2 s → blR s K b * blR s xs a = blR s xs ((a.toNat &&& b : Nat) : Int) * whS s K
  again : gOk (msB s K a) s (focP a.toNat K) = true ∧ gL (msB s K a) s (focP a.toNat K) = K ∧ gS (msB s K a) s (focP a.toNat K) = s
  learn : gOk (msB s K a) s (lnP a.toNat K) = true ∧ gL (msB s K a) s (lnP a.toNat K) = K ∧ gS (msB s K a) s (lnP a.toNat K) = s
  normal : normB s K = true
  whole : 0 ≤ whS s K ∧ whS s K ≤ 1000000
  all : 0 ≤ blR s xs a ∧ blR s xs a ≤ 16000000
  bd : ∀ b : Nat, b < 16 → (b : Int) < pow2 s → (0 ≤ blR s K b ∧ blR s K b ≤ 16000000) ∧ 0 ≤ blR s xs ((a.toNat &&& b : Nat) : Int) ∧ blR s xs ((a.toNat &&& b : Nat) : Int) ≤ 16000000

theorem blR_nat {s : Int} {xs : List Int} {b : Nat} (h : massB s xs = true) (hb : (b : Int) < pow2 s) : blR s xs b = bS b xs ∧ 0 ≤ blR s xs b ∧ blR s xs b ≤ 16000000 := by
  have hk := massB_ok h
  have hl : 0 < xs.length := by have := hk.len; have := pow2_bd s hk.s1 hk.s4; omega
  have e : blR s xs b = bS b xs := by
    rw [← bS_eq b xs hl]
    simp [blR, msB, h, setB, hb]
  have h0 : 0 ≤ bS b xs := sm_nonneg fun k hk2 => by
    split
    · exact (allB_nth hk.all k hk2).1
    · omega
  have h1 := imS_bd b hk
  have h2 := allB_nth hk.all 0 hl
  have h3 := bS_eq b xs hl
  exact ⟨e, by omega, by omega⟩

theorem foc_no {s : Int} {xs : List Int} {a : Int} (h : gOk (msB s xs a) s (focP a.toNat xs) = false) : blR s xs a < 1 := by
  cases hm : msB s xs a
  · simp [blR, hm]
  · obtain ⟨h1, h2⟩ := msB_parts hm
    have hk := massB_ok h1
    obtain ⟨n, rfl, hn16, hnp⟩ := setB_nat hk.s1 hk.s4 h2
    simp only [gOk, hm, Bool.true_and, Int.toNat_natCast] at h
    have e := (blR_nat h1 hnp).1
    have hle : sumL (focP n xs) ≤ 1000000 := by
      rw [foc_sum]
      refine Int.le_trans ?_ hk.sum2
      rw [sumL_sm]
      exact sm_le fun k hk2 => by
        split
        · omega
        · exact (allB_nth hk.all k hk2).1
    have := mk_no (M := 4611686018427387904) hk.sz (by rw [focP_len]; exact hk.len) (focP_wide n xs hk.all) hle h
    rw [foc_sum] at this
    omega

theorem focus_law {s : Int} {xs : List Int} {a : Int} (h : gOk (msB s xs a) s (focP a.toNat xs) = true) : Focused s xs a (gL (msB s xs a) s (focP a.toNat xs)) ∧ gS (msB s xs a) s (focP a.toNat xs) = s := by
  have h' := h
  simp only [gOk, Bool.and_eq_true] at h'
  obtain ⟨hm, hok⟩ := h'
  obtain ⟨h1, h2⟩ := msB_parts hm
  have hk := massB_ok h1
  obtain ⟨n, rfl, hn16, hnp⟩ := setB_nat hk.s1 hk.s4 h2
  simp only [Int.toNat_natCast] at hok ⊢
  have hg := gYes (s := s) (L := focP n xs) hm
  rw [hg.2.2, hg.1]
  have hlow := mk_low hok
  obtain ⟨K, hKe⟩ : ∃ K, K = mkL s (focP n xs) := ⟨_, rfl⟩
  rw [← hKe] at hlow ⊢
  refine ⟨?_, by simp [mkS, hok]⟩
  have hlK : K.length = xs.length := by rw [← hlow.len, focP_len]
  obtain ⟨d, hd, hmul⟩ := hlow.mul
  have kK := massB_ok hlow.mass
  have hl0 : 0 < K.length := by have := kK.len; have := pow2_bd s kK.s1 kK.s4; omega
  have hmul2 : ∀ c, c < K.length → (if focT n c = true then nth xs c else 0) = d * nth K c := fun c hc => by rw [← hmul c hc, focP_nth n xs c (by omega)]
  have z : ∀ c, c < K.length → focT n c = false → nth K c = 0 := fun c hc hf => by
    have := hmul2 c hc
    rw [hf] at this
    simp at this
    exact (Int.mul_eq_zero.1 this.symm).resolve_left (by omega)
  have zero : nth K 0 = 0 := z 0 hl0 (by simp [focT])
  have within : Within n K := fun b hb h0 => by
    cases hf : focT n b
    · exact absurd (z b hb hf) h0
    · exact focT_sub ⟨n, hn16⟩ ⟨b, by have := kK.l16; omega⟩ hf
  have hfP : focP n K = K := nth_ext2 _ _ (focP_len n K) fun c hc => by
    rw [focP_len] at hc
    rw [focP_nth n K c hc]
    cases hf : focT n c
    · simp [z c hc hf]
    · simp
  have hlP : lnP n K = K := by rw [lnP, cut_within within, nonP_same zero]
  have hmK : msB s K (n : Int) = true := by simp [msB, hlow.mass, h2]
  obtain ⟨ok2, l2⟩ := low_mk (low_self hlow.mass)
  have hw : whS s K = sumL K := by simp [whS, hlow.mass]
  have hn2 : (n : Int) = ((n &&& n : Nat) : Int) := by rw [Nat.and_self]
  have hand : ∀ b : Nat, b < 16 → (b : Int) < pow2 s → ((n &&& b : Nat) : Int) < pow2 s := fun b hb hp => by
    have : n &&& b ≤ n := Nat.and_le_left
    omega
  refine ⟨⟨n, rfl, hn16⟩, hlow.mass, hlK, zero, ?_, ?_, ?_, ?_, ?_, ?_, ?_⟩
  · intro b hb hp
    simp only [Int.toNat_natCast]
    have e1 := (blR_nat hlow.mass hp).1
    have e2 := (blR_nat h1 hnp).1
    have e3 := (blR_nat h1 (hand b hb hp)).1
    have t1 : bS (n &&& b) xs = d * bS b K := by rw [← foc_bS n b hn16 hb xs hk.l16]; exact bS_mul (n := 0) b d _ _ hlow.len hmul
    have t2 : bS n xs = d * sumL K := by rw [← foc_sum]; exact sumL_mul d _ _ hlow.len hmul
    rw [e1, e2, e3, hw, t1, t2]
    rw [Int.mul_left_comm, Int.mul_assoc]
  · simp only [Int.toNat_natCast]
    rw [hfP]; exact ⟨by simp [gOk, hmK, ok2], by rw [gL, if_pos hmK, l2], by rw [gS, if_pos hmK, mkS, if_pos ok2]⟩
  · simp only [Int.toNat_natCast]
    rw [hlP]; exact ⟨by simp [gOk, hmK, ok2], by rw [gL, if_pos hmK, l2], by rw [gS, if_pos hmK, mkS, if_pos ok2]⟩
  · simp [normB, hlow.mass, zero]
  · rw [hw]; have := kK.sum1; have := kK.sum2; omega
  · exact (blR_nat h1 hnp).2
  · intro b hb hp
    simp only [Int.toNat_natCast]
    exact ⟨(blR_nat hlow.mass hp).2, (blR_nat h1 (hand b hb hp)).2⟩

end Go.Proofs.Ytjmfjgoehicgcaa
