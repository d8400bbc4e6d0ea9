/- Plain facts: sums over a range, what a list of parts gathers, masses in lowest terms. -/
import Derived.Test.YtjmfjgoehicgcaaK7
import Derived.Test.YtjmfjgoehicgcaaP4
import Derived.Test.YtjmfjgoehicgcaaC7
set_option linter.unusedVariables false
set_option linter.unusedSimpArgs false
namespace Go.Proofs.Ytjmfjgoehicgcaa
open Go.RowKit

/-- The sum of f over the first n numbers. -/
def sm : Nat → (Nat → Int) → Int
  | 0, _ => 0
  | n + 1, f => sm n f + f n

theorem sm_congr {n : Nat} {f g : Nat → Int} (h : ∀ k, k < n → f k = g k) : sm n f = sm n g := by
  induction n with
  | zero => rfl
  | succ n ih => rw [sm, sm, ih (fun k hk => h k (by omega)), h n (by omega)]
theorem sm_add (n : Nat) (f g : Nat → Int) : sm n (fun k => f k + g k) = sm n f + sm n g := by
  induction n with
  | zero => rfl
  | succ n ih => simp only [sm]; rw [ih]; omega
theorem sm_sub (n : Nat) (f g : Nat → Int) : sm n (fun k => f k - g k) = sm n f - sm n g := by
  induction n with
  | zero => rfl
  | succ n ih => simp only [sm]; rw [ih]; omega
theorem sm_mul (n : Nat) (c : Int) (f : Nat → Int) : sm n (fun k => c * f k) = c * sm n f := by
  induction n with
  | zero => simp [sm]
  | succ n ih => simp only [sm]; rw [ih, Int.mul_add]
theorem sm_zero (n : Nat) : sm n (fun _ => 0) = 0 := by
  induction n with
  | zero => rfl
  | succ n ih => simp only [sm]; rw [ih]; rfl
theorem sm_le {n : Nat} {f g : Nat → Int} (h : ∀ k, k < n → f k ≤ g k) : sm n f ≤ sm n g := by
  induction n with
  | zero => simp [sm]
  | succ n ih => have := ih (fun k hk => h k (by omega)); have := h n (by omega); simp only [sm]; omega
theorem sm_nonneg {n : Nat} {f : Nat → Int} (h : ∀ k, k < n → 0 ≤ f k) : 0 ≤ sm n f := by
  have := sm_le (f := fun _ => 0) h; rw [sm_zero] at this; exact this
theorem sm_swap (n m : Nat) (f : Nat → Nat → Int) : sm n (fun a => sm m (fun b => f a b)) = sm m (fun b => sm n (fun a => f a b)) := by
  induction n with
  | zero => simp only [sm]; exact (sm_zero m).symm
  | succ n ih => simp only [sm]; rw [ih, sm_add]
theorem sm_one (n i : Nat) (y : Int) : sm n (fun k => if k = i then y else 0) = if i < n then y else 0 := by
  induction n with
  | zero => simp [sm]
  | succ n ih =>
    simp only [sm]; rw [ih]
    by_cases h : n = i
    · subst h; simp
    · rw [if_neg h]
      by_cases h2 : i < n
      · rw [if_pos h2, if_pos (by omega)]; omega
      · rw [if_neg h2, if_neg (by omega)]; omega
theorem sm_single {n : Nat} {f : Nat → Int} (i : Nat) (hi : i < n) (h : ∀ k, k < n → k ≠ i → f k = 0) : sm n f = f i := by
  rw [sm_congr (g := fun k => if k = i then f i else 0) (fun k hk => by by_cases e : k = i <;> simp [e]; exact h k hk e), sm_one, if_pos hi]
theorem sm_pick {n : Nat} {f : Nat → Int} (h : ∀ k, k < n → 0 ≤ f k) (i : Nat) (hi : i < n) : f i ≤ sm n f := by
  have e0 := sm_single (f := fun k => if k = i then f k else 0) i hi (fun k _ e => by simp [e])
  simp only [if_true] at e0
  rw [← e0]
  refine sm_le fun k hk => ?_
  by_cases e : k = i
  · simp [e]
  · simp only [e, if_false]; exact h k hk
theorem sm_eq_zero {n : Nat} {f : Nat → Int} (h : ∀ k, k < n → 0 ≤ f k) (h0 : sm n f ≤ 0) : ∀ k, k < n → f k = 0 := fun k hk => by
  have := sm_pick h k hk; have := h k hk; omega
/-- Sums over numbers are taken along a map. -/
theorem sm_push {n m : Nat} (F : Nat → Nat) (hF : ∀ b, b < m → F b < n) (g : Nat → Int) (p : Nat → Int) : sm n (fun c => p c * sm m (fun b => if F b = c then g b else 0)) = sm m (fun b => p (F b) * g b) := by
  rw [sm_congr (g := fun c => sm m (fun b => if F b = c then p (F b) * g b else 0)) (fun c _ => by
    rw [← sm_mul]; apply sm_congr; intro b _; by_cases e : F b = c <;> simp [e]), sm_swap]
  apply sm_congr; intro b hb
  rw [sm_congr (g := fun c => if c = F b then p (F b) * g b else 0) (fun c _ => by by_cases e : F b = c <;> simp [e]; intro h; exact absurd h.symm e), sm_one, if_pos (hF b hb)]

theorem sumTo_sm (p : Nat → Bool) (xs : List Int) (k : Nat) : sumTo p xs k = sm k (fun b => if p b = true then nth xs b else 0) := by
  induction k with
  | zero => simp [sumTo, sm]
  | succ k ih => rw [sumTo_succ, sm, ih]; cases p k <;> simp
theorem sumL_take (xs : List Int) : ∀ k, k ≤ xs.length → sumL (xs.take k) = sm k (nth xs)
  | 0, _ => by simp [sumL, sm]
  | k + 1, h => by rw [take_succ_getD xs k (by omega), sumL_snoc, sumL_take xs k (by omega), sm]
theorem sumL_sm (xs : List Int) : sumL xs = sm xs.length (nth xs) := by
  have := sumL_take xs xs.length (Nat.le_refl _); rwa [List.take_length] at this

theorem accTo_nth (f : Nat → Nat) (ys zs : List Int) (c : Nat) (hc : c < zs.length) : ∀ k, nth (accTo f ys zs k) c = nth zs c + sm k (fun b => if f b = c then nth ys b else 0)
  | 0 => by simp [accTo, sm]
  | k + 1 => by
    rw [accTo_succ, nth_addAt _ _ _ _ (by rw [accTo_len]; exact hc), accTo_nth f ys zs c hc k, sm]
    by_cases e : c = f k
    · rw [if_pos e, if_pos e.symm]; omega
    · rw [if_neg e, if_neg (fun h => e h.symm)]; omega
theorem zeros_nth0 (n k : Nat) : nth (zeros n) k = 0 := by
  unfold nth zeros
  by_cases h : k < n
  · simp [List.getD, h]
  · simp [List.getD, List.getElem?_eq_none (by simp; omega : (List.replicate n (0 : Int)).length ≤ k)]
/-- The parts that are gathered along f. -/
theorem acc_nth (f : Nat → Nat) (ys : List Int) (n m c : Nat) (hc : c < n) : nth (accTo f ys (zeros n) m) c = sm m (fun b => if f b = c then nth ys b else 0) := by
  rw [accTo_nth f ys _ c (by rw [zeros_len]; exact hc), zeros_nth0]; omega

theorem nth_set_off (ys : List Int) (k j : Nat) (y : Int) (h : j ≠ k) : nth (ys.set k y) j = nth ys j := by
  simp [nth, List.getD, List.getElem?_set_ne (Ne.symm h)]

theorem nth_ext2 (xs ys : List Int) (hl : xs.length = ys.length) (h : ∀ i, i < xs.length → nth xs i = nth ys i) : xs = ys := by
  apply List.ext_getElem hl
  intro i h1 h2
  have := h i h1
  rwa [nth_eq _ _ h1, nth_eq _ _ h2] at this

theorem gcdL_take_dvd (xs : List Int) : ∀ k, k ≤ xs.length → ∀ j, j < k → (gcdL (xs.take k)) ∣ (nth xs j).natAbs
  | 0, _, j, hj => by omega
  | k + 1, h, j, hj => by
    rw [take_succ_getD xs k (by omega), gcdL_snoc]
    by_cases e : j = k
    · subst e; exact Nat.gcd_dvd_right _ _
    · exact Nat.dvd_trans (Nat.gcd_dvd_left _ _) (gcdL_take_dvd xs k (by omega) j (by omega))
theorem gcdL_dvd (xs : List Int) (j : Nat) (hj : j < xs.length) : ((gcdL xs : Nat) : Int) ∣ nth xs j := by
  have := gcdL_take_dvd xs xs.length (Nat.le_refl _) j hj
  rw [List.take_length] at this
  exact Int.ofNat_dvd_left.2 this
theorem dvd_gcdL_take (xs : List Int) (e : Nat) : ∀ k, k ≤ xs.length → (∀ j, j < k → e ∣ (nth xs j).natAbs) → e ∣ gcdL (xs.take k)
  | 0, _, _ => by simp [gcdL]
  | k + 1, h, hd => by
    rw [take_succ_getD xs k (by omega), gcdL_snoc]
    exact Nat.dvd_gcd (dvd_gcdL_take xs e k (by omega) (fun j hj => hd j (by omega))) (hd k (by omega))
theorem dvd_gcdL (xs : List Int) (e : Nat) (h : ∀ j, j < xs.length → ((e : Nat) : Int) ∣ nth xs j) : e ∣ gcdL xs := by
  have := dvd_gcdL_take xs e xs.length (Nat.le_refl _) (fun j hj => Int.ofNat_dvd_left.1 (h j hj))
  rwa [List.take_length] at this

theorem quo_nth (ps : List Int) (k : Nat) (hk : k < ps.length) : nth (quoTo ps ps.length) k = nth ps k / (gcdL ps : Int) := by
  rw [nth_eq _ _ (by rw [quoTo_len]; exact hk)]; simp [quoTo]
theorem quo_mul (ps : List Int) (k : Nat) (hk : k < ps.length) : (gcdL ps : Int) * nth (quoTo ps ps.length) k = nth ps k := by
  rw [quo_nth ps k hk]; exact Int.mul_ediv_cancel' (gcdL_dvd ps k hk)

/-- The parts K in lowest terms are those of P: P is a whole multiple of them. -/
structure Low (s : Int) (P K : List Int) : Prop where
  mass : massB s K = true
  len : P.length = K.length
  mul : ∃ d : Int, 0 < d ∧ ∀ k, k < K.length → nth P k = d * nth K k

theorem mk_low {s : Int} {P : List Int} (h : mkOk s P = true) : Low s P (mkL s P) := by
  have h2 := h
  simp only [mkOk, Bool.and_eq_true, Bool.not_eq_true', decide_eq_false_iff_not] at h2
  rw [mkL, if_pos h]
  exact ⟨h2.2, (quoTo_len _ _).symm, (gcdL P : Int), by have := h2.1; omega, fun k hk => by rw [quoTo_len] at hk; exact (quo_mul P k hk).symm⟩

/-- Masses in lowest terms whose parts are in proportion are one. -/
theorem low_unique {s t : Int} {K L : List Int} (hK : massB s K = true) (hL : massB t L = true) (hl : K.length = L.length) (A B : Int) (hA : 0 < A) (hB : 0 < B) (h : ∀ k, k < K.length → A * nth K k = B * nth L k) : K = L := by
  have gK := (massB_ok hK).gcd
  have gL := (massB_ok hL).gcd
  -- B divides A * every K_k, so it divides A; and the other way round
  have key : ∀ (X Y : List Int) (a b : Nat), X.length = Y.length → gcdL X = 1 → (∀ k, k < X.length → (a : Int) * nth X k = b * nth Y k) → b ∣ a := by
    intro X Y a b hxy hg hm
    have h1 : ∀ j, j < X.length → b ∣ a * (nth X j).natAbs := fun j hj => by
      have := congrArg Int.natAbs (hm j hj)
      rw [Int.natAbs_mul, Int.natAbs_mul] at this
      simp at this
      exact ⟨_, this⟩
    have h2 : ∀ k, k ≤ X.length → b ∣ a * gcdL (X.take k) := by
      intro k
      induction k with
      | zero => intro _; simp [gcdL]
      | succ k ih =>
        intro hk
        rw [take_succ_getD X k (by omega), gcdL_snoc, ← Nat.gcd_mul_left]
        exact Nat.dvd_gcd (ih (by omega)) (h1 k (by omega))
    have := h2 X.length (Nat.le_refl _)
    rw [List.take_length, hg, Nat.mul_one] at this
    exact this
  obtain ⟨a, rfl⟩ := Int.eq_ofNat_of_zero_le (show 0 ≤ A by omega)
  obtain ⟨b, rfl⟩ := Int.eq_ofNat_of_zero_le (show 0 ≤ B by omega)
  have e : a = b := Nat.dvd_antisymm (key L K b a hl.symm gL (fun k hk => (h k (by omega)).symm)) (key K L a b hl gK h)
  subst e
  exact nth_ext2 _ _ hl fun k hk => Int.eq_of_mul_eq_mul_left (by omega) (h k hk)

theorem Low.unique {s t : Int} {P K L : List Int} (h : Low s P K) (g : Low t P L) : K = L := by
  obtain ⟨d, hd, hm⟩ := h.mul
  obtain ⟨e, he, hn⟩ := g.mul
  have hl : K.length = L.length := by rw [← h.len, g.len]
  exact low_unique h.mass g.mass hl d e hd he fun k hk => by rw [← hm k hk, hn k (by omega)]

theorem sumL_nonneg {M : Int} {P : List Int} (h : allB 0 M P = true) : 0 ≤ sumL P := (sumL_bd P h).1

theorem quo_gcd (P : List Int) (h : gcdL P ≠ 0) : gcdL (quoTo P P.length) = 1 := by
  have h1 : gcdL (quoTo P P.length) * gcdL P ∣ gcdL P := dvd_gcdL P _ fun j hj => by
    obtain ⟨c, hc⟩ := gcdL_dvd (quoTo P P.length) j (by rw [quoTo_len]; exact hj)
    rw [← quo_mul P j hj, hc]
    refine ⟨c, ?_⟩
    rw [Int.natCast_mul, Int.mul_comm ((gcdL (quoTo P P.length) : Nat) : Int) (gcdL P : Int), Int.mul_assoc]
  have := Nat.le_of_dvd (by omega) h1
  have h0 : 0 < gcdL P := by omega
  have h2 : gcdL (quoTo P P.length) ≠ 0 := fun e => by rw [e, Nat.zero_mul] at h1; exact h (Nat.eq_zero_of_zero_dvd h1)
  have : gcdL (quoTo P P.length) * gcdL P ≤ 1 * gcdL P := by omega
  have := Nat.le_of_mul_le_mul_right this h0
  omega

theorem gcd_zero_sum {P : List Int} (h : gcdL P = 0) : sumL P = 0 := by
  rw [sumL_sm, sm_congr (g := fun _ => 0), sm_zero]
  intro k hk
  have := gcdL_dvd P k hk
  rw [h] at this
  exact Int.zero_dvd.1 this

/-- Parts whose sum is positive and not too great make a mass. -/
theorem mk_ok {s M : Int} {P : List Int} (hs : szB s = true) (hl : (P.length : Int) = pow2 s) (ha : allB 0 M P = true) (h1 : 0 < sumL P) (h2 : sumL P ≤ 1000000) : mkOk s P = true := by
  have hg : gcdL P ≠ 0 := fun e => by have := gcd_zero_sum e; omega
  have hn : ∀ k, k < P.length → 0 ≤ nth P k := fun k hk => (allB_iff.1 ha k hk).1
  have hq : ∀ k, k < P.length → 0 ≤ nth (quoTo P P.length) k ∧ nth (quoTo P P.length) k ≤ nth P k := fun k hk => by
    have e := quo_mul P k hk
    have n0 := hn k hk
    rw [quo_nth P k hk]
    exact ⟨Int.ediv_nonneg n0 (by omega), Int.ediv_le_self _ n0⟩
  have hsum : sumL P = (gcdL P : Int) * sumL (quoTo P P.length) := by
    rw [sumL_sm, sumL_sm, quoTo_len, ← sm_mul]
    exact sm_congr fun k hk => (quo_mul P k hk).symm
  have hle : sumL (quoTo P P.length) ≤ sumL P := by
    rw [sumL_sm, sumL_sm, quoTo_len]; exact sm_le fun k hk => (hq k hk).2
  have hge : 0 ≤ sumL (quoTo P P.length) := by
    rw [sumL_sm, quoTo_len]; exact sm_nonneg fun k hk => (hq k hk).1
  have hpos : sumL (quoTo P P.length) ≠ 0 := fun e => by rw [e, Int.mul_zero] at hsum; omega
  have hall : allB 0 1000000 (quoTo P P.length) = true := allB_iff.2 fun k hk => by
    rw [quoTo_len] at hk
    refine ⟨(hq k hk).1, ?_⟩
    have : nth P k ≤ sumL P := by rw [sumL_sm]; exact sm_pick hn k hk
    have := (hq k hk).2; omega
  simp only [mkOk, massB, Bool.and_eq_true, Bool.not_eq_true', decide_eq_false_iff_not, decide_eq_true_eq, quoTo_len, inB]
  exact ⟨hg, hs, hl, hall, ⟨by omega, by omega⟩, quo_gcd P hg⟩

theorem mk_no {s M : Int} {P : List Int} (hs : szB s = true) (hl : (P.length : Int) = pow2 s) (ha : allB 0 M P = true) (h2 : sumL P ≤ 1000000) (h : mkOk s P = false) : sumL P = 0 := by
  by_cases h1 : 0 < sumL P
  · rw [mk_ok hs hl ha h1 h2] at h; exact absurd h (by simp)
  · have := sumL_nonneg ha; omega

theorem low_mk {s : Int} {P K : List Int} (h : Low s P K) : mkOk s P = true ∧ mkL s P = K := by
  obtain ⟨d, hd, hm⟩ := h.mul
  have hk := massB_ok h.mass
  have hs : szB s = true := hk.sz
  have hg : gcdL P = d.toNat := by
    apply Nat.dvd_antisymm
    · -- gcdL P divides d: it divides d * K_k for all k, and gcd K = 1
      obtain ⟨a, rfl⟩ := Int.eq_ofNat_of_zero_le (show 0 ≤ d by omega)
      have h2 : ∀ k, k ≤ K.length → gcdL P ∣ a * gcdL (K.take k) := by
        intro k
        induction k with
        | zero => intro _; simp [gcdL]
        | succ k ih =>
          intro hk2
          rw [take_succ_getD K k (by omega), gcdL_snoc, ← Nat.gcd_mul_left]
          refine Nat.dvd_gcd (ih (by omega)) ?_
          have := Int.ofNat_dvd_left.1 (gcdL_dvd P k (by rw [h.len]; omega))
          rw [hm k (by omega), Int.natAbs_mul] at this
          simpa using this
      have := h2 K.length (Nat.le_refl _)
      rw [List.take_length, hk.gcd, Nat.mul_one] at this
      simpa using this
    · exact dvd_gcdL P _ fun j hj => ⟨nth K j, by rw [hm j (by rw [← h.len]; exact hj), Int.toNat_of_nonneg (by omega)]⟩
  have hq : quoTo P P.length = K := nth_ext2 _ _ (by rw [quoTo_len, h.len]) fun k hk2 => by
    rw [quoTo_len] at hk2
    rw [quo_nth P k hk2, hg, Int.toNat_of_nonneg (by omega), hm k (by rw [← h.len]; exact hk2)]
    exact Int.mul_ediv_cancel_left _ (by omega)
  have hok : mkOk s P = true := by
    simp only [mkOk, Bool.and_eq_true, Bool.not_eq_true', decide_eq_false_iff_not, hq]
    exact ⟨by omega, h.mass⟩
  exact ⟨hok, by rw [mkL, if_pos hok, hq]⟩

theorem low_self {s : Int} {K : List Int} (h : massB s K = true) : Low s K K := ⟨h, rfl, 1, by omega, fun k _ => by omega⟩

end Go.Proofs.Ytjmfjgoehicgcaa
