/- Plain facts on the mass of levels. -/
import Derived.Test.YtmbipmdflbddbaaZ1
import Derived.Test.YtmbipmdflbddbaaL9b
import Derived.Test.YtmbipmdflbddbaaK1
set_option linter.unusedVariables false
set_option linter.unusedSimpArgs false
namespace Go.Proofs.Ytmbipmdflbddbaa
open Go.RowKit

theorem sm_split (U k : Nat) (f : Nat → Int) : sm (U + k) f = sm U f + sm k (fun t => f (U + t)) := by
  induction k with
  | zero => simp [sm]
  | succ k ih => rw [← Nat.add_assoc, sm, ih, sm]; omega
theorem sm_const (k : Nat) (c : Int) : sm k (fun _ => c) = k * c := by
  induction k with
  | zero => simp [sm]
  | succ k ih => rw [sm, ih, Int.natCast_succ, Int.add_mul]; omega

/-- How many of the first T levels have a set for their cut. -/
def lvF (xs : List Int) (a T : Nat) : Int := sm T (fun t => if cutTo xs ((t : Int) + 1) xs.length = a then 1 else 0)
/-- The parts of the mass of levels. -/
def lvP (xs : List Int) : List Int := (List.range (2 ^ xs.length)).map (fun a => lvF xs a (topL xs).toNat)

theorem lvP_len (xs : List Int) : (lvP xs).length = 2 ^ xs.length := by simp [lvP]
theorem lvP_nth (xs : List Int) (a : Nat) (h : a < 2 ^ xs.length) : nth (lvP xs) a = lvF xs a (topL xs).toNat := by
  rw [nth_eq _ _ (by rw [lvP_len]; exact h)]; simp [lvP]
theorem lvF_bd (xs : List Int) (a T : Nat) : 0 ≤ lvF xs a T ∧ lvF xs a T ≤ T := by
  refine ⟨sm_nonneg fun k _ => by split <;> omega, ?_⟩
  have := sm_le (n := T) (f := fun t => if cutTo xs ((t : Int) + 1) xs.length = a then (1 : Int) else 0) (g := fun _ => 1) fun k _ => by split <;> omega
  rw [sm_const, Int.mul_one] at this
  exact this

theorem cutTo_congr (xs : List Int) (l m : Int) : ∀ k, (∀ i, i < k → (l ≤ nth xs i ↔ m ≤ nth xs i)) → cutTo xs l k = cutTo xs m k
  | 0, _ => by simp [cutTo]
  | k + 1, h => by
    rw [cutTo_succ, cutTo_succ, cutTo_congr xs l m k (fun i hi => h i (by omega))]
    have := h k (by omega)
    by_cases e : l ≤ nth xs k
    · rw [if_pos e, if_pos (this.1 e)]
    · rw [if_neg e, if_neg (fun h2 => e (this.2 h2))]

/-- Between two levels with none of the list in between all cuts are one. -/
theorem lvF_step (xs : List Int) (a U V : Nat) (hUV : U ≤ V) (h : ∀ i, i < xs.length → ∀ t : Nat, U ≤ t → t < V → ((t : Int) + 1 ≤ nth xs i ↔ (V : Int) ≤ nth xs i)) :
    lvF xs a V = lvF xs a U + if cutTo xs V xs.length = a then (V : Int) - U else 0 := by
  obtain ⟨k, rfl⟩ : ∃ k, V = U + k := ⟨V - U, by omega⟩
  unfold lvF
  rw [sm_split]
  congr 1
  have e : ∀ t, t < k → cutTo xs (((U + t : Nat) : Int) + 1) xs.length = cutTo xs ((U + k : Nat) : Int) xs.length := fun t ht =>
    cutTo_congr xs _ _ _ fun i hi => h i hi (U + t) (by omega) (by omega)
  rw [sm_congr (g := fun _ => if cutTo xs ((U + k : Nat) : Int) xs.length = a then 1 else 0) (fun t ht => by rw [e t ht]), sm_const]
  split <;> simp <;> omega

theorem topL_take (xs : List Int) : ∀ k, k ≤ xs.length → 0 ≤ topL (xs.take k) ∧ (∀ i, i < k → nth xs i ≤ topL (xs.take k)) ∧ (topL (xs.take k) = 0 ∨ ∃ i, i < k ∧ nth xs i = topL (xs.take k))
  | 0, _ => ⟨by simp [topL], fun i hi => by omega, .inl (by simp [topL])⟩
  | k + 1, h => by
    obtain ⟨h0, h1, h2⟩ := topL_take xs k (by omega)
    rw [take_succ_getD xs k (by omega), topL_snoc]
    refine ⟨by omega, ?_, ?_⟩
    · intro i hi
      by_cases e : i = k
      · subst e; omega
      · have := h1 i (by omega); omega
    · by_cases e : topL (xs.take k) ≤ nth xs k
      · exact .inr ⟨k, by omega, by omega⟩
      · rcases h2 with h2 | ⟨i, hi, h2⟩
        · left; omega
        · right; exact ⟨i, by omega, by omega⟩
theorem topL_parts (xs : List Int) : 0 ≤ topL xs ∧ (∀ i, i < xs.length → nth xs i ≤ topL xs) ∧ (topL xs = 0 ∨ ∃ i, i < xs.length ∧ nth xs i = topL xs) := by
  have := topL_take xs xs.length (Nat.le_refl _)
  rwa [List.take_length] at this

/-- The different levels, 0 among them, ascending. -/
structure LvU (us xs : List Int) : Prop where
  inc : ∀ p q, p < q → q < us.length → nth us p < nth us q
  mem : ∀ v, (∃ p, p < us.length ∧ nth us p = v) ↔ (v = 0 ∨ ∃ i, i < xs.length ∧ nth xs i = v)

theorem lvU_of {us xs : List Int} (h : Uniq us (0 :: xs)) : LvU us xs := by
  refine ⟨h.inc, fun v => (h.vals v).trans ⟨?_, ?_⟩⟩
  · rintro ⟨p, hp, rfl⟩
    cases p with
    | zero => left; rfl
    | succ p => right; exact ⟨p, by simpa using hp, by simp [nth]⟩
  · rintro (rfl | ⟨i, hi, rfl⟩)
    · exact ⟨0, by simp, rfl⟩
    · exact ⟨i + 1, by simpa using hi, by simp [nth]⟩

theorem LvU.one {us xs : List Int} (h : LvU us xs) : 0 < us.length := by
  obtain ⟨p, hp, _⟩ := (h.mem 0).2 (.inl rfl); omega
theorem LvU.le {us xs : List Int} (h : LvU us xs) (p q : Nat) (hpq : p ≤ q) (hq : q < us.length) : nth us p ≤ nth us q := by
  by_cases e : p = q
  · subst e; omega
  · have := h.inc p q (by omega) hq; omega
theorem LvU.bd {us xs : List Int} (h : LvU us xs) (hx : allB 0 1000000 xs = true) (p : Nat) (hp : p < us.length) : 0 ≤ nth us p ∧ nth us p ≤ 1000000 := by
  rcases (h.mem (nth us p)).1 ⟨p, hp, rfl⟩ with e | ⟨i, hi, e⟩
  · omega
  · rw [← e]; exact allB_nth hx i hi
theorem LvU.zero {us xs : List Int} (h : LvU us xs) (hx : allB 0 1000000 xs = true) : nth us 0 = 0 := by
  obtain ⟨p, hp, e⟩ := (h.mem 0).2 (.inl rfl)
  have := h.le 0 p (by omega) hp
  have := (h.bd hx 0 h.one).1
  omega
theorem LvU.top {us xs : List Int} (h : LvU us xs) (hx : allB 0 1000000 xs = true) : nth us (us.length - 1) = topL xs := by
  have h1 := h.one
  obtain ⟨t0, t1, t2⟩ := topL_parts xs
  have a : nth us (us.length - 1) ≤ topL xs := by
    rcases (h.mem _).1 ⟨us.length - 1, by omega, rfl⟩ with e | ⟨i, hi, e⟩
    · omega
    · rw [← e]; exact t1 i hi
  have b : topL xs ≤ nth us (us.length - 1) := by
    have : ∃ p, p < us.length ∧ nth us p = topL xs := (h.mem _).2 (by rcases t2 with e | e; exact .inl e; exact .inr e)
    obtain ⟨p, hp, e⟩ := this
    rw [← e]; exact h.le p _ (by omega) (by omega)
  omega

/-- One more level. -/
theorem LvU.step {us xs : List Int} (h : LvU us xs) (hx : allB 0 1000000 xs = true) (a i : Nat) (hi1 : 1 ≤ i) (hi : i < us.length) :
    lvF xs a (nth us i).toNat = lvF xs a (nth us (i - 1)).toNat + if cutTo xs (nth us i) xs.length = a then nth us i - nth us (i - 1) else 0 := by
  have b1 := (h.bd hx i hi).1
  have b0 := (h.bd hx (i - 1) (by omega)).1
  have hlt := h.inc (i - 1) i (by omega) hi
  have := lvF_step xs a (nth us (i - 1)).toNat (nth us i).toNat (by omega) (fun q hq t ht1 ht2 => by
    rw [Int.toNat_of_nonneg b1]
    refine ⟨fun hv => ?_, fun hv => by omega⟩
    obtain ⟨p, hp, e⟩ := (h.mem (nth xs q)).2 (.inr ⟨q, hq, rfl⟩)
    rw [← e] at hv ⊢
    by_cases c : i ≤ p
    · exact h.le i p c hp
    · have := h.le p (i - 1) (by omega) (by omega); omega)
  rw [Int.toNat_of_nonneg b1, Int.toNat_of_nonneg b0] at this
  exact this

/-- The reference's way: what is below a level, and whether an answer is the first with its level. -/
def belTo (xs : List Int) (v : Int) (k : Nat) : Int := (List.range k).foldl (fun m y => if nth xs y < v then max m (nth xs y) else m) 0
theorem belTo_succ (xs : List Int) (v : Int) (k : Nat) : belTo xs v (k + 1) = if nth xs k < v then max (belTo xs v k) (nth xs k) else belTo xs v k := by simp [belTo, List.range_succ]
def firTo (xs : List Int) (x k : Nat) : Bool := (List.range k).all fun y => decide (x ≤ y) || (nth xs y != nth xs x)
theorem firTo_succ (xs : List Int) (x k : Nat) : firTo xs x (k + 1) = (firTo xs x k && (decide (x ≤ k) || (nth xs k != nth xs x))) := by simp [firTo, List.range_succ]

theorem belTo_parts (xs : List Int) (v : Int) : ∀ k, 0 ≤ belTo xs v k ∧ (∀ y, y < k → nth xs y < v → nth xs y ≤ belTo xs v k) ∧ (belTo xs v k = 0 ∨ ∃ y, y < k ∧ nth xs y < v ∧ nth xs y = belTo xs v k)
  | 0 => ⟨by simp [belTo], fun y hy => by omega, .inl (by simp [belTo])⟩
  | k + 1 => by
    obtain ⟨h0, h1, h2⟩ := belTo_parts xs v k
    rw [belTo_succ]
    by_cases e : nth xs k < v
    · rw [if_pos e]
      refine ⟨by omega, ?_, ?_⟩
      · intro y hy hv
        by_cases c : y = k
        · subst c; omega
        · have := h1 y (by omega) hv; omega
      · by_cases c : belTo xs v k ≤ nth xs k
        · exact .inr ⟨k, by omega, e, by omega⟩
        · rcases h2 with h2 | ⟨y, hy, hv, h2⟩
          · left; omega
          · right; exact ⟨y, by omega, hv, by omega⟩
    · rw [if_neg e]
      refine ⟨h0, ?_, ?_⟩
      · intro y hy hv
        by_cases c : y = k
        · subst c; omega
        · exact h1 y (by omega) hv
      · rcases h2 with h2 | ⟨y, hy, hv, h2⟩
        · exact .inl h2
        · exact .inr ⟨y, by omega, hv, h2⟩

theorem firTo_iff (xs : List Int) (x k : Nat) : firTo xs x k = true ↔ ∀ y, y < k → y < x → nth xs y ≠ nth xs x := by
  simp only [firTo, List.all_eq_true, List.mem_range, Bool.or_eq_true, decide_eq_true_eq, bne_iff_ne]
  constructor
  · intro h y hy hx; rcases h y hy with a | a
    · omega
    · exact a
  · intro h y hy
    by_cases a : x ≤ y
    · exact .inl a
    · exact .inr (h y hy (by omega))

/-- What the reference has given a set behind x rounds. -/
def refF (xs : List Int) (a x : Nat) : Int := sm x fun y => if firTo xs y xs.length = true then (if cutTo xs (nth xs y) xs.length = a then nth xs y - belTo xs (nth xs y) xs.length else 0) else 0

theorem least_value (xs : List Int) (t : Int) : ∀ k, (∃ i, i < k ∧ t < nth xs i) → ∃ i, i < k ∧ t < nth xs i ∧ (∀ j, j < k → t < nth xs j → nth xs i ≤ nth xs j) ∧ ∀ j, j < i → nth xs j ≠ nth xs i
  | 0, ⟨i, hi, _⟩ => by omega
  | k + 1, h => by
    by_cases e : ∃ i, i < k ∧ t < nth xs i
    · obtain ⟨i, hi, h1, h2, h3⟩ := least_value xs t k e
      by_cases c : t < nth xs k ∧ nth xs k < nth xs i
      · refine ⟨k, by omega, c.1, fun j hj hv => ?_, fun j hj he => ?_⟩
        · by_cases d : j = k
          · subst d; omega
          · have := h2 j (by omega) hv; omega
        · have := h2 j hj (by rw [he]; exact c.1); omega
      · refine ⟨i, by omega, h1, fun j hj hv => ?_, h3⟩
        by_cases d : j = k
        · subst d; exact Int.not_lt.1 fun h => c ⟨hv, h⟩
        · exact h2 j (by omega) hv
    · obtain ⟨i, hi, hv⟩ := h
      have d : i = k := by
        by_cases d : i = k
        · exact d
        · exact absurd ⟨i, by omega, hv⟩ e
      subst d
      refine ⟨i, hi, hv, fun j hj hv2 => ?_, fun j hj he => e ⟨j, hj, by rw [he]; exact hv⟩⟩
      by_cases d : j = i
      · subst d; omega
      · exact absurd ⟨j, by omega, hv2⟩ e

theorem sm_interval (T : Nat) (lo hi : Int) (h0 : 0 ≤ lo) (h1 : lo ≤ hi) (h2 : hi ≤ T) : sm T (fun t => if lo ≤ (t : Int) ∧ (t : Int) < hi then 1 else 0) = hi - lo := by
  obtain ⟨a, rfl⟩ := Int.eq_ofNat_of_zero_le h0
  obtain ⟨b, rfl⟩ := Int.eq_ofNat_of_zero_le (show 0 ≤ hi by omega)
  obtain ⟨k, rfl⟩ : ∃ k, b = a + k := ⟨b - a, by omega⟩
  obtain ⟨m, rfl⟩ : ∃ m, T = a + (k + m) := ⟨T - (a + k), by omega⟩
  rw [sm_split, sm_split]
  rw [sm_congr (n := a) (g := fun _ => 0) (fun t ht => if_neg (by omega)), sm_zero, sm_congr (n := k) (g := fun _ => 1) (fun t ht => if_pos (by omega)), sm_const, sm_congr (n := m) (g := fun _ => 0) (fun t ht => if_neg (by omega)), sm_zero]
  omega

theorem ref_all (xs : List Int) (hx : allB 0 1000000 xs = true) (a : Nat) : refF xs a xs.length = lvF xs a (topL xs).toNat := by
  obtain ⟨t0, t1, t2⟩ := topL_parts xs
  unfold refF lvF
  -- each first answer's share as a sum over the levels
  have h1 : sm xs.length (fun y => if firTo xs y xs.length = true then (if cutTo xs (nth xs y) xs.length = a then nth xs y - belTo xs (nth xs y) xs.length else 0) else 0) =
      sm xs.length (fun y => sm (topL xs).toNat (fun t => if cutTo xs ((t : Int) + 1) xs.length = a then (if firTo xs y xs.length = true ∧ belTo xs (nth xs y) xs.length ≤ (t : Int) ∧ (t : Int) < nth xs y then 1 else 0) else 0)) := by
    apply sm_congr
    intro y hy
    obtain ⟨b0, b1, b2⟩ := belTo_parts xs (nth xs y) xs.length
    have hyt := t1 y hy
    have hy0 := (allB_nth hx y hy).1
    have hble : belTo xs (nth xs y) xs.length ≤ nth xs y := by
      rcases b2 with e | ⟨z, _, hz, e⟩ <;> omega
    by_cases hf : firTo xs y xs.length = true
    · rw [if_pos hf]
      rw [sm_congr (g := fun t => (if cutTo xs (nth xs y) xs.length = a then 1 else 0) * (if belTo xs (nth xs y) xs.length ≤ (t : Int) ∧ (t : Int) < nth xs y then 1 else 0)) (fun t ht => by
        by_cases c : belTo xs (nth xs y) xs.length ≤ (t : Int) ∧ (t : Int) < nth xs y
        · have e : cutTo xs ((t : Int) + 1) xs.length = cutTo xs (nth xs y) xs.length := cutTo_congr xs _ _ _ fun i hi => ⟨fun hv => Int.not_lt.1 fun hlt => by have := b1 i hi hlt; omega, fun hv => by omega⟩
          rw [e, if_pos c]
          simp [hf, c]
        · have : ¬ (firTo xs y xs.length = true ∧ belTo xs (nth xs y) xs.length ≤ (t : Int) ∧ (t : Int) < nth xs y) := fun h => c h.2
          rw [if_neg c, if_neg this]; simp), sm_mul, sm_interval _ _ _ b0 hble (by omega)]
      split <;> simp
    · rw [if_neg hf, sm_congr (g := fun _ => 0) (fun t ht => by
        have : ¬ (firTo xs y xs.length = true ∧ belTo xs (nth xs y) xs.length ≤ (t : Int) ∧ (t : Int) < nth xs y) := fun h => hf h.1
        rw [if_neg this]; simp), sm_zero]
  rw [h1, sm_swap]
  apply sm_congr
  intro t ht
  by_cases hc : cutTo xs ((t : Int) + 1) xs.length = a
  · simp only [hc, if_true]
    have hex : ∃ i, i < xs.length ∧ (t : Int) < nth xs i := by
      rcases t2 with e | ⟨i, hi, e⟩
      · omega
      · exact ⟨i, hi, by omega⟩
    obtain ⟨i, hi, v1, v2, v3⟩ := least_value xs t xs.length hex
    have hgood : firTo xs i xs.length = true ∧ belTo xs (nth xs i) xs.length ≤ (t : Int) ∧ (t : Int) < nth xs i := by
      refine ⟨(firTo_iff _ _ _).2 fun y _ hy => v3 y hy, ?_, v1⟩
      obtain ⟨b0, b1, b2⟩ := belTo_parts xs (nth xs i) xs.length
      rcases b2 with e | ⟨z, hz, hv, e⟩
      · omega
      · rw [← e]; exact Int.not_lt.1 fun h => by have := v2 z hz h; omega
    rw [sm_single i hi, if_pos hgood]
    intro y hy hne
    refine if_neg fun hg => ?_
    obtain ⟨g1, g2, g3⟩ := hg
    obtain ⟨b0, b1, b2⟩ := belTo_parts xs (nth xs y) xs.length
    have e : nth xs y = nth xs i := by
      have := v2 y hy g3
      by_cases c : nth xs i < nth xs y
      · have := b1 i hi c; omega
      · omega
    rcases Nat.lt_or_gt_of_ne hne with c | c
    · exact v3 y c e
    · exact (firTo_iff _ _ _).1 g1 i hi c e.symm
  · simp only [hc, if_false]
    exact sm_zero _

theorem lvP_all {xs : List Int} (hx : allB 0 1000000 xs = true) : allB 0 1000000 (lvP xs) = true := allB_iff.2 fun k hk => by
  rw [lvP_len] at hk
  have h := lvF_bd xs k (topL xs).toNat
  rw [lvP_nth xs k hk]
  have := topL_bd hx
  omega

end Go.Proofs.Ytmbipmdflbddbaa
