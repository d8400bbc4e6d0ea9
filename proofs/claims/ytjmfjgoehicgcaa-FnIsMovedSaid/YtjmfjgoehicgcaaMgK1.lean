/- A short list of numbers sorted in place, and cut to its different ones. -/
import Derived.Test.YtjmfjgoehicgcaaMgK7
import Derived.CellFam
import Derived.BigGuard
import Derived.BigCall
import Derived.Deep.Draws
import Derived.Deep.QuietTactic
import Derived.Lib.SliceRun
import Derived.Deep.LoopGhost
import Derived.IntWalk
import Derived.Test.YtjmfjgoehicgcaaMgM3
set_option linter.unusedVariables false
set_option linter.unusedSimpArgs false
namespace Go.Proofs.Ytjmfjgoehicgcaa
open Go.RowKit

/-- Two lists with the same numbers in them. -/
def Vals (xs ys : List Int) : Prop := ∀ v, (∃ p, p < xs.length ∧ nth xs p = v) ↔ (∃ p, p < ys.length ∧ nth ys p = v)
def SortedTo (zs : List Int) (i : Nat) : Prop := ∀ p q, p < q → q < i → nth zs p ≤ nth zs q
structure Inner (zs : List Int) (i j : Nat) : Prop where
  le : j ≤ i
  others : ∀ p q, p < q → q ≤ i → p ≠ j → q ≠ j → nth zs p ≤ nth zs q
  behind : ∀ q, j < q → q ≤ i → nth zs j ≤ nth zs q

theorem Inner.start {zs : List Int} {i : Nat} (h : SortedTo zs i) : Inner zs i i :=
  ⟨Nat.le_refl _, fun p q h1 h2 h3 h4 => h p q h1 (by omega), fun q h1 h2 => by omega⟩

theorem nth_set_at (ys : List Int) (k : Nat) (y : Int) (h : k < ys.length) : nth (ys.set k y) k = y := by
  rw [nth_eq _ _ (by rw [List.length_set]; exact h), List.getElem_set_self]
theorem nth_set_no (ys : List Int) (k j : Nat) (y : Int) (h : j ≠ k) : nth (ys.set k y) j = nth ys j := by
  simp [nth, List.getD, List.getElem?_set_ne (Ne.symm h)]

def swapped (zs : List Int) (j : Nat) : List Int := (zs.set (j + 1) (nth zs j)).set j (nth zs (j + 1))
theorem swapped_len (zs : List Int) (j : Nat) : (swapped zs j).length = zs.length := by simp [swapped]
theorem swapped_low (zs : List Int) (j : Nat) (h : j + 1 < zs.length) : nth (swapped zs j) j = nth zs (j + 1) := nth_set_at _ _ _ (by rw [List.length_set]; omega)
theorem swapped_high (zs : List Int) (j : Nat) (h : j + 1 < zs.length) : nth (swapped zs j) (j + 1) = nth zs j := by
  rw [swapped, nth_set_no _ _ _ _ (by omega), nth_set_at _ _ _ h]
theorem swapped_off (zs : List Int) (j k : Nat) (h1 : k ≠ j) (h2 : k ≠ j + 1) : nth (swapped zs j) k = nth zs k := by
  rw [swapped, nth_set_no _ _ _ _ h1, nth_set_no _ _ _ _ h2]

theorem Inner.swap {zs : List Int} {i j : Nat} (h : Inner zs i (j + 1)) (hi : i < zs.length) (hlt : nth zs (j + 1) < nth zs j) : Inner (swapped zs j) i j := by
  have hj : j + 1 < zs.length := by have := h.le; omega
  have e0 := swapped_low zs j hj
  have e1 := swapped_high zs j hj
  have hle := h.le
  refine ⟨by omega, ?_, ?_⟩
  · intro p q hpq hq hp hq2
    by_cases a : q = j + 1
    · subst a
      rw [e1, swapped_off zs j p hp (by omega)]
      exact h.others p j (by omega) (by omega) (by omega) (by omega)
    · by_cases b : p = j + 1
      · subst b
        rw [e1, swapped_off zs j q hq2 a]
        exact h.others j q (by omega) hq (by omega) a
      · rw [swapped_off zs j p hp b, swapped_off zs j q hq2 a]
        exact h.others p q hpq hq b a
  · intro q h1 h2
    rw [e0]
    by_cases a : q = j + 1
    · subst a; rw [e1]; omega
    · rw [swapped_off zs j q (by omega) a]
      exact h.behind q (by omega) h2

theorem Inner.stop {zs : List Int} {i j : Nat} (h : Inner zs i j) (hs : j = 0 ∨ nth zs (j - 1) ≤ nth zs j) : SortedTo zs (i + 1) := by
  intro p q hpq hq
  by_cases a : p = j
  · subst a; exact h.behind q hpq (by omega)
  · by_cases b : q = j
    · subst b
      rcases hs with hs | hs
      · omega
      · by_cases c : p = q - 1
        · rw [c]; exact hs
        · have := h.others p (q - 1) (by omega) (by have := h.le; omega) a (by omega); omega
    · exact h.others p q hpq (by omega) a b

theorem Vals.refl (xs : List Int) : Vals xs xs := fun v => Iff.rfl
theorem Vals.trans {a b c : List Int} (h : Vals a b) (k : Vals b c) : Vals a c := fun v => (h v).trans (k v)
theorem Vals.swapped {zs ys : List Int} (h : Vals zs ys) (j : Nat) (hj : j + 1 < zs.length) : Vals (swapped zs j) ys := by
  refine Vals.trans (fun v => ?_) h
  rw [swapped_len]
  constructor
  · rintro ⟨p, hp, rfl⟩
    by_cases a : p = j
    · subst a; exact ⟨p + 1, hj, (swapped_low zs p hj).symm⟩
    · by_cases b : p = j + 1
      · subst b; exact ⟨j, by omega, (swapped_high zs j hj).symm⟩
      · exact ⟨p, hp, (swapped_off zs j p a b).symm⟩
  · rintro ⟨p, hp, rfl⟩
    by_cases a : p = j
    · subst a; exact ⟨p + 1, hj, swapped_high zs p hj⟩
    · by_cases b : p = j + 1
      · subst b; exact ⟨j, by omega, swapped_low zs j hj⟩
      · exact ⟨p, hp, swapped_off zs j p a b⟩

theorem Own.drewN {B : Nat} {w : World} {v : Value} {xs : List Int} (h : Own B w v xs) (k : Nat) : Own B (w.drewN k) v xs := h

/-- What the second loop keeps. -/
structure CompI (n : Nat) (zs us : List Int) (r kk : Nat) : Prop where
  one : 1 ≤ kk
  lt : kk < r
  le : r ≤ n
  orig : ∀ q, r - 1 ≤ q → q < n → nth us q = nth zs q
  inc : ∀ p q, p < q → q < kk → nth us p < nth us q
  last : nth us (kk - 1) = nth zs (r - 1)
  vals : ∀ v, (∃ p, p < kk ∧ nth us p = v) ↔ (∃ p, p < r ∧ nth zs p = v)

theorem CompI.start {n k : Nat} {zs : List Int} (h1 : 1 ≤ k) (hk : k < n) (hi : ∀ p q, p < q → q < k → nth zs p < nth zs q) (hd : nth zs k = nth zs (k - 1)) : CompI n zs zs (k + 1) k := by
  refine ⟨h1, by omega, by omega, fun q _ _ => rfl, hi, by simp [hd], fun v => ⟨?_, ?_⟩⟩
  · rintro ⟨p, hp, rfl⟩; exact ⟨p, by omega, rfl⟩
  · rintro ⟨p, hp, rfl⟩
    by_cases e : p = k
    · subst e; exact ⟨p - 1, by omega, hd.symm⟩
    · exact ⟨p, by omega, rfl⟩

theorem CompI.skip {n r kk : Nat} {zs us : List Int} (h : CompI n zs us r kk) (hr : r < n) (hd : nth zs r = nth zs (r - 1)) : CompI n zs us (r + 1) kk := by
  have := h.one
  have := h.lt
  refine ⟨h.one, by omega, by omega, fun q h1 h2 => h.orig q (by omega) h2, h.inc, by rw [h.last, Nat.add_sub_cancel, hd], fun v => ⟨?_, ?_⟩⟩
  · intro hv; obtain ⟨p, hp, e⟩ := (h.vals v).1 hv; exact ⟨p, by omega, e⟩
  · rintro ⟨p, hp, rfl⟩
    by_cases e : p = r
    · subst e; exact (h.vals _).2 ⟨p - 1, by omega, hd.symm⟩
    · exact (h.vals _).2 ⟨p, by omega, rfl⟩

theorem CompI.keep {n r kk : Nat} {zs us : List Int} (h : CompI n zs us r kk) (hn : us.length = n) (hr : r < n) (hs : SortedTo zs n) (hd : nth zs r ≠ nth zs (r - 1)) : CompI n zs (us.set kk (nth zs r)) (r + 1) (kk + 1) := by
  have h1 := h.one
  have h2 := h.lt
  have hlt : nth zs (r - 1) < nth zs r := by have := hs (r - 1) r (by omega) hr; omega
  have hat : nth (us.set kk (nth zs r)) kk = nth zs r := nth_set_at _ _ _ (by omega)
  have hoff : ∀ q, q ≠ kk → nth (us.set kk (nth zs r)) q = nth us q := fun q hq => nth_set_no _ _ _ _ hq
  refine ⟨by omega, by omega, by omega, ?_, ?_, by rw [Nat.add_sub_cancel, Nat.add_sub_cancel]; exact hat, fun v => ⟨?_, ?_⟩⟩
  · intro q a b; rw [hoff q (by omega)]; exact h.orig q (by omega) b
  · intro p q hpq hq
    rw [hoff p (by omega)]
    by_cases e : q = kk
    · subst e
      rw [hat]
      by_cases c : p = q - 1
      · subst c; rw [h.last]; exact hlt
      · have := h.inc p (q - 1) (by omega) (by omega); rw [h.last] at this; omega
    · rw [hoff q e]; exact h.inc p q hpq (by omega)
  · rintro ⟨p, hp, rfl⟩
    by_cases e : p = kk
    · subst e; exact ⟨r, by omega, hat.symm⟩
    · rw [hoff p e]
      obtain ⟨q, hq, e2⟩ := (h.vals (nth us p)).1 ⟨p, by omega, rfl⟩
      exact ⟨q, by omega, e2⟩
  · rintro ⟨p, hp, rfl⟩
    by_cases e : p = r
    · subst e; exact ⟨kk, by omega, hat⟩
    · obtain ⟨q, hq, e2⟩ := (h.vals (nth zs p)).2 ⟨p, by omega, rfl⟩
      exact ⟨q, by omega, by rw [hoff q (by omega)]; exact e2⟩

/-- The different numbers of a list, ascending. -/
structure Uniq (us zs : List Int) : Prop where
  inc : ∀ p q, p < q → q < us.length → nth us p < nth us q
  vals : Vals us zs

theorem take_nth (us : List Int) (k q : Nat) (h : q < k) : nth (us.take k) q = nth us q := by
  simp [nth, List.getD, h]

theorem CompI.done {n kk : Nat} {zs us : List Int} (h : CompI n zs us n kk) (hz : zs.length = n) (hu : us.length = n) : Uniq (us.take kk) zs := by
  have := h.lt
  have hl : (us.take kk).length = kk := by simp; omega
  refine ⟨fun p q a b => ?_, fun v => ?_⟩
  · rw [hl] at b
    rw [take_nth _ _ _ (by omega), take_nth _ _ _ b]; exact h.inc p q a b
  · rw [hl, hz, ← h.vals v]
    constructor
    · rintro ⟨p, hp, rfl⟩; exact ⟨p, hp, (take_nth _ _ _ hp).symm⟩
    · rintro ⟨p, hp, rfl⟩; exact ⟨p, hp, take_nth _ _ _ hp⟩

theorem below_setCells {B b : Nat} {w a : World} (h : Below B w a) (hb : B ≤ b) : ∀ (vs : List Value) (o : Nat), Below B w (a.setCells b o vs)
  | [], _ => h
  | v :: r, o => below_setCells (h.setCell (p := ⟨b, o, none⟩) hb v) hb r (o + 1)

theorem zero_int (w : World) : (zeroValue 3).run Try.prog w = .ok (.int .i64 0) w := by
  kernel_rfl

theorem heap_setCells (b : Nat) : ∀ (vs : List Value) (o : Nat) (w : World), (w.setCells b o vs).heap.size = w.heap.size
  | [], _, _ => rfl
  | v :: r, o, w => by rw [World.setCells, heap_setCells b r]; simp

theorem reads_kept {B g n c kk : Nat} {w : World} {us : List Int} {vs : List Value} (h : Own B w (.slice (some ⟨g, 0, none⟩) n c) us) (hn : us.length = n) (hk : kk ≤ n) : Reads (w.setCells g kk vs) (some ⟨g, 0, none⟩) (us.take kk) := by
  intro q hq
  have hq2 : q < kk := by simp at hq; omega
  refine ⟨g, 0, rfl, by rw [heap_setCells]; exact (h.blockLt g rfl).2, ?_⟩
  rw [World.cell?_setCells_out g vs kk w _ (fun _ _ => .inl (by show 0 + q < kk; omega)), Nat.zero_add, (h.cellAt hn q (by omega)).1, take_nth _ _ _ hq2]

end Go.Proofs.Ytjmfjgoehicgcaa

/- Plain facts: sums over a range, what a list of parts gathers, masses in lowest terms. -/
set_option linter.unusedVariables false
set_option linter.unusedSimpArgs false
namespace Go.Proofs.Ytjmfjgoehicgcaa
open Go.RowKit

/-- The sum of f over the first n numbers. -/
def sm : Nat → (Nat → Int) → Int
  | 0, _ => 0
  | n + 1, f => sm n f + f n

theorem sm_congr {n : Nat} {f g : Nat → Int} (h : ∀ k, k < n → f k = g k) : sm n f = sm n g := by
  induction n with
  | zero => rfl
  | succ n ih => rw [sm, sm, ih (fun k hk => h k (by omega)), h n (by omega)]
theorem sm_add (n : Nat) (f g : Nat → Int) : sm n (fun k => f k + g k) = sm n f + sm n g := by
  induction n with
  | zero => rfl
  | succ n ih => simp only [sm]; rw [ih]; omega
theorem sm_sub (n : Nat) (f g : Nat → Int) : sm n (fun k => f k - g k) = sm n f - sm n g := by
  induction n with
  | zero => rfl
  | succ n ih => simp only [sm]; rw [ih]; omega
theorem sm_mul (n : Nat) (c : Int) (f : Nat → Int) : sm n (fun k => c * f k) = c * sm n f := by
  induction n with
  | zero => simp [sm]
  | succ n ih => simp only [sm]; rw [ih, Int.mul_add]
theorem sm_zero (n : Nat) : sm n (fun _ => 0) = 0 := by
  induction n with
  | zero => rfl
  | succ n ih => simp only [sm]; rw [ih]; rfl
theorem sm_le {n : Nat} {f g : Nat → Int} (h : ∀ k, k < n → f k ≤ g k) : sm n f ≤ sm n g := by
  induction n with
  | zero => simp [sm]
  | succ n ih => have := ih (fun k hk => h k (by omega)); have := h n (by omega); simp only [sm]; omega
theorem sm_nonneg {n : Nat} {f : Nat → Int} (h : ∀ k, k < n → 0 ≤ f k) : 0 ≤ sm n f := by
  have := sm_le (f := fun _ => 0) h; rw [sm_zero] at this; exact this
theorem sm_swap (n m : Nat) (f : Nat → Nat → Int) : sm n (fun a => sm m (fun b => f a b)) = sm m (fun b => sm n (fun a => f a b)) := by
  induction n with
  | zero => simp only [sm]; exact (sm_zero m).symm
  | succ n ih => simp only [sm]; rw [ih, sm_add]
theorem sm_one (n i : Nat) (y : Int) : sm n (fun k => if k = i then y else 0) = if i < n then y else 0 := by
  induction n with
  | zero => simp [sm]
  | succ n ih =>
    simp only [sm]; rw [ih]
    by_cases h : n = i
    · subst h; simp
    · rw [if_neg h]
      by_cases h2 : i < n
      · rw [if_pos h2, if_pos (by omega)]; omega
      · rw [if_neg h2, if_neg (by omega)]; omega
theorem sm_single {n : Nat} {f : Nat → Int} (i : Nat) (hi : i < n) (h : ∀ k, k < n → k ≠ i → f k = 0) : sm n f = f i := by
  rw [sm_congr (g := fun k => if k = i then f i else 0) (fun k hk => by by_cases e : k = i <;> simp [e]; exact h k hk e), sm_one, if_pos hi]
theorem sm_pick {n : Nat} {f : Nat → Int} (h : ∀ k, k < n → 0 ≤ f k) (i : Nat) (hi : i < n) : f i ≤ sm n f := by
  have e0 := sm_single (f := fun k => if k = i then f k else 0) i hi (fun k _ e => by simp [e])
  simp only [if_true] at e0
  rw [← e0]
  refine sm_le fun k hk => ?_
  by_cases e : k = i
  · simp [e]
  · simp only [e, if_false]; exact h k hk
theorem sm_eq_zero {n : Nat} {f : Nat → Int} (h : ∀ k, k < n → 0 ≤ f k) (h0 : sm n f ≤ 0) : ∀ k, k < n → f k = 0 := fun k hk => by
  have := sm_pick h k hk; have := h k hk; omega
/-- Sums over numbers are taken along a map. -/
theorem sm_push {n m : Nat} (F : Nat → Nat) (hF : ∀ b, b < m → F b < n) (g : Nat → Int) (p : Nat → Int) : sm n (fun c => p c * sm m (fun b => if F b = c then g b else 0)) = sm m (fun b => p (F b) * g b) := by
  rw [sm_congr (g := fun c => sm m (fun b => if F b = c then p (F b) * g b else 0)) (fun c _ => by
    rw [← sm_mul]; apply sm_congr; intro b _; by_cases e : F b = c <;> simp [e]), sm_swap]
  apply sm_congr; intro b hb
  rw [sm_congr (g := fun c => if c = F b then p (F b) * g b else 0) (fun c _ => by by_cases e : F b = c <;> simp [e]; intro h; exact absurd h.symm e), sm_one, if_pos (hF b hb)]

theorem sumTo_sm (p : Nat → Bool) (xs : List Int) (k : Nat) : sumTo p xs k = sm k (fun b => if p b = true then nth xs b else 0) := by
  induction k with
  | zero => simp [sumTo, sm]
  | succ k ih => rw [sumTo_succ, sm, ih]; cases p k <;> simp
theorem sumL_take (xs : List Int) : ∀ k, k ≤ xs.length → sumL (xs.take k) = sm k (nth xs)
  | 0, _ => by simp [sumL, sm]
  | k + 1, h => by rw [take_succ_getD xs k (by omega), sumL_snoc, sumL_take xs k (by omega), sm]
theorem sumL_sm (xs : List Int) : sumL xs = sm xs.length (nth xs) := by
  have := sumL_take xs xs.length (Nat.le_refl _); rwa [List.take_length] at this

theorem accTo_nth (f : Nat → Nat) (ys zs : List Int) (c : Nat) (hc : c < zs.length) : ∀ k, nth (accTo f ys zs k) c = nth zs c + sm k (fun b => if f b = c then nth ys b else 0)
  | 0 => by simp [accTo, sm]
  | k + 1 => by
    rw [accTo_succ, nth_addAt _ _ _ _ (by rw [accTo_len]; exact hc), accTo_nth f ys zs c hc k, sm]
    by_cases e : c = f k
    · rw [if_pos e, if_pos e.symm]; omega
    · rw [if_neg e, if_neg (fun h => e h.symm)]; omega
theorem zeros_nth0 (n k : Nat) : nth (zeros n) k = 0 := by
  unfold nth zeros
  by_cases h : k < n
  · simp [List.getD, h]
  · simp [List.getD, List.getElem?_eq_none (by simp; omega : (List.replicate n (0 : Int)).length ≤ k)]
/-- The parts that are gathered along f. -/
theorem acc_nth (f : Nat → Nat) (ys : List Int) (n m c : Nat) (hc : c < n) : nth (accTo f ys (zeros n) m) c = sm m (fun b => if f b = c then nth ys b else 0) := by
  rw [accTo_nth f ys _ c (by rw [zeros_len]; exact hc), zeros_nth0]; omega

theorem nth_set_off (ys : List Int) (k j : Nat) (y : Int) (h : j ≠ k) : nth (ys.set k y) j = nth ys j := by
  simp [nth, List.getD, List.getElem?_set_ne (Ne.symm h)]

theorem nth_ext2 (xs ys : List Int) (hl : xs.length = ys.length) (h : ∀ i, i < xs.length → nth xs i = nth ys i) : xs = ys := by
  apply List.ext_getElem hl
  intro i h1 h2
  have := h i h1
  rwa [nth_eq _ _ h1, nth_eq _ _ h2] at this

theorem gcdL_take_dvd (xs : List Int) : ∀ k, k ≤ xs.length → ∀ j, j < k → (gcdL (xs.take k)) ∣ (nth xs j).natAbs
  | 0, _, j, hj => by omega
  | k + 1, h, j, hj => by
    rw [take_succ_getD xs k (by omega), gcdL_snoc]
    by_cases e : j = k
    · subst e; exact Nat.gcd_dvd_right _ _
    · exact Nat.dvd_trans (Nat.gcd_dvd_left _ _) (gcdL_take_dvd xs k (by omega) j (by omega))
theorem gcdL_dvd (xs : List Int) (j : Nat) (hj : j < xs.length) : ((gcdL xs : Nat) : Int) ∣ nth xs j := by
  have := gcdL_take_dvd xs xs.length (Nat.le_refl _) j hj
  rw [List.take_length] at this
  exact Int.ofNat_dvd_left.2 this
theorem dvd_gcdL_take (xs : List Int) (e : Nat) : ∀ k, k ≤ xs.length → (∀ j, j < k → e ∣ (nth xs j).natAbs) → e ∣ gcdL (xs.take k)
  | 0, _, _ => by simp [gcdL]
  | k + 1, h, hd => by
    rw [take_succ_getD xs k (by omega), gcdL_snoc]
    exact Nat.dvd_gcd (dvd_gcdL_take xs e k (by omega) (fun j hj => hd j (by omega))) (hd k (by omega))
theorem dvd_gcdL (xs : List Int) (e : Nat) (h : ∀ j, j < xs.length → ((e : Nat) : Int) ∣ nth xs j) : e ∣ gcdL xs := by
  have := dvd_gcdL_take xs e xs.length (Nat.le_refl _) (fun j hj => Int.ofNat_dvd_left.1 (h j hj))
  rwa [List.take_length] at this

theorem quo_nth (ps : List Int) (k : Nat) (hk : k < ps.length) : nth (quoTo ps ps.length) k = nth ps k / (gcdL ps : Int) := by
  rw [nth_eq _ _ (by rw [quoTo_len]; exact hk)]; simp [quoTo]
theorem quo_mul (ps : List Int) (k : Nat) (hk : k < ps.length) : (gcdL ps : Int) * nth (quoTo ps ps.length) k = nth ps k := by
  rw [quo_nth ps k hk]; exact Int.mul_ediv_cancel' (gcdL_dvd ps k hk)

/-- The parts K in lowest terms are those of P: P is a whole multiple of them. -/
structure Low (s : Int) (P K : List Int) : Prop where
  mass : massB s K = true
  len : P.length = K.length
  mul : ∃ d : Int, 0 < d ∧ ∀ k, k < K.length → nth P k = d * nth K k

theorem mk_low {s : Int} {P : List Int} (h : mkOk s P = true) : Low s P (mkL s P) := by
  have h2 := h
  simp only [mkOk, Bool.and_eq_true, Bool.not_eq_true', decide_eq_false_iff_not] at h2
  rw [mkL, if_pos h]
  exact ⟨h2.2, (quoTo_len _ _).symm, (gcdL P : Int), by have := h2.1; omega, fun k hk => by rw [quoTo_len] at hk; exact (quo_mul P k hk).symm⟩

/-- Masses in lowest terms whose parts are in proportion are one. -/
theorem low_unique {s t : Int} {K L : List Int} (hK : massB s K = true) (hL : massB t L = true) (hl : K.length = L.length) (A B : Int) (hA : 0 < A) (hB : 0 < B) (h : ∀ k, k < K.length → A * nth K k = B * nth L k) : K = L := by
  have gK := (massB_ok hK).gcd
  have gL := (massB_ok hL).gcd
  -- B divides A * every K_k, so it divides A; and the other way round
  have key : ∀ (X Y : List Int) (a b : Nat), X.length = Y.length → gcdL X = 1 → (∀ k, k < X.length → (a : Int) * nth X k = b * nth Y k) → b ∣ a := by
    intro X Y a b hxy hg hm
    have h1 : ∀ j, j < X.length → b ∣ a * (nth X j).natAbs := fun j hj => by
      have := congrArg Int.natAbs (hm j hj)
      rw [Int.natAbs_mul, Int.natAbs_mul] at this
      simp at this
      exact ⟨_, this⟩
    have h2 : ∀ k, k ≤ X.length → b ∣ a * gcdL (X.take k) := by
      intro k
      induction k with
      | zero => intro _; simp [gcdL]
      | succ k ih =>
        intro hk
        rw [take_succ_getD X k (by omega), gcdL_snoc, ← Nat.gcd_mul_left]
        exact Nat.dvd_gcd (ih (by omega)) (h1 k (by omega))
    have := h2 X.length (Nat.le_refl _)
    rw [List.take_length, hg, Nat.mul_one] at this
    exact this
  obtain ⟨a, rfl⟩ := Int.eq_ofNat_of_zero_le (show 0 ≤ A by omega)
  obtain ⟨b, rfl⟩ := Int.eq_ofNat_of_zero_le (show 0 ≤ B by omega)
  have e : a = b := Nat.dvd_antisymm (key L K b a hl.symm gL (fun k hk => (h k (by omega)).symm)) (key K L a b hl gK h)
  subst e
  exact nth_ext2 _ _ hl fun k hk => Int.eq_of_mul_eq_mul_left (by omega) (h k hk)

theorem Low.unique {s t : Int} {P K L : List Int} (h : Low s P K) (g : Low t P L) : K = L := by
  obtain ⟨d, hd, hm⟩ := h.mul
  obtain ⟨e, he, hn⟩ := g.mul
  have hl : K.length = L.length := by rw [← h.len, g.len]
  exact low_unique h.mass g.mass hl d e hd he fun k hk => by rw [← hm k hk, hn k (by omega)]

theorem sumL_nonneg {M : Int} {P : List Int} (h : allB 0 M P = true) : 0 ≤ sumL P := (sumL_bd P h).1

theorem quo_gcd (P : List Int) (h : gcdL P ≠ 0) : gcdL (quoTo P P.length) = 1 := by
  have h1 : gcdL (quoTo P P.length) * gcdL P ∣ gcdL P := dvd_gcdL P _ fun j hj => by
    obtain ⟨c, hc⟩ := gcdL_dvd (quoTo P P.length) j (by rw [quoTo_len]; exact hj)
    rw [← quo_mul P j hj, hc]
    refine ⟨c, ?_⟩
    rw [Int.natCast_mul, Int.mul_comm ((gcdL (quoTo P P.length) : Nat) : Int) (gcdL P : Int), Int.mul_assoc]
  have := Nat.le_of_dvd (by omega) h1
  have h0 : 0 < gcdL P := by omega
  have h2 : gcdL (quoTo P P.length) ≠ 0 := fun e => by rw [e, Nat.zero_mul] at h1; exact h (Nat.eq_zero_of_zero_dvd h1)
  have : gcdL (quoTo P P.length) * gcdL P ≤ 1 * gcdL P := by omega
  have := Nat.le_of_mul_le_mul_right this h0
  omega

theorem gcd_zero_sum {P : List Int} (h : gcdL P = 0) : sumL P = 0 := by
  rw [sumL_sm, sm_congr (g := fun _ => 0), sm_zero]
  intro k hk
  have := gcdL_dvd P k hk
  rw [h] at this
  exact Int.zero_dvd.1 this

/-- Parts whose sum is positive and not too great make a mass. -/
theorem mk_ok {s M : Int} {P : List Int} (hs : szB s = true) (hl : (P.length : Int) = pow2 s) (ha : allB 0 M P = true) (h1 : 0 < sumL P) (h2 : sumL P ≤ 1000000) : mkOk s P = true := by
  have hg : gcdL P ≠ 0 := fun e => by have := gcd_zero_sum e; omega
  have hn : ∀ k, k < P.length → 0 ≤ nth P k := fun k hk => (allB_iff.1 ha k hk).1
  have hq : ∀ k, k < P.length → 0 ≤ nth (quoTo P P.length) k ∧ nth (quoTo P P.length) k ≤ nth P k := fun k hk => by
    have e := quo_mul P k hk
    have n0 := hn k hk
    rw [quo_nth P k hk]
    exact ⟨Int.ediv_nonneg n0 (by omega), Int.ediv_le_self _ n0⟩
  have hsum : sumL P = (gcdL P : Int) * sumL (quoTo P P.length) := by
    rw [sumL_sm, sumL_sm, quoTo_len, ← sm_mul]
    exact sm_congr fun k hk => (quo_mul P k hk).symm
  have hle : sumL (quoTo P P.length) ≤ sumL P := by
    rw [sumL_sm, sumL_sm, quoTo_len]; exact sm_le fun k hk => (hq k hk).2
  have hge : 0 ≤ sumL (quoTo P P.length) := by
    rw [sumL_sm, quoTo_len]; exact sm_nonneg fun k hk => (hq k hk).1
  have hpos : sumL (quoTo P P.length) ≠ 0 := fun e => by rw [e, Int.mul_zero] at hsum; omega
  have hall : allB 0 1000000 (quoTo P P.length) = true := allB_iff.2 fun k hk => by
    rw [quoTo_len] at hk
    refine ⟨(hq k hk).1, ?_⟩
    have : nth P k ≤ sumL P := by rw [sumL_sm]; exact sm_pick hn k hk
    have := (hq k hk).2; omega
  simp only [mkOk, massB, Bool.and_eq_true, Bool.not_eq_true', decide_eq_false_iff_not, decide_eq_true_eq, quoTo_len, inB]
  exact ⟨hg, hs, hl, hall, ⟨by omega, by omega⟩, quo_gcd P hg⟩

theorem mk_no {s M : Int} {P : List Int} (hs : szB s = true) (hl : (P.length : Int) = pow2 s) (ha : allB 0 M P = true) (h2 : sumL P ≤ 1000000) (h : mkOk s P = false) : sumL P = 0 := by
  by_cases h1 : 0 < sumL P
  · rw [mk_ok hs hl ha h1 h2] at h; exact absurd h (by simp)
  · have := sumL_nonneg ha; omega

theorem low_mk {s : Int} {P K : List Int} (h : Low s P K) : mkOk s P = true ∧ mkL s P = K := by
  obtain ⟨d, hd, hm⟩ := h.mul
  have hk := massB_ok h.mass
  have hs : szB s = true := hk.sz
  have hg : gcdL P = d.toNat := by
    apply Nat.dvd_antisymm
    · -- gcdL P divides d: it divides d * K_k for all k, and gcd K = 1
      obtain ⟨a, rfl⟩ := Int.eq_ofNat_of_zero_le (show 0 ≤ d by omega)
      have h2 : ∀ k, k ≤ K.length → gcdL P ∣ a * gcdL (K.take k) := by
        intro k
        induction k with
        | zero => intro _; simp [gcdL]
        | succ k ih =>
          intro hk2
          rw [take_succ_getD K k (by omega), gcdL_snoc, ← Nat.gcd_mul_left]
          refine Nat.dvd_gcd (ih (by omega)) ?_
          have := Int.ofNat_dvd_left.1 (gcdL_dvd P k (by rw [h.len]; omega))
          rw [hm k (by omega), Int.natAbs_mul] at this
          simpa using this
      have := h2 K.length (Nat.le_refl _)
      rw [List.take_length, hk.gcd, Nat.mul_one] at this
      simpa using this
    · exact dvd_gcdL P _ fun j hj => ⟨nth K j, by rw [hm j (by rw [← h.len]; exact hj), Int.toNat_of_nonneg (by omega)]⟩
  have hq : quoTo P P.length = K := nth_ext2 _ _ (by rw [quoTo_len, h.len]) fun k hk2 => by
    rw [quoTo_len] at hk2
    rw [quo_nth P k hk2, hg, Int.toNat_of_nonneg (by omega), hm k (by rw [← h.len]; exact hk2)]
    exact Int.mul_ediv_cancel_left _ (by omega)
  have hok : mkOk s P = true := by
    simp only [mkOk, Bool.and_eq_true, Bool.not_eq_true', decide_eq_false_iff_not, hq]
    exact ⟨by omega, h.mass⟩
  exact ⟨hok, by rw [mkL, if_pos hok, hq]⟩

theorem low_self {s : Int} {K : List Int} (h : massB s K = true) : Low s K K := ⟨h, rfl, 1, by omega, fun k _ => by omega⟩

end Go.Proofs.Ytjmfjgoehicgcaa
