/- A short list of numbers sorted in place, and cut to its different ones. -/
import Derived.Test.YtjmfjgoehicgcaaK7
import Derived.CellFam
import Derived.BigGuard
import Derived.BigCall
import Derived.Deep.Draws
import Derived.Deep.QuietTactic
import Derived.Lib.SliceRun
import Derived.Deep.LoopGhost
import Derived.IntWalk
set_option linter.unusedVariables false
set_option linter.unusedSimpArgs false
namespace Go.Proofs.Ytjmfjgoehicgcaa
open Go.RowKit

/-- Two lists with the same numbers in them. -/
def Vals (xs ys : List Int) : Prop := ∀ v, (∃ p, p < xs.length ∧ nth xs p = v) ↔ (∃ p, p < ys.length ∧ nth ys p = v)
def SortedTo (zs : List Int) (i : Nat) : Prop := ∀ p q, p < q → q < i → nth zs p ≤ nth zs q
structure Inner (zs : List Int) (i j : Nat) : Prop where
  le : j ≤ i
  others : ∀ p q, p < q → q ≤ i → p ≠ j → q ≠ j → nth zs p ≤ nth zs q
  behind : ∀ q, j < q → q ≤ i → nth zs j ≤ nth zs q

theorem Inner.start {zs : List Int} {i : Nat} (h : SortedTo zs i) : Inner zs i i :=
  ⟨Nat.le_refl _, fun p q h1 h2 h3 h4 => h p q h1 (by omega), fun q h1 h2 => by omega⟩

theorem nth_set_at (ys : List Int) (k : Nat) (y : Int) (h : k < ys.length) : nth (ys.set k y) k = y := by
  rw [nth_eq _ _ (by rw [List.length_set]; exact h), List.getElem_set_self]
theorem nth_set_no (ys : List Int) (k j : Nat) (y : Int) (h : j ≠ k) : nth (ys.set k y) j = nth ys j := by
  simp [nth, List.getD, List.getElem?_set_ne (Ne.symm h)]

def swapped (zs : List Int) (j : Nat) : List Int := (zs.set (j + 1) (nth zs j)).set j (nth zs (j + 1))
theorem swapped_len (zs : List Int) (j : Nat) : (swapped zs j).length = zs.length := by simp [swapped]
theorem swapped_low (zs : List Int) (j : Nat) (h : j + 1 < zs.length) : nth (swapped zs j) j = nth zs (j + 1) := nth_set_at _ _ _ (by rw [List.length_set]; omega)
theorem swapped_high (zs : List Int) (j : Nat) (h : j + 1 < zs.length) : nth (swapped zs j) (j + 1) = nth zs j := by
  rw [swapped, nth_set_no _ _ _ _ (by omega), nth_set_at _ _ _ h]
theorem swapped_off (zs : List Int) (j k : Nat) (h1 : k ≠ j) (h2 : k ≠ j + 1) : nth (swapped zs j) k = nth zs k := by
  rw [swapped, nth_set_no _ _ _ _ h1, nth_set_no _ _ _ _ h2]

theorem Inner.swap {zs : List Int} {i j : Nat} (h : Inner zs i (j + 1)) (hi : i < zs.length) (hlt : nth zs (j + 1) < nth zs j) : Inner (swapped zs j) i j := by
  have hj : j + 1 < zs.length := by have := h.le; omega
  have e0 := swapped_low zs j hj
  have e1 := swapped_high zs j hj
  have hle := h.le
  refine ⟨by omega, ?_, ?_⟩
  · intro p q hpq hq hp hq2
    by_cases a : q = j + 1
    · subst a
      rw [e1, swapped_off zs j p hp (by omega)]
      exact h.others p j (by omega) (by omega) (by omega) (by omega)
    · by_cases b : p = j + 1
      · subst b
        rw [e1, swapped_off zs j q hq2 a]
        exact h.others j q (by omega) hq (by omega) a
      · rw [swapped_off zs j p hp b, swapped_off zs j q hq2 a]
        exact h.others p q hpq hq b a
  · intro q h1 h2
    rw [e0]
    by_cases a : q = j + 1
    · subst a; rw [e1]; omega
    · rw [swapped_off zs j q (by omega) a]
      exact h.behind q (by omega) h2

theorem Inner.stop {zs : List Int} {i j : Nat} (h : Inner zs i j) (hs : j = 0 ∨ nth zs (j - 1) ≤ nth zs j) : SortedTo zs (i + 1) := by
  intro p q hpq hq
  by_cases a : p = j
  · subst a; exact h.behind q hpq (by omega)
  · by_cases b : q = j
    · subst b
      rcases hs with hs | hs
      · omega
      · by_cases c : p = q - 1
        · rw [c]; exact hs
        · have := h.others p (q - 1) (by omega) (by have := h.le; omega) a (by omega); omega
    · exact h.others p q hpq (by omega) a b

theorem Vals.refl (xs : List Int) : Vals xs xs := fun v => Iff.rfl
theorem Vals.trans {a b c : List Int} (h : Vals a b) (k : Vals b c) : Vals a c := fun v => (h v).trans (k v)
theorem Vals.swapped {zs ys : List Int} (h : Vals zs ys) (j : Nat) (hj : j + 1 < zs.length) : Vals (swapped zs j) ys := by
  refine Vals.trans (fun v => ?_) h
  rw [swapped_len]
  constructor
  · rintro ⟨p, hp, rfl⟩
    by_cases a : p = j
    · subst a; exact ⟨p + 1, hj, (swapped_low zs p hj).symm⟩
    · by_cases b : p = j + 1
      · subst b; exact ⟨j, by omega, (swapped_high zs j hj).symm⟩
      · exact ⟨p, hp, (swapped_off zs j p a b).symm⟩
  · rintro ⟨p, hp, rfl⟩
    by_cases a : p = j
    · subst a; exact ⟨p + 1, hj, swapped_high zs p hj⟩
    · by_cases b : p = j + 1
      · subst b; exact ⟨j, by omega, swapped_low zs j hj⟩
      · exact ⟨p, hp, swapped_off zs j p a b⟩

theorem Own.drewN {B : Nat} {w : World} {v : Value} {xs : List Int} (h : Own B w v xs) (k : Nat) : Own B (w.drewN k) v xs := h

/-- What the second loop keeps. -/
structure CompI (n : Nat) (zs us : List Int) (r kk : Nat) : Prop where
  one : 1 ≤ kk
  lt : kk < r
  le : r ≤ n
  orig : ∀ q, r - 1 ≤ q → q < n → nth us q = nth zs q
  inc : ∀ p q, p < q → q < kk → nth us p < nth us q
  last : nth us (kk - 1) = nth zs (r - 1)
  vals : ∀ v, (∃ p, p < kk ∧ nth us p = v) ↔ (∃ p, p < r ∧ nth zs p = v)

theorem CompI.start {n k : Nat} {zs : List Int} (h1 : 1 ≤ k) (hk : k < n) (hi : ∀ p q, p < q → q < k → nth zs p < nth zs q) (hd : nth zs k = nth zs (k - 1)) : CompI n zs zs (k + 1) k := by
  refine ⟨h1, by omega, by omega, fun q _ _ => rfl, hi, by simp [hd], fun v => ⟨?_, ?_⟩⟩
  · rintro ⟨p, hp, rfl⟩; exact ⟨p, by omega, rfl⟩
  · rintro ⟨p, hp, rfl⟩
    by_cases e : p = k
    · subst e; exact ⟨p - 1, by omega, hd.symm⟩
    · exact ⟨p, by omega, rfl⟩

theorem CompI.skip {n r kk : Nat} {zs us : List Int} (h : CompI n zs us r kk) (hr : r < n) (hd : nth zs r = nth zs (r - 1)) : CompI n zs us (r + 1) kk := by
  have := h.one
  have := h.lt
  refine ⟨h.one, by omega, by omega, fun q h1 h2 => h.orig q (by omega) h2, h.inc, by rw [h.last, Nat.add_sub_cancel, hd], fun v => ⟨?_, ?_⟩⟩
  · intro hv; obtain ⟨p, hp, e⟩ := (h.vals v).1 hv; exact ⟨p, by omega, e⟩
  · rintro ⟨p, hp, rfl⟩
    by_cases e : p = r
    · subst e; exact (h.vals _).2 ⟨p - 1, by omega, hd.symm⟩
    · exact (h.vals _).2 ⟨p, by omega, rfl⟩

theorem CompI.keep {n r kk : Nat} {zs us : List Int} (h : CompI n zs us r kk) (hn : us.length = n) (hr : r < n) (hs : SortedTo zs n) (hd : nth zs r ≠ nth zs (r - 1)) : CompI n zs (us.set kk (nth zs r)) (r + 1) (kk + 1) := by
  have h1 := h.one
  have h2 := h.lt
  have hlt : nth zs (r - 1) < nth zs r := by have := hs (r - 1) r (by omega) hr; omega
  have hat : nth (us.set kk (nth zs r)) kk = nth zs r := nth_set_at _ _ _ (by omega)
  have hoff : ∀ q, q ≠ kk → nth (us.set kk (nth zs r)) q = nth us q := fun q hq => nth_set_no _ _ _ _ hq
  refine ⟨by omega, by omega, by omega, ?_, ?_, by rw [Nat.add_sub_cancel, Nat.add_sub_cancel]; exact hat, fun v => ⟨?_, ?_⟩⟩
  · intro q a b; rw [hoff q (by omega)]; exact h.orig q (by omega) b
  · intro p q hpq hq
    rw [hoff p (by omega)]
    by_cases e : q = kk
    · subst e
      rw [hat]
      by_cases c : p = q - 1
      · subst c; rw [h.last]; exact hlt
      · have := h.inc p (q - 1) (by omega) (by omega); rw [h.last] at this; omega
    · rw [hoff q e]; exact h.inc p q hpq (by omega)
  · rintro ⟨p, hp, rfl⟩
    by_cases e : p = kk
    · subst e; exact ⟨r, by omega, hat.symm⟩
    · rw [hoff p e]
      obtain ⟨q, hq, e2⟩ := (h.vals (nth us p)).1 ⟨p, by omega, rfl⟩
      exact ⟨q, by omega, e2⟩
  · rintro ⟨p, hp, rfl⟩
    by_cases e : p = r
    · subst e; exact ⟨kk, by omega, hat⟩
    · obtain ⟨q, hq, e2⟩ := (h.vals (nth zs p)).2 ⟨p, by omega, rfl⟩
      exact ⟨q, by omega, by rw [hoff q (by omega)]; exact e2⟩

/-- The different numbers of a list, ascending. -/
structure Uniq (us zs : List Int) : Prop where
  inc : ∀ p q, p < q → q < us.length → nth us p < nth us q
  vals : Vals us zs

theorem take_nth (us : List Int) (k q : Nat) (h : q < k) : nth (us.take k) q = nth us q := by
  simp [nth, List.getD, h]

theorem CompI.done {n kk : Nat} {zs us : List Int} (h : CompI n zs us n kk) (hz : zs.length = n) (hu : us.length = n) : Uniq (us.take kk) zs := by
  have := h.lt
  have hl : (us.take kk).length = kk := by simp; omega
  refine ⟨fun p q a b => ?_, fun v => ?_⟩
  · rw [hl] at b
    rw [take_nth _ _ _ (by omega), take_nth _ _ _ b]; exact h.inc p q a b
  · rw [hl, hz, ← h.vals v]
    constructor
    · rintro ⟨p, hp, rfl⟩; exact ⟨p, hp, (take_nth _ _ _ hp).symm⟩
    · rintro ⟨p, hp, rfl⟩; exact ⟨p, hp, take_nth _ _ _ hp⟩

theorem below_setCells {B b : Nat} {w a : World} (h : Below B w a) (hb : B ≤ b) : ∀ (vs : List Value) (o : Nat), Below B w (a.setCells b o vs)
  | [], _ => h
  | v :: r, o => below_setCells (h.setCell (p := ⟨b, o, none⟩) hb v) hb r (o + 1)

theorem zero_int (w : World) : (zeroValue 3).run Try.prog w = .ok (.int .i64 0) w := by
  kernel_rfl

theorem heap_setCells (b : Nat) : ∀ (vs : List Value) (o : Nat) (w : World), (w.setCells b o vs).heap.size = w.heap.size
  | [], _, _ => rfl
  | v :: r, o, w => by rw [World.setCells, heap_setCells b r]; simp

theorem reads_kept {B g n c kk : Nat} {w : World} {us : List Int} {vs : List Value} (h : Own B w (.slice (some ⟨g, 0, none⟩) n c) us) (hn : us.length = n) (hk : kk ≤ n) : Reads (w.setCells g kk vs) (some ⟨g, 0, none⟩) (us.take kk) := by
  intro q hq
  have hq2 : q < kk := by simp at hq; omega
  refine ⟨g, 0, rfl, by rw [heap_setCells]; exact (h.blockLt g rfl).2, ?_⟩
  rw [World.cell?_setCells_out g vs kk w _ (fun _ _ => .inl (by show 0 + q < kk; omega)), Nat.zero_add, (h.cellAt hn q (by omega)).1, take_nth _ _ _ hq2]

end Go.Proofs.Ytjmfjgoehicgcaa
