/- Parts that are added up at other places: mapped, and the functions built on it. -/
import Derived.Test.YtjmfjgoehicgcaaK3
import Derived.Test.YtjmfjgoehicgcaaT1
import Derived.Test.YtjmfjgoehicgcaaQ1
set_option linter.unusedVariables false
set_option linter.unusedSimpArgs false
namespace Go.Proofs.Ytjmfjgoehicgcaa
open Go.RowKit

def addAt (zs : List Int) (i : Nat) (y : Int) : List Int := zs.set i (nth zs i + y)
theorem addAt_len (zs : List Int) (i : Nat) (y : Int) : (addAt zs i y).length = zs.length := by simp [addAt]

/-- The numbers before k, each added at the place that f gives. -/
def accTo (f : Nat → Nat) (ys zs : List Int) (k : Nat) : List Int := (List.range k).foldl (fun zs b => addAt zs (f b) (nth ys b)) zs
theorem accTo_succ (f : Nat → Nat) (ys zs : List Int) (k : Nat) : accTo f ys zs (k + 1) = addAt (accTo f ys zs k) (f k) (nth ys k) := by simp [accTo, List.range_succ]
theorem accTo_len (f : Nat → Nat) (ys zs : List Int) (k : Nat) : (accTo f ys zs k).length = zs.length := by
  induction k with
  | zero => rfl
  | succ k ih => rw [accTo_succ, addAt_len, ih]

theorem allB_iff {low high : Int} {xs : List Int} : allB low high xs = true ↔ ∀ k, k < xs.length → low ≤ nth xs k ∧ nth xs k ≤ high := by
  constructor
  · exact fun h k hk => allB_nth h k hk
  · intro h
    unfold allB
    rw [List.all_eq_true]
    intro x hx
    obtain ⟨i, hi, rfl⟩ := List.getElem_of_mem hx
    have := h i hi
    rw [nth_eq _ _ hi] at this
    simpa [inB] using this

theorem nth_addAt (zs : List Int) (i k : Nat) (y : Int) (hk : k < zs.length) : nth (addAt zs i y) k = if k = i then nth zs k + y else nth zs k := by
  rw [nth_eq _ _ (by rw [addAt_len]; exact hk), nth_eq zs k hk]
  by_cases h : k = i
  · subst h
    rw [if_pos rfl]
    simp only [addAt, List.getElem_set_self]
    rw [nth_eq zs k hk]
  · rw [if_neg h]
    simp only [addAt]
    rw [List.getElem_set_ne (fun e => h e.symm)]

theorem addAt_all {A M y : Int} {zs : List Int} (i : Nat) (h : allB 0 A zs = true) (h1 : 0 ≤ y) (h2 : y ≤ M) (hM : 0 ≤ M) : allB 0 (A + M) (addAt zs i y) = true := by
  rw [allB_iff] at *
  intro k hk
  rw [addAt_len] at hk
  have := h k hk
  rw [nth_addAt _ _ _ _ hk]
  split <;> omega

theorem accTo_all {M : Int} (f : Nat → Nat) (ys zs : List Int) (hy : allB 0 M ys = true) (hM : 0 ≤ M) (hz : allB 0 0 zs = true) (k : Nat) (hk : k ≤ ys.length) : allB 0 (M * k) (accTo f ys zs k) = true := by
  induction k with
  | zero => simpa [accTo] using hz
  | succ k ih =>
    rw [accTo_succ]
    have h1 := allB_nth hy k (by omega)
    have h2 := addAt_all (f k) (ih (by omega)) h1.1 h1.2 hM
    have : M * ((k + 1 : Nat) : Int) = M * k + M := by rw [Int.natCast_add, Int.mul_add]; simp
    rw [this]; exact h2

/-- So many zeros. -/
def zeros (n : Nat) : List Int := List.replicate n 0
theorem zeros_len (n : Nat) : (zeros n).length = n := by simp [zeros]
theorem zeros_all (n : Nat) : allB 0 0 (zeros n) = true := by
  rw [allB_iff]; intro k hk; rw [zeros_len] at hk; rw [nth_eq _ _ (by rw [zeros_len]; exact hk)]; simp [zeros]

/-- 'make([]int, n)': zeros that the call owns. -/
theorem wpList_makeInts {ops : Array Oper} {rest : List Oper} {o : Oper} {a : Act} {Q : Exit → Act → World → Prop} (w : World) (hg : o.guard = none) (l c : Operand) (hop : o.op = Op.makeSlice 22 l c)
    (B : Nat) (kl kc : IntKind) (L C : Int) (n : Nat) (hl : a.eval l = .int kl L) (hc : a.eval c = .int kc C) (hL : L = (n : Int)) (hC : C = (n : Int)) (hn : n ≤ 1048576) (hB : B ≤ w.heap.size)
    (hK : ∀ w', Own B w' (.slice (some ⟨w.heap.size, 0, none⟩) n n) (zeros n) → Below w.heap.size w w' → w.heap.size < w'.heap.size → wpList Try.prog ops Q rest (a.put o.dst (.slice (some ⟨w.heap.size, 0, none⟩) n n)) w') :
    wpList Try.prog ops Q (o :: rest) a w := by
  obtain ⟨i0, hi, hz0, hz1, hz2⟩ := info_parts Try.info3
  refine wpList_make_full w hg l c 22 hop B 3 i0 (.int .i64 0) 1 Try.underlying22 hi hz0 hz1 kl kc L C n hl hc hL hC (by rw [hz2]; omega) (by unfold maxLen; omega) hB ?_
  intro w' h1 h2
  refine hK w' ?_ ((Below.refl _ _).grown h2 (Nat.le_refl _) (fun k hk => by cases hk)) ((World.ownsRow.lt h1 w.heap.size rfl).2)
  unfold Own
  rw [zeros_len]
  simpa [zeros, toList_madeCells_one, Value.cells] using h1

/-- A cell of a slice of ints that the call owns, at the head of its row. -/
theorem Own.cellAt {B g n c : Nat} {w : World} {zs : List Int} (h : Own B w (.slice (some ⟨g, 0, none⟩) n c) zs) (hl : zs.length = n) (k : Nat) (hk : k < n) :
    w.cell? ⟨g, k, none⟩ = some (.int .i64 (nth zs k)) ∧ w.frozen? ⟨g, k, none⟩ = false := by
  unfold Own at h
  rw [hl] at h
  exact ⟨cell_own h k hk, h.frozenAt k⟩

theorem Own.storedAt {B g n c : Nat} {w : World} {zs : List Int} (h : Own B w (.slice (some ⟨g, 0, none⟩) n c) zs) (hl : zs.length = n) (k : Nat) (y : Int) :
    Own B (w.setCell ⟨g, k, none⟩ (.int .i64 y)) (.slice (some ⟨g, 0, none⟩) n c) (zs.set k y) := by
  unfold Own at *
  rw [hl] at h
  have := (h.stored k (.int .i64 y)).1
  rw [List.length_set, hl, List.map_set]
  exact this

end Go.Proofs.Ytjmfjgoehicgcaa
