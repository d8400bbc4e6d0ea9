/- Levels that are drawn. -/
import Derived.Test.YtjmfjgoehicgcaaD1
import Derived.Test.YtjmfjgoehicgcaaL6
set_option linter.unusedVariables false
set_option linter.unusedSimpArgs false
namespace Go.Proofs.Ytjmfjgoehicgcaa
open Go.RowKit

/-- A list that is drawn: memory of its own, at most n numbers. -/
def LvDrawn (R P n : Nat) (w : World) (e : Ending) (w' : World) : Prop := ∃ (v : Value) (xs : List Int), e = .returned v ∧ xs.length ≤ n ∧ Own w.heap.size w' v xs ∧ Rdr R P w' ∧ Dr w.heap.size R w w'

def l9Rel (R P s : Nat) (w : World) (v i : Value) (wr : World) : Prop := ∃ (k : Nat) (xs : List Int), k ≤ s ∧ i = .int .i64 (k : Int) ∧ Own w.heap.size wr v xs ∧ xs.length = k ∧ Rdr R (P + 3 * k) wr ∧ Dr w.heap.size R w wr

/-- Two lists that are drawn. -/
def Two (n : Nat) (w : World) (e : Ending) (w' : World) : Prop := ∃ (a b : Option Addr) (c d : Nat) (xs ys : List Int), e = .returned (.tuple #[.slice a xs.length c, .slice b ys.length d]) ∧ xs.length ≤ n ∧ ys.length ≤ n ∧ Reads w' a xs ∧ Reads w' b ys ∧ Below w.heap.size w w'

theorem Own.other {B g n c : Nat} {w : World} {zs : List Int} {p : Addr} (h : Own B w (.slice (some ⟨g, 0, none⟩) n c) zs) (hp : p.block ≠ g) (u : Value) : Own B (w.setCell p u) (.slice (some ⟨g, 0, none⟩) n c) zs := by
  refine ⟨h.1, ?_⟩
  rcases h.2 with ⟨h, _⟩ | ⟨g', cap, cur, a, b, hg, r⟩
  · cases h
  · cases a
    exact .inr ⟨g, _, cur, rfl, b, by rw [Below.heap_setCell _ _ _ _ (fun e => hp e.symm)]; exact hg, r⟩

end Go.Proofs.Ytjmfjgoehicgcaa
