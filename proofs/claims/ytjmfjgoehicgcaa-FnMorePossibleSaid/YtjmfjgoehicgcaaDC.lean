/- Two masses that are drawn. -/
import Derived.Test.YtjmfjgoehicgcaaD5
import Derived.Test.YtjmfjgoehicgcaaV7
set_option linter.unusedVariables false
set_option linter.unusedSimpArgs false
namespace Go.Proofs.Ytjmfjgoehicgcaa
open Go.RowKit

def MsPair (B R P : Nat) (w : World) (e : Ending) (w' : World) : Prop := ∃ (s : Int) (v : Value) (xs : List Int) (t : Int) (u : Value) (ys : List Int), e = .returned (.tuple #[.agg #[.int .i64 s, v], .agg #[.int .i64 t, u]]) ∧ xs.length ≤ 17 ∧ ys.length ≤ 17 ∧ Own B w' v xs ∧ Own B w' u ys ∧ Rdr R P w' ∧ Dr B R w w'

theorem Own.drO {B B' R : Nat} {w w' : World} {v : Value} {xs : List Int} (h : Own B w v xs) (hb : Dr B' R w w') (hR : R < B) (hlt : ∀ g, v.ownBlock = some g → B ≤ g ∧ g < B') : Own B w' v xs := by
  refine ⟨h.1, ?_⟩
  rcases h.2 with h2 | ⟨g, cap, cur, a, b, hg, r⟩
  · exact .inl h2
  · exact .inr ⟨g, cap, cur, a, b, by rw [hb.block g (hlt g (by rw [a]; rfl)).2 (by omega)]; exact hg, r⟩

theorem twoV (w : World) : ∃ W : World, W = (w.alloc (.cells #[.int .i64 0, .slice none 0 0] 27)).alloc (.cells #[.int .i64 0, .slice none 0 0] 27) ∧ W.heap.size = w.heap.size + 2 ∧ Below w.heap.size w W ∧ VarInv W w.heap.size 0 (.slice none 0 0) ∧ VarInv W (w.heap.size + 1) 0 (.slice none 0 0) := by
  refine ⟨_, rfl, by simp, (belowAlloc _ _).thenB (belowAlloc _ _), (VarInv.made w _ _ _).later (belowAlloc _ _), ?_⟩
  have h := VarInv.made (w.alloc (.cells #[.int .i64 0, .slice none 0 0] 27)) 0 (.slice none 0 0) 27
  rw [show (w.alloc (.cells #[.int .i64 0, .slice none 0 0] 27)).heap.size = w.heap.size + 1 by simp] at h
  exact h

end Go.Proofs.Ytjmfjgoehicgcaa
