/- The law's own helpers on slices of ints. -/
import Derived.Test.YtkpnenbkfphldaaBase
set_option linter.unusedVariables false
set_option linter.unusedSimpArgs false
namespace Go.Proofs.Ytkpnenbkfphldaa
open Go.RowKit

theorem take_eq_step (xs ys : List Int) (k : Nat) (h : xs.take k = ys.take k) (hx : k < xs.length) (hy : k < ys.length) (e : nth xs k = nth ys k) : xs.take (k + 1) = ys.take (k + 1) := by
  rw [take_succ_getD xs k hx, take_succ_getD ys k hy, h, e]

theorem take_ne_of (xs ys : List Int) (k : Nat) (hx : k < xs.length) (hy : k < ys.length) (e : nth xs k ≠ nth ys k) : xs ≠ ys := by
  intro h; subst h; exact e rfl

theorem copy_step (xs : List Int) (k : Nat) (h : k < xs.length) :
    ((xs.take k ++ List.replicate (xs.length - k) 0).map (Value.int .i64)).set k (.int .i64 (nth xs k)) = (xs.take (k + 1) ++ List.replicate (xs.length - (k + 1)) 0).map (Value.int .i64) := by
  rw [take_succ_getD xs k h, ← List.map_set, List.set_append_right _ _ (by simp; omega)]
  have e : xs.length - k = (xs.length - (k + 1)) + 1 := by omega
  rw [e, List.replicate_succ]
  simp [Nat.min_eq_left (Nat.le_of_lt h)]

theorem cell_own {w : World} {B g n c : Nat} {zs : List Int} (h : w.ownsRow B 3 1 (.slice (some ⟨g, 0, none⟩) n c) n (zs.map (Value.int .i64))) (k : Nat) (hk : k < n) :
    w.cell? ⟨g, k, none⟩ = some (.int .i64 (nth zs k)) := by
  have hl : zs.length = n := by simpa using h.1
  rw [h.cellAt k (by omega)]
  simp [nth, List.getD, hl, hk]

end Go.Proofs.Ytkpnenbkfphldaa

