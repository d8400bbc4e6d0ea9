/- How the rows' arguments are opened: a slice of ints or bytes, an int, a mass. -/
import Derived.Test.YtjmfjgoehicgcaaRows
import Derived.Test.YtjmfjgoehicgcaaMgBase
import Derived.ProofKit
import Derived.OpenShut
import Derived.ChangeOld
import Derived.Lib.SmallJoins
set_option linter.unusedVariables false
set_option linter.unusedSimpArgs false
namespace Go.Proofs.Ytjmfjgoehicgcaa
open Go.ChangeShapes Go.WideShapes Go.ChangeAt Go.RowKit Go.Joins

theorem own : ownKnob Try.prog.godebug = none := by kernel_rfl
theorem laidOut : laidOutB Try.prog = true := by kernel_rfl

section
variable {H : Type} {enc : TypeId × Value → H} {W : World} {base : Nat} {v : Value} {d : DataW H} {p : List MemPlace}

set_option maxRecDepth 100000 in
theorem open_row {k : IntKind} {t e : TypeId} {fuel : Nat} {x : DataW H × List MemPlace} {v : Value} (ht : Try.prog.underlying t = some (.slice e)) (he : Try.prog.underlying e = some (.int k)) (hc : Try.prog.cellsOf e = 1)
    (h : DataW.trod enc Try.prog W 0 (fun _ => true) true fuel t [v] = some x) :
    ∃ (a : Option Addr) (c : Nat) (xs : List Int), v = .slice a xs.length c ∧ xs.length ≤ maxLen ∧ ReadsK k W a xs ∧ (∀ n ∈ xs, (Lit.int k n).wf = true) ∧ xs.length ≤ c := by
  rcases open_ints ht he hc h with ⟨hcs, _⟩ | ⟨x, l, c, zs, hcs, _, hl, hm, hz, _, hcell, hwz⟩
  · simp at hcs
    exact ⟨none, 0, [], hcs, Nat.zero_le _, ReadsK.nil _ _ _, by simp, Nat.le_refl _⟩
  · simp at hcs hz
    have hlen : (zs.take l).length = l := by simp; omega
    refine ⟨some x, c, zs.take l, by rw [hlen]; exact hcs, by omega, ?_, fun n hn => hwz n (List.mem_of_mem_take hn), by omega⟩
    intro j hj
    rw [hlen] at hj
    obtain ⟨b, off, rfl, hc2⟩ := ints_at hcell (by omega)
    have h3 := hc2 j (by omega)
    refine ⟨b, off, rfl, World.block_lt_of_cell? W _ h3, ?_⟩
    rw [h3]
    simp [nth, List.getD, hj]

set_option maxRecDepth 100000 in
theorem open_intslice (hv : Value.okWide Try.prog W .any base 22 v) (h : DataW.Trod enc Try.prog W 0 (fun _ => true) true 22 v d p) :
    ∃ (a : Option Addr) (c : Nat) (xs : List Int), v = .slice a xs.length c ∧ xs.length ≤ maxLen ∧ Reads W a xs ∧ ∀ n ∈ xs, (Lit.int .i64 n).wf = true := by
  obtain ⟨a0, l0, c0, rfl⟩ := okWide_slice Try.underlying22 hv
  obtain ⟨fuel, hf⟩ := h
  obtain ⟨a, c, xs, h1, h2, h3, h4, _⟩ := open_row Try.underlying22 Try.underlying3 (by kernel_rfl) (by simpa [Value.cells] using hf)
  exact ⟨a, c, xs, h1, h2, h3, h4⟩

set_option maxRecDepth 100000 in
theorem open_int1 (hv : Value.okWide Try.prog W .any base 3 v) (h : DataW.Trod enc Try.prog W 0 (fun _ => true) true 3 v d p) :
    ∃ x, v = .int .i64 x ∧ (Lit.int .i64 x).wf = true := by
  obtain ⟨x, rfl, _, _, wx⟩ := open_int Try.underlying3 hv h
  exact ⟨x, rfl, wx⟩

set_option maxRecDepth 100000 in
theorem open_mass (hv : Value.okWide Try.prog W .any base 24 v) (h : DataW.Trod enc Try.prog W 0 (fun _ => true) true 24 v d p) :
    ∃ (s : Int) (a : Option Addr) (c : Nat) (xs : List Int), v = .agg #[.int .i64 s, .slice a xs.length c] ∧ (Lit.int .i64 s).wf = true ∧ xs.length ≤ maxLen ∧ Reads W a xs ∧ ∀ n ∈ xs, (Lit.int .i64 n).wf = true := by
  obtain ⟨c0, c1, y0, y1, m, rfl, rfl, rfl, hy0, hy1⟩ := open_agg2 Try.underlying24 (by kernel_rfl) (by kernel_rfl) hv h
  obtain ⟨s, e0, _, ws⟩ := DataW.trod_int Try.underlying3 hy0
  obtain ⟨a, c, xs, rfl, h1, h2, h3, _⟩ := open_row Try.underlying22 Try.underlying3 (by kernel_rfl) hy1
  simp at e0
  subst e0
  exact ⟨s, a, c, xs, rfl, ws, h1, h2, h3⟩
set_option maxRecDepth 100000 in
theorem open_byteslice (hv : Value.okWide Try.prog W .any base 30 v) (h : DataW.Trod enc Try.prog W 0 (fun _ => true) true 30 v d p) :
    ∃ (a : Option Addr) (c : Nat) (xs : List Int), v = .slice a xs.length c ∧ xs.length ≤ maxLen ∧ ReadsK .u8 W a xs ∧ (∀ n ∈ xs, (Lit.int .u8 n).wf = true) ∧ xs.length ≤ c := by
  obtain ⟨a0, l0, c0, rfl⟩ := okWide_slice Try.underlying30 hv
  obtain ⟨fuel, hf⟩ := h
  exact open_row Try.underlying30 Try.underlying5 (by kernel_rfl) (by simpa [Value.cells] using hf)
end
end Go.Proofs.Ytjmfjgoehicgcaa
