/- Slices of the call's own that are appended to one by one, and of which the first is taken: where they lie. -/
import Derived.Test.YtjmfjgoehicgcaaBase
import Derived.ArgAppend
set_option linter.unusedVariables false
set_option linter.unusedSimpArgs false
namespace Go.Proofs.Ytjmfjgoehicgcaa
open Go.RowKit

/-- A slice in block g, from some place on, that holds these values; room behind it. -/
structure QO (w : World) (off cap : Nat) (cs : List Value) (g : Nat) : Prop where
  le : cs.length ≤ cap
  mx : cap ≤ maxLen
  lt : g < w.heap.size
  hold : ∀ j u, cs[j]? = some u → w.cell? ⟨g, off + j, none⟩ = some u
  room : ∀ j, j < cap → (w.cell? ⟨g, off + j, none⟩).isSome = true ∧ w.frozen? ⟨g, off + j, none⟩ = false

theorem QO.later {w w' : World} {off cap g : Nat} {cs : List Value} (h : QO w off cap cs g) (hb : w'.heap[g]? = w.heap[g]?) (hs : w.heap.size ≤ w'.heap.size) : QO w' off cap cs g :=
  ⟨h.le, h.mx, Nat.lt_of_lt_of_le h.lt hs, fun j u hj => by rw [World.cell?_of_block (w := w) (a := ⟨g, off + j, none⟩) hb]; exact h.hold j u hj, fun j hj => by
    rw [World.cell?_of_block (w := w) (a := ⟨g, off + j, none⟩) hb, World.frozen?_of_block (w := w) (a := ⟨g, off + j, none⟩) hb]; exact h.room j hj⟩

theorem QO.other {w : World} {off cap g : Nat} {cs : List Value} (h : QO w off cap cs g) (p : Addr) (hp : p.block ≠ g) (u : Value) : QO (w.setCell p u) off cap cs g :=
  h.later (Below.heap_setCell _ _ _ _ (fun e => hp e.symm)) (by simp)

theorem QO.drew {w : World} {off cap g : Nat} {cs : List Value} (h : QO w off cap cs g) : QO w.drew off cap cs g := h.later rfl (Nat.le_refl _)

/-- What is behind the first one. -/
theorem QO.tail {w : World} {off cap g : Nat} {c : Value} {cs : List Value} (h : QO w off cap (c :: cs) g) : QO w (off + 1) (cap - 1) cs g := by
  have hl := h.le
  have hm := h.mx
  simp only [List.length_cons] at hl
  refine ⟨by omega, by omega, h.lt, fun j u hj => ?_, fun j hj => ?_⟩
  · rw [show off + 1 + j = off + (j + 1) by omega]; exact h.hold (j + 1) u (by simpa using hj)
  · rw [show off + 1 + j = off + (j + 1) by omega]; exact h.room (j + 1) (by omega)

theorem QO.empty {w : World} {off cap g : Nat} {cs : List Value} (h : QO w off cap cs g) (off' : Nat) : QO w off' 0 [] g :=
  ⟨Nat.le_refl _, Nat.zero_le _, h.lt, fun j u hj => by simp at hj, fun j hj => absurd hj (Nat.not_lt_zero _)⟩

/-- All that was there but block g is as it was. -/
structure But (g : Nat) (w w' : World) : Prop where
  os : w'.os = w.os
  tape : w'.tape = w.tape
  output : w'.output = w.output
  size : w.heap.size ≤ w'.heap.size
  block : ∀ k, k < w.heap.size → k ≠ g → w'.heap[k]? = w.heap[k]?

theorem But.below {g B : Nat} {w w' : World} (h : But g w w') (hB : B ≤ w.heap.size) (hg : B ≤ g) : Below B w w' := ⟨h.os, h.tape, h.output, h.size, fun i hi => h.block i (by omega) (by omega)⟩

theorem QO.ofOwn {w : World} {base : Nat} {e : TypeId} {v : Value} {n : Nat} {xs : List Value} (h : w.ownsRow base e 1 v n xs) (hn : 0 < n) : ∃ g cap, v = .slice (some ⟨g, 0, none⟩) xs.length cap ∧ base ≤ g ∧ QO w 0 cap xs g := by
  have hl := h.1
  rw [Nat.mul_one] at hl
  rcases h.2 with ⟨rfl, h0⟩ | ⟨g, cap, cur, rfl, hb, hg, hnc, hcm, hcs, ht⟩
  · omega
  · refine ⟨g, cap, by rw [hl], hb, by omega, hcm, (Array.getElem?_eq_some_iff.1 hg).1, fun j u hj => ?_, fun j hj => ?_⟩
    · rw [Nat.zero_add, cell_of_row w g j cur e (0, 0) hg]
      rw [← ht, List.getElem?_take] at hj
      split at hj
      · simpa using hj
      · cases hj
    · rw [Nat.zero_add, cell_of_row w g j cur e (0, 0) hg]
      refine ⟨?_, h.frozenAt j⟩
      rw [Nat.mul_one] at hcs
      rw [Array.getElem?_eq_getElem (by omega)]; rfl

/-- Where the slice lies behind one append. -/
structure Qn (w w' : World) (g : Option Nat) (v' : Value) (cs : List Value) : Prop where
  at' : ∃ g' off cap, v' = .slice (some ⟨g', off, none⟩) cs.length cap ∧ QO w' off cap cs g' ∧ (g = some g' ∨ w.heap.size ≤ g')
  os : w'.os = w.os
  tape : w'.tape = w.tape
  output : w'.output = w.output
  size : w.heap.size ≤ w'.heap.size
  block : ∀ k, k < w.heap.size → g ≠ some k → w'.heap[k]? = w.heap[k]?

section
variable {P : Program} (w : World)

theorem run_append_q (t ty e : TypeId) (i : TypeInfo) (z : Value) (bytes : Nat) (ht : P.underlying t = some (.slice e)) (hi : P.info? e = some i) (hz : i.zero = some z) (hsize : i.size = 1) (hby : i.bytes = bytes) (hzs : z.cells.size = 1)
    (g off cap n : Nat) (cs : List Value) (hn : cs.length = n) (h : QO w off cap cs g) (ad : Addr) (c : Nat) (u : Value) (hu : w.cell? ad = some u) (h1 : u.oneCell' = true) (hlen : n + 1 ≤ 1000000) (hbytes : (n + 1) * bytes ≤ 140737488355328) :
    ∃ v' w', (Builtin.append_ #[t, t] ty #[.slice (some ⟨g, off, none⟩) n cap, .slice (some ad) 1 c]).run P w = .ok v' w' ∧ Qn w w' (some g) v' (cs ++ [u]) := by
  subst hn
  have hnews : ∀ j x, [u][j]? = some x → w.cell? (ad.add j) = some x := by
    intro j x hj
    cases j with
    | zero => simp at hj; subst hj; rw [show ad.add 0 = ad by simp [Addr.add]]; exact hu
    | succ j => simp at hj
  by_cases hr : cs.length + 1 ≤ cap
  · have hroom := h.room cs.length (by omega)
    have hrun := run_append_room_cells (P := P) w t ty e i ht hi g off cs.length cap ad 1 c [u] (by simp [hsize]) hnews (by simpa using h1) hr
      (fun j hj => by rw [hsize, Nat.mul_one]; simp at hj; subst hj; exact hroom.1) (fun j hj => by rw [hsize, Nat.mul_one]; simp at hj; subst hj; exact hroom.2)
    rw [hsize, Nat.mul_one] at hrun
    have hw : w.setCells g (off + cs.length) [u] = w.setCell ⟨g, off + cs.length, none⟩ u := rfl
    rw [hw] at hrun
    refine ⟨_, _, hrun, ⟨⟨g, off, cap, by simp, ⟨by simp; omega, h.mx, by simp; exact h.lt, fun j x hj => ?_, fun j hj => ?_⟩, .inl rfl⟩, rfl, rfl, rfl, by simp, fun k hk hne => Below.heap_setCell _ _ _ _ (fun e => hne (by rw [e]))⟩⟩
    · by_cases hj2 : j < cs.length
      · rw [List.getElem?_append_left hj2] at hj
        rw [World.cell?_setCell_other _ _ _ _ (fun e => by injection e with _ e2; omega)]; exact h.hold j x hj
      · rw [List.getElem?_append_right (by omega)] at hj
        have : j = cs.length := by
          rcases Nat.lt_or_ge (j - cs.length) 1 with q | q
          · omega
          · rw [List.getElem?_eq_none (by simp; omega)] at hj; cases hj
        subst this
        simp at hj
        subst hj
        obtain ⟨y, hy⟩ := Option.isSome_iff_exists.1 hroom.1
        exact World.cell?_setCell_same _ _ _ hy
    · rw [World.frozen?_setCell]
      refine ⟨?_, (h.room j hj).2⟩
      by_cases hj2 : j = cs.length
      · subst hj2
        obtain ⟨y, hy⟩ := Option.isSome_iff_exists.1 hroom.1
        rw [World.cell?_setCell_same _ _ _ hy]; rfl
      · rw [World.cell?_setCell_other _ _ _ _ (fun e => by injection e with _ e2; omega)]; exact (h.room j hj).1
  · have holds : ∀ j x, cs[j]? = some x → w.cell? ((⟨g, off, none⟩ : Addr).add j) = some x := fun j x hj => by rw [Addr.add_lit]; exact h.hold j x hj
    obtain ⟨v', w', hrun, r1, r2⟩ := run_append_arg_grows (P := P) w t ty e i z 1 bytes ht hi hz hsize hby hzs (by decide) ⟨g, off, none⟩ cs.length cap cs (by simp) holds ad 1 c [u] (by simp) hnews (by omega) (by unfold maxLen; omega) hbytes
    obtain ⟨g', cap', rfl, hb, hq⟩ := QO.ofOwn r1 (by omega)
    exact ⟨_, _, hrun, ⟨⟨g', 0, cap', rfl, hq, .inr hb⟩, r2.os, r2.tape, r2.output, r2.size, fun k hk _ => r2.block k hk (by simp)⟩⟩

theorem run_append_q0 (t ty e : TypeId) (i : TypeInfo) (z : Value) (bytes : Nat) (ht : P.underlying t = some (.slice e)) (hi : P.info? e = some i) (hz : i.zero = some z) (hsize : i.size = 1) (hby : i.bytes = bytes) (hzs : z.cells.size = 1)
    (ad : Addr) (c : Nat) (u : Value) (hu : w.cell? ad = some u) (h1 : u.oneCell' = true) (hbytes : bytes ≤ 140737488355328) :
    ∃ v' w', (Builtin.append_ #[t, t] ty #[.slice none 0 0, .slice (some ad) 1 c]).run P w = .ok v' w' ∧ Qn w w' none v' [u] := by
  have hnews : ∀ j x, [u][j]? = some x → w.cell? (ad.add j) = some x := by
    intro j x hj
    cases j with
    | zero => simp at hj; subst hj; rw [show ad.add 0 = ad by simp [Addr.add]]; exact hu
    | succ j => simp at hj
  obtain ⟨v', w', hrun, r1, r2, _⟩ := run_append_own (P := P) w w.heap.size t ty e i z 1 bytes ht hi hz hsize hby hzs (by decide) (.slice none 0 0) 0 [] (World.ownsRow_nil w _ e 1) ad 1 c [u] (by simp) hnews (by simpa using h1) (by unfold maxLen; omega) (by simpa using hbytes) (Nat.le_refl _)
  obtain ⟨g', cap', rfl, hb, hq⟩ := QO.ofOwn r1 (by omega)
  exact ⟨_, _, hrun, ⟨⟨g', 0, cap', rfl, hq, .inr hb⟩, r2.os, r2.tape, r2.output, r2.size, fun k hk _ => r2.block k hk (by simp [Value.ownBlock])⟩⟩
end

/-- A slice that may be nil yet. -/
def Qv (w : World) (v : Value) (cs : List Value) (g : Option Nat) : Prop := (v = .slice none 0 0 ∧ cs = [] ∧ g = none) ∨ ∃ k off cap, g = some k ∧ v = .slice (some ⟨k, off, none⟩) cs.length cap ∧ QO w off cap cs k

theorem Qn.qv {w w' : World} {g : Option Nat} {v' : Value} {cs : List Value} (h : Qn w w' g v' cs) : ∃ g', Qv w' v' cs g' ∧ (g' = g ∨ ∃ k, g' = some k ∧ w.heap.size ≤ k) ∧ ∀ k, g' = some k → k < w'.heap.size := by
  obtain ⟨g', off, cap, hv, hq, hg⟩ := h.at'
  refine ⟨some g', .inr ⟨g', off, cap, rfl, hv, hq⟩, ?_, fun k hk => by cases hk; exact hq.lt⟩
  rcases hg with hg | hg
  · exact .inl hg.symm
  · exact .inr ⟨g', rfl, hg⟩

theorem wp_append_q {P : Program} {o : Oper} {a : Act} {K : Act → World → Prop} {Q : Exit → Act → World → Prop} (w : World) (s x : Operand) (t : TypeId)
    (ho : o.op = .call { callee := .builtin .append, args := #[s, x], argTypes := #[t, t] })
    (e : TypeId) (i : TypeInfo) (z : Value) (bytes : Nat) (ht : P.underlying t = some (.slice e)) (hi : P.info? e = some i) (hz : i.zero = some z) (hsize : i.size = 1) (hby : i.bytes = bytes) (hzs : z.cells.size = 1)
    (v : Value) (cs : List Value) (g : Option Nat) (hs : a.eval s = v) (h : Qv w v cs g) (ad : Addr) (c : Nat) (u : Value) (hx : a.eval x = .slice (some ad) 1 c) (hu : w.cell? ad = some u) (h1 : u.oneCell' = true)
    (hlen : cs.length + 1 ≤ 1000000) (hbytes : bytes ≤ 1000)
    (hK : ∀ v' w', Qn w w' g v' (cs ++ [u]) → K (a.put o.dst v') w') : o.wp P a w K Q := by
  have key : ∃ v' w', (Builtin.append_ #[t, t] o.type #[v, .slice (some ad) 1 c]).run P w = .ok v' w' ∧ Qn w w' g v' (cs ++ [u]) := by
    rcases h with ⟨rfl, rfl, rfl⟩ | ⟨k, off, cap, rfl, rfl, hq⟩
    · exact run_append_q0 w t o.type e i z bytes ht hi hz hsize hby hzs ad c u hu h1 (by omega)
    · exact run_append_q w t o.type e i z bytes ht hi hz hsize hby hzs k off cap cs.length cs rfl hq ad c u hu h1 hlen (by have : (cs.length + 1) * bytes ≤ 1000000 * 1000 := Nat.mul_le_mul hlen hbytes; omega)
  obtain ⟨v', w', hr, hq⟩ := key
  unfold Oper.wp execOp
  simp only [ho, resolve, invoke, builtin, Sem.run_bind, Sem.run_pure, Result.andThen_ok, List.map_toArray, List.map_cons, List.map_nil, hs, hx, hr]
  exact hK v' w' hq

theorem wpList_append_q {P : Program} {ops : Array Oper} {rest : List Oper} {o : Oper} {a : Act} {Q : Exit → Act → World → Prop} (w : World) (hgd : o.guard = none) (s x : Operand) (t : TypeId)
    (ho : o.op = .call { callee := .builtin .append, args := #[s, x], argTypes := #[t, t] })
    (e : TypeId) (i : TypeInfo) (z : Value) (bytes : Nat) (ht : P.underlying t = some (.slice e)) (hi : P.info? e = some i) (hz : i.zero = some z) (hsize : i.size = 1) (hby : i.bytes = bytes) (hzs : z.cells.size = 1)
    (v : Value) (cs : List Value) (g : Option Nat) (hs : a.eval s = v) (h : Qv w v cs g) (ad : Addr) (c : Nat) (u : Value) (hx : a.eval x = .slice (some ad) 1 c) (hu : w.cell? ad = some u) (h1 : u.oneCell' = true)
    (hlen : cs.length + 1 ≤ 1000000) (hbytes : bytes ≤ 1000)
    (hK : ∀ v' w', Qn w w' g v' (cs ++ [u]) → wpList P ops Q rest (a.put o.dst v') w') : wpList P ops Q (o :: rest) a w :=
  wpList_plain hgd fun _ hK2 => wp_append_q w s x t ho e i z bytes ht hi hz hsize hby hzs v cs g hs h ad c u hx hu h1 hlen hbytes fun v' w' h2 => hK2 _ _ (hK v' w' h2)

theorem step_append_q {P : Program} {ops : Array Oper} {o : Oper} {a : Act} {K : Act → World → Prop} {Q : Exit → Act → World → Prop} {E : Prop} (w : World) (hgd : o.guard = none) (s x : Operand) (t : TypeId)
    (ho : o.op = .call { callee := .builtin .append, args := #[s, x], argTypes := #[t, t] })
    (e : TypeId) (i : TypeInfo) (z : Value) (bytes : Nat) (ht : P.underlying t = some (.slice e)) (hi : P.info? e = some i) (hz : i.zero = some z) (hsize : i.size = 1) (hby : i.bytes = bytes) (hzs : z.cells.size = 1)
    (v : Value) (cs : List Value) (g : Option Nat) (hs : a.eval s = v) (h : Qv w v cs g) (ad : Addr) (c : Nat) (u : Value) (hx : a.eval x = .slice (some ad) 1 c) (hu : w.cell? ad = some u) (h1 : u.oneCell' = true)
    (hlen : cs.length + 1 ≤ 1000000) (hbytes : bytes ≤ 1000)
    (hK : ∀ v' w', Qn w w' g v' (cs ++ [u]) → K (a.put o.dst v') w') : if Region.wanted o (yielded ops a.tmps) = true then Oper.wp P o a w K Q else E := by
  rw [if_pos (by simp [Region.wanted, hgd])]
  exact wp_append_q w s x t ho e i z bytes ht hi hz hsize hby hzs v cs g hs h ad c u hx hu h1 hlen hbytes hK

end Go.Proofs.Ytjmfjgoehicgcaa
