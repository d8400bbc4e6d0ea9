/- Moves are begun: the program. -/
import Derived.Test.YtjmfjgoehicgcaaMgID
import Derived.Test.YtjmfjgoehicgcaaMgZH
set_option linter.unusedVariables false
set_option linter.unusedSimpArgs false
namespace Go.Proofs.Ytjmfjgoehicgcaa
open Go.RowKit

def ETm : Nat → TypeId := fun j => if j = 0 then 22 else if j = 1 then 90 else 3
def ints (xs : List Int) : List Value := xs.map (Value.int .i64)
theorem ints_len (xs : List Int) : (ints xs).length = xs.length := by simp [ints]
theorem ints_snoc (xs : List Int) (y : Int) : ints (xs ++ [y]) = ints xs ++ [.int .i64 y] := by simp [ints]

theorem owns_same {B B' : Nat} {e : TypeId} {n : Nat} {w : World} {v : Value} {xs ys : List Value} (h : w.ownsRow B e 1 v n xs) (k : w.ownsRow B' e 1 v n ys) : xs = ys := by
  have l1 := h.1
  have l2 := k.1
  rcases h.2 with ⟨h1, h0⟩ | ⟨g, cap, cur, rfl, hb, hg, hnc, hcm, hcs, ht⟩
  · have e1 : xs = [] := List.length_eq_zero_iff.1 (by omega)
    have e2 : ys = [] := List.length_eq_zero_iff.1 (by omega)
    rw [e1, e2]
  · rcases k.2 with ⟨h1, h0⟩ | ⟨g', cap', cur', e, hb', hg', hnc', hcm', hcs', ht'⟩
    · cases h1
    · cases e
      rw [hg] at hg'
      injection hg' with hg'
      injection hg' with hg'
      subst hg'
      exact ht.symm.trans ht'

/-- The program's moves while they are made: so many rows and numbers. -/
structure NMm (MB N : Nat) (W wr : World) (XL DL : List Int) (kF kX n : Nat) (V : Nat → Value) : Prop where
  ex : ∃ (XS : Nat → List Value) (RB : Nat → Nat) (RT : Nat → TypeId) (RX : Nat → List Value) (kk : Nat → Nat), NV MB N W wr ETm V XS n RB RT RX kk ∧ XS 0 = rowsV RB 0 N kF ∧ XS 1 = rowsV RB 1 N kX ∧ XS 2 = ints XL ∧ XS 3 = ints DL ∧
    (∀ i, i < kF → RT (2 * i) = 3 ∧ RX (2 * i) = zerosV N) ∧ (∀ i, i < kX → RT (2 * i + 1) = 4 ∧ RX (2 * i + 1) = falses N) ∧ 2 * kF ≤ n + 1 ∧ 2 * kX ≤ n

section
variable {MB N : Nat} {W wr wr' : World} {XL DL : List Int} {kF kX n : Nat} {V : Nat → Value}
theorem NMm.later (h : NMm MB N W wr XL DL kF kX n V) (hb : Below wr.heap.size wr wr') : NMm MB N W wr' XL DL kF kX n V := by
  obtain ⟨XS, RB, RT, RX, kk, h1, h2⟩ := h.ex
  exact ⟨XS, RB, RT, RX, kk, h1.later hb, h2⟩
theorem NMm.c (h : NMm MB N W wr XL DL kF kX n V) {j : Nat} (hj : j < 4) : wr.cell? ⟨MB, j, none⟩ = some (V j) := by
  obtain ⟨XS, RB, RT, RX, kk, h1, h2⟩ := h.ex; exact h1.c j hj
theorem NMm.fz (h : NMm MB N W wr XL DL kF kX n V) (o : Nat) : wr.frozen? ⟨MB, o, none⟩ = false := by
  obtain ⟨XS, RB, RT, RX, kk, h1, h2⟩ := h.ex; exact h1.fz o
theorem NMm.bl (h : NMm MB N W wr XL DL kF kX n V) : Below W.heap.size W wr := by
  obtain ⟨XS, RB, RT, RX, kk, h1, h2⟩ := h.ex; exact h1.bl
theorem NMm.mB (h : NMm MB N W wr XL DL kF kX n V) : W.heap.size ≤ MB ∧ MB < wr.heap.size := by
  obtain ⟨XS, RB, RT, RX, kk, h1, h2⟩ := h.ex; exact ⟨h1.mB, h1.mlt⟩
theorem NMm.vne (h : NMm MB N W wr XL DL kF kX n V) {j : Nat} (hj : j < 4) : (V j).ownBlock ≠ some MB ∧ ∀ z, z < W.heap.size → (V j).ownBlock ≠ some z := by
  obtain ⟨XS, RB, RT, RX, kk, h1, h2⟩ := h.ex
  exact ⟨fun e => by have e1 := h1.tm; have e2 := h1.tv j hj MB e; omega, fun z hz e => by have := (h1.vlt hj e).1; omega⟩
theorem NMm.owF (h : NMm MB N W wr XL DL kF kX n V) : ∃ xs : List Value, xs.length = kF ∧ wr.ownsRow W.heap.size 22 1 (V 0) kF xs := by
  obtain ⟨XS, RB, RT, RX, kk, h1, e0, -⟩ := h.ex
  have := h1.ow 0 (by omega)
  rw [e0, rowsV_len] at this
  exact ⟨_, rowsV_len _ _ _ _, this⟩
theorem NMm.owX (h : NMm MB N W wr XL DL kF kX n V) : ∃ xs : List Value, xs.length = kX ∧ wr.ownsRow W.heap.size 90 1 (V 1) kX xs := by
  obtain ⟨XS, RB, RT, RX, kk, h1, e0, e1, -⟩ := h.ex
  have := h1.ow 1 (by omega)
  rw [e1, rowsV_len] at this
  exact ⟨_, rowsV_len _ _ _ _, this⟩
theorem NMm.owL (h : NMm MB N W wr XL DL kF kX n V) : Own W.heap.size wr (V 2) XL := by
  obtain ⟨XS, RB, RT, RX, kk, h1, e0, e1, e2, -⟩ := h.ex
  have := h1.ow 2 (by omega)
  rw [e2, ints_len] at this
  exact this
theorem NMm.owD (h : NMm MB N W wr XL DL kF kX n V) : Own W.heap.size wr (V 3) DL := by
  obtain ⟨XS, RB, RT, RX, kk, h1, e0, e1, e2, e3, -⟩ := h.ex
  have := h1.ow 3 (by omega)
  rw [e3, ints_len] at this
  exact this

def setV (V : Nat → Value) (j : Nat) (v : Value) : Nat → Value := fun i => if i = j then v else V i

/-- A row of numbers has been made, and put to the others. -/
theorem NMm.rowF {wA w3 w4 : World} {g cap : Nat} {k : Nat} {xs : List Value} (h : NMm MB N W wr XL DL k k (2 * k) V) (hbA : Below wr.heap.size wr wA) (hoA : wA.ownsRow wr.heap.size 3 1 (.slice (some ⟨wr.heap.size, 0, none⟩) N N) N (zerosV N)) (hb3 : Below wA.heap.size wA w3)
    (hg : w3.grownBy w4 (V 0).ownBlock) (hl : (V 0).ownBlock = some g ∨ g = w3.heap.size) (hx : w3.ownsRow W.heap.size 22 1 (V 0) k xs) (ho : w4.ownsRow W.heap.size 22 1 (.slice (some ⟨g, 0, none⟩) (k + 1) cap) (k + 1) (xs ++ [.slice (some ⟨wr.heap.size, 0, none⟩) N N])) :
    NMm MB N W (w4.setCell ⟨MB, 0, none⟩ (.slice (some ⟨g, 0, none⟩) (k + 1) cap)) XL DL (k + 1) k (2 * k + 1) (setV V 0 (.slice (some ⟨g, 0, none⟩) (k + 1) cap)) := by
  obtain ⟨XS, RB, RT, RX, kk, h1, e0, e1, e2, e3, r1, r2, r3, r4⟩ := h.ex
  have hws := h1.bl.size
  have h2 := (h1.addRow hbA wr.heap.size 3 (zerosV N) rfl (ownsMono hoA hws)).later hb3
  have hx0 := h2.ow 0 (by omega)
  have hxe : xs = rowsV RB 0 N k := by
    rw [e0, rowsV_len] at hx0
    exact owns_same hx hx0
  have hcg : rowsV (upn RB (2 * k) wr.heap.size) 0 N k = rowsV RB 0 N k := rowsV_cong fun i hi => by rw [upn_off _ _ _ _ (by omega)]
  have hcg1 : rowsV (upn RB (2 * k) wr.heap.size) 1 N k = rowsV RB 1 N k := rowsV_cong fun i hi => by rw [upn_off _ _ _ _ (by omega)]
  have ho2 : w4.ownsRow W.heap.size (ETm 0) 1 (.slice (some ⟨g, 0, none⟩) (k + 1) cap) (k + 1) (xs ++ [.slice (some ⟨wr.heap.size, 0, none⟩) N N]) := ho
  have h3 := h2.put (j := 0) (by omega) hg ho2 (by rw [List.length_append, hxe, rowsV_len]; rfl) hl
  refine ⟨_, _, _, _, _, h3, ?_, ?_, ?_, ?_, fun i hi => ?_, fun i hi => ?_, by omega, by omega⟩
  · rw [if_pos rfl, rowsV_succ, hcg, hxe, Nat.add_zero, upn_same]
  · rw [if_neg (by decide), e1, hcg1]
  · rw [if_neg (by decide), e2]
  · rw [if_neg (by decide), e3]
  · by_cases e : i = k
    · subst e; rw [if_pos rfl, if_pos rfl]; exact ⟨rfl, rfl⟩
    · rw [if_neg (by omega), if_neg (by omega)]; exact r1 i (by omega)
  · rw [if_neg (by omega), if_neg (by omega)]; exact r2 i hi

theorem NMm.rowX {wA w3 w4 : World} {g cap : Nat} {k : Nat} {xs : List Value} (h : NMm MB N W wr XL DL (k + 1) k (2 * k + 1) V) (hbA : Below wr.heap.size wr wA) (hoA : wA.ownsRow wr.heap.size 4 1 (.slice (some ⟨wr.heap.size, 0, none⟩) N N) N (falses N)) (hb3 : Below wA.heap.size wA w3)
    (hg : w3.grownBy w4 (V 1).ownBlock) (hl : (V 1).ownBlock = some g ∨ g = w3.heap.size) (hx : w3.ownsRow W.heap.size 90 1 (V 1) k xs) (ho : w4.ownsRow W.heap.size 90 1 (.slice (some ⟨g, 0, none⟩) (k + 1) cap) (k + 1) (xs ++ [.slice (some ⟨wr.heap.size, 0, none⟩) N N])) :
    NMm MB N W (w4.setCell ⟨MB, 1, none⟩ (.slice (some ⟨g, 0, none⟩) (k + 1) cap)) XL DL (k + 1) (k + 1) (2 * (k + 1)) (setV V 1 (.slice (some ⟨g, 0, none⟩) (k + 1) cap)) := by
  obtain ⟨XS, RB, RT, RX, kk, h1, e0, e1, e2, e3, r1, r2, r3, r4⟩ := h.ex
  have hws := h1.bl.size
  have h2 := (h1.addRow hbA wr.heap.size 4 (falses N) rfl (ownsMono hoA hws)).later hb3
  have hx0 := h2.ow 1 (by omega)
  have hxe : xs = rowsV RB 1 N k := by
    rw [e1, rowsV_len] at hx0
    exact owns_same hx hx0
  have hcg : rowsV (upn RB (2 * k + 1) wr.heap.size) 0 N (k + 1) = rowsV RB 0 N (k + 1) := rowsV_cong fun i hi => by rw [upn_off _ _ _ _ (by omega)]
  have hcg1 : rowsV (upn RB (2 * k + 1) wr.heap.size) 1 N k = rowsV RB 1 N k := rowsV_cong fun i hi => by rw [upn_off _ _ _ _ (by omega)]
  have ho2 : w4.ownsRow W.heap.size (ETm 1) 1 (.slice (some ⟨g, 0, none⟩) (k + 1) cap) (k + 1) (xs ++ [.slice (some ⟨wr.heap.size, 0, none⟩) N N]) := ho
  have h3 := h2.put (j := 1) (by omega) hg ho2 (by rw [List.length_append, hxe, rowsV_len]; rfl) hl
  refine ⟨_, _, _, _, _, h3, ?_, ?_, ?_, ?_, fun i hi => ?_, fun i hi => ?_, by omega, by omega⟩
  · rw [if_neg (by decide), e0, hcg]
  · rw [if_pos rfl, rowsV_succ, hcg1, hxe, upn_same]
  · rw [if_neg (by decide), e2]
  · rw [if_neg (by decide), e3]
  · rw [if_neg (by omega), if_neg (by omega)]; exact r1 i hi
  · by_cases e : i = k
    · subst e; rw [if_pos rfl, if_pos rfl]; exact ⟨rfl, rfl⟩
    · rw [if_neg (by omega), if_neg (by omega)]; exact r2 i (by omega)

theorem NMm.putL {w4 : World} {g m cap : Nat} {y : Int} (h : NMm MB N W wr XL DL kF kX n V) (hg : wr.grownBy w4 (V 2).ownBlock) (ho : Own W.heap.size w4 (.slice (some ⟨g, 0, none⟩) m cap) (XL ++ [y])) (hm : m = XL.length + 1) (hl : (V 2).ownBlock = some g ∨ g = wr.heap.size) :
    NMm MB N W (w4.setCell ⟨MB, 2, none⟩ (.slice (some ⟨g, 0, none⟩) m cap)) (XL ++ [y]) DL kF kX n (setV V 2 (.slice (some ⟨g, 0, none⟩) m cap)) := by
  obtain ⟨XS, RB, RT, RX, kk, h1, e0, e1, e2, e3, r⟩ := h.ex
  have ho2 : w4.ownsRow W.heap.size 3 1 (.slice (some ⟨g, 0, none⟩) m cap) m (ints (XL ++ [y])) := by
    have := ho; unfold Own at this; rw [show (XL ++ [y]).length = m by rw [hm]; simp] at this; exact this
  have h3 := h1.put (j := 2) (by omega) hg (show w4.ownsRow W.heap.size (ETm 2) 1 _ _ _ from ho2) (by rw [ints_len, hm]; simp) hl
  exact ⟨_, _, _, _, _, h3, by rw [if_neg (by decide), e0], by rw [if_neg (by decide), e1], by rw [if_pos rfl], by rw [if_neg (by decide), e3], r⟩

theorem NMm.putD {w4 : World} {g m cap : Nat} {y : Int} (h : NMm MB N W wr XL DL kF kX n V) (hg : wr.grownBy w4 (V 3).ownBlock) (ho : Own W.heap.size w4 (.slice (some ⟨g, 0, none⟩) m cap) (DL ++ [y])) (hm : m = DL.length + 1) (hl : (V 3).ownBlock = some g ∨ g = wr.heap.size) :
    NMm MB N W (w4.setCell ⟨MB, 3, none⟩ (.slice (some ⟨g, 0, none⟩) m cap)) XL (DL ++ [y]) kF kX n (setV V 3 (.slice (some ⟨g, 0, none⟩) m cap)) := by
  obtain ⟨XS, RB, RT, RX, kk, h1, e0, e1, e2, e3, r⟩ := h.ex
  have ho2 : w4.ownsRow W.heap.size 3 1 (.slice (some ⟨g, 0, none⟩) m cap) m (ints (DL ++ [y])) := by
    have := ho; unfold Own at this; rw [show (DL ++ [y]).length = m by rw [hm]; simp] at this; exact this
  have h3 := h1.put (j := 3) (by omega) hg (show w4.ownsRow W.heap.size (ETm 3) 1 _ _ _ from ho2) (by rw [ints_len, hm]; simp) hl
  exact ⟨_, _, _, _, _, h3, by rw [if_neg (by decide), e0], by rw [if_neg (by decide), e1], by rw [if_neg (by decide), e2], by rw [if_pos rfl], r⟩

/-- When all is made. -/
theorem NMm.mv (h : NMm MB N W wr XL DL N N (2 * N) V) (h1 : 1 ≤ N) (h16 : N ≤ 16) (hl : XL.length = N) (hd : DL.length = N) :
    ∃ L : Lay, L.N = N ∧ L.MB = MB ∧ MV L wr (fun _ _ => 0) (fun _ _ => false) (nth XL) (nth DL) ∧ ∀ z, L.Mut z → W.heap.size ≤ z := by
  obtain ⟨XS, RB, RT, RX, kk, hv, e0, e1, e2, e3, r1, r2, r3, r4⟩ := h.ex
  have w0 := hv.ow 0 (by omega); rw [e0, rowsV_len] at w0
  have w1 := hv.ow 1 (by omega); rw [e1, rowsV_len] at w1
  have w2 := hv.ow 2 (by omega); rw [e2, ints_len, hl] at w2
  have w3 := hv.ow 3 (by omega); rw [e3, ints_len, hd] at w3
  obtain ⟨g0, c0, q0, b0, l0⟩ := World.ownsRow.form w0 (by omega)
  obtain ⟨g1, c1, q1, b1, l1⟩ := World.ownsRow.form w1 (by omega)
  obtain ⟨g2, c2, q2, b2, l2⟩ := World.ownsRow.form w2 (by omega)
  obtain ⟨g3, c3, q3, b3, l3⟩ := World.ownsRow.form w3 (by omega)
  rw [q0] at w0; rw [q1] at w1; rw [q2] at w2; rw [q3] at w3
  have ok : (⟨N, MB, g0, c0, g1, c1, g2, c2, g3, c3, fun i => RB (2 * i), fun i => RB (2 * i + 1), kk⟩ : Lay).Ok :=
    ⟨h1, h16, hv.tm, hv.tv 0 (by omega) g0 (by rw [q0]; rfl), hv.tv 1 (by omega) g1 (by rw [q1]; rfl), hv.tv 2 (by omega) g2 (by rw [q2]; rfl), hv.tv 3 (by omega) g3 (by rw [q3]; rfl),
      fun i hi => hv.tr (2 * i) (by show 2 * i < 2 * N; have : i < N := hi; omega), fun i hi => by have : i < N := hi; have e := hv.tr (2 * i + 1) (by omega); show kk (RB (2 * i + 1)) = _; rw [e]; omega⟩
  have rowF : ∀ i, i < N → wr.ownsRow W.heap.size 3 1 (.slice (some ⟨RB (2 * i), 0, none⟩) N N) N (zerosV N) := fun i hi => by
    have e := hv.rw (2 * i) (by omega); rw [(r1 i hi).1, (r1 i hi).2] at e; exact e
  have rowX : ∀ i, i < N → wr.ownsRow W.heap.size 4 1 (.slice (some ⟨RB (2 * i + 1), 0, none⟩) N N) N (falses N) := fun i hi => by
    have e := hv.rw (2 * i + 1) (by omega); rw [(r2 i hi).1, (r2 i hi).2] at e; exact e
  refine ⟨⟨N, MB, g0, c0, g1, c1, g2, c2, g3, c3, fun i => RB (2 * i), fun i => RB (2 * i + 1), kk⟩, rfl, rfl, ⟨ok, by rw [hv.c 0 (by omega), q0], by rw [hv.c 1 (by omega), q1], by rw [hv.c 2 (by omega), q2], by rw [hv.c 3 (by omega), q3],
    fun i hi => ?_, fun i hi => ?_, fun b a hb ha => ?_, fun b a hb ha => ?_, fun i hi => ?_, fun i hi => ?_, fun b o hb => World.ownsRow.frozenAt (rowF b hb) o, fun b o hb => World.ownsRow.frozenAt (rowX b hb) o, fun o => World.ownsRow.frozenAt w2 o, fun o => World.ownsRow.frozenAt w3 o⟩, fun z hz => ?_⟩
  · have hi' : i < N := hi
    show wr.cell? ⟨g0, i, none⟩ = _
    rw [World.ownsRow.cellAt w0 i (by omega), rowsV_at _ _ _ _ _ hi']
    rfl
  · have hi' : i < N := hi
    show wr.cell? ⟨g1, i, none⟩ = _
    rw [World.ownsRow.cellAt w1 i (by omega), rowsV_at _ _ _ _ _ hi']
  · have hb' : b < N := hb
    have ha' : a < N := ha
    show wr.cell? ⟨RB (2 * b), a, none⟩ = _
    rw [World.ownsRow.cellAt (rowF b hb') a (by omega)]
    simp [zerosV, ha']
  · have hb' : b < N := hb
    have ha' : a < N := ha
    show wr.cell? ⟨RB (2 * b + 1), a, none⟩ = _
    rw [World.ownsRow.cellAt (rowX b hb') a (by omega)]
    simp [falses, ha']
  · have hi' : i < N := hi
    show wr.cell? ⟨g2, i, none⟩ = _
    rw [World.ownsRow.cellAt w2 i (by omega)]
    simp [ints, nth_eq XL i (by omega), show i < XL.length by omega]
  · have hi' : i < N := hi
    show wr.cell? ⟨g3, i, none⟩ = _
    rw [World.ownsRow.cellAt w3 i (by omega)]
    simp [ints, nth_eq DL i (by omega), show i < DL.length by omega]
  · rcases hz.2 with ⟨i, hi, rfl⟩ | ⟨i, hi, rfl⟩ | rfl | rfl
    · exact (hv.rlt (i := 2 * i) (by have : i < N := hi; omega)).1
    · exact (hv.rlt (i := 2 * i + 1) (by have : i < N := hi; omega)).1
    · exact b2
    · exact b3
end

/-- Ways that come to one state. -/
theorem shareG {R : Nat → Nat → World → Prop} {Q : Nat → Nat → World → Prop} {Z : Prop} (h : (∀ a b w, Hid (R a b w) → Q a b w) → Z) (k : ∀ a b w, Hid (R a b w) → Q a b w) : Z := h k

/-- What 'newMoves' gives. -/
def NewMvPost (N : Nat) (sup dem : Nat → Int) (w : World) (e : Ending) (w' : World) : Prop :=
  Below w.heap.size w w' ∧ ((e = .returned (.tuple #[.pointer none, .bool false]) ∧ ¬ ∃ G, Flow N sup dem G) ∨
    ∃ (L : Lay) (F : Nat → Nat → Int) (lf du : Nat → Int), e = .returned (.tuple #[.pointer (some ⟨L.MB, 0, none⟩), .bool true]) ∧ L.N = N ∧ MV L w' F (fun _ _ => false) lf du ∧ Flow N sup dem F ∧ ∀ z, L.Mut z → w.heap.size ≤ z)

set_option maxHeartbeats 8000000 in
set_option maxRecDepth 100000 in
theorem newMoves_any (N : Nat) (s t : Int) (p q : Option Addr) (c d : Nat) (xs ys : List Int) (w : World) (hx : Reads w p xs) (hy : Reads w q ys) (ht : TwoM xs ys N) :
    Calls Try.prog 60 #[.agg #[.int .i64 s, .slice p N c], .agg #[.int .i64 t, .slice q N d]] w (NewMvPost N (supS xs ys) (demS xs ys) w) := by
  have h1 := ht.n1
  have h16 := ht.n16
  have HW1 := Lib.hid (fun (w : World) (h : Reads w p xs) => wholeOf_any s p c xs w h (by have := ht.xl; omega) ht.ax)
  have HW2 := Lib.hid (fun (w : World) (h : Reads w q ys) => wholeOf_any t q d ys w h (by have := ht.yl; omega) ht.ay)
  rw [ht.xl] at HW1
  rw [ht.yl] at HW2
  obtain ⟨mf, hmf⟩ := makeFnV 22 3 (.int .i64 0) 8 Try.underlying22 Try.info3 rfl (by decide) N (by omega)
  obtain ⟨mb, hmb⟩ := makeFnV 90 4 (.bool false) 1 Try.underlying90 Try.infoB rfl (by decide) N (by omega)
  have HMF := Lib.hid hmf
  have HMB := Lib.hid hmb
  have HT := Lib.hid ht
  have HX := Lib.hid hx
  have HY := Lib.hid hy
  have hsx := ht.sx
  have hsy := ht.sy
  obtain ⟨X, hX⟩ : ∃ X, X = sumL xs := ⟨_, rfl⟩
  obtain ⟨Y, hY⟩ : ∃ Y, Y = sumL ys := ⟨_, rfl⟩
  rw [← hX] at HW1 hsx
  rw [← hY] at HW2 hsy
  have HXE := Lib.hid hX
  have HYE := Lib.hid hY
  clear hmf hmb hx hy ht hX hY
  obtain ⟨W, hW⟩ : ∃ W : World, W = (w.alloc (.cells #[.int .i64 s, .slice p N c] 27)).alloc (.cells #[.int .i64 t, .slice q N d] 27) := ⟨_, rfl⟩
  have hbW : Below w.heap.size w W := by rw [hW]; exact (belowAlloc w _).thenB (belowAlloc _ _)
  have hsz : W.heap.size = w.heap.size + 2 := by rw [hW]; simp
  have bm : VarInv W w.heap.size s (.slice p N c) := by rw [hW]; exact (VarInv.made _ _ _ _).later (belowAlloc _ _)
  have bn : VarInv W (w.heap.size + 1) t (.slice q N d) := by
    have e := VarInv.made (w.alloc (.cells #[.int .i64 s, .slice p N c] 27)) t (.slice q N d) 27
    rw [allocSz] at e
    rw [hW]; exact e
  have hnm : NMm W.heap.size N W (W.alloc (.cells #[.slice none 0 0, .slice none 0 0, .slice none 0 0, .slice none 0 0] 88)) [] [] 0 0 (2 * 0) (fun _ => .slice none 0 0) := by
    have bb := Bx.made W (.slice none 0 0) (.slice none 0 0) (.slice none 0 0) (.slice none 0 0) 88
    refine ⟨fun _ => [], fun _ => 0, fun _ => 0, fun _ => [], fun _ => 0, ⟨fun j hj => ?_, newFroz _ _ _, fun j hj => World.ownsRow_nil _ _ _ _, (fun i hi => absurd hi (Nat.not_lt_zero _)), rfl, (fun j hj g e => by cases e), (fun i hi => absurd hi (Nat.not_lt_zero _)), belowAlloc _ _, Nat.le_refl _⟩, rfl, rfl, rfl, rfl, fun i hi => absurd hi (Nat.not_lt_zero _), fun i hi => absurd hi (Nat.not_lt_zero _), by omega, by omega⟩
    match j, hj with
    | 0, _ => exact bb.c0
    | 1, _ => exact bb.c1
    | 2, _ => exact bb.c2
    | 3, _ => exact bb.c3
  rw [show W.heap.size = w.heap.size + 1 + 1 from hsz] at hnm
  have HW := Lib.hid hW
  have HSZ : Hid (w.heap.size < W.heap.size ∧ w.heap.size + 1 < W.heap.size) := Lib.hid (by omega)
  have HBW := Lib.hid hbW
  have HBM := Lib.hid bm
  have HBN := Lib.hid bn
  have HNM := Lib.hid hnm
  have m1 := bm.c1
  clear hW hbW bm bn hnm hsz
  go_enter Try.func60, Try.ntmps60
  go_wp2_with fail
  rw [← HW.out]
  clear HW
  generalize W.alloc (.cells #[.slice none 0 0, .slice none 0 0, .slice none 0 0, .slice none 0 0] 88) = w1 at *
  generalize w.heap.size + 1 + 1 = MB at *
  go_loopw [16] (fun i wr => ∃ (k : Nat) (V : Nat → Value), k ≤ N ∧ i = .int .i64 k ∧ NMm MB N W wr (mulL ys X k) (mulL xs Y k) k k (2 * k) V) (fun i _ => N - (intOf i).toNat)
  case atStart => exact ⟨0, _, Nat.zero_le _, rfl, HNM.out⟩
  case round =>
    clear HNM
    obtain ⟨k, V, hk, rfl, h⟩ := hrel
    by_cases hkN : k < N
    · have hkz : (k : Int) < (N : Int) := by omega
      go_wp2_with fail
      have HS := Lib.hid h
      clear h
      apply shareG (R := fun g cap w' => NMm MB N W w' (mulL ys X k) (mulL xs Y k) (k + 1) k (2 * k + 1) (setV V 0 (.slice (some ⟨g, 0, none⟩) (k + 1) cap)))
      · intro key
        have h := HS.out
        have c0 := h.c (j := 0) (by omega)
        have f0 := h.fz 0
        have c1 := h.c (j := 1) (by omega)
        have hne := h.vne (j := 0) (by omega)
        obtain ⟨rxs, hrl, how⟩ := h.owF
        obtain ⟨hrun0, hoA, hbA, hlA⟩ := HMF.out wr.drew
        replace hbA := undrew hbA
        have hms := h.mB
        have hwl := h.bl.size
        have hlA2 : wr.heap.size < (mf wr.drew).heap.size := hlA
        have hMA : MB < (mf wr.drew).heap.size := by omega
        have cA := cellKeep hbA c0
        have fA := frozKeep hbA hms.2 f0
        have cB := cellKeep hbA c1
        have hrun := fun w => (HMF.out w).1
        have HROW := Lib.hid (And.intro hoA hbA)
        have HNE := Lib.hid hne
        have HOW := Lib.hid how
        have HRL := Lib.hid hrl
        have hnp : (⟨MB, 0, none⟩ : Addr) ≠ ⟨MB, 1, none⟩ := by simp
        have hHA : Hid (W.heap.size ≤ (mf wr.drew).heap.size) := Lib.hid (by omega)
        have HH := Lib.hid h
        clear hoA hbA hlA hrun0 hne how hrl h
        go_region_law
          (first
            | (refine step_append_v _ (by rfl) _ _ 85 22 (by rfl) (.slice none 0 0) 24 Try.underlying85 Try.infoSI rfl (by decide) W.heap.size _ rxs k HRL.out (by rfl) (ownsLater (ownsLater HOW.out HROW.out.2) (belowAlloc _ _)) ⟨(mf wr.drew).heap.size, 0, none⟩ 1 (.slice (some ⟨wr.heap.size, 0, none⟩) N N) (by rfl) (newCell _ _ _) rfl (by omega) (by have := hHA.out; simp; omega) ?_; intro g cap w4 ow hg hl hlt; (have cB4 := farCell hg (cellKeep (belowAlloc _ _) cB) HNE.out.1); (have cA4 := farCell hg (cellKeep (belowAlloc _ _) cA) HNE.out.1); (have fA4 := farFroz hg (by simp; omega) (frozKeep (belowAlloc _ _) hMA fA) HNE.out.1)))
        all_goals
          have hQ : Hid (NMm MB N W (w4.setCell ⟨MB, 0, none⟩ (.slice (some ⟨g, 0, none⟩) (k + 1) cap)) (mulL ys X k) (mulL xs Y k) (k + 1) k (2 * k + 1) (setV V 0 (.slice (some ⟨g, 0, none⟩) (k + 1) cap))) := Lib.hid (HH.out.rowF HROW.out.2 HROW.out.1 (belowAlloc _ _) hg hl (ownsLater (ownsLater HOW.out HROW.out.2) (belowAlloc _ _)) ow)
          revert hQ
          generalize w4.setCell ⟨MB, 0, none⟩ (.slice (some ⟨g, 0, none⟩) (k + 1) cap) = w5
          intro hQ
          exact key g cap w5 hQ
      intro g cap wr1 HQ
      generalize hvv : setV V 0 (.slice (some ⟨g, 0, none⟩) (k + 1) cap) = Vb at HQ
      clear hvv
      have ha := HQ.out
      clear HQ HS
      go_wp2_with fail
      have HS := Lib.hid ha
      clear ha
      apply shareG (R := fun g cap w' => NMm MB N W w' (mulL ys X k) (mulL xs Y k) (k + 1) (k + 1) (2 * (k + 1)) (setV Vb 1 (.slice (some ⟨g, 0, none⟩) (k + 1) cap)))
      · intro key
        have ha := HS.out
        have c1 := ha.c (j := 1) (by omega)
        have f1 := ha.fz 1
        have c0 := ha.c (j := 0) (by omega)
        have hne := ha.vne (j := 1) (by omega)
        obtain ⟨rxs, hrl, how⟩ := ha.owX
        obtain ⟨hrun0, hoA, hbA, hlA⟩ := HMB.out wr1.drew
        replace hbA := undrew hbA
        have hms := ha.mB
        have hwl := ha.bl.size
        have hlA2 : wr1.heap.size < (mb wr1.drew).heap.size := hlA
        have hMA : MB < (mb wr1.drew).heap.size := by omega
        have cA := cellKeep hbA c1
        have fA := frozKeep hbA hms.2 f1
        have cB := cellKeep hbA c0
        have hrun := fun w => (HMB.out w).1
        have HROW := Lib.hid (And.intro hoA hbA)
        have HNE := Lib.hid hne
        have HOW := Lib.hid how
        have HRL := Lib.hid hrl
        have hnp : (⟨MB, 1, none⟩ : Addr) ≠ ⟨MB, 0, none⟩ := by simp
        have hHA : Hid (W.heap.size ≤ (mb wr1.drew).heap.size) := Lib.hid (by omega)
        have HH := Lib.hid ha
        clear hoA hbA hlA hrun0 hne how hrl ha
        go_region_law
          (first
            | (refine step_append_v _ (by rfl) _ _ 86 90 (by rfl) (.slice none 0 0) 24 Try.underlying86 Try.infoSB rfl (by decide) W.heap.size _ rxs k HRL.out (by rfl) (ownsLater (ownsLater HOW.out HROW.out.2) (belowAlloc _ _)) ⟨(mb wr1.drew).heap.size, 0, none⟩ 1 (.slice (some ⟨wr1.heap.size, 0, none⟩) N N) (by rfl) (newCell _ _ _) rfl (by omega) (by have := hHA.out; simp; omega) ?_; intro g cap w4 ow hg hl hlt; (have cB4 := farCell hg (cellKeep (belowAlloc _ _) cB) HNE.out.1); (have cA4 := farCell hg (cellKeep (belowAlloc _ _) cA) HNE.out.1); (have fA4 := farFroz hg (by simp; omega) (frozKeep (belowAlloc _ _) hMA fA) HNE.out.1)))
        all_goals
          have hQ : Hid (NMm MB N W (w4.setCell ⟨MB, 1, none⟩ (.slice (some ⟨g, 0, none⟩) (k + 1) cap)) (mulL ys X k) (mulL xs Y k) (k + 1) (k + 1) (2 * (k + 1)) (setV Vb 1 (.slice (some ⟨g, 0, none⟩) (k + 1) cap))) := Lib.hid (HH.out.rowX HROW.out.2 HROW.out.1 (belowAlloc _ _) hg hl (ownsLater (ownsLater HOW.out HROW.out.2) (belowAlloc _ _)) ow)
          revert hQ
          generalize w4.setCell ⟨MB, 1, none⟩ (.slice (some ⟨g, 0, none⟩) (k + 1) cap) = w5
          intro hQ
          exact key g cap w5 hQ
      intro g cap wr2 HQ
      generalize hvv : setV Vb 1 (.slice (some ⟨g, 0, none⟩) (k + 1) cap) = Vc at HQ
      clear hvv
      have hb := HQ.out
      clear HQ HS
      go_wp2_with fail
      have HS := Lib.hid hb
      obtain ⟨bb, oo, hqe, hblt, cy0⟩ := HY.out k (by rw [HT.out.yl]; exact hkN)
      obtain ⟨V1, hV⟩ : ∃ V, V = nth ys k := ⟨_, rfl⟩
      have HQE := Lib.hid (And.intro hqe (And.intro hblt (And.intro cy0 hV)))
      clear hb hqe hblt cy0 hV
      apply shareW (R := fun g cap _ w' => NMm MB N W w' (mulL ys X (k + 1)) (mulL xs Y k) (k + 1) (k + 1) (2 * (k + 1)) (setV Vc 2 (.slice (some ⟨g, 0, none⟩) ((mulL ys X k).length + 1) cap)))
      · intro key
        have hb := HS.out
        obtain ⟨hqe, hblt, cy0, hV⟩ := HQE.out
        have bw := hb.bl
        have xm := HBM.out.later bw
        have xn := HBN.out.later bw
        have m0 := xm.c0
        have m1 := xm.c1
        have n1 := xn.c1
        have c2 := hb.c (j := 2) (by omega)
        have f2 := hb.fz 2
        have hms := hb.mB
        have hPlt := hms.2
        have hne := hb.vne (j := 2) (by omega)
        have hxr := (HX.out.below HBW.out).below bw
        have hws := HBW.out.size
        have cy := ((HBW.out.thenB bw).cell (p := ⟨bb, oo + k, none⟩) hblt).trans cy0
        have hv := allB_nth HT.out.ay k (by rw [HT.out.yl]; exact hkN)
        rw [← hV] at cy hv
        have HLV : Hid (mulL ys X (k + 1) = mulL ys X k ++ [V1 * X]) := Lib.hid (by rw [mulL_succ, hV])
        rw [hqe] at n1
        have hmu : 0 ≤ V1 * X ∧ V1 * X ≤ 1000000 * 1000000 := ⟨Int.mul_nonneg (by omega) (by omega), Int.mul_le_mul (by omega) (by omega) (by omega) (by omega)⟩
        have hwm : IntKind.i64.wrap (V1 * X) = V1 * X := IntWalk.i64_in _ (by omega)
        have hwm2 : wrap64 (V1 * X) = V1 * X := IntWalk.wrap64_in _ ⟨by omega, by omega⟩
        have hsz := HSZ.out
        have hne1 : (⟨MB, 2, none⟩ : Addr).block ≠ w.heap.size := by show MB ≠ _; omega
        have hne2 : (⟨MB, 2, none⟩ : Addr).block ≠ w.heap.size + 1 := by show MB ≠ _; omega
        have hne3 : (⟨MB, 2, none⟩ : Addr).block ≠ bb := by show MB ≠ _; omega
        have hz3 : W.heap.size ≤ wr2.heap.size := bw.size
        have hof : Hid (∀ z, z < W.heap.size → (Vc 2).ownBlock ≠ some z) := Lib.hid hne.2
        have hofP : Hid ((Vc 2).ownBlock ≠ some MB) := Lib.hid hne.1
        have hbx : Hid (bb < W.heap.size ∧ w.heap.size < W.heap.size ∧ w.heap.size + 1 < W.heap.size) := Lib.hid ⟨by omega, by omega, by omega⟩
        have hh := hb
        clear hV hqe hmu cy0 hblt hms hne bw xm xn hsz hws hb
        go_region_law
          (first
            | (refine step_append_i _ (by rfl) _ _ (by rfl) W.heap.size _ _ (by rfl) ((hh.later (belowAlloc _ _)).owL) ⟨w3.heap.size, 0, none⟩ 1 (V1 * X) (by rfl) (newCell _ _ _) (by rw [mulL_len]; omega) (by simp; omega) ?_; intro g cap w4 ow hg hl hlt; (have bA := belowAlloc w3 (.cells #[.int .i64 (V1 * X)] 3)); (replace hh := hh.later bA); (replace c2 := farCell hg (cellKeep bA c2) hofP.out); (replace f2 := farFroz hg (Nat.lt_of_lt_of_le hPlt bA.size) (frozKeep bA hPlt f2) hofP.out))
            | (go_simp; go_at_call 78; (with_reducible refine (HW1.out _ (ReadsK.drew hxr)).mono ?_); rintro e w3 ⟨rfl, hb3⟩; (replace hb3 := undrew hb3); (replace hh := hh.later hb3); (replace m0 := cellKeep hb3 m0); (replace m1 := cellKeep hb3 m1); (replace n1 := cellKeep hb3 n1); (replace cy := cellKeep hb3 cy); (replace c2 := cellKeep hb3 c2); (replace f2 := frozKeep hb3 hPlt f2); (have hs3 := hb3.size); (replace hPlt := Nat.lt_of_lt_of_le hPlt hs3); (replace hz3 := Nat.le_trans hz3 hs3); (have hbq : bb < w3.heap.size := by have := hbx.out; omega); clear hb3 hs3))
        all_goals
          have hQ : Hid (NMm MB N W (w4.setCell ⟨MB, 2, none⟩ (.slice (some ⟨g, 0, none⟩) ((mulL ys X k).length + 1) cap)) (mulL ys X (k + 1)) (mulL xs Y k) (k + 1) (k + 1) (2 * (k + 1)) (setV Vc 2 (.slice (some ⟨g, 0, none⟩) ((mulL ys X k).length + 1) cap))) := Lib.hid (by rw [HLV.out]; exact hh.putL hg ow rfl hl)
          revert hQ
          generalize w4.setCell ⟨MB, 2, none⟩ (.slice (some ⟨g, 0, none⟩) ((mulL ys X k).length + 1) cap) = w5
          generalize w3.heap.size = a3
          intro hQ
          exact key g cap a3 w5 hQ
      intro g cap _ wr3 HQ
      generalize hvv : setV Vc 2 (.slice (some ⟨g, 0, none⟩) ((mulL ys X k).length + 1) cap) = Vd at HQ
      clear hvv
      have hc := HQ.out
      clear HQ HS HQE
      go_wp2_with fail
      have HS := Lib.hid hc
      obtain ⟨bb, oo, hqe, hblt, cy0⟩ := HX.out k (by rw [HT.out.xl]; exact hkN)
      obtain ⟨V1, hV⟩ : ∃ V, V = nth xs k := ⟨_, rfl⟩
      have HQE := Lib.hid (And.intro hqe (And.intro hblt (And.intro cy0 hV)))
      clear hc hqe hblt cy0 hV
      apply shareW (R := fun g cap _ w' => NMm MB N W w' (mulL ys X (k + 1)) (mulL xs Y (k + 1)) (k + 1) (k + 1) (2 * (k + 1)) (setV Vd 3 (.slice (some ⟨g, 0, none⟩) ((mulL xs Y k).length + 1) cap)))
      · intro key
        have hc := HS.out
        obtain ⟨hqe, hblt, cy0, hV⟩ := HQE.out
        have bw := hc.bl
        have xm := HBN.out.later bw
        have xn := HBM.out.later bw
        have m0 := xm.c0
        have m1 := xm.c1
        have n1 := xn.c1
        have c2 := hc.c (j := 3) (by omega)
        have f2 := hc.fz 3
        have hms := hc.mB
        have hPlt := hms.2
        have hne := hc.vne (j := 3) (by omega)
        have hxr := (HY.out.below HBW.out).below bw
        have hws := HBW.out.size
        have cy := ((HBW.out.thenB bw).cell (p := ⟨bb, oo + k, none⟩) hblt).trans cy0
        have hv := allB_nth HT.out.ax k (by rw [HT.out.xl]; exact hkN)
        rw [← hV] at cy hv
        have HLV : Hid (mulL xs Y (k + 1) = mulL xs Y k ++ [V1 * Y]) := Lib.hid (by rw [mulL_succ, hV])
        rw [hqe] at n1
        have hmu : 0 ≤ V1 * Y ∧ V1 * Y ≤ 1000000 * 1000000 := ⟨Int.mul_nonneg (by omega) (by omega), Int.mul_le_mul (by omega) (by omega) (by omega) (by omega)⟩
        have hwm : IntKind.i64.wrap (V1 * Y) = V1 * Y := IntWalk.i64_in _ (by omega)
        have hwm2 : wrap64 (V1 * Y) = V1 * Y := IntWalk.wrap64_in _ ⟨by omega, by omega⟩
        have hsz := HSZ.out
        have hne1 : (⟨MB, 3, none⟩ : Addr).block ≠ w.heap.size := by show MB ≠ _; omega
        have hne2 : (⟨MB, 3, none⟩ : Addr).block ≠ w.heap.size + 1 := by show MB ≠ _; omega
        have hne3 : (⟨MB, 3, none⟩ : Addr).block ≠ bb := by show MB ≠ _; omega
        have hz3 : W.heap.size ≤ wr3.heap.size := bw.size
        have hof : Hid (∀ z, z < W.heap.size → (Vd 3).ownBlock ≠ some z) := Lib.hid hne.2
        have hofP : Hid ((Vd 3).ownBlock ≠ some MB) := Lib.hid hne.1
        have hbx : Hid (bb < W.heap.size ∧ w.heap.size < W.heap.size ∧ w.heap.size + 1 < W.heap.size) := Lib.hid ⟨by omega, by omega, by omega⟩
        have hh := hc
        clear hV hqe hmu cy0 hblt hms hne bw xm xn hsz hws hc
        go_region_law
          (first
            | (refine step_append_i _ (by rfl) _ _ (by rfl) W.heap.size _ _ (by rfl) ((hh.later (belowAlloc _ _)).owD) ⟨w3.heap.size, 0, none⟩ 1 (V1 * Y) (by rfl) (newCell _ _ _) (by rw [mulL_len]; omega) (by simp; omega) ?_; intro g cap w4 ow hg hl hlt; (have bA := belowAlloc w3 (.cells #[.int .i64 (V1 * Y)] 3)); (replace hh := hh.later bA); (replace c2 := farCell hg (cellKeep bA c2) hofP.out); (replace f2 := farFroz hg (Nat.lt_of_lt_of_le hPlt bA.size) (frozKeep bA hPlt f2) hofP.out))
            | (go_simp; go_at_call 78; (with_reducible refine (HW2.out _ (ReadsK.drew hxr)).mono ?_); rintro e w3 ⟨rfl, hb3⟩; (replace hb3 := undrew hb3); (replace hh := hh.later hb3); (replace m0 := cellKeep hb3 m0); (replace m1 := cellKeep hb3 m1); (replace n1 := cellKeep hb3 n1); (replace cy := cellKeep hb3 cy); (replace c2 := cellKeep hb3 c2); (replace f2 := frozKeep hb3 hPlt f2); (have hs3 := hb3.size); (replace hPlt := Nat.lt_of_lt_of_le hPlt hs3); (replace hz3 := Nat.le_trans hz3 hs3); (have hbq : bb < w3.heap.size := by have := hbx.out; omega); clear hb3 hs3))
        all_goals
          have hQ : Hid (NMm MB N W (w4.setCell ⟨MB, 3, none⟩ (.slice (some ⟨g, 0, none⟩) ((mulL xs Y k).length + 1) cap)) (mulL ys X (k + 1)) (mulL xs Y (k + 1)) (k + 1) (k + 1) (2 * (k + 1)) (setV Vd 3 (.slice (some ⟨g, 0, none⟩) ((mulL xs Y k).length + 1) cap))) := Lib.hid (by rw [HLV.out]; exact hh.putD hg ow rfl hl)
          revert hQ
          generalize w4.setCell ⟨MB, 3, none⟩ (.slice (some ⟨g, 0, none⟩) ((mulL xs Y k).length + 1) cap) = w5
          generalize w3.heap.size = a3
          intro hQ
          exact key g cap a3 w5 hQ
      intro g cap _ wr4 HQ
      generalize hvv : setV Vd 3 (.slice (some ⟨g, 0, none⟩) ((mulL xs Y k).length + 1) cap) = Ve at HQ
      clear hvv
      have hd := HQ.out
      clear HQ HS HQE
      have HD := Lib.hid hd
      clear hd
      go_wp2
      exact ⟨⟨k + 1, _, by omega, by go_num, HD.out⟩, by simp [intOf]; omega⟩
    · have hkE : N = k := by omega
      rw [← hkE] at h
      obtain ⟨L, hLN, hLM, hM, hmut⟩ := h.mv h1 h16 (mulL_len _ _ _) (mulL_len _ _ _)
      have hb0 := h.bl
      subst hkE
      subst hLN hLM
      obtain ⟨p1, p2, p3⟩ := HT.out.sup
      have hpf : PFlow L.N (supS xs ys) (demS xs ys) (fun _ _ => 0) (nth (mulL ys X L.N)) (nth (mulL xs Y L.N)) :=
        PFlow.start (fun _ _ _ _ => rfl) (fun b hb => by rw [mulL_nth _ _ _ _ hb, HXE.out]; rfl) (fun a ha => by rw [mulL_nth _ _ _ _ ha, HYE.out]; rfl) (fun b hb => (p1 b hb).1) (fun a ha => (p2 a ha).1)
      have HM := Lib.hid hM
      have HMUT := Lib.hid hmut
      have HPF := Lib.hid hpf
      have HB0 := Lib.hid hb0
      clear h hM hmut hpf hb0 p1 p2 p3
      go_wp2_with fail
      go_loopw [77] (fun i wr => ∃ (b : Nat) (F : Nat → Nat → Int) (lf du : Nat → Int), b ≤ L.N ∧ i = .int .i64 b ∧ MV L wr F (fun _ _ => false) lf du ∧ PFlow L.N (supS xs ys) (demS xs ys) F lf du ∧ (∀ x, x < b → lf x = 0) ∧ Below W.heap.size W wr) (fun i _ => L.N - (intOf i).toNat)
      case atStart => exact ⟨0, _, _, _, Nat.zero_le _, rfl, HM.out, HPF.out, fun x hx => absurd hx (Nat.not_lt_zero _), HB0.out⟩
      case round =>
        clear HM HPF HB0
        obtain ⟨b, F, lf, du, hbN, rfl, hM, hpf, hz, hb0⟩ := hrel
        by_cases hlt : b < L.N
        · have hbz : (b : Int) < (L.N : Int) := by omega
          have HM := Lib.hid hM
          have HPF := Lib.hid hpf
          have HZ := Lib.hid hz
          have HB0 := Lib.hid hb0
          clear hM hpf hz hb0
          go_wp2_with fail
          go_loopg [80] ((lf b).toNat) (fun gm i wr => ∃ (F : Nat → Nat → Int) (lf du : Nat → Int), MV L wr F (fun _ _ => false) lf du ∧ PFlow L.N (supS xs ys) (demS xs ys) F lf du ∧ (∀ x, x < b → lf x = 0) ∧ Below W.heap.size W wr ∧ (lf b).toNat ≤ gm)
          case atStart => exact ⟨F, lf, du, HM.out, HPF.out, HZ.out, HB0.out, Nat.le_refl _⟩
          case round =>
            clear HM HPF HZ HB0
            obtain ⟨F, lf, du, hM, hpf, hz, hb0, hgm⟩ := hrel
            have c2 := hM.c2
            have c3 := hM.lc b hlt
            obtain ⟨LF, hLF⟩ : ∃ x, x = lf b := ⟨_, rfl⟩
            rw [← hLF] at c3
            have HLF := Lib.hid hLF
            have HM := Lib.hid hM
            have HPF := Lib.hid hpf
            have HZ := Lib.hid hz
            have HB0 := Lib.hid hb0
            have HGM := Lib.hid hgm
            clear hLF hM hpf hz hb0 hgm
            by_cases hp : 0 < LF
            · have hsd := send_any L wr F (fun _ _ => false) lf du (supS xs ys) (demS xs ys) HM.out (fun _ _ => rfl) HPF.out (fun x hx => (HT.out.sup.1 x hx).2) (fun x hx => (HT.out.sup.2.1 x hx).2) b hlt (by rw [← HLF.out]; exact hp)
              have HSD := Lib.hid hsd
              clear hsd
              go_wp2_with fail
              refine HSD.out.mono ?_
              rintro e w2 (⟨rfl, hb2, hno⟩ | ⟨F2, lf2, du2, rfl, hM2, hE2, hpf2, hl2, hk2⟩)
              · have HNO := Lib.hid hno
                have HB2 := Lib.hid ((HBW.out.thenB (HB0.out.trans (hb2.mono HB0.out.size))))
                clear hno hb2 HSD c2 c3
                go_wp2
                go_ret2
                exact ⟨HB2.out, .inl ⟨rfl, HNO.out⟩⟩
              · have HM2 := Lib.hid hM2
                have HPF2 := Lib.hid hpf2
                have HL2 := Lib.hid hl2
                have HK2 := Lib.hid hk2
                have HB2 := Lib.hid (HB0.out.trans ((hE2.mono HB0.out.size).below HMUT.out))
                clear hM2 hE2 hpf2 hl2 hk2 HSD c2 c3
                go_wp2
                go_roundg (lf2 b).toNat
                case measure =>
                  have e1 := HL2.out
                  have e2 := HGM.out
                  have e3 := HLF.out
                  have e4 := HPF2.out.ln b hlt
                  omega
                case rel => exact ⟨F2, lf2, du2, HM2.out, HPF2.out, fun x hx => by rw [HK2.out x (by omega)]; exact HZ.out x hx, HB2.out, Nat.le_refl _⟩
            · have hz1 : Hid (∀ x, x < b + 1 → lf x = 0) := Lib.hid (fun x hx => by
                by_cases e : x = b
                · subst e; have e1 := HPF.out.ln x hlt; have e2 := HLF.out; omega
                · exact HZ.out x (by omega))
              go_wp2
              exact ⟨⟨b + 1, F, lf, du, by omega, by go_num, HM.out, HPF.out, hz1.out, HB0.out⟩, by simp [intOf]; omega⟩
        · have hbE : L.N = b := by omega
          have hfl := hpf.done HT.out.sup.2.2 (fun x hx => by rw [hz x (by omega)]; exact Int.le_refl _)
          have HFL := Lib.hid hfl
          have HM := Lib.hid hM
          have HB2 := Lib.hid (HBW.out.thenB hb0)
          have hws := HBW.out.size
          have HMU := Lib.hid (fun z hz => Nat.le_trans hws (HMUT.out z hz))
          clear hM hpf hz hb0 hfl
          go_wp2
          go_ret2
          exact ⟨HB2.out, .inr ⟨L, F, lf, du, rfl, rfl, HM.out, HFL.out, HMU.out⟩⟩

end Go.Proofs.Ytjmfjgoehicgcaa
