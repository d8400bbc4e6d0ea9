/- The memory in which the program keeps how parts are moved. -/
import Derived.Test.YtjmfjgoehicgcaaMgDD
import Derived.Test.YtjmfjgoehicgcaaMgK7
import Derived.Test.YtjmfjgoehicgcaaMgM3
import Derived.Test.YtjmfjgoehicgcaaMgZF
import Derived.Test.YtjmfjgoehicgcaaMgBase
import Derived.ArgAppend
set_option linter.unusedVariables false
set_option linter.unusedSimpArgs false
namespace Go.Proofs.Ytjmfjgoehicgcaa
open Go.RowKit

/-- Where the parts of it lie: the struct, its four slices, the rows; 'k' tells the blocks apart. -/
structure Lay where
  N : Nat
  MB : Nat
  FB : Nat
  cF : Nat
  XB : Nat
  cX : Nat
  LB : Nat
  cL : Nat
  DB : Nat
  cD : Nat
  r : Nat → Nat
  x : Nat → Nat
  k : Nat → Nat

structure Lay.Ok (L : Lay) : Prop where
  n1 : 1 ≤ L.N
  n16 : L.N ≤ 16
  km : L.k L.MB = 0
  kf : L.k L.FB = 1
  kx : L.k L.XB = 2
  kl : L.k L.LB = 3
  kd : L.k L.DB = 4
  kr : ∀ i, i < L.N → L.k (L.r i) = 5 + 2 * i
  kz : ∀ i, i < L.N → L.k (L.x i) = 6 + 2 * i

/-- A block in which numbers are changed. -/
def Lay.Mut (L : Lay) (z : Nat) : Prop := 3 ≤ L.k z ∧ ((∃ i, i < L.N ∧ z = L.r i) ∨ (∃ i, i < L.N ∧ z = L.x i) ∨ z = L.LB ∨ z = L.DB)

structure MV (L : Lay) (w : World) (F : Nat → Nat → Int) (X : Nat → Nat → Bool) (lf du : Nat → Int) : Prop where
  ok : L.Ok
  c0 : w.cell? ⟨L.MB, 0, none⟩ = some (.slice (some ⟨L.FB, 0, none⟩) L.N L.cF)
  c1 : w.cell? ⟨L.MB, 1, none⟩ = some (.slice (some ⟨L.XB, 0, none⟩) L.N L.cX)
  c2 : w.cell? ⟨L.MB, 2, none⟩ = some (.slice (some ⟨L.LB, 0, none⟩) L.N L.cL)
  c3 : w.cell? ⟨L.MB, 3, none⟩ = some (.slice (some ⟨L.DB, 0, none⟩) L.N L.cD)
  fl : ∀ i, i < L.N → w.cell? ⟨L.FB, i, none⟩ = some (.slice (some ⟨L.r i, 0, none⟩) L.N L.N)
  fx : ∀ i, i < L.N → w.cell? ⟨L.XB, i, none⟩ = some (.slice (some ⟨L.x i, 0, none⟩) L.N L.N)
  fr : ∀ b a, b < L.N → a < L.N → w.cell? ⟨L.r b, a, none⟩ = some (.int .i64 (F b a))
  xr : ∀ b a, b < L.N → a < L.N → w.cell? ⟨L.x b, a, none⟩ = some (.bool (X b a))
  lc : ∀ i, i < L.N → w.cell? ⟨L.LB, i, none⟩ = some (.int .i64 (lf i))
  dc : ∀ i, i < L.N → w.cell? ⟨L.DB, i, none⟩ = some (.int .i64 (du i))
  zr : ∀ b o, b < L.N → w.frozen? ⟨L.r b, o, none⟩ = false
  zx : ∀ b o, b < L.N → w.frozen? ⟨L.x b, o, none⟩ = false
  zl : ∀ o, w.frozen? ⟨L.LB, o, none⟩ = false
  zd : ∀ o, w.frozen? ⟨L.DB, o, none⟩ = false

theorem MV.later {L : Lay} {w w' : World} {F : Nat → Nat → Int} {X : Nat → Nat → Bool} {lf du : Nat → Int} (h : MV L w F X lf du) (hb : Below w.heap.size w w') : MV L w' F X lf du := by
  have n1 := h.ok.n1
  have lr : ∀ b, b < L.N → L.r b < w.heap.size := fun b hb' => World.block_lt_of_cell? w _ (h.fr b 0 hb' n1)
  have lx : ∀ b, b < L.N → L.x b < w.heap.size := fun b hb' => World.block_lt_of_cell? w _ (h.xr b 0 hb' n1)
  exact ⟨h.ok, cellKeep hb h.c0, cellKeep hb h.c1, cellKeep hb h.c2, cellKeep hb h.c3, fun i hi => cellKeep hb (h.fl i hi), fun i hi => cellKeep hb (h.fx i hi), fun b a h1 h2 => cellKeep hb (h.fr b a h1 h2), fun b a h1 h2 => cellKeep hb (h.xr b a h1 h2),
    fun i hi => cellKeep hb (h.lc i hi), fun i hi => cellKeep hb (h.dc i hi), fun b o hb' => frozKeep hb (lr b hb') (h.zr b o hb'), fun b o hb' => frozKeep hb (lx b hb') (h.zx b o hb'),
    fun o => frozKeep hb (World.block_lt_of_cell? w _ (h.lc 0 n1)) (h.zl o), fun o => frozKeep hb (World.block_lt_of_cell? w _ (h.dc 0 n1)) (h.zd o)⟩

theorem MV.drew {L : Lay} {w : World} {F : Nat → Nat → Int} {X : Nat → Nat → Bool} {lf du : Nat → Int} (h : MV L w F X lf du) : MV L w.drew F X lf du := ⟨h.ok, h.c0, h.c1, h.c2, h.c3, h.fl, h.fx, h.fr, h.xr, h.lc, h.dc, h.zr, h.zx, h.zl, h.zd⟩
theorem MV.drewN {L : Lay} {w : World} {F : Nat → Nat → Int} {X : Nat → Nat → Bool} {lf du : Nat → Int} (h : MV L w F X lf du) (n : Nat) : MV L (w.drewN n) F X lf du := ⟨h.ok, h.c0, h.c1, h.c2, h.c3, h.fl, h.fx, h.fr, h.xr, h.lc, h.dc, h.zr, h.zx, h.zl, h.zd⟩

/-- All but the blocks in which numbers are changed is as it was. -/
structure Ex (L : Lay) (B : Nat) (w w' : World) : Prop where
  os : w'.os = w.os
  tape : w'.tape = w.tape
  output : w'.output = w.output
  size : w.heap.size ≤ w'.heap.size
  block : ∀ z, z < B → ¬ L.Mut z → w'.heap[z]? = w.heap[z]?

theorem Ex.refl (L : Lay) (B : Nat) (w : World) : Ex L B w w := ⟨rfl, rfl, rfl, Nat.le_refl _, fun _ _ _ => rfl⟩
theorem Ex.trans {L : Lay} {B : Nat} {a b c : World} (h : Ex L B a b) (k : Ex L B b c) : Ex L B a c :=
  ⟨k.os.trans h.os, k.tape.trans h.tape, k.output.trans h.output, Nat.le_trans h.size k.size, fun i hi hr => (k.block i hi hr).trans (h.block i hi hr)⟩
theorem Ex.mono {L : Lay} {B B' : Nat} {a b : World} (h : Ex L B a b) (hB : B' ≤ B) : Ex L B' a b := ⟨h.os, h.tape, h.output, h.size, fun i hi hr => h.block i (Nat.lt_of_lt_of_le hi hB) hr⟩
theorem Ex.ofBelow {L : Lay} {B : Nat} {a b : World} (h : Below B a b) : Ex L B a b := ⟨h.os, h.tape, h.output, h.size, fun i hi _ => h.block i hi⟩
theorem Ex.then {L : Lay} {a b c : World} (h : Ex L a.heap.size a b) (k : Ex L b.heap.size b c) : Ex L a.heap.size a c := h.trans (k.mono h.size)
theorem Ex.thenB {L : Lay} {a b c : World} (h : Ex L a.heap.size a b) (k : Below b.heap.size b c) : Ex L a.heap.size a c := h.trans (Ex.ofBelow (k.mono h.size))
theorem Ex.drew {L : Lay} {B : Nat} {a b : World} (h : Ex L B a b) : Ex L B a b.drew := ⟨h.os, h.tape, h.output, h.size, h.block⟩
theorem Ex.drewN {L : Lay} {B : Nat} {a b : World} (h : Ex L B a b) (n : Nat) : Ex L B a (b.drewN n) := ⟨h.os, h.tape, h.output, h.size, h.block⟩
theorem Ex.setCell {L : Lay} {B : Nat} {a b : World} (h : Ex L B a b) (p : Addr) (hp : B ≤ p.block ∨ L.Mut p.block) (u : Value) : Ex L B a (b.setCell p u) :=
  ⟨h.os, h.tape, h.output, by simpa using h.size, fun i hi hr => by rw [Below.heap_setCell _ _ _ _ (by rcases hp with hp | hp; · omega
                                                                                                       · intro e; subst e; exact hr hp)]; exact h.block i hi hr⟩
theorem Ex.below {L : Lay} {B : Nat} {a b : World} (h : Ex L B a b) (hm : ∀ z, L.Mut z → B ≤ z) : Below B a b := ⟨h.os, h.tape, h.output, h.size, fun i hi => h.block i hi fun hz => by have := hm i hz; omega⟩
theorem Ex.cell {L : Lay} {w w' : World} (h : Ex L w.heap.size w w') {b o : Nat} {v : Value} (hc : w.cell? ⟨b, o, none⟩ = some v) (hm : ¬ L.Mut b) : w'.cell? ⟨b, o, none⟩ = some v :=
  (World.cell?_of_block (w := w) (h.block b (World.block_lt_of_cell? w _ hc) hm)).trans hc
theorem Ex.froz {L : Lay} {w w' : World} (h : Ex L w.heap.size w w') {b o : Nat} (hb : b < w.heap.size) (hc : w.frozen? ⟨b, o, none⟩ = false) (hm : ¬ L.Mut b) : w'.frozen? ⟨b, o, none⟩ = false :=
  (World.frozen?_of_block (w := w) (h.block b hb hm)).trans hc

theorem ReadsK.ex {q : IntKind} {L : Lay} {w w' : World} {a : Option Addr} {xs : List Int} (h : ReadsK q w a xs) (hb : Ex L w.heap.size w w') (hm : ∀ x, a = some x → ¬ L.Mut x.block) : ReadsK q w' a xs := by
  intro k hk
  obtain ⟨b, off, rfl, hlt, hc⟩ := h k hk
  exact ⟨b, off, rfl, Nat.lt_of_lt_of_le hlt hb.size, hb.cell hc (hm _ rfl)⟩

theorem Own.ex {B : Nat} {L : Lay} {w w' : World} {v : Value} {xs : List Int} (h : Own B w v xs) (hb : Ex L w.heap.size w w') (hm : ∀ z, v.ownBlock = some z → ¬ L.Mut z) : Own B w' v xs := by
  refine ⟨h.1, ?_⟩
  rcases h.2 with hn | ⟨g, cap, cur, e, hB, hg, rest⟩
  · exact .inl hn
  · exact .inr ⟨g, cap, cur, e, hB, by rw [hb.block g (Array.getElem?_eq_some_iff.1 hg).1 (hm g (by rw [e]; rfl))]; exact hg, rest⟩

theorem Lay.Ok.mr {L : Lay} (h : L.Ok) {i : Nat} (hi : i < L.N) : L.Mut (L.r i) := ⟨by rw [h.kr i hi]; omega, .inl ⟨i, hi, rfl⟩⟩
theorem Lay.Ok.mx {L : Lay} (h : L.Ok) {i : Nat} (hi : i < L.N) : L.Mut (L.x i) := ⟨by rw [h.kz i hi]; omega, .inr (.inl ⟨i, hi, rfl⟩)⟩
theorem Lay.Ok.ml {L : Lay} (h : L.Ok) : L.Mut L.LB := ⟨by rw [h.kl]; omega, .inr (.inr (.inl rfl))⟩
theorem Lay.Ok.md {L : Lay} (h : L.Ok) : L.Mut L.DB := ⟨by rw [h.kd]; omega, .inr (.inr (.inr rfl))⟩

/-- The blocks in which numbers are changed lie in memory. -/
theorem MV.mutLt {L : Lay} {w : World} {F : Nat → Nat → Int} {X : Nat → Nat → Bool} {lf du : Nat → Int} (h : MV L w F X lf du) {z : Nat} (hz : L.Mut z) : z < w.heap.size := by
  have n1 := h.ok.n1
  rcases hz.2 with ⟨i, hi, rfl⟩ | ⟨i, hi, rfl⟩ | rfl | rfl
  · exact World.block_lt_of_cell? w _ (h.fr i 0 hi n1)
  · exact World.block_lt_of_cell? w _ (h.xr i 0 hi n1)
  · exact World.block_lt_of_cell? w _ (h.lc 0 n1)
  · exact World.block_lt_of_cell? w _ (h.dc 0 n1)

def updX (X : Nat → Nat → Bool) (b a : Nat) (v : Bool) : Nat → Nat → Bool := fun x y => if x = b ∧ y = a then v else X x y
def updV (f : Nat → Int) (b : Nat) (v : Int) : Nat → Int := fun x => if x = b then v else f x
def updF (F : Nat → Nat → Int) (b a : Nat) (v : Int) : Nat → Nat → Int := fun x y => if x = b ∧ y = a then v else F x y

theorem cellOff {w : World} {p q : Addr} {v u : Value} (h : w.cell? q = some v) (hne : p ≠ q) : (w.setCell p u).cell? q = some v := by rw [World.cell?_setCell_other _ _ _ _ hne]; exact h

section
variable {L : Lay} {w : World} {F : Nat → Nat → Int} {X : Nat → Nat → Bool} {lf du : Nat → Int}

/-- A store into a block that is none of these. -/
theorem MV.other (h : MV L w F X lf du) (p : Addr) (hp : ∀ z o, w.cell? ⟨z, o, none⟩ ≠ none → L.k z ≤ 4 + 2 * L.N ∧ (z = L.MB ∨ z = L.FB ∨ z = L.XB ∨ L.Mut z) → p.block ≠ z) (u : Value) : MV L (w.setCell p u) F X lf du := by
  have n1 := h.ok.n1
  have ne : ∀ z o v, w.cell? ⟨z, o, none⟩ = some v → L.k z ≤ 4 + 2 * L.N → (z = L.MB ∨ z = L.FB ∨ z = L.XB ∨ L.Mut z) → p ≠ ⟨z, o, none⟩ := fun z o v hc h1 h2 e => hp z o (by rw [hc]; simp) ⟨h1, h2⟩ (by rw [e])
  have fz : ∀ z o, w.frozen? ⟨z, o, none⟩ = false → (w.setCell p u).frozen? ⟨z, o, none⟩ = false := fun z o hf => by rw [World.frozen?_setCell]; exact hf
  have ok := h.ok
  exact ⟨h.ok, cellOff h.c0 (ne _ _ _ h.c0 (by rw [ok.km]; omega) (.inl rfl)), cellOff h.c1 (ne _ _ _ h.c1 (by rw [ok.km]; omega) (.inl rfl)), cellOff h.c2 (ne _ _ _ h.c2 (by rw [ok.km]; omega) (.inl rfl)), cellOff h.c3 (ne _ _ _ h.c3 (by rw [ok.km]; omega) (.inl rfl)),
    fun i hi => cellOff (h.fl i hi) (ne _ _ _ (h.fl i hi) (by rw [ok.kf]; omega) (.inr (.inl rfl))), fun i hi => cellOff (h.fx i hi) (ne _ _ _ (h.fx i hi) (by rw [ok.kx]; omega) (.inr (.inr (.inl rfl)))),
    fun b a h1 h2 => cellOff (h.fr b a h1 h2) (ne _ _ _ (h.fr b a h1 h2) (by rw [ok.kr b h1]; omega) (.inr (.inr (.inr (ok.mr h1))))), fun b a h1 h2 => cellOff (h.xr b a h1 h2) (ne _ _ _ (h.xr b a h1 h2) (by rw [ok.kz b h1]; omega) (.inr (.inr (.inr (ok.mx h1))))),
    fun i hi => cellOff (h.lc i hi) (ne _ _ _ (h.lc i hi) (by rw [ok.kl]; omega) (.inr (.inr (.inr ok.ml)))), fun i hi => cellOff (h.dc i hi) (ne _ _ _ (h.dc i hi) (by rw [ok.kd]; omega) (.inr (.inr (.inr ok.md)))),
    fun b o hb => fz _ _ (h.zr b o hb), fun b o hb => fz _ _ (h.zx b o hb), fun o => fz _ _ (h.zl o), fun o => fz _ _ (h.zd o)⟩

/-- A store into a table's row. -/
theorem MV.setF (h : MV L w F X lf du) (b a : Nat) (hb : b < L.N) (ha : a < L.N) (v : Int) : MV L (w.setCell ⟨L.r b, a, none⟩ (.int .i64 v)) (updF F b a v) X lf du := by
  have ok := h.ok
  have ne : ∀ z o, L.k z ≠ 5 + 2 * b → (⟨L.r b, a, none⟩ : Addr) ≠ ⟨z, o, none⟩ := fun z o hk e => hk (by rw [← ok.kr b hb]; injection e with e1; rw [e1])
  have fz : ∀ z o, w.frozen? ⟨z, o, none⟩ = false → (w.setCell ⟨L.r b, a, none⟩ (.int .i64 v)).frozen? ⟨z, o, none⟩ = false := fun z o hf => by rw [World.frozen?_setCell]; exact hf
  refine ⟨h.ok, cellOff h.c0 (ne _ _ (by rw [ok.km]; omega)), cellOff h.c1 (ne _ _ (by rw [ok.km]; omega)), cellOff h.c2 (ne _ _ (by rw [ok.km]; omega)), cellOff h.c3 (ne _ _ (by rw [ok.km]; omega)),
    fun i hi => cellOff (h.fl i hi) (ne _ _ (by rw [ok.kf]; omega)), fun i hi => cellOff (h.fx i hi) (ne _ _ (by rw [ok.kx]; omega)), fun x y h1 h2 => ?_, fun x y h1 h2 => cellOff (h.xr x y h1 h2) (ne _ _ (by rw [ok.kz x h1]; omega)),
    fun i hi => cellOff (h.lc i hi) (ne _ _ (by rw [ok.kl]; omega)), fun i hi => cellOff (h.dc i hi) (ne _ _ (by rw [ok.kd]; omega)), fun b o hb => fz _ _ (h.zr b o hb), fun b o hb => fz _ _ (h.zx b o hb), fun o => fz _ _ (h.zl o), fun o => fz _ _ (h.zd o)⟩
  unfold updF
  by_cases c : x = b ∧ y = a
  · obtain ⟨rfl, rfl⟩ := c
    rw [if_pos ⟨rfl, rfl⟩]
    exact World.cell?_setCell_same _ _ _ (h.fr x y h1 h2)
  · rw [if_neg c]
    by_cases e : x = b
    · subst e
      exact cellOff (h.fr x y h1 h2) (fun e2 => c ⟨rfl, by injection e2 with _ e3; exact e3.symm⟩)
    · exact cellOff (h.fr x y h1 h2) (ne _ _ (by rw [ok.kr x h1]; omega))

theorem MV.setX (h : MV L w F X lf du) (b a : Nat) (hb : b < L.N) (ha : a < L.N) (v : Bool) : MV L (w.setCell ⟨L.x b, a, none⟩ (.bool v)) F (updX X b a v) lf du := by
  have ok := h.ok
  have ne : ∀ z o, L.k z ≠ 6 + 2 * b → (⟨L.x b, a, none⟩ : Addr) ≠ ⟨z, o, none⟩ := fun z o hk e => hk (by rw [← ok.kz b hb]; injection e with e1; rw [e1])
  have fz : ∀ z o, w.frozen? ⟨z, o, none⟩ = false → (w.setCell ⟨L.x b, a, none⟩ (.bool v)).frozen? ⟨z, o, none⟩ = false := fun z o hf => by rw [World.frozen?_setCell]; exact hf
  refine ⟨h.ok, cellOff h.c0 (ne _ _ (by rw [ok.km]; omega)), cellOff h.c1 (ne _ _ (by rw [ok.km]; omega)), cellOff h.c2 (ne _ _ (by rw [ok.km]; omega)), cellOff h.c3 (ne _ _ (by rw [ok.km]; omega)),
    fun i hi => cellOff (h.fl i hi) (ne _ _ (by rw [ok.kf]; omega)), fun i hi => cellOff (h.fx i hi) (ne _ _ (by rw [ok.kx]; omega)), fun x y h1 h2 => cellOff (h.fr x y h1 h2) (ne _ _ (by rw [ok.kr x h1]; omega)), fun x y h1 h2 => ?_,
    fun i hi => cellOff (h.lc i hi) (ne _ _ (by rw [ok.kl]; omega)), fun i hi => cellOff (h.dc i hi) (ne _ _ (by rw [ok.kd]; omega)), fun b o hb => fz _ _ (h.zr b o hb), fun b o hb => fz _ _ (h.zx b o hb), fun o => fz _ _ (h.zl o), fun o => fz _ _ (h.zd o)⟩
  unfold updX
  by_cases c : x = b ∧ y = a
  · obtain ⟨rfl, rfl⟩ := c
    rw [if_pos ⟨rfl, rfl⟩]
    exact World.cell?_setCell_same _ _ _ (h.xr x y h1 h2)
  · rw [if_neg c]
    by_cases e : x = b
    · subst e
      exact cellOff (h.xr x y h1 h2) (fun e2 => c ⟨rfl, by injection e2 with _ e3; exact e3.symm⟩)
    · exact cellOff (h.xr x y h1 h2) (ne _ _ (by rw [ok.kz x h1]; omega))

theorem MV.setL (h : MV L w F X lf du) (b : Nat) (hb : b < L.N) (v : Int) : MV L (w.setCell ⟨L.LB, b, none⟩ (.int .i64 v)) F X (updV lf b v) du := by
  have ok := h.ok
  have ne : ∀ z o, L.k z ≠ 3 → (⟨L.LB, b, none⟩ : Addr) ≠ ⟨z, o, none⟩ := fun z o hk e => hk (by rw [← ok.kl]; injection e with e1; rw [e1])
  have fz : ∀ z o, w.frozen? ⟨z, o, none⟩ = false → (w.setCell ⟨L.LB, b, none⟩ (.int .i64 v)).frozen? ⟨z, o, none⟩ = false := fun z o hf => by rw [World.frozen?_setCell]; exact hf
  refine ⟨h.ok, cellOff h.c0 (ne _ _ (by rw [ok.km]; omega)), cellOff h.c1 (ne _ _ (by rw [ok.km]; omega)), cellOff h.c2 (ne _ _ (by rw [ok.km]; omega)), cellOff h.c3 (ne _ _ (by rw [ok.km]; omega)),
    fun i hi => cellOff (h.fl i hi) (ne _ _ (by rw [ok.kf]; omega)), fun i hi => cellOff (h.fx i hi) (ne _ _ (by rw [ok.kx]; omega)), fun x y h1 h2 => cellOff (h.fr x y h1 h2) (ne _ _ (by rw [ok.kr x h1]; omega)), fun x y h1 h2 => cellOff (h.xr x y h1 h2) (ne _ _ (by rw [ok.kz x h1]; omega)),
    fun i hi => ?_, fun i hi => cellOff (h.dc i hi) (ne _ _ (by rw [ok.kd]; omega)), fun b o hb => fz _ _ (h.zr b o hb), fun b o hb => fz _ _ (h.zx b o hb), fun o => fz _ _ (h.zl o), fun o => fz _ _ (h.zd o)⟩
  unfold updV
  by_cases c : i = b
  · subst c
    rw [if_pos rfl]
    exact World.cell?_setCell_same _ _ _ (h.lc i hi)
  · rw [if_neg c]
    exact cellOff (h.lc i hi) (fun e2 => c (by injection e2 with _ e3; exact e3.symm))

theorem MV.setD (h : MV L w F X lf du) (b : Nat) (hb : b < L.N) (v : Int) : MV L (w.setCell ⟨L.DB, b, none⟩ (.int .i64 v)) F X lf (updV du b v) := by
  have ok := h.ok
  have ne : ∀ z o, L.k z ≠ 4 → (⟨L.DB, b, none⟩ : Addr) ≠ ⟨z, o, none⟩ := fun z o hk e => hk (by rw [← ok.kd]; injection e with e1; rw [e1])
  have fz : ∀ z o, w.frozen? ⟨z, o, none⟩ = false → (w.setCell ⟨L.DB, b, none⟩ (.int .i64 v)).frozen? ⟨z, o, none⟩ = false := fun z o hf => by rw [World.frozen?_setCell]; exact hf
  refine ⟨h.ok, cellOff h.c0 (ne _ _ (by rw [ok.km]; omega)), cellOff h.c1 (ne _ _ (by rw [ok.km]; omega)), cellOff h.c2 (ne _ _ (by rw [ok.km]; omega)), cellOff h.c3 (ne _ _ (by rw [ok.km]; omega)),
    fun i hi => cellOff (h.fl i hi) (ne _ _ (by rw [ok.kf]; omega)), fun i hi => cellOff (h.fx i hi) (ne _ _ (by rw [ok.kx]; omega)), fun x y h1 h2 => cellOff (h.fr x y h1 h2) (ne _ _ (by rw [ok.kr x h1]; omega)), fun x y h1 h2 => cellOff (h.xr x y h1 h2) (ne _ _ (by rw [ok.kz x h1]; omega)),
    fun i hi => cellOff (h.lc i hi) (ne _ _ (by rw [ok.kl]; omega)), fun i hi => ?_, fun b o hb => fz _ _ (h.zr b o hb), fun b o hb => fz _ _ (h.zx b o hb), fun o => fz _ _ (h.zl o), fun o => fz _ _ (h.zd o)⟩
  unfold updV
  by_cases c : i = b
  · subst c
    rw [if_pos rfl]
    exact World.cell?_setCell_same _ _ _ (h.dc i hi)
  · rw [if_neg c]
    exact cellOff (h.dc i hi) (fun e2 => c (by injection e2 with _ e3; exact e3.symm))
end

/-- A way is open: within a set, and not fixed. -/
def opB (X : Nat → Nat → Bool) (b a : Nat) : Bool := subB a b && !X b a

theorem isOpen_any (L : Lay) (w : World) (F : Nat → Nat → Int) (X : Nat → Nat → Bool) (lf du : Nat → Int) (h : MV L w F X lf du) (b a : Nat) (hb : b < L.N) (ha : a < L.N) :
    Calls Try.prog 87 #[.pointer (some ⟨L.MB, 0, none⟩), .int .i64 b, .int .i64 a] w fun e w' => e = .returned (.bool (opB X b a)) ∧ w = w' := by
  have n16 := h.ok.n16
  have hbit := andNot_bits ⟨a, by omega⟩ ⟨b, by omega⟩
  simp only at hbit
  have c1 := h.c1
  have c2 := h.fx b hb
  have c3 := h.xr b a hb ha
  have hbN : (b : Int) < (L.N : Int) := by omega
  have haN : (a : Int) < (L.N : Int) := by omega
  obtain ⟨V, hV⟩ : ∃ V, V = X b a := ⟨_, rfl⟩
  rw [← hV] at c3
  cases hs : subB a b
  · have hr : Hid (opB X b a = false) := Lib.hid (by simp [opB, hs])
    rw [hs] at hbit
    clear hs h hV
    go_enter Try.func87, Try.ntmps87
    go_wp2
    go_ret
    exact ⟨ret_bool hr.out.symm, rfl⟩
  · have hr : Hid (opB X b a = !V) := Lib.hid (by simp [opB, hs, hV])
    rw [hs] at hbit
    clear hs h hV
    go_enter Try.func87, Try.ntmps87
    go_wp2
    go_ret
    exact ⟨ret_bool hr.out.symm, rfl⟩

theorem sendIn_any (L : Lay) (w : World) (F : Nat → Nat → Int) (X : Nat → Nat → Bool) (lf du : Nat → Int) (h : MV L w F X lf du) (q : Addr) (hq : w.cell? q = some (.pointer (some ⟨L.MB, 0, none⟩))) (a : Nat) (ha : a < L.N) :
    Calls Try.prog 125 #[.int .i64 a, .pointer (some q)] w fun e w' => e = .returned (.bool (decide (0 < du a))) ∧ w = w' := by
  have n16 := h.ok.n16
  have c1 := h.c3
  have c2 := h.dc a ha
  have haN : (a : Int) < (L.N : Int) := by omega
  clear h
  go_enter Try.func125, Try.ntmps125
  go_wp2
  go_ret
  exact ⟨rfl, rfl⟩

end Go.Proofs.Ytjmfjgoehicgcaa

/- Parts are pushed along a way: the program. -/
set_option linter.unusedVariables false
set_option linter.unusedSimpArgs false
namespace Go.Proofs.Ytjmfjgoehicgcaa
open Go.RowKit

theorem MV.setF2 {L : Lay} {w : World} {F : Nat → Nat → Int} {X : Nat → Nat → Bool} {lf du : Nat → Int} (h : MV L w F X lf du) (b a : Nat) (hb : b < L.N) (ha : a < L.N) (v : Int) : MV L (w.setCell ⟨L.r b, a, none⟩ (.int .i64 v)) (upd F b a v) X lf du := h.setF b a hb ha v

def atB (fr : Nat) : Nat → Bool := fun b => b == fr

/-- What 'push' makes of the table. -/
def Pushed (L : Lay) (op : Nat → Nat → Bool) (F : Nat → Nat → Int) (X : Nat → Nat → Bool) (lf du : Nat → Int) (fr en : Nat) (m0 : Int) (w : World) (e : Ending) (w' : World) : Prop :=
  ∃ (m : Int) (F' : Nat → Nat → Int), e = .returned (.int .i64 m) ∧ 1 ≤ m ∧ m ≤ m0 ∧ PushEnd L.N op F en m fr F' ∧ MV L w' F' X lf du ∧ Ex L w.heap.size w w' ∧ w'.heap.size = w.heap.size

set_option maxHeartbeats 4000000 in
theorem push_any (L : Lay) (w : World) (F : Nat → Nat → Int) (X : Nat → Nat → Bool) (lf du : Nat → Int) (h : MV L w F X lf du) (op : Nat → Nat → Bool) (fr en : Nat) (giv get : List Int) (pg pt : Option Addr) (cg ct : Nat) (m0 : Int) (tg tc : Nat → Nat)
    (hg : Reads w pg giv) (ht : Reads w pt get) (hgm : ∀ x, pg = some x → ¬ L.Mut x.block) (htm : ∀ x, pt = some x → ¬ L.Mut x.block) (hgl : giv.length = L.N) (htl : get.length = L.N)
    (R : Reached L.N op F (atB fr) (nth giv) (nth get) tg tc) (hen : en < L.N) (hrn : 0 ≤ nth giv en) (hm1 : 1 ≤ m0) (hm2 : m0 ≤ 10000000000000) (hF : ∀ b a, b < L.N → a < L.N → 0 ≤ F b a) (hB : ∀ b, b < L.N → sm L.N (fun a => F b a) ≤ 10000000000000) :
    Calls Try.prog 120 #[.pointer (some ⟨L.MB, 0, none⟩), .int .i64 fr, .int .i64 en, .slice pg giv.length cg, .slice pt get.length ct, .int .i64 m0] w (Pushed L op F X lf du fr en m0 w) := by
  have n16 := h.ok.n16
  have HR := Lib.hid R
  have HF := Lib.hid hF
  have HB := Lib.hid hB
  have HG := Lib.hid hg
  have HT := Lib.hid ht
  have HGM := Lib.hid hgm
  have HTM := Lib.hid htm
  have HGL := Lib.hid hgl
  have HTL := Lib.hid htl
  have HM := Lib.hid h
  clear R hF hB hg ht hgm htm hgl htl h
  go_enter Try.func120, Try.ntmps120
  go_wp2
  go_loopw [13, 5] (fun a m wr => ∃ (an : Nat) (mi : Int) (nn : Nat), a = .int .i64 an ∧ m = .int .i64 mi ∧ Most L.N F (atB fr) (nth giv) (nth get) en m0 an mi ∧ wr = w.drewN nn) (fun a _ _ => tc (intOf a).toNat)
  case atStart => exact ⟨en, m0, 0, rfl, rfl, Most.first hen hrn hm1, rfl⟩
  case round =>
    obtain ⟨an, mi, nn, rfl, rfl, hmo, rfl⟩ := hrel
    obtain ⟨g1, g2, g3, g4⟩ := HR.out.cg an hmo.an hmo.ar
    obtain ⟨gb, hgb⟩ := Int.eq_ofNat_of_zero_le hmo.ar
    have hgbN : gb < L.N := by rw [hgb] at g1; omega
    have han := hmo.an
    obtain ⟨b1, o1, rfl, hb1, cg1⟩ := HG.out an (by rw [HGL.out]; exact han)
    rw [hgb] at cg1
    have q1 : (an : Int) < (giv.length : Int) := by rw [HGL.out]; omega
    have HGB := Lib.hid hgb
    have HMO := Lib.hid hmo
    clear g1 g2 g3 hgb hmo
    by_cases hr : gb = fr
    · have hne : ((gb : Int) != (fr : Int)) = false := by simp [hr]
      have hw := HMO.out.done (by rw [HGB.out]; simp [atB, hr])
      have hlo := HMO.out.lo
      have hhi := HMO.out.hi
      have HW := Lib.hid hw
      clear hw hr
      go_wp2
      go_loopw [15] (fun a wr => ∃ (am : Nat) (F1 : Nat → Nat → Int), a = .int .i64 am ∧ PushSt L.N op F (atB fr) (nth giv) (nth get) tg tc en mi am F1 ∧ MV L wr F1 X lf du ∧ Ex L w.heap.size w wr ∧ wr.heap.size = w.heap.size) (fun a _ => tc (intOf a).toNat)
      case atStart => exact ⟨en, F, rfl, PushSt.first hen hrn HW.out HF.out, HM.out.drewN nn, (Ex.refl L _ w).drewN nn, rfl⟩
      case round =>
        clear cg1 hne q1 HGB HMO g4 han hgbN hb1
        obtain ⟨am, F1, rfl, hps, M, hE, hsz⟩ := hrel
        obtain ⟨g1, g2, g3, g4⟩ := HR.out.cg am hps.an hps.ar
        obtain ⟨gb, hgb⟩ := Int.eq_ofNat_of_zero_le hps.ar
        have hgbN : gb < L.N := by rw [hgb] at g1; omega
        have ham := hps.an
        obtain ⟨b3, o3, hpe, hb3, cg3⟩ := (HG.out.ex hE HGM.out) am (by rw [HGL.out]; exact ham)
        rw [hgb] at cg3
        cases hpe
        have q1 : (am : Int) < (giv.length : Int) := by rw [HGL.out]; omega
        have q2 : (gb : Int) < (L.N : Int) := by omega
        have q3 : (am : Int) < (L.N : Int) := by omega
        have c0 := M.c0
        have c1 := M.fl gb hgbN
        have c2 := M.fr gb am hgbN ham
        have c3 := M.zr gb am hgbN
        obtain ⟨V, hV⟩ : ∃ V, V = F1 gb am := ⟨_, rfl⟩
        have v0 : 0 ≤ V := by rw [hV]; exact hps.nn gb am hgbN ham
        have v1 : V ≤ 10000000000000 := by
          have a1 := sm_pick (f := fun y => F1 gb y) (fun k hk => hps.nn gb k hgbN hk) am ham
          have a2 := hps.row gb hgbN
          have a3 := HB.out gb hgbN
          rw [hV]; omega
        have M2 := M.setF2 gb am hgbN ham (V + mi)
        have hE2 := hE.setCell ⟨L.r gb, am, none⟩ (.inr (M.ok.mr hgbN)) (.int .i64 (V + mi))
        have hsz2 : (wr.setCell ⟨L.r gb, am, none⟩ (.int .i64 (V + mi))).heap.size = w.heap.size := by simp [hsz]
        have hPS := Lib.hid hps
        have HGB := Lib.hid hgb
        rw [← hV] at c2
        have HV := Lib.hid hV
        have HP := Lib.hid (And.intro M2 (And.intro hE2 hsz2))
        clear g1 g2 g3 hgb hps M hE hV M2 hE2 hsz2 hsz
        by_cases hr : gb = fr
        · have hq : ((gb : Int) == (fr : Int)) = true := by simp [hr]
          have hend := hPS.out.add HR.out (by omega)
          rw [HGB.out, Int.toNat_natCast, ← HV.out] at hend
          have hend2 : PushEnd L.N op F en mi fr (upd F1 gb am (V + mi)) := by rw [← hr]; exact hend
          have HE := Lib.hid hend2
          clear hend hend2 hPS HV HGB hr
          go_wp2
          go_ret
          obtain ⟨M2, hE2, hsz2⟩ := HP.out
          exact ⟨mi, _, rfl, hlo, hhi, HE.out, M2, hE2, hsz2⟩
        · have hq : ((gb : Int) == (fr : Int)) = false := by simp; omega
          have hrt : atB fr (nth giv am).toNat = false := by rw [HGB.out]; simp [atB]; omega
          have g5 := g4 hrt
          rw [HGB.out, Int.toNat_natCast] at g5
          obtain ⟨gc, hgc⟩ := Int.eq_ofNat_of_zero_le g5
          obtain ⟨n1, n2, n3, n4, n5, n6, n7⟩ := hPS.out.next HR.out (by omega) hrt gb gc (by rw [HGB.out]; rfl) (by rw [HGB.out, Int.toNat_natCast, hgc]; rfl)
          rw [← HV.out] at n4 n7
          have f1 : F gb gc ≤ 10000000000000 := by
            have a1 := sm_pick (f := fun y => F gb y) (fun k hk => HF.out gb k hgbN hk) gc n1
            have a3 := HB.out gb hgbN
            omega
          obtain ⟨M2, hE2, hsz2⟩ := HP.out
          obtain ⟨b2, o2, hpe, hb2, cg2⟩ := (HT.out.ex hE2 HTM.out) gb (by rw [HTL.out]; exact hgbN)
          rw [hgc] at cg2
          subst hpe
          have d0 := M2.c0
          have d1 := M2.fl gb hgbN
          have d2 := M2.fr gb gc hgbN n1
          have d3 := M2.zr gb gc hgbN
          rw [n4] at d2
          have q4 : (gb : Int) < (get.length : Int) := by rw [HTL.out]; omega
          have q5 : (gc : Int) < (L.N : Int) := by omega
          have HP3 := Lib.hid (And.intro M2 (And.intro hE2 hsz2))
          rw [n4] at n7
          have HN := Lib.hid n7
          have hn4 := Lib.hid n4
          have HGC := Lib.hid hgc
          clear n7 n4 HP M2 hE2 hsz2 hgc g4 g5 hrt hPS HV n2 n3 hr
          go_wp2_with fail
          clear c0 c1 c2 c3 cg3
          go_region
          obtain ⟨M2, hE2, hsz2⟩ := HP3.out
          have M3 := (M2.setF2 gb gc hgbN n1 (F gb gc - mi)).drew
          have hE3 := (hE2.setCell ⟨L.r gb, gc, none⟩ (.inr (M2.ok.mr hgbN)) (.int .i64 (F gb gc - mi))).drew
          have hsz3 : ((wr.setCell ⟨L.r gb, am, none⟩ (.int .i64 (V + mi))).setCell ⟨L.r gb, gc, none⟩ (.int .i64 (F gb gc - mi))).drew.heap.size = w.heap.size := by show ((wr.setCell ⟨L.r gb, am, none⟩ (.int .i64 (V + mi))).setCell ⟨L.r gb, gc, none⟩ (.int .i64 (F gb gc - mi))).heap.size = _; simp at hsz2 ⊢; exact hsz2
          have HX := Lib.hid (And.intro M3 (And.intro hE3 hsz3))
          have e1 := (HG.out.ex hE3 HGM.out) am (by rw [HGL.out]; exact ham)
          have e2 := (HT.out.ex hE3 HTM.out) gb (by rw [HTL.out]; exact hgbN)
          clear M2 hE2 hsz2 M3 hE3 hsz3 d0 d1 d2 d3 hb2 cg2 HP3
          generalize ((wr.setCell ⟨L.r gb, am, none⟩ (.int .i64 (V + mi))).setCell ⟨L.r gb, gc, none⟩ (.int .i64 (F gb gc - mi))).drew = w3 at *
          obtain ⟨b5, o5, hp5, hb5, cg5⟩ := e1
          cases hp5
          obtain ⟨b6, o6, hp6, hb6, cg6⟩ := e2
          cases hp6
          rw [HGB.out] at cg5
          rw [HGC.out] at cg6
          go_wp2
          obtain ⟨M3, hE3, hsz3⟩ := HX.out
          exact ⟨⟨gc, _, rfl, HN.out, M3, hE3, hsz3⟩, by simpa [intOf] using n6⟩
    · have hne : ((gb : Int) != (fr : Int)) = true := by simp; omega
      have hrt : atB fr (nth giv an).toNat = false := by rw [HGB.out]; simp [atB]; omega
      have g5 := g4 hrt
      rw [HGB.out, Int.toNat_natCast] at g5
      obtain ⟨k1, k2, k3, k4, k5⟩ := HR.out.cb gb hgbN (by simp [atB]; omega) g5
      obtain ⟨gc, hgc⟩ := Int.eq_ofNat_of_zero_le g5
      have hgcN : gc < L.N := by rw [hgc] at k1; omega
      obtain ⟨b2, o2, rfl, hb2, cg2⟩ := HT.out gb (by rw [HTL.out]; exact hgbN)
      rw [hgc] at cg2
      have q2 : (gb : Int) < (get.length : Int) := by rw [HTL.out]; omega
      have c0 := HM.out.c0
      have c1 := HM.out.fl gb hgbN
      have c2 := HM.out.fr gb gc hgbN hgcN
      have q3 : (gb : Int) < (L.N : Int) := by omega
      have q4 : (gc : Int) < (L.N : Int) := by omega
      have hst := HMO.out.step HR.out hrt
      rw [HGB.out, Int.toNat_natCast, hgc, Int.toNat_natCast] at hst
      obtain ⟨V, hV⟩ : ∃ V, V = F gb gc := ⟨_, rfl⟩
      rw [← hV] at c2 hst
      have HST := Lib.hid hst
      have hlo := HMO.out.lo
      clear k1 k2 k3 k4 k5 g4 g5 hgc hst hr hrt hV HMO
      by_cases hmin : V < mi
      · have e1 : (V < mi) = True := by simp [hmin]
        have e2 : (mi < V) = False := by simp; omega
        go_wp2
        go_quiet (fail)
        go_wp2
        exact ⟨⟨gc, V, nn + nq, rfl, rfl, (HST.out V (.inr ⟨rfl, by omega⟩)).1, rfl⟩, by simpa [intOf] using (HST.out V (.inr ⟨rfl, by omega⟩)).2⟩
      · have e1 : (V < mi) = False := by simp [hmin]
        go_wp2
        go_quiet (fail)
        go_wp2
        exact ⟨⟨gc, mi, nn + nq, rfl, rfl, (HST.out mi (.inl ⟨rfl, by omega⟩)).1, rfl⟩, by simpa [intOf] using (HST.out mi (.inl ⟨rfl, by omega⟩)).2⟩

end Go.Proofs.Ytjmfjgoehicgcaa

/- Slices of the call's own that are appended to one by one, and of which the first is taken: where they lie. -/
set_option linter.unusedVariables false
set_option linter.unusedSimpArgs false
namespace Go.Proofs.Ytjmfjgoehicgcaa
open Go.RowKit

/-- A slice in block g, from some place on, that holds these values; room behind it. -/
structure QO (w : World) (off cap : Nat) (cs : List Value) (g : Nat) : Prop where
  le : cs.length ≤ cap
  mx : cap ≤ maxLen
  lt : g < w.heap.size
  hold : ∀ j u, cs[j]? = some u → w.cell? ⟨g, off + j, none⟩ = some u
  room : ∀ j, j < cap → (w.cell? ⟨g, off + j, none⟩).isSome = true ∧ w.frozen? ⟨g, off + j, none⟩ = false

theorem QO.later {w w' : World} {off cap g : Nat} {cs : List Value} (h : QO w off cap cs g) (hb : w'.heap[g]? = w.heap[g]?) (hs : w.heap.size ≤ w'.heap.size) : QO w' off cap cs g :=
  ⟨h.le, h.mx, Nat.lt_of_lt_of_le h.lt hs, fun j u hj => by rw [World.cell?_of_block (w := w) (a := ⟨g, off + j, none⟩) hb]; exact h.hold j u hj, fun j hj => by
    rw [World.cell?_of_block (w := w) (a := ⟨g, off + j, none⟩) hb, World.frozen?_of_block (w := w) (a := ⟨g, off + j, none⟩) hb]; exact h.room j hj⟩

theorem QO.other {w : World} {off cap g : Nat} {cs : List Value} (h : QO w off cap cs g) (p : Addr) (hp : p.block ≠ g) (u : Value) : QO (w.setCell p u) off cap cs g :=
  h.later (Below.heap_setCell _ _ _ _ (fun e => hp e.symm)) (by simp)

theorem QO.drew {w : World} {off cap g : Nat} {cs : List Value} (h : QO w off cap cs g) : QO w.drew off cap cs g := h.later rfl (Nat.le_refl _)

/-- What is behind the first one. -/
theorem QO.tail {w : World} {off cap g : Nat} {c : Value} {cs : List Value} (h : QO w off cap (c :: cs) g) : QO w (off + 1) (cap - 1) cs g := by
  have hl := h.le
  have hm := h.mx
  simp only [List.length_cons] at hl
  refine ⟨by omega, by omega, h.lt, fun j u hj => ?_, fun j hj => ?_⟩
  · rw [show off + 1 + j = off + (j + 1) by omega]; exact h.hold (j + 1) u (by simpa using hj)
  · rw [show off + 1 + j = off + (j + 1) by omega]; exact h.room (j + 1) (by omega)

theorem QO.empty {w : World} {off cap g : Nat} {cs : List Value} (h : QO w off cap cs g) (off' : Nat) : QO w off' 0 [] g :=
  ⟨Nat.le_refl _, Nat.zero_le _, h.lt, fun j u hj => by simp at hj, fun j hj => absurd hj (Nat.not_lt_zero _)⟩

/-- All that was there but block g is as it was. -/
structure But (g : Nat) (w w' : World) : Prop where
  os : w'.os = w.os
  tape : w'.tape = w.tape
  output : w'.output = w.output
  size : w.heap.size ≤ w'.heap.size
  block : ∀ k, k < w.heap.size → k ≠ g → w'.heap[k]? = w.heap[k]?

theorem But.below {g B : Nat} {w w' : World} (h : But g w w') (hB : B ≤ w.heap.size) (hg : B ≤ g) : Below B w w' := ⟨h.os, h.tape, h.output, h.size, fun i hi => h.block i (by omega) (by omega)⟩

theorem QO.ofOwn {w : World} {base : Nat} {e : TypeId} {v : Value} {n : Nat} {xs : List Value} (h : w.ownsRow base e 1 v n xs) (hn : 0 < n) : ∃ g cap, v = .slice (some ⟨g, 0, none⟩) xs.length cap ∧ base ≤ g ∧ QO w 0 cap xs g := by
  have hl := h.1
  rw [Nat.mul_one] at hl
  rcases h.2 with ⟨rfl, h0⟩ | ⟨g, cap, cur, rfl, hb, hg, hnc, hcm, hcs, ht⟩
  · omega
  · refine ⟨g, cap, by rw [hl], hb, by omega, hcm, (Array.getElem?_eq_some_iff.1 hg).1, fun j u hj => ?_, fun j hj => ?_⟩
    · rw [Nat.zero_add, cell_of_row w g j cur e (0, 0) hg]
      rw [← ht, List.getElem?_take] at hj
      split at hj
      · simpa using hj
      · cases hj
    · rw [Nat.zero_add, cell_of_row w g j cur e (0, 0) hg]
      refine ⟨?_, h.frozenAt j⟩
      rw [Nat.mul_one] at hcs
      rw [Array.getElem?_eq_getElem (by omega)]; rfl

/-- Where the slice lies behind one append. -/
structure Qn (w w' : World) (g : Option Nat) (v' : Value) (cs : List Value) : Prop where
  at' : ∃ g' off cap, v' = .slice (some ⟨g', off, none⟩) cs.length cap ∧ QO w' off cap cs g' ∧ (g = some g' ∨ w.heap.size ≤ g')
  os : w'.os = w.os
  tape : w'.tape = w.tape
  output : w'.output = w.output
  size : w.heap.size ≤ w'.heap.size
  block : ∀ k, k < w.heap.size → g ≠ some k → w'.heap[k]? = w.heap[k]?

section
variable {P : Program} (w : World)

theorem run_append_q (t ty e : TypeId) (i : TypeInfo) (z : Value) (bytes : Nat) (ht : P.underlying t = some (.slice e)) (hi : P.info? e = some i) (hz : i.zero = some z) (hsize : i.size = 1) (hby : i.bytes = bytes) (hzs : z.cells.size = 1)
    (g off cap n : Nat) (cs : List Value) (hn : cs.length = n) (h : QO w off cap cs g) (ad : Addr) (c : Nat) (u : Value) (hu : w.cell? ad = some u) (h1 : u.oneCell' = true) (hlen : n + 1 ≤ 1000000) (hbytes : (n + 1) * bytes ≤ 140737488355328) :
    ∃ v' w', (Builtin.append_ #[t, t] ty #[.slice (some ⟨g, off, none⟩) n cap, .slice (some ad) 1 c]).run P w = .ok v' w' ∧ Qn w w' (some g) v' (cs ++ [u]) := by
  subst hn
  have hnews : ∀ j x, [u][j]? = some x → w.cell? (ad.add j) = some x := by
    intro j x hj
    cases j with
    | zero => simp at hj; subst hj; rw [show ad.add 0 = ad by simp [Addr.add]]; exact hu
    | succ j => simp at hj
  by_cases hr : cs.length + 1 ≤ cap
  · have hroom := h.room cs.length (by omega)
    have hrun := run_append_room_cells (P := P) w t ty e i ht hi g off cs.length cap ad 1 c [u] (by simp [hsize]) hnews (by simpa using h1) hr
      (fun j hj => by rw [hsize, Nat.mul_one]; simp at hj; subst hj; exact hroom.1) (fun j hj => by rw [hsize, Nat.mul_one]; simp at hj; subst hj; exact hroom.2)
    rw [hsize, Nat.mul_one] at hrun
    have hw : w.setCells g (off + cs.length) [u] = w.setCell ⟨g, off + cs.length, none⟩ u := rfl
    rw [hw] at hrun
    refine ⟨_, _, hrun, ⟨⟨g, off, cap, by simp, ⟨by simp; omega, h.mx, by simp; exact h.lt, fun j x hj => ?_, fun j hj => ?_⟩, .inl rfl⟩, rfl, rfl, rfl, by simp, fun k hk hne => Below.heap_setCell _ _ _ _ (fun e => hne (by rw [e]))⟩⟩
    · by_cases hj2 : j < cs.length
      · rw [List.getElem?_append_left hj2] at hj
        rw [World.cell?_setCell_other _ _ _ _ (fun e => by injection e with _ e2; omega)]; exact h.hold j x hj
      · rw [List.getElem?_append_right (by omega)] at hj
        have : j = cs.length := by
          rcases Nat.lt_or_ge (j - cs.length) 1 with q | q
          · omega
          · rw [List.getElem?_eq_none (by simp; omega)] at hj; cases hj
        subst this
        simp at hj
        subst hj
        obtain ⟨y, hy⟩ := Option.isSome_iff_exists.1 hroom.1
        exact World.cell?_setCell_same _ _ _ hy
    · rw [World.frozen?_setCell]
      refine ⟨?_, (h.room j hj).2⟩
      by_cases hj2 : j = cs.length
      · subst hj2
        obtain ⟨y, hy⟩ := Option.isSome_iff_exists.1 hroom.1
        rw [World.cell?_setCell_same _ _ _ hy]; rfl
      · rw [World.cell?_setCell_other _ _ _ _ (fun e => by injection e with _ e2; omega)]; exact (h.room j hj).1
  · have holds : ∀ j x, cs[j]? = some x → w.cell? ((⟨g, off, none⟩ : Addr).add j) = some x := fun j x hj => by rw [Addr.add_lit]; exact h.hold j x hj
    obtain ⟨v', w', hrun, r1, r2⟩ := run_append_arg_grows (P := P) w t ty e i z 1 bytes ht hi hz hsize hby hzs (by decide) ⟨g, off, none⟩ cs.length cap cs (by simp) holds ad 1 c [u] (by simp) hnews (by omega) (by unfold maxLen; omega) hbytes
    obtain ⟨g', cap', rfl, hb, hq⟩ := QO.ofOwn r1 (by omega)
    exact ⟨_, _, hrun, ⟨⟨g', 0, cap', rfl, hq, .inr hb⟩, r2.os, r2.tape, r2.output, r2.size, fun k hk _ => r2.block k hk (by simp)⟩⟩

theorem run_append_q0 (t ty e : TypeId) (i : TypeInfo) (z : Value) (bytes : Nat) (ht : P.underlying t = some (.slice e)) (hi : P.info? e = some i) (hz : i.zero = some z) (hsize : i.size = 1) (hby : i.bytes = bytes) (hzs : z.cells.size = 1)
    (ad : Addr) (c : Nat) (u : Value) (hu : w.cell? ad = some u) (h1 : u.oneCell' = true) (hbytes : bytes ≤ 140737488355328) :
    ∃ v' w', (Builtin.append_ #[t, t] ty #[.slice none 0 0, .slice (some ad) 1 c]).run P w = .ok v' w' ∧ Qn w w' none v' [u] := by
  have hnews : ∀ j x, [u][j]? = some x → w.cell? (ad.add j) = some x := by
    intro j x hj
    cases j with
    | zero => simp at hj; subst hj; rw [show ad.add 0 = ad by simp [Addr.add]]; exact hu
    | succ j => simp at hj
  obtain ⟨v', w', hrun, r1, r2, _⟩ := run_append_own (P := P) w w.heap.size t ty e i z 1 bytes ht hi hz hsize hby hzs (by decide) (.slice none 0 0) 0 [] (World.ownsRow_nil w _ e 1) ad 1 c [u] (by simp) hnews (by simpa using h1) (by unfold maxLen; omega) (by simpa using hbytes) (Nat.le_refl _)
  obtain ⟨g', cap', rfl, hb, hq⟩ := QO.ofOwn r1 (by omega)
  exact ⟨_, _, hrun, ⟨⟨g', 0, cap', rfl, hq, .inr hb⟩, r2.os, r2.tape, r2.output, r2.size, fun k hk _ => r2.block k hk (by simp [Value.ownBlock])⟩⟩
end

/-- A slice that may be nil yet. -/
def Qv (w : World) (v : Value) (cs : List Value) (g : Option Nat) : Prop := (v = .slice none 0 0 ∧ cs = [] ∧ g = none) ∨ ∃ k off cap, g = some k ∧ v = .slice (some ⟨k, off, none⟩) cs.length cap ∧ QO w off cap cs k

theorem Qn.qv {w w' : World} {g : Option Nat} {v' : Value} {cs : List Value} (h : Qn w w' g v' cs) : ∃ g', Qv w' v' cs g' ∧ (g' = g ∨ ∃ k, g' = some k ∧ w.heap.size ≤ k) ∧ ∀ k, g' = some k → k < w'.heap.size := by
  obtain ⟨g', off, cap, hv, hq, hg⟩ := h.at'
  refine ⟨some g', .inr ⟨g', off, cap, rfl, hv, hq⟩, ?_, fun k hk => by cases hk; exact hq.lt⟩
  rcases hg with hg | hg
  · exact .inl hg.symm
  · exact .inr ⟨g', rfl, hg⟩

theorem wp_append_q {P : Program} {o : Oper} {a : Act} {K : Act → World → Prop} {Q : Exit → Act → World → Prop} (w : World) (s x : Operand) (t : TypeId)
    (ho : o.op = .call { callee := .builtin .append, args := #[s, x], argTypes := #[t, t] })
    (e : TypeId) (i : TypeInfo) (z : Value) (bytes : Nat) (ht : P.underlying t = some (.slice e)) (hi : P.info? e = some i) (hz : i.zero = some z) (hsize : i.size = 1) (hby : i.bytes = bytes) (hzs : z.cells.size = 1)
    (v : Value) (cs : List Value) (g : Option Nat) (hs : a.eval s = v) (h : Qv w v cs g) (ad : Addr) (c : Nat) (u : Value) (hx : a.eval x = .slice (some ad) 1 c) (hu : w.cell? ad = some u) (h1 : u.oneCell' = true)
    (hlen : cs.length + 1 ≤ 1000000) (hbytes : bytes ≤ 1000)
    (hK : ∀ v' w', Qn w w' g v' (cs ++ [u]) → K (a.put o.dst v') w') : o.wp P a w K Q := by
  have key : ∃ v' w', (Builtin.append_ #[t, t] o.type #[v, .slice (some ad) 1 c]).run P w = .ok v' w' ∧ Qn w w' g v' (cs ++ [u]) := by
    rcases h with ⟨rfl, rfl, rfl⟩ | ⟨k, off, cap, rfl, rfl, hq⟩
    · exact run_append_q0 w t o.type e i z bytes ht hi hz hsize hby hzs ad c u hu h1 (by omega)
    · exact run_append_q w t o.type e i z bytes ht hi hz hsize hby hzs k off cap cs.length cs rfl hq ad c u hu h1 hlen (by have : (cs.length + 1) * bytes ≤ 1000000 * 1000 := Nat.mul_le_mul hlen hbytes; omega)
  obtain ⟨v', w', hr, hq⟩ := key
  unfold Oper.wp execOp
  simp only [ho, resolve, invoke, builtin, Sem.run_bind, Sem.run_pure, Result.andThen_ok, List.map_toArray, List.map_cons, List.map_nil, hs, hx, hr]
  exact hK v' w' hq

theorem wpList_append_q {P : Program} {ops : Array Oper} {rest : List Oper} {o : Oper} {a : Act} {Q : Exit → Act → World → Prop} (w : World) (hgd : o.guard = none) (s x : Operand) (t : TypeId)
    (ho : o.op = .call { callee := .builtin .append, args := #[s, x], argTypes := #[t, t] })
    (e : TypeId) (i : TypeInfo) (z : Value) (bytes : Nat) (ht : P.underlying t = some (.slice e)) (hi : P.info? e = some i) (hz : i.zero = some z) (hsize : i.size = 1) (hby : i.bytes = bytes) (hzs : z.cells.size = 1)
    (v : Value) (cs : List Value) (g : Option Nat) (hs : a.eval s = v) (h : Qv w v cs g) (ad : Addr) (c : Nat) (u : Value) (hx : a.eval x = .slice (some ad) 1 c) (hu : w.cell? ad = some u) (h1 : u.oneCell' = true)
    (hlen : cs.length + 1 ≤ 1000000) (hbytes : bytes ≤ 1000)
    (hK : ∀ v' w', Qn w w' g v' (cs ++ [u]) → wpList P ops Q rest (a.put o.dst v') w') : wpList P ops Q (o :: rest) a w :=
  wpList_plain hgd fun _ hK2 => wp_append_q w s x t ho e i z bytes ht hi hz hsize hby hzs v cs g hs h ad c u hx hu h1 hlen hbytes fun v' w' h2 => hK2 _ _ (hK v' w' h2)

theorem step_append_q {P : Program} {ops : Array Oper} {o : Oper} {a : Act} {K : Act → World → Prop} {Q : Exit → Act → World → Prop} {E : Prop} (w : World) (hgd : o.guard = none) (s x : Operand) (t : TypeId)
    (ho : o.op = .call { callee := .builtin .append, args := #[s, x], argTypes := #[t, t] })
    (e : TypeId) (i : TypeInfo) (z : Value) (bytes : Nat) (ht : P.underlying t = some (.slice e)) (hi : P.info? e = some i) (hz : i.zero = some z) (hsize : i.size = 1) (hby : i.bytes = bytes) (hzs : z.cells.size = 1)
    (v : Value) (cs : List Value) (g : Option Nat) (hs : a.eval s = v) (h : Qv w v cs g) (ad : Addr) (c : Nat) (u : Value) (hx : a.eval x = .slice (some ad) 1 c) (hu : w.cell? ad = some u) (h1 : u.oneCell' = true)
    (hlen : cs.length + 1 ≤ 1000000) (hbytes : bytes ≤ 1000)
    (hK : ∀ v' w', Qn w w' g v' (cs ++ [u]) → K (a.put o.dst v') w') : if Region.wanted o (yielded ops a.tmps) = true then Oper.wp P o a w K Q else E := by
  rw [if_pos (by simp [Region.wanted, hgd])]
  exact wp_append_q w s x t ho e i z bytes ht hi hz hsize hby hzs v cs g hs h ad c u hx hu h1 hlen hbytes hK

end Go.Proofs.Ytjmfjgoehicgcaa
