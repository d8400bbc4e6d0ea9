/- The memory in which the program keeps how parts are moved. -/
import Derived.Test.YtjmfjgoehicgcaaD9
import Derived.Test.YtjmfjgoehicgcaaK7
import Derived.Test.YtjmfjgoehicgcaaP4
set_option linter.unusedVariables false
set_option linter.unusedSimpArgs false
namespace Go.Proofs.Ytjmfjgoehicgcaa
open Go.RowKit

/-- Where the parts of it lie: the struct, its four slices, the rows; 'k' tells the blocks apart. -/
structure Lay where
  N : Nat
  MB : Nat
  FB : Nat
  cF : Nat
  XB : Nat
  cX : Nat
  LB : Nat
  cL : Nat
  DB : Nat
  cD : Nat
  r : Nat → Nat
  x : Nat → Nat
  k : Nat → Nat

structure Lay.Ok (L : Lay) : Prop where
  n1 : 1 ≤ L.N
  n16 : L.N ≤ 16
  km : L.k L.MB = 0
  kf : L.k L.FB = 1
  kx : L.k L.XB = 2
  kl : L.k L.LB = 3
  kd : L.k L.DB = 4
  kr : ∀ i, i < L.N → L.k (L.r i) = 5 + 2 * i
  kz : ∀ i, i < L.N → L.k (L.x i) = 6 + 2 * i

/-- A block in which numbers are changed. -/
def Lay.Mut (L : Lay) (z : Nat) : Prop := 3 ≤ L.k z ∧ ((∃ i, i < L.N ∧ z = L.r i) ∨ (∃ i, i < L.N ∧ z = L.x i) ∨ z = L.LB ∨ z = L.DB)

structure MV (L : Lay) (w : World) (F : Nat → Nat → Int) (X : Nat → Nat → Bool) (lf du : Nat → Int) : Prop where
  ok : L.Ok
  c0 : w.cell? ⟨L.MB, 0, none⟩ = some (.slice (some ⟨L.FB, 0, none⟩) L.N L.cF)
  c1 : w.cell? ⟨L.MB, 1, none⟩ = some (.slice (some ⟨L.XB, 0, none⟩) L.N L.cX)
  c2 : w.cell? ⟨L.MB, 2, none⟩ = some (.slice (some ⟨L.LB, 0, none⟩) L.N L.cL)
  c3 : w.cell? ⟨L.MB, 3, none⟩ = some (.slice (some ⟨L.DB, 0, none⟩) L.N L.cD)
  fl : ∀ i, i < L.N → w.cell? ⟨L.FB, i, none⟩ = some (.slice (some ⟨L.r i, 0, none⟩) L.N L.N)
  fx : ∀ i, i < L.N → w.cell? ⟨L.XB, i, none⟩ = some (.slice (some ⟨L.x i, 0, none⟩) L.N L.N)
  fr : ∀ b a, b < L.N → a < L.N → w.cell? ⟨L.r b, a, none⟩ = some (.int .i64 (F b a))
  xr : ∀ b a, b < L.N → a < L.N → w.cell? ⟨L.x b, a, none⟩ = some (.bool (X b a))
  lc : ∀ i, i < L.N → w.cell? ⟨L.LB, i, none⟩ = some (.int .i64 (lf i))
  dc : ∀ i, i < L.N → w.cell? ⟨L.DB, i, none⟩ = some (.int .i64 (du i))
  zr : ∀ b o, b < L.N → w.frozen? ⟨L.r b, o, none⟩ = false
  zx : ∀ b o, b < L.N → w.frozen? ⟨L.x b, o, none⟩ = false
  zl : ∀ o, w.frozen? ⟨L.LB, o, none⟩ = false
  zd : ∀ o, w.frozen? ⟨L.DB, o, none⟩ = false

theorem MV.later {L : Lay} {w w' : World} {F : Nat → Nat → Int} {X : Nat → Nat → Bool} {lf du : Nat → Int} (h : MV L w F X lf du) (hb : Below w.heap.size w w') : MV L w' F X lf du := by
  have n1 := h.ok.n1
  have lr : ∀ b, b < L.N → L.r b < w.heap.size := fun b hb' => World.block_lt_of_cell? w _ (h.fr b 0 hb' n1)
  have lx : ∀ b, b < L.N → L.x b < w.heap.size := fun b hb' => World.block_lt_of_cell? w _ (h.xr b 0 hb' n1)
  exact ⟨h.ok, cellKeep hb h.c0, cellKeep hb h.c1, cellKeep hb h.c2, cellKeep hb h.c3, fun i hi => cellKeep hb (h.fl i hi), fun i hi => cellKeep hb (h.fx i hi), fun b a h1 h2 => cellKeep hb (h.fr b a h1 h2), fun b a h1 h2 => cellKeep hb (h.xr b a h1 h2),
    fun i hi => cellKeep hb (h.lc i hi), fun i hi => cellKeep hb (h.dc i hi), fun b o hb' => frozKeep hb (lr b hb') (h.zr b o hb'), fun b o hb' => frozKeep hb (lx b hb') (h.zx b o hb'),
    fun o => frozKeep hb (World.block_lt_of_cell? w _ (h.lc 0 n1)) (h.zl o), fun o => frozKeep hb (World.block_lt_of_cell? w _ (h.dc 0 n1)) (h.zd o)⟩

theorem MV.drew {L : Lay} {w : World} {F : Nat → Nat → Int} {X : Nat → Nat → Bool} {lf du : Nat → Int} (h : MV L w F X lf du) : MV L w.drew F X lf du := ⟨h.ok, h.c0, h.c1, h.c2, h.c3, h.fl, h.fx, h.fr, h.xr, h.lc, h.dc, h.zr, h.zx, h.zl, h.zd⟩
theorem MV.drewN {L : Lay} {w : World} {F : Nat → Nat → Int} {X : Nat → Nat → Bool} {lf du : Nat → Int} (h : MV L w F X lf du) (n : Nat) : MV L (w.drewN n) F X lf du := ⟨h.ok, h.c0, h.c1, h.c2, h.c3, h.fl, h.fx, h.fr, h.xr, h.lc, h.dc, h.zr, h.zx, h.zl, h.zd⟩

/-- All but the blocks in which numbers are changed is as it was. -/
structure Ex (L : Lay) (B : Nat) (w w' : World) : Prop where
  os : w'.os = w.os
  tape : w'.tape = w.tape
  output : w'.output = w.output
  size : w.heap.size ≤ w'.heap.size
  block : ∀ z, z < B → ¬ L.Mut z → w'.heap[z]? = w.heap[z]?

theorem Ex.refl (L : Lay) (B : Nat) (w : World) : Ex L B w w := ⟨rfl, rfl, rfl, Nat.le_refl _, fun _ _ _ => rfl⟩
theorem Ex.trans {L : Lay} {B : Nat} {a b c : World} (h : Ex L B a b) (k : Ex L B b c) : Ex L B a c :=
  ⟨k.os.trans h.os, k.tape.trans h.tape, k.output.trans h.output, Nat.le_trans h.size k.size, fun i hi hr => (k.block i hi hr).trans (h.block i hi hr)⟩
theorem Ex.mono {L : Lay} {B B' : Nat} {a b : World} (h : Ex L B a b) (hB : B' ≤ B) : Ex L B' a b := ⟨h.os, h.tape, h.output, h.size, fun i hi hr => h.block i (Nat.lt_of_lt_of_le hi hB) hr⟩
theorem Ex.ofBelow {L : Lay} {B : Nat} {a b : World} (h : Below B a b) : Ex L B a b := ⟨h.os, h.tape, h.output, h.size, fun i hi _ => h.block i hi⟩
theorem Ex.then {L : Lay} {a b c : World} (h : Ex L a.heap.size a b) (k : Ex L b.heap.size b c) : Ex L a.heap.size a c := h.trans (k.mono h.size)
theorem Ex.thenB {L : Lay} {a b c : World} (h : Ex L a.heap.size a b) (k : Below b.heap.size b c) : Ex L a.heap.size a c := h.trans (Ex.ofBelow (k.mono h.size))
theorem Ex.drew {L : Lay} {B : Nat} {a b : World} (h : Ex L B a b) : Ex L B a b.drew := ⟨h.os, h.tape, h.output, h.size, h.block⟩
theorem Ex.drewN {L : Lay} {B : Nat} {a b : World} (h : Ex L B a b) (n : Nat) : Ex L B a (b.drewN n) := ⟨h.os, h.tape, h.output, h.size, h.block⟩
theorem Ex.setCell {L : Lay} {B : Nat} {a b : World} (h : Ex L B a b) (p : Addr) (hp : B ≤ p.block ∨ L.Mut p.block) (u : Value) : Ex L B a (b.setCell p u) :=
  ⟨h.os, h.tape, h.output, by simpa using h.size, fun i hi hr => by rw [Below.heap_setCell _ _ _ _ (by rcases hp with hp | hp; · omega
                                                                                                       · intro e; subst e; exact hr hp)]; exact h.block i hi hr⟩
theorem Ex.below {L : Lay} {B : Nat} {a b : World} (h : Ex L B a b) (hm : ∀ z, L.Mut z → B ≤ z) : Below B a b := ⟨h.os, h.tape, h.output, h.size, fun i hi => h.block i hi fun hz => by have := hm i hz; omega⟩
theorem Ex.cell {L : Lay} {w w' : World} (h : Ex L w.heap.size w w') {b o : Nat} {v : Value} (hc : w.cell? ⟨b, o, none⟩ = some v) (hm : ¬ L.Mut b) : w'.cell? ⟨b, o, none⟩ = some v :=
  (World.cell?_of_block (w := w) (h.block b (World.block_lt_of_cell? w _ hc) hm)).trans hc
theorem Ex.froz {L : Lay} {w w' : World} (h : Ex L w.heap.size w w') {b o : Nat} (hb : b < w.heap.size) (hc : w.frozen? ⟨b, o, none⟩ = false) (hm : ¬ L.Mut b) : w'.frozen? ⟨b, o, none⟩ = false :=
  (World.frozen?_of_block (w := w) (h.block b hb hm)).trans hc

theorem ReadsK.ex {q : IntKind} {L : Lay} {w w' : World} {a : Option Addr} {xs : List Int} (h : ReadsK q w a xs) (hb : Ex L w.heap.size w w') (hm : ∀ x, a = some x → ¬ L.Mut x.block) : ReadsK q w' a xs := by
  intro k hk
  obtain ⟨b, off, rfl, hlt, hc⟩ := h k hk
  exact ⟨b, off, rfl, Nat.lt_of_lt_of_le hlt hb.size, hb.cell hc (hm _ rfl)⟩

theorem Own.ex {B : Nat} {L : Lay} {w w' : World} {v : Value} {xs : List Int} (h : Own B w v xs) (hb : Ex L w.heap.size w w') (hm : ∀ z, v.ownBlock = some z → ¬ L.Mut z) : Own B w' v xs := by
  refine ⟨h.1, ?_⟩
  rcases h.2 with hn | ⟨g, cap, cur, e, hB, hg, rest⟩
  · exact .inl hn
  · exact .inr ⟨g, cap, cur, e, hB, by rw [hb.block g (Array.getElem?_eq_some_iff.1 hg).1 (hm g (by rw [e]; rfl))]; exact hg, rest⟩

theorem Lay.Ok.mr {L : Lay} (h : L.Ok) {i : Nat} (hi : i < L.N) : L.Mut (L.r i) := ⟨by rw [h.kr i hi]; omega, .inl ⟨i, hi, rfl⟩⟩
theorem Lay.Ok.mx {L : Lay} (h : L.Ok) {i : Nat} (hi : i < L.N) : L.Mut (L.x i) := ⟨by rw [h.kz i hi]; omega, .inr (.inl ⟨i, hi, rfl⟩)⟩
theorem Lay.Ok.ml {L : Lay} (h : L.Ok) : L.Mut L.LB := ⟨by rw [h.kl]; omega, .inr (.inr (.inl rfl))⟩
theorem Lay.Ok.md {L : Lay} (h : L.Ok) : L.Mut L.DB := ⟨by rw [h.kd]; omega, .inr (.inr (.inr rfl))⟩

/-- The blocks in which numbers are changed lie in memory. -/
theorem MV.mutLt {L : Lay} {w : World} {F : Nat → Nat → Int} {X : Nat → Nat → Bool} {lf du : Nat → Int} (h : MV L w F X lf du) {z : Nat} (hz : L.Mut z) : z < w.heap.size := by
  have n1 := h.ok.n1
  rcases hz.2 with ⟨i, hi, rfl⟩ | ⟨i, hi, rfl⟩ | rfl | rfl
  · exact World.block_lt_of_cell? w _ (h.fr i 0 hi n1)
  · exact World.block_lt_of_cell? w _ (h.xr i 0 hi n1)
  · exact World.block_lt_of_cell? w _ (h.lc 0 n1)
  · exact World.block_lt_of_cell? w _ (h.dc 0 n1)

def updX (X : Nat → Nat → Bool) (b a : Nat) (v : Bool) : Nat → Nat → Bool := fun x y => if x = b ∧ y = a then v else X x y
def updV (f : Nat → Int) (b : Nat) (v : Int) : Nat → Int := fun x => if x = b then v else f x
def updF (F : Nat → Nat → Int) (b a : Nat) (v : Int) : Nat → Nat → Int := fun x y => if x = b ∧ y = a then v else F x y

theorem cellOff {w : World} {p q : Addr} {v u : Value} (h : w.cell? q = some v) (hne : p ≠ q) : (w.setCell p u).cell? q = some v := by rw [World.cell?_setCell_other _ _ _ _ hne]; exact h

section
variable {L : Lay} {w : World} {F : Nat → Nat → Int} {X : Nat → Nat → Bool} {lf du : Nat → Int}

/-- A store into a block that is none of these. -/
theorem MV.other (h : MV L w F X lf du) (p : Addr) (hp : ∀ z o, w.cell? ⟨z, o, none⟩ ≠ none → L.k z ≤ 4 + 2 * L.N ∧ (z = L.MB ∨ z = L.FB ∨ z = L.XB ∨ L.Mut z) → p.block ≠ z) (u : Value) : MV L (w.setCell p u) F X lf du := by
  have n1 := h.ok.n1
  have ne : ∀ z o v, w.cell? ⟨z, o, none⟩ = some v → L.k z ≤ 4 + 2 * L.N → (z = L.MB ∨ z = L.FB ∨ z = L.XB ∨ L.Mut z) → p ≠ ⟨z, o, none⟩ := fun z o v hc h1 h2 e => hp z o (by rw [hc]; simp) ⟨h1, h2⟩ (by rw [e])
  have fz : ∀ z o, w.frozen? ⟨z, o, none⟩ = false → (w.setCell p u).frozen? ⟨z, o, none⟩ = false := fun z o hf => by rw [World.frozen?_setCell]; exact hf
  have ok := h.ok
  exact ⟨h.ok, cellOff h.c0 (ne _ _ _ h.c0 (by rw [ok.km]; omega) (.inl rfl)), cellOff h.c1 (ne _ _ _ h.c1 (by rw [ok.km]; omega) (.inl rfl)), cellOff h.c2 (ne _ _ _ h.c2 (by rw [ok.km]; omega) (.inl rfl)), cellOff h.c3 (ne _ _ _ h.c3 (by rw [ok.km]; omega) (.inl rfl)),
    fun i hi => cellOff (h.fl i hi) (ne _ _ _ (h.fl i hi) (by rw [ok.kf]; omega) (.inr (.inl rfl))), fun i hi => cellOff (h.fx i hi) (ne _ _ _ (h.fx i hi) (by rw [ok.kx]; omega) (.inr (.inr (.inl rfl)))),
    fun b a h1 h2 => cellOff (h.fr b a h1 h2) (ne _ _ _ (h.fr b a h1 h2) (by rw [ok.kr b h1]; omega) (.inr (.inr (.inr (ok.mr h1))))), fun b a h1 h2 => cellOff (h.xr b a h1 h2) (ne _ _ _ (h.xr b a h1 h2) (by rw [ok.kz b h1]; omega) (.inr (.inr (.inr (ok.mx h1))))),
    fun i hi => cellOff (h.lc i hi) (ne _ _ _ (h.lc i hi) (by rw [ok.kl]; omega) (.inr (.inr (.inr ok.ml)))), fun i hi => cellOff (h.dc i hi) (ne _ _ _ (h.dc i hi) (by rw [ok.kd]; omega) (.inr (.inr (.inr ok.md)))),
    fun b o hb => fz _ _ (h.zr b o hb), fun b o hb => fz _ _ (h.zx b o hb), fun o => fz _ _ (h.zl o), fun o => fz _ _ (h.zd o)⟩

/-- A store into a table's row. -/
theorem MV.setF (h : MV L w F X lf du) (b a : Nat) (hb : b < L.N) (ha : a < L.N) (v : Int) : MV L (w.setCell ⟨L.r b, a, none⟩ (.int .i64 v)) (updF F b a v) X lf du := by
  have ok := h.ok
  have ne : ∀ z o, L.k z ≠ 5 + 2 * b → (⟨L.r b, a, none⟩ : Addr) ≠ ⟨z, o, none⟩ := fun z o hk e => hk (by rw [← ok.kr b hb]; injection e with e1; rw [e1])
  have fz : ∀ z o, w.frozen? ⟨z, o, none⟩ = false → (w.setCell ⟨L.r b, a, none⟩ (.int .i64 v)).frozen? ⟨z, o, none⟩ = false := fun z o hf => by rw [World.frozen?_setCell]; exact hf
  refine ⟨h.ok, cellOff h.c0 (ne _ _ (by rw [ok.km]; omega)), cellOff h.c1 (ne _ _ (by rw [ok.km]; omega)), cellOff h.c2 (ne _ _ (by rw [ok.km]; omega)), cellOff h.c3 (ne _ _ (by rw [ok.km]; omega)),
    fun i hi => cellOff (h.fl i hi) (ne _ _ (by rw [ok.kf]; omega)), fun i hi => cellOff (h.fx i hi) (ne _ _ (by rw [ok.kx]; omega)), fun x y h1 h2 => ?_, fun x y h1 h2 => cellOff (h.xr x y h1 h2) (ne _ _ (by rw [ok.kz x h1]; omega)),
    fun i hi => cellOff (h.lc i hi) (ne _ _ (by rw [ok.kl]; omega)), fun i hi => cellOff (h.dc i hi) (ne _ _ (by rw [ok.kd]; omega)), fun b o hb => fz _ _ (h.zr b o hb), fun b o hb => fz _ _ (h.zx b o hb), fun o => fz _ _ (h.zl o), fun o => fz _ _ (h.zd o)⟩
  unfold updF
  by_cases c : x = b ∧ y = a
  · obtain ⟨rfl, rfl⟩ := c
    rw [if_pos ⟨rfl, rfl⟩]
    exact World.cell?_setCell_same _ _ _ (h.fr x y h1 h2)
  · rw [if_neg c]
    by_cases e : x = b
    · subst e
      exact cellOff (h.fr x y h1 h2) (fun e2 => c ⟨rfl, by injection e2 with _ e3; exact e3.symm⟩)
    · exact cellOff (h.fr x y h1 h2) (ne _ _ (by rw [ok.kr x h1]; omega))

theorem MV.setX (h : MV L w F X lf du) (b a : Nat) (hb : b < L.N) (ha : a < L.N) (v : Bool) : MV L (w.setCell ⟨L.x b, a, none⟩ (.bool v)) F (updX X b a v) lf du := by
  have ok := h.ok
  have ne : ∀ z o, L.k z ≠ 6 + 2 * b → (⟨L.x b, a, none⟩ : Addr) ≠ ⟨z, o, none⟩ := fun z o hk e => hk (by rw [← ok.kz b hb]; injection e with e1; rw [e1])
  have fz : ∀ z o, w.frozen? ⟨z, o, none⟩ = false → (w.setCell ⟨L.x b, a, none⟩ (.bool v)).frozen? ⟨z, o, none⟩ = false := fun z o hf => by rw [World.frozen?_setCell]; exact hf
  refine ⟨h.ok, cellOff h.c0 (ne _ _ (by rw [ok.km]; omega)), cellOff h.c1 (ne _ _ (by rw [ok.km]; omega)), cellOff h.c2 (ne _ _ (by rw [ok.km]; omega)), cellOff h.c3 (ne _ _ (by rw [ok.km]; omega)),
    fun i hi => cellOff (h.fl i hi) (ne _ _ (by rw [ok.kf]; omega)), fun i hi => cellOff (h.fx i hi) (ne _ _ (by rw [ok.kx]; omega)), fun x y h1 h2 => cellOff (h.fr x y h1 h2) (ne _ _ (by rw [ok.kr x h1]; omega)), fun x y h1 h2 => ?_,
    fun i hi => cellOff (h.lc i hi) (ne _ _ (by rw [ok.kl]; omega)), fun i hi => cellOff (h.dc i hi) (ne _ _ (by rw [ok.kd]; omega)), fun b o hb => fz _ _ (h.zr b o hb), fun b o hb => fz _ _ (h.zx b o hb), fun o => fz _ _ (h.zl o), fun o => fz _ _ (h.zd o)⟩
  unfold updX
  by_cases c : x = b ∧ y = a
  · obtain ⟨rfl, rfl⟩ := c
    rw [if_pos ⟨rfl, rfl⟩]
    exact World.cell?_setCell_same _ _ _ (h.xr x y h1 h2)
  · rw [if_neg c]
    by_cases e : x = b
    · subst e
      exact cellOff (h.xr x y h1 h2) (fun e2 => c ⟨rfl, by injection e2 with _ e3; exact e3.symm⟩)
    · exact cellOff (h.xr x y h1 h2) (ne _ _ (by rw [ok.kz x h1]; omega))

theorem MV.setL (h : MV L w F X lf du) (b : Nat) (hb : b < L.N) (v : Int) : MV L (w.setCell ⟨L.LB, b, none⟩ (.int .i64 v)) F X (updV lf b v) du := by
  have ok := h.ok
  have ne : ∀ z o, L.k z ≠ 3 → (⟨L.LB, b, none⟩ : Addr) ≠ ⟨z, o, none⟩ := fun z o hk e => hk (by rw [← ok.kl]; injection e with e1; rw [e1])
  have fz : ∀ z o, w.frozen? ⟨z, o, none⟩ = false → (w.setCell ⟨L.LB, b, none⟩ (.int .i64 v)).frozen? ⟨z, o, none⟩ = false := fun z o hf => by rw [World.frozen?_setCell]; exact hf
  refine ⟨h.ok, cellOff h.c0 (ne _ _ (by rw [ok.km]; omega)), cellOff h.c1 (ne _ _ (by rw [ok.km]; omega)), cellOff h.c2 (ne _ _ (by rw [ok.km]; omega)), cellOff h.c3 (ne _ _ (by rw [ok.km]; omega)),
    fun i hi => cellOff (h.fl i hi) (ne _ _ (by rw [ok.kf]; omega)), fun i hi => cellOff (h.fx i hi) (ne _ _ (by rw [ok.kx]; omega)), fun x y h1 h2 => cellOff (h.fr x y h1 h2) (ne _ _ (by rw [ok.kr x h1]; omega)), fun x y h1 h2 => cellOff (h.xr x y h1 h2) (ne _ _ (by rw [ok.kz x h1]; omega)),
    fun i hi => ?_, fun i hi => cellOff (h.dc i hi) (ne _ _ (by rw [ok.kd]; omega)), fun b o hb => fz _ _ (h.zr b o hb), fun b o hb => fz _ _ (h.zx b o hb), fun o => fz _ _ (h.zl o), fun o => fz _ _ (h.zd o)⟩
  unfold updV
  by_cases c : i = b
  · subst c
    rw [if_pos rfl]
    exact World.cell?_setCell_same _ _ _ (h.lc i hi)
  · rw [if_neg c]
    exact cellOff (h.lc i hi) (fun e2 => c (by injection e2 with _ e3; exact e3.symm))

theorem MV.setD (h : MV L w F X lf du) (b : Nat) (hb : b < L.N) (v : Int) : MV L (w.setCell ⟨L.DB, b, none⟩ (.int .i64 v)) F X lf (updV du b v) := by
  have ok := h.ok
  have ne : ∀ z o, L.k z ≠ 4 → (⟨L.DB, b, none⟩ : Addr) ≠ ⟨z, o, none⟩ := fun z o hk e => hk (by rw [← ok.kd]; injection e with e1; rw [e1])
  have fz : ∀ z o, w.frozen? ⟨z, o, none⟩ = false → (w.setCell ⟨L.DB, b, none⟩ (.int .i64 v)).frozen? ⟨z, o, none⟩ = false := fun z o hf => by rw [World.frozen?_setCell]; exact hf
  refine ⟨h.ok, cellOff h.c0 (ne _ _ (by rw [ok.km]; omega)), cellOff h.c1 (ne _ _ (by rw [ok.km]; omega)), cellOff h.c2 (ne _ _ (by rw [ok.km]; omega)), cellOff h.c3 (ne _ _ (by rw [ok.km]; omega)),
    fun i hi => cellOff (h.fl i hi) (ne _ _ (by rw [ok.kf]; omega)), fun i hi => cellOff (h.fx i hi) (ne _ _ (by rw [ok.kx]; omega)), fun x y h1 h2 => cellOff (h.fr x y h1 h2) (ne _ _ (by rw [ok.kr x h1]; omega)), fun x y h1 h2 => cellOff (h.xr x y h1 h2) (ne _ _ (by rw [ok.kz x h1]; omega)),
    fun i hi => cellOff (h.lc i hi) (ne _ _ (by rw [ok.kl]; omega)), fun i hi => ?_, fun b o hb => fz _ _ (h.zr b o hb), fun b o hb => fz _ _ (h.zx b o hb), fun o => fz _ _ (h.zl o), fun o => fz _ _ (h.zd o)⟩
  unfold updV
  by_cases c : i = b
  · subst c
    rw [if_pos rfl]
    exact World.cell?_setCell_same _ _ _ (h.dc i hi)
  · rw [if_neg c]
    exact cellOff (h.dc i hi) (fun e2 => c (by injection e2 with _ e3; exact e3.symm))
end

/-- A way is open: within a set, and not fixed. -/
def opB (X : Nat → Nat → Bool) (b a : Nat) : Bool := subB a b && !X b a

theorem isOpen_any (L : Lay) (w : World) (F : Nat → Nat → Int) (X : Nat → Nat → Bool) (lf du : Nat → Int) (h : MV L w F X lf du) (b a : Nat) (hb : b < L.N) (ha : a < L.N) :
    Calls Try.prog 87 #[.pointer (some ⟨L.MB, 0, none⟩), .int .i64 b, .int .i64 a] w fun e w' => e = .returned (.bool (opB X b a)) ∧ w = w' := by
  have n16 := h.ok.n16
  have hbit := andNot_bits ⟨a, by omega⟩ ⟨b, by omega⟩
  simp only at hbit
  have c1 := h.c1
  have c2 := h.fx b hb
  have c3 := h.xr b a hb ha
  have hbN : (b : Int) < (L.N : Int) := by omega
  have haN : (a : Int) < (L.N : Int) := by omega
  obtain ⟨V, hV⟩ : ∃ V, V = X b a := ⟨_, rfl⟩
  rw [← hV] at c3
  cases hs : subB a b
  · have hr : Hid (opB X b a = false) := Lib.hid (by simp [opB, hs])
    rw [hs] at hbit
    clear hs h hV
    go_enter Try.func87, Try.ntmps87
    go_wp2
    go_ret
    exact ⟨ret_bool hr.out.symm, rfl⟩
  · have hr : Hid (opB X b a = !V) := Lib.hid (by simp [opB, hs, hV])
    rw [hs] at hbit
    clear hs h hV
    go_enter Try.func87, Try.ntmps87
    go_wp2
    go_ret
    exact ⟨ret_bool hr.out.symm, rfl⟩

theorem sendIn_any (L : Lay) (w : World) (F : Nat → Nat → Int) (X : Nat → Nat → Bool) (lf du : Nat → Int) (h : MV L w F X lf du) (q : Addr) (hq : w.cell? q = some (.pointer (some ⟨L.MB, 0, none⟩))) (a : Nat) (ha : a < L.N) :
    Calls Try.prog 125 #[.int .i64 a, .pointer (some q)] w fun e w' => e = .returned (.bool (decide (0 < du a))) ∧ w = w' := by
  have n16 := h.ok.n16
  have c1 := h.c3
  have c2 := h.dc a ha
  have haN : (a : Int) < (L.N : Int) := by omega
  clear h
  go_enter Try.func125, Try.ntmps125
  go_wp2
  go_ret
  exact ⟨rfl, rfl⟩

end Go.Proofs.Ytjmfjgoehicgcaa
