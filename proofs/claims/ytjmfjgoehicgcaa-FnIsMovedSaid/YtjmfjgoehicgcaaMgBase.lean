/- Plain words on memory that all our walks share: what a slice of ints reads as, what a call owns. -/
import Derived.Test.YtjmfjgoehicgcaaProg
import Derived.WalkKit
import Derived.WalkLawsBesides
import Derived.WalkSpells
import Derived.WalkSmall
import Derived.LoopTactic
import Derived.Below
import Derived.BigQuiet
import Derived.Lib.Hide
import Derived.Deep.RegionHeld3
import Derived.StillTailTactics
import Derived.Deep.QuietTactic
import Derived.IntWalk
set_option linter.unusedVariables false
set_option linter.unusedSimpArgs false
namespace Go.Proofs.Ytjmfjgoehicgcaa
open Go.RowKit

/-- An element of a list, 0 beyond its end; a plain definition, so that the walk leaves it alone. -/
def nth (xs : List Int) (k : Nat) : Int := xs.getD k 0

theorem nth_eq (xs : List Int) (k : Nat) (h : k < xs.length) : nth xs k = xs[k] := by simp [nth, List.getD, h]

/-- The slice of numbers of kind q that begins at a reads as xs in w. -/
def ReadsK (q : IntKind) (w : World) (a : Option Addr) (xs : List Int) : Prop :=
  ∀ k, k < xs.length → ∃ b off, a = some ⟨b, off, none⟩ ∧ b < w.heap.size ∧ w.cell? ⟨b, off + k, none⟩ = some (.int q (nth xs k))
abbrev Reads (w : World) (a : Option Addr) (xs : List Int) : Prop := ReadsK .i64 w a xs

theorem ReadsK.below {q : IntKind} {w w' : World} {a : Option Addr} {xs : List Int} (h : ReadsK q w a xs) (hb : Below w.heap.size w w') : ReadsK q w' a xs := by
  intro k hk
  obtain ⟨b, off, rfl, hlt, hc⟩ := h k hk
  exact ⟨b, off, rfl, Nat.lt_of_lt_of_le hlt hb.size, by rw [hb.cell (p := ⟨b, off + k, none⟩) hlt]; exact hc⟩

theorem ReadsK.nil (q : IntKind) (w : World) (a : Option Addr) : ReadsK q w a [] := fun k hk => by simp at hk

/-- What the call owns from block B on: a slice of ints. -/
def Own (B : Nat) (w : World) (v : Value) (xs : List Int) : Prop :=
  w.ownsRow B 3 1 v xs.length (xs.map (Value.int .i64))

theorem Own.mono {B B' : Nat} {w : World} {v : Value} {xs : List Int} (h : Own B w v xs) (hB : B' ≤ B) : Own B' w v xs := by
  refine ⟨h.1, ?_⟩
  rcases h.2 with h | ⟨g, cap, cur, a, b, r⟩
  · exact .inl h
  · exact .inr ⟨g, cap, cur, a, Nat.le_trans hB b, r⟩

theorem Own.setBelow {B : Nat} {w : World} {v : Value} {xs : List Int} (h : Own B w v xs) {a : Addr} (ha : a.block < B) (u : Value) : Own B (w.setCell a u) v xs :=
  ownsRow_setCell_below h ha u

theorem Own.later {B : Nat} {w w' : World} {v : Value} {xs : List Int} (h : Own B w v xs) (hb : Below w.heap.size w w') : Own B w' v xs := by
  refine ⟨h.1, ?_⟩
  rcases h.2 with h | ⟨g, cap, cur, a, b, hg, r⟩
  · exact .inl h
  · exact .inr ⟨g, cap, cur, a, b, by rw [hb.block g (Array.getElem?_eq_some_iff.1 hg).1]; exact hg, r⟩

theorem Own.shape {B : Nat} {w : World} {v : Value} {xs : List Int} (h : Own B w v xs) : ∃ a c, v = .slice a xs.length c ∧ Reads w a xs := by
  unfold Own at h
  have h0 := h
  rcases h.2 with ⟨rfl, hn⟩ | ⟨g, cap, cur, rfl, hb, hg, hnc, hcm, hcs, ht⟩
  · refine ⟨none, 0, by rw [hn], ?_⟩
    intro k hk; omega
  · refine ⟨some ⟨g, 0, none⟩, cap, rfl, ?_⟩
    intro k hk
    refine ⟨g, 0, rfl, (Array.getElem?_eq_some_iff.1 hg).1, ?_⟩
    rw [Nat.zero_add, World.ownsRow.cellAt h0 k (by omega)]
    simp [nth, List.getD, hk]

theorem bcell {W w1 : World} (hb : Below W.heap.size W w1) : (∀ b o, b < W.heap.size → w1.cell? ⟨b, o, none⟩ = W.cell? ⟨b, o, none⟩) ∧ (∀ b o, b < W.heap.size → w1.frozen? ⟨b, o, none⟩ = W.frozen? ⟨b, o, none⟩) :=
  ⟨fun b o h => hb.cell (p := ⟨b, o, none⟩) h, fun b o h => hb.frozen (p := ⟨b, o, none⟩) h⟩

/-- A world behind W in which nothing below block B has changed. -/
def LaterW (B : Nat) (W : World) : Type := { w' : World // Below B W w' }
instance LaterW.inst {B : Nat} {W : World} : Nonempty (LaterW B W) := ⟨⟨W, Below.refl _ _⟩⟩
def LaterW.w {B : Nat} {W : World} (x : LaterW B W) : World := x.1
theorem LaterW.below {B : Nat} {W : World} (x : LaterW B W) : Below B W x.w := x.2
theorem LaterW.cell {B : Nat} {W : World} {b o : Nat} {v : Value} (hb : b < B) (h : W.cell? ⟨b, o, none⟩ = some v) (x : LaterW B W) : x.w.cell? ⟨b, o, none⟩ = some v :=
  (x.below.cell (p := ⟨b, o, none⟩) hb).trans h
theorem LaterW.reads {q : IntKind} {W : World} {a : Option Addr} {xs : List Int} (x : LaterW W.heap.size W) (h : ReadsK q W a xs) : ReadsK q x.w a xs := h.below x.below

theorem LaterW.call {P : Program} {f : FuncId} {args : Array Value} {v : Value} {W : World} {x : LaterW W.heap.size W}
    (h : Calls P f args x.w fun e w' => e = .returned v ∧ Below x.w.heap.size x.w w') : Calls P f args x.w fun e w'' => e = .returned v ∧ ∃ y : LaterW W.heap.size W, w'' = y.w :=
  h.mono fun _ w' ⟨he, hb⟩ => ⟨he, ⟨w', x.below.trans (hb.mono x.below.size)⟩, rfl⟩

theorem LaterW.callSame {P : Program} {f : FuncId} {args : Array Value} {v : Value} {W : World} {x : LaterW W.heap.size W}
    (h : Calls P f args x.w fun e w' => e = .returned v ∧ x.w = w') : Calls P f args x.w fun e w'' => e = .returned v ∧ ∃ y : LaterW W.heap.size W, w'' = y.w :=
  h.mono fun _ w' ⟨he, hb⟩ => ⟨he, x, hb.symm⟩

/-- A region that draws its order, whose operations read and whose calls make memory of their own: one walk in the text's order. -/
theorem wp_region_later {P : Program} {id : Nat} {Q : Exit → Act → World → Prop} {a : Act} {W : World} {l : List Oper} (hm : P.follows .mixedOrders = true) (hB : Region.lexB .any l.toArray = true)
    (h : wpQuiet P l.toArray (fun w' => ∃ x : LaterW W.heap.size W, w' = x.w) (fun a' => ∀ w', (∃ x : LaterW W.heap.size W, w' = x.w) → Q .normal a' w') l a) : (Code.region id l.toArray true).wp P Q a W :=
  wp_region_quiet (C := fun w' => ∃ x : LaterW W.heap.size W, w' = x.w) hm hB ⟨⟨_, (Below.refl _ _).drew⟩, rfl⟩ (by simpa using h)

theorem Own.reads {B n c : Nat} {w : World} {a : Option Addr} {xs : List Int} (h : Own B w (.slice a n c) xs) : Reads w a xs := by
  obtain ⟨a', c', e, hr⟩ := h.shape
  cases e
  exact hr

theorem sameBelow {B : Nat} {w w' : World} (h : w = w') : Below B w w' := by subst h; exact Below.refl _ _

theorem cellKeep {W W' : World} {b o : Nat} {v : Value} (hb : Below W.heap.size W W') (h : W.cell? ⟨b, o, none⟩ = some v) : W'.cell? ⟨b, o, none⟩ = some v :=
  (hb.cell (p := ⟨b, o, none⟩) (World.block_lt_of_cell? W _ h)).trans h

theorem belowAlloc (w : World) (o : Obj) : Below w.heap.size w (w.alloc o) := (Below.refl _ _).alloc (Nat.le_refl _) o
theorem _root_.Go.RowKit.Below.thenB {w a b : World} (h : Below w.heap.size w a) (k : Below a.heap.size a b) : Below w.heap.size w b := h.trans (k.mono h.size)

theorem newCell0 (w : World) (x y : Value) (t : TypeId) : (w.alloc (.cells #[x, y] t)).cell? ⟨w.heap.size, 0, none⟩ = some x := by
  rw [World.cell?_alloc_at _ _ _ _ (by simp)]; rfl
theorem newCell1 (w : World) (x y : Value) (t : TypeId) : (w.alloc (.cells #[x, y] t)).cell? ⟨w.heap.size, 1, none⟩ = some y := by
  rw [World.cell?_alloc_at _ _ _ _ (by simp)]; rfl

theorem undrew {w w' : World} (h : Below w.drew.heap.size w.drew w') : Below w.heap.size w w' := ((Below.refl _ w).drew).trans h
theorem newCell (w : World) (x : Value) (t : TypeId) : (w.alloc (.cells #[x] t)).cell? ⟨w.heap.size, 0, none⟩ = some x := by
  rw [World.cell?_alloc_at _ _ _ _ (by simp)]; rfl
theorem frozKeep {W W' : World} {b o : Nat} (hb : Below W.heap.size W W') (hlt : b < W.heap.size) (h : W.frozen? ⟨b, o, none⟩ = false) : W'.frozen? ⟨b, o, none⟩ = false :=
  (hb.frozen (p := ⟨b, o, none⟩) hlt).trans h
theorem newFroz (w : World) (cs : Array Value) (t : TypeId) (o : Nat) : (w.alloc (.cells cs t)).frozen? ⟨w.heap.size, o, none⟩ = false := World.frozen?_alloc_at _ _ _ _ (by simp)

/-- A block of two cells that has just been laid, behind a later call. -/
theorem twoKept {w w' : World} {x y : Value} {t : TypeId} (hb : Below (w.alloc (.cells #[x, y] t)).heap.size (w.alloc (.cells #[x, y] t)) w') :
    w'.cell? ⟨w.heap.size, 0, none⟩ = some x ∧ w'.cell? ⟨w.heap.size, 1, none⟩ = some y ∧ w'.frozen? ⟨w.heap.size, 0, none⟩ = false ∧ w'.frozen? ⟨w.heap.size, 1, none⟩ = false ∧ w.heap.size < w'.heap.size ∧ Below w.heap.size w w' := by
  have hs := hb.size
  exact ⟨cellKeep hb (newCell0 _ _ _ _), cellKeep hb (newCell1 _ _ _ _), frozKeep hb (by simp) (newFroz _ _ _ _), frozKeep hb (by simp) (newFroz _ _ _ _), by simp at hs; omega, (belowAlloc _ _).thenB hb⟩

/-- A struct variable of two cells at block m: an int and a slice; neither is frozen. -/
structure VarInv (wr : World) (m : Nat) (s : Int) (v : Value) : Prop where
  c0 : wr.cell? ⟨m, 0, none⟩ = some (.int .i64 s)
  c1 : wr.cell? ⟨m, 1, none⟩ = some v
  f0 : wr.frozen? ⟨m, 0, none⟩ = false
  f1 : wr.frozen? ⟨m, 1, none⟩ = false

theorem VarInv.lt {wr : World} {m : Nat} {s : Int} {v : Value} (h : VarInv wr m s v) : m < wr.heap.size := World.block_lt_of_cell? wr _ h.c0
theorem VarInv.made (w : World) (s : Int) (v : Value) (t : TypeId) : VarInv (w.alloc (.cells #[.int .i64 s, v] t)) w.heap.size s v :=
  ⟨newCell0 _ _ _ _, newCell1 _ _ _ _, newFroz _ _ _ _, newFroz _ _ _ _⟩
theorem VarInv.keep {B : Nat} {w w' : World} {m : Nat} {s : Int} {v : Value} (h : VarInv w m s v) (hb : Below B w w') (hm : m < B) : VarInv w' m s v :=
  ⟨(hb.cell (p := ⟨m, 0, none⟩) hm).trans h.c0, (hb.cell (p := ⟨m, 1, none⟩) hm).trans h.c1, (hb.frozen (p := ⟨m, 0, none⟩) hm).trans h.f0, (hb.frozen (p := ⟨m, 1, none⟩) hm).trans h.f1⟩
theorem VarInv.later {w w' : World} {m : Nat} {s : Int} {v : Value} (h : VarInv w m s v) (hb : Below w.heap.size w w') : VarInv w' m s v := h.keep hb h.lt
theorem VarInv.drewN {w : World} {m : Nat} {s : Int} {v : Value} (h : VarInv w m s v) (n : Nat) : VarInv (w.drewN n) m s v := ⟨h.c0, h.c1, h.f0, h.f1⟩
theorem Own.drew {B : Nat} {w : World} {v : Value} {xs : List Int} (h : Own B w v xs) : Own B w.drew v xs := h
theorem VarInv.drew {w : World} {m : Nat} {s : Int} {v : Value} (h : VarInv w m s v) : VarInv w.drew m s v := ⟨h.c0, h.c1, h.f0, h.f1⟩
theorem ReadsK.drew {q : IntKind} {w : World} {a : Option Addr} {xs : List Int} (h : ReadsK q w a xs) : ReadsK q w.drew a xs := h
theorem cellDrew {w : World} {a : Addr} {v : Value} (h : w.cell? a = some v) : w.drew.cell? a = some v := h
theorem drewAll {w w' : World} (h : Below w.heap.size w w') : Below w.heap.size w w'.drew := h.drew
theorem cellStore2 {w : World} {m b o : Nat} {v x y : Value} (h : w.cell? ⟨b, o, none⟩ = some v) (hne : m ≠ b) : ((w.setCell ⟨m, 0, none⟩ x).setCell ⟨m, 1, none⟩ y).cell? ⟨b, o, none⟩ = some v := by
  rw [World.cell?_setCell_other _ _ _ _ (fun e => hne (by cases e; rfl)), World.cell?_setCell_other _ _ _ _ (fun e => hne (by cases e; rfl))]; exact h
theorem VarInv.store {w : World} {m : Nat} {s : Int} {v : Value} (h : VarInv w m s v) (u : Value) : VarInv (w.setCell ⟨m, 1, none⟩ u) m s u :=
  ⟨by rw [World.cell?_setCell_other _ _ _ _ (by simp)]; exact h.c0, World.cell?_setCell_same _ _ _ h.c1, by rw [World.frozen?_setCell]; exact h.f0, by rw [World.frozen?_setCell]; exact h.f1⟩
theorem VarInv.other {w : World} {m : Nat} {s : Int} {v : Value} (h : VarInv w m s v) (p : Addr) (hp : p.block ≠ m) (u : Value) : VarInv (w.setCell p u) m s v :=
  ⟨by rw [World.cell?_setCell_other _ _ _ _ (fun e => hp (by rw [e]))]; exact h.c0, by rw [World.cell?_setCell_other _ _ _ _ (fun e => hp (by rw [e]))]; exact h.c1, by rw [World.frozen?_setCell]; exact h.f0, by rw [World.frozen?_setCell]; exact h.f1⟩

theorem ret_int {k : IntKind} {a b : Int} (h : a = b) : Ending.returned (.int k a) = .returned (.int k b) := by rw [h]
theorem ret_bool {a b : Bool} (h : a = b) : Ending.returned (.bool a) = .returned (.bool b) := by rw [h]

theorem take_succ_getD (xs : List Int) (k : Nat) (h : k < xs.length) : xs.take (k + 1) = xs.take k ++ [nth xs k] := by
  rw [List.take_succ_eq_append_getElem h]; simp [nth, List.getD, h]

theorem Try.info3 : (Try.prog.info? 3).map (fun i => (i.zero, i.size, i.bytes)) = some (some (.int .i64 0), 1, 8) := by kernel_rfl

theorem Own.nil (B : Nat) (w : World) : Own B w (.slice none 0 0) [] := World.ownsRow_nil w B 3 1

theorem Own.made (w : World) (B : Nat) (hB : B ≤ w.heap.size) : Own B (w.alloc (.cells #[] 3)) (.slice (some ⟨w.heap.size, 0, none⟩) 0 0) [] :=
  World.ownsRow_made w #[] 0 hB (Nat.zero_le _) rfl

/-- 'append(out, y)' on a slice of ints that the call owns. -/
theorem wpList_append1 {ops : Array Oper} {rest : List Oper} {o : Oper} {a : Act} {Q : Exit → Act → World → Prop} (w : World) (hgd : o.guard = none) (s x : Operand)
    (ho : o.op = .call { callee := .builtin .append, args := #[s, x], argTypes := #[22, 22] }) (B : Nat) (v : Value) (xs : List Int) (hs : a.eval s = v) (hown : Own B w v xs)
    (ad : Addr) (c : Nat) (y : Int) (hx : a.eval x = .slice (some ad) 1 c) (hc : w.cell? ad = some (.int .i64 y)) (hlen : xs.length ≤ 1048576) (hB : B ≤ w.heap.size)
    (h : ∀ v' w', Own B w' v' (xs ++ [y]) → Below B w w' → wpList Try.prog ops Q rest (a.put o.dst v') w') : wpList Try.prog ops Q (o :: rest) a w := by
  obtain ⟨i0, hi, hz0, hz1, hz2⟩ := info_parts Try.info3
  refine wpList_append_own w hgd s x 22 ho B 3 i0 (.int .i64 0) 1 8 Try.underlying22 hi hz0 hz1 hz2 rfl (by decide) v xs.length _ hs hown ad 1 c [.int .i64 y] hx rfl ?_ (by simp [Value.oneCell']) (by unfold maxLen; omega) (by omega) hB ?_
  · intro j u hj
    cases j with
    | zero => simp at hj; subst hj; rw [show ad.add 0 = ad by simp [Addr.add]]; exact hc
    | succ j => simp at hj
  · intro v' w' h1 h2 _
    refine h v' w' ?_ ((Below.refl _ _).grown h2 hB (fun k hk => (World.ownsRow.lt hown k hk).1))
    unfold Own; simpa using h1

/-- The same as a step of a region that draws its order. -/
theorem step_append1 {ops : Array Oper} {o : Oper} {a : Act} {K : Act → World → Prop} {Q : Exit → Act → World → Prop} {E : Prop} (w : World) (hgd : o.guard = none) (s x : Operand)
    (ho : o.op = .call { callee := .builtin .append, args := #[s, x], argTypes := #[22, 22] }) (B : Nat) (v : Value) (xs : List Int) (hs : a.eval s = v) (hown : Own B w v xs)
    (ad : Addr) (c : Nat) (y : Int) (hx : a.eval x = .slice (some ad) 1 c) (hc : w.cell? ad = some (.int .i64 y)) (hlen : xs.length ≤ 1048576) (hB : B ≤ w.heap.size)
    (h : ∀ v' w', Own B w' v' (xs ++ [y]) → Below B w w' → K (a.put o.dst v') w') : if Region.wanted o (yielded ops a.tmps) = true then Oper.wp Try.prog o a w K Q else E := by
  obtain ⟨i0, hi, hz0, hz1, hz2⟩ := info_parts Try.info3
  rw [if_pos (by simp [Region.wanted, hgd])]
  refine wp_append_own w s x 22 ho B 3 i0 (.int .i64 0) 1 8 Try.underlying22 hi hz0 hz1 hz2 rfl (by decide) v xs.length _ hs hown ad 1 c [.int .i64 y] hx rfl ?_ (by simp [Value.oneCell']) (by unfold maxLen; omega) (by omega) hB ?_
  · intro j u hj
    cases j with
    | zero => simp at hj; subst hj; rw [show ad.add 0 = ad by simp [Addr.add]]; exact hc
    | succ j => simp at hj
  · intro v' w' h1 h2 _
    refine h v' w' ?_ ((Below.refl _ _).grown h2 hB (fun k hk => (World.ownsRow.lt hown k hk).1))
    unfold Own; simpa using h1

theorem _root_.Go.World.grownBy.trans2 {a b c : World} {row : Option Nat} (h : a.grownBy b row) (k : b.grownBy c row) : a.grownBy c row :=
  ⟨k.os.trans h.os, k.tape.trans h.tape, k.output.trans h.output, Nat.le_trans h.size k.size, fun i hi hne => (k.block i (Nat.lt_of_lt_of_le hi h.size) hne).trans (h.block i hi hne)⟩

theorem Own.blockLt {B : Nat} {w : World} {v : Value} {xs : List Int} (h : Own B w v xs) : ∀ k, v.ownBlock = some k → B ≤ k ∧ k < w.heap.size := World.ownsRow.lt h

theorem Own.grown {B : Nat} {w w' : World} {v u : Value} {xs : List Int} (h : Own B w v xs) (hg : w.grownBy w' u.ownBlock) (hne : ∀ k, u.ownBlock = some k → v.ownBlock ≠ some k) : Own B w' v xs :=
  World.ownsRow.kept h hg (by
    cases hu : u.ownBlock with
    | none => cases hv : v.ownBlock <;> simp
    | some k => exact .inr (hne k hu))

theorem below_of_grown {B : Nat} {w w' : World} {u : Value} {ys : List Int} (ho : Own B w u ys) (hg : w.grownBy w' u.ownBlock) (hB : B ≤ w.heap.size) : Below B w w' :=
  (Below.refl _ _).grown hg hB (fun k hk => (ho.blockLt k hk).1)

end Go.Proofs.Ytjmfjgoehicgcaa

/- The reader of drawn bytes: what a call leaves as it was, and one pick. -/
set_option linter.unusedVariables false
set_option linter.unusedSimpArgs false
namespace Go.Proofs.Ytjmfjgoehicgcaa
open Go.RowKit

/-- Below block B nothing has changed but block R. -/
structure Dr (B R : Nat) (w w' : World) : Prop where
  os : w'.os = w.os
  tape : w'.tape = w.tape
  output : w'.output = w.output
  size : w.heap.size ≤ w'.heap.size
  block : ∀ k, k < B → k ≠ R → w'.heap[k]? = w.heap[k]?

theorem Dr.refl (B R : Nat) (w : World) : Dr B R w w := ⟨rfl, rfl, rfl, Nat.le_refl _, fun _ _ _ => rfl⟩
theorem Dr.trans {B R : Nat} {a b c : World} (h : Dr B R a b) (k : Dr B R b c) : Dr B R a c :=
  ⟨k.os.trans h.os, k.tape.trans h.tape, k.output.trans h.output, Nat.le_trans h.size k.size, fun i hi hr => (k.block i hi hr).trans (h.block i hi hr)⟩
theorem Dr.mono {B B' R : Nat} {a b : World} (h : Dr B R a b) (hB : B' ≤ B) : Dr B' R a b :=
  ⟨h.os, h.tape, h.output, h.size, fun i hi hr => h.block i (Nat.lt_of_lt_of_le hi hB) hr⟩
theorem Dr.ofBelow {B R : Nat} {a b : World} (h : Below B a b) : Dr B R a b := ⟨h.os, h.tape, h.output, h.size, fun i hi _ => h.block i hi⟩
theorem Dr.below {B R : Nat} {a b : World} (h : Dr B R a b) (hR : B ≤ R) : Below B a b := ⟨h.os, h.tape, h.output, h.size, fun i hi => h.block i hi (by omega)⟩
theorem Dr.then {B R : Nat} {a b c : World} (h : Dr B R a b) (hB : B ≤ b.heap.size) (k : Dr b.heap.size R b c) : Dr B R a c := h.trans (k.mono hB)
theorem Dr.thenB {B R : Nat} {a b c : World} (h : Dr B R a b) (hB : B ≤ b.heap.size) (k : Below b.heap.size b c) : Dr B R a c := h.trans (Dr.ofBelow (k.mono hB))
theorem Dr.drew {B R : Nat} {a b : World} (h : Dr B R a b) : Dr B R a b.drew := ⟨h.os, h.tape, h.output, h.size, h.block⟩
theorem Dr.drewN {B R : Nat} {a b : World} (h : Dr B R a b) (k : Nat) : Dr B R a (b.drewN k) := ⟨h.os, h.tape, h.output, h.size, h.block⟩
theorem Dr.setCell {B R : Nat} {a b : World} (h : Dr B R a b) (p : Addr) (hp : B ≤ p.block ∨ p.block = R) (u : Value) : Dr B R a (b.setCell p u) :=
  ⟨h.os, h.tape, h.output, by simpa using h.size, fun i hi hr => by rw [Below.heap_setCell _ _ _ _ (by rcases hp with hp | hp <;> omega)]; exact h.block i hi hr⟩
theorem Dr.cell {B R : Nat} {w w' : World} (h : Dr B R w w') {b o : Nat} (hb : b < B) (hr : b ≠ R) : w'.cell? ⟨b, o, none⟩ = w.cell? ⟨b, o, none⟩ := World.cell?_of_block (w := w) (h.block b hb hr)
theorem Dr.frozen {B R : Nat} {w w' : World} (h : Dr B R w w') {b o : Nat} (hb : b < B) (hr : b ≠ R) : w'.frozen? ⟨b, o, none⟩ = w.frozen? ⟨b, o, none⟩ := World.frozen?_of_block (w := w) (h.block b hb hr)

theorem Own.dr {B R : Nat} {w w' : World} {v : Value} {xs : List Int} (h : Own B w v xs) (hb : Dr w.heap.size R w w') (hR : R < B) : Own B w' v xs := by
  refine ⟨h.1, ?_⟩
  rcases h.2 with h | ⟨g, cap, cur, a, b, hg, r⟩
  · exact .inl h
  · exact .inr ⟨g, cap, cur, a, b, by rw [hb.block g (Array.getElem?_eq_some_iff.1 hg).1 (by omega)]; exact hg, r⟩

theorem cellDr {R : Nat} {w w' : World} {b o : Nat} {v : Value} (hb : Dr w.heap.size R w w') (h : w.cell? ⟨b, o, none⟩ = some v) (hr : b ≠ R) : w'.cell? ⟨b, o, none⟩ = some v :=
  (hb.cell (World.block_lt_of_cell? w _ h) hr).trans h
theorem frozDr {R : Nat} {w w' : World} {b o : Nat} (hb : Dr w.heap.size R w w') (hlt : b < w.heap.size) (hr : b ≠ R) (h : w.frozen? ⟨b, o, none⟩ = false) : w'.frozen? ⟨b, o, none⟩ = false :=
  (hb.frozen hlt hr).trans h

/-- What is read of memory that is no part of the reader. -/
def Apart (R : Nat) (a : Option Addr) : Prop := ∀ x, a = some x → x.block ≠ R

theorem ReadsK.dr {q : IntKind} {R : Nat} {w w' : World} {a : Option Addr} {xs : List Int} (h : ReadsK q w a xs) (hb : Dr w.heap.size R w w') (hr : Apart R a) : ReadsK q w' a xs := by
  intro k hk
  obtain ⟨b, off, rfl, hlt, hc⟩ := h k hk
  have := hr _ rfl
  exact ⟨b, off, rfl, Nat.lt_of_lt_of_le hlt hb.size, by rw [hb.cell hlt this]; exact hc⟩

/-- The reader at block R: a slice of bytes, and how many were asked for, at most P. -/
def Rdr (R P : Nat) (w : World) : Prop :=
  ∃ (a : Option Addr) (c : Nat) (bs : List Int) (p : Nat), w.cell? ⟨R, 0, none⟩ = some (.slice a bs.length c) ∧ ReadsK .u8 w a bs ∧ (∀ n ∈ bs, 0 ≤ n ∧ n ≤ 255) ∧ bs.length ≤ 2000 ∧
    (∀ x, a = some x → 0 < bs.length → x.block < R) ∧ w.cell? ⟨R, 1, none⟩ = some (.int .i64 p) ∧ p ≤ P ∧ w.frozen? ⟨R, 0, none⟩ = false ∧ w.frozen? ⟨R, 1, none⟩ = false ∧ R < w.heap.size

theorem Rdr.lt {R P : Nat} {w : World} (h : Rdr R P w) : R < w.heap.size := by obtain ⟨a, c, bs, p, h1, h2, h3, h4, h5, h6, h7, h8, h9, h10⟩ := h; exact h10
theorem Rdr.more {R P P' : Nat} {w : World} (h : Rdr R P w) (hp : P ≤ P') : Rdr R P' w := by
  obtain ⟨a, c, bs, p, h1, h2, h3, h4, h5, h6, h7, h8, h9, h10⟩ := h; exact ⟨a, c, bs, p, h1, h2, h3, h4, h5, h6, by omega, h8, h9, h10⟩
theorem Rdr.kept {R P B : Nat} {w w' : World} (h : Rdr R P w) (hb : Below B w w') (hB : R < B) : Rdr R P w' := by
  obtain ⟨a, c, bs, p, h1, h2, h3, h4, h5, h6, h7, h8, h9, h10⟩ := h
  refine ⟨a, c, bs, p, (hb.cell (p := ⟨R, 0, none⟩) hB).trans h1, ?_, h3, h4, h5, (hb.cell (p := ⟨R, 1, none⟩) hB).trans h6, h7, (hb.frozen (p := ⟨R, 0, none⟩) hB).trans h8, (hb.frozen (p := ⟨R, 1, none⟩) hB).trans h9, Nat.lt_of_lt_of_le h10 hb.size⟩
  intro k hk
  obtain ⟨b, off, rfl, hlt, hc⟩ := h2 k hk
  have := h5 _ rfl (by omega)
  exact ⟨b, off, rfl, Nat.lt_of_lt_of_le hlt hb.size, (hb.cell (p := ⟨b, off + k, none⟩) (by simp at this ⊢; omega)).trans hc⟩
theorem Rdr.later {R P : Nat} {w w' : World} (h : Rdr R P w) (hb : Below w.heap.size w w') : Rdr R P w' := h.kept hb h.lt
theorem Rdr.drew {R P : Nat} {w : World} (h : Rdr R P w) : Rdr R P w.drew := h
theorem Rdr.drewN {R P : Nat} {w : World} (h : Rdr R P w) (k : Nat) : Rdr R P (w.drewN k) := h
theorem Rdr.setCell {R P : Nat} {w : World} (h : Rdr R P w) (q : Addr) (hq : R < q.block) (u : Value) : Rdr R P (w.setCell q u) := h.kept (B := R + 1) ((Below.refl _ _).setCell (by omega) u) (by omega)

/-- One number picked: it lies below n; the reader goes on. -/
def Picked (R P : Nat) (n : Int) (w : World) (e : Ending) (w' : World) : Prop := ∃ x : Nat, e = .returned (.int .i64 (x : Int)) ∧ (x : Int) < n ∧ Rdr R (P + 1) w' ∧ Dr w.heap.size R w w'

theorem pick_fin {R P : Nat} {n : Int} {w w' : World} {e : Ending} {v : Value} {a : Option Addr} {c p : Nat} {bs : List Int} (hv : e = .returned v) (hx : ∃ y : Int, v = .int .i64 y ∧ 0 ≤ y ∧ y < n)
    (h1 : w.cell? ⟨R, 0, none⟩ = some (.slice a bs.length c)) (h2 : ReadsK .u8 w a bs) (h3 : ∀ n ∈ bs, 0 ≤ n ∧ n ≤ 255) (h4 : bs.length ≤ 2000) (h5 : ∀ x, a = some x → 0 < bs.length → x.block < R)
    (h6 : w.cell? ⟨R, 1, none⟩ = some (.int .i64 p)) (h7 : p ≤ P) (h8 : w.frozen? ⟨R, 0, none⟩ = false) (h9 : w.frozen? ⟨R, 1, none⟩ = false) (h10 : R < w.heap.size)
    (hw : ∃ k : Nat, w' = (w.setCell ⟨R, 1, none⟩ (.int .i64 ((p : Int) + 1))).drewN k) : Picked R P n w e w' := by
  obtain ⟨y, rfl, hy0, hy1⟩ := hx
  obtain ⟨x, rfl⟩ := Int.eq_ofNat_of_zero_le hy0
  have hp1 : (p : Int) + 1 = ((p + 1 : Nat) : Int) := by simp
  rw [hp1] at hw
  have key : Rdr R (P + 1) (w.setCell ⟨R, 1, none⟩ (.int .i64 ((p + 1 : Nat) : Int))) := by
    refine ⟨a, c, bs, p + 1, by rw [World.cell?_setCell_other _ _ _ _ (by simp)]; exact h1, ?_, h3, h4, h5, World.cell?_setCell_same _ _ _ h6, by omega, by rw [World.frozen?_setCell]; exact h8, by rw [World.frozen?_setCell]; exact h9, by simpa using h10⟩
    intro k hk
    obtain ⟨b, off, rfl, hlt, hc⟩ := h2 k hk
    have := h5 _ rfl (by omega)
    refine ⟨b, off, rfl, by simpa using hlt, ?_⟩
    rw [World.cell?_setCell_other _ _ _ _ (fun e => (by simp at this; omega : b ≠ R) (by simpa using (congrArg Addr.block e).symm))]; exact hc
  obtain ⟨k, rfl⟩ := hw
  exact ⟨x, hv, hy1, key.drewN k, ((Dr.refl _ R _).setCell _ (.inr (by rfl)) _).drewN k⟩

/-- The sign bit alone decides whether a result is below zero. -/
theorem xor_nat (X Y : Nat) (hX : X < 9223372036854775808) (hY : Y < 9223372036854775808) : bits .xor .i64 (X : Int) (Y : Int) = ((X ^^^ Y : Nat) : Int) := by
  have hx : X ^^^ Y < 2 ^ 63 := Nat.xor_lt_two_pow (by simpa using hX) (by simpa using hY)
  have h1 : (BitVec.ofInt 64 (X : Int)).toNat = X := by
    rw [BitVec.ofInt_natCast, BitVec.toNat_ofNat]; exact Nat.mod_eq_of_lt (by omega)
  have h2 : (BitVec.ofInt 64 (Y : Int)).toNat = Y := by
    rw [BitVec.ofInt_natCast, BitVec.toNat_ofNat]; exact Nat.mod_eq_of_lt (by omega)
  show IntKind.i64.wrap ((BitVec.ofInt 64 (X : Int) ^^^ BitVec.ofInt 64 (Y : Int)).toNat : Int) = _
  rw [BitVec.toNat_xor, h1, h2]
  exact IntWalk.i64_in _ (by omega)

set_option maxHeartbeats 1000000 in
theorem pick_any (R P : Nat) (n : Int) (w : World) (h : Rdr R P w) (hP : P ≤ 1000000) (h1 : 1 ≤ n) (h2 : n ≤ 1000000) :
    Calls Try.prog 91 #[.pointer (some ⟨R, 0, none⟩), .int .i64 n] w (Picked R P n w) := by
  obtain ⟨a, c, bs, p, hc0, hrd, hwf, hl, hab, hc1, hp, hf0, hf1, hlt⟩ := h
  have hp1 : p ≤ 1000000 := by omega
  have hfin := fun e v w' hv hx hw => pick_fin (R := R) (P := P) (n := n) (w := w) (w' := w') (e := e) (v := v) (a := a) (c := c) (p := p) (bs := bs) hv hx hc0 hrd hwf hl hab hc1 hp hf0 hf1 hlt hw
  have HF := Lib.hid hfin
  clear hfin
  by_cases h0 : bs.length = 0
  · have hb0 : bs = [] := List.length_eq_zero_iff.1 h0
    subst hb0
    clear hrd hwf hab h0 hl
    simp only [List.length_nil] at hc0
    have hlast := Lib.hid (HF.out _ _ (w.setCell ⟨R, 1, none⟩ (.int .i64 ((p : Int) + 1))) rfl ⟨0, rfl, by omega, by omega⟩ ⟨0, rfl⟩)
    clear HF
    go_enter Try.func91, Try.ntmps91
    go_wp2
    go_ret
    exact hlast.out
  · have hz0 : ((bs.length : Int) == 0) = false := by simp [List.length_eq_zero_iff] at h0 ⊢; exact h0
    by_cases hk : p < bs.length
    · obtain ⟨b, off, rfl, hbl, hcell⟩ := hrd p hk
      have hbR := hab _ rfl (by omega)
      simp only at hbR
      have hx := hwf (nth bs p) (by rw [nth_eq bs p hk]; exact List.getElem_mem hk)
      have hm0 := Int.emod_nonneg (nth bs p) (show n ≠ 0 by omega)
      have hm1 := Int.emod_lt_of_pos (nth bs p) (show 0 < n by omega)
      have hlast := Lib.hid (HF.out _ _ (w.setCell ⟨R, 1, none⟩ (.int .i64 ((p : Int) + 1))) rfl ⟨_, rfl, hm0, hm1⟩ ⟨0, rfl⟩)
      clear HF hm0 hm1 hwf hrd
      go_enter Try.func91, Try.ntmps91
      go_wp2
      go_ret
      exact hlast.out
    · have hL : 0 < bs.length := by omega
      obtain ⟨j1, hj1⟩ : ∃ j1, j1 = p % bs.length := ⟨_, rfl⟩
      obtain ⟨j2, hj2⟩ : ∃ j2, j2 = (p * 7 + 3) % bs.length := ⟨_, rfl⟩
      have lj1 : j1 < bs.length := by rw [hj1]; exact Nat.mod_lt _ hL
      have lj2 : j2 < bs.length := by rw [hj2]; exact Nat.mod_lt _ hL
      obtain ⟨b, off, rfl, hbl, hcell⟩ := hrd j1 lj1
      have hcell2 : w.cell? ⟨b, off + j2, none⟩ = some (.int .u8 (nth bs j2)) := by
        obtain ⟨b', off', e, _, h⟩ := hrd j2 lj2
        cases e; exact h
      have hbR := hab _ rfl (by omega)
      simp only at hbR
      have hx := hwf (nth bs j1) (by rw [nth_eq bs j1 lj1]; exact List.getElem_mem lj1)
      have hx2 := hwf (nth bs j2) (by rw [nth_eq bs j2 lj2]; exact List.getElem_mem lj2)
      have m1 : (p : Int) % (bs.length : Int) = (j1 : Int) := by rw [hj1]; simp
      have m2 : ((p : Int) * 7 + 3) % (bs.length : Int) = (j2 : Int) := by rw [hj2]; simp
      obtain ⟨q, hq⟩ : ∃ q, q = p / bs.length := ⟨_, rfl⟩
      have lq : q ≤ 1000000 := by rw [hq]; exact Nat.le_trans (Nat.div_le_self _ _) hp1
      have m3 : (p : Int) / (bs.length : Int) = (q : Int) := by rw [hq]; simp
      clear hq hj1 hj2 hwf hrd
      go_enter Try.func91, Try.ntmps91
      go_wp2
      go_quiet (fail)
      obtain ⟨X, hX, hXs⟩ : ∃ X : Nat, X < 1000000000 ∧ nth bs j1 * 131 + nth bs j2 * 1117 + (p : Int) * 29 + (q : Int) * 53 = (X : Int) := by
        obtain ⟨x1, e1⟩ := Int.eq_ofNat_of_zero_le hx.1
        obtain ⟨x2, e2⟩ := Int.eq_ofNat_of_zero_le hx2.1
        refine ⟨x1 * 131 + x2 * 1117 + p * 29 + q * 53, by omega, by rw [e1, e2]; simp⟩
      rw [hXs]
      obtain ⟨Z, hZ, hZs⟩ : ∃ Z : Nat, Z < 1073741824 ∧ bits .xor .i64 (X : Int) ((X : Int) / 64) = (Z : Int) := by
        refine ⟨X ^^^ (X / 64), Nat.xor_lt_two_pow (n := 30) (by omega) (by omega), ?_⟩
        rw [show ((X : Int) / 64) = ((X / 64 : Nat) : Int) by omega]
        exact xor_nat _ _ (by omega) (by omega)
      clear hXs m1 m2 m3
      have hz0 : (0 : Int) ≤ Z := by omega
      have hm0 := Lib.hid (Int.emod_nonneg (Z : Int) (show n ≠ 0 by omega))
      have hm1 := Lib.hid (Int.emod_lt_of_pos (Z : Int) (show 0 < n by omega))
      go_wp2
      go_ret
      exact HF.out _ _ _ rfl ⟨_, rfl, hm0.out, hm1.out⟩ ⟨_, rfl⟩

/-- One number out of a list. -/
def Numbered (R P : Nat) (xs : List Int) (w : World) (e : Ending) (w' : World) : Prop := ∃ y : Int, y ∈ xs ∧ e = .returned (.int .i64 y) ∧ Rdr R (P + 1) w' ∧ Dr w.heap.size R w w'

theorem reads_lit (w : World) (xs : List Int) (t : TypeId) : Reads (w.alloc (.cells (xs.map (Value.int .i64)).toArray t)) (some ⟨w.heap.size, 0, none⟩) xs := by
  intro k hk
  refine ⟨w.heap.size, 0, rfl, by simp, ?_⟩
  rw [World.cell?_alloc_at _ _ _ _ (by simp)]
  simp [nth, List.getD, hk]

theorem num_any (R P : Nat) (a : Option Addr) (c : Nat) (xs : List Int) (n : Nat) (hn : xs.length = n) (w : World) (h : Rdr R P w) (hP : P ≤ 1000000) (hx : Reads w a xs) (ha : Apart R a) (h1 : 1 ≤ xs.length) (h2 : xs.length ≤ 1000) :
    Calls Try.prog 92 #[.pointer (some ⟨R, 0, none⟩), .slice a n c] w (Numbered R P xs w) := by
  subst hn
  go_enter Try.func92, Try.ntmps92
  go_wp2_with fail
  refine (pick_any R P (xs.length : Int) w h hP (by omega) (by omega)).mono ?_
  rintro e w' ⟨k, rfl, hk, hR, hD⟩
  have hk' : k < xs.length := by omega
  obtain ⟨b, off, rfl, hb, hc⟩ := (hx.dr hD ha) k hk'
  have hm : nth xs k ∈ xs := by rw [nth_eq xs k hk']; exact List.getElem_mem hk'
  have HF := Lib.hid (show Numbered R P xs w (.returned (.int .i64 (nth xs k))) w' from ⟨_, hm, rfl, hR, hD⟩)
  clear hR hD hx ha hm h hk
  go_wp2
  go_ret
  exact HF.out

theorem Rdr.made (w : World) (a : Option Addr) (c : Nat) (bs : List Int) (t : TypeId) (hx : ReadsK .u8 w a bs) (hb : ∀ n ∈ bs, 0 ≤ n ∧ n ≤ 255) (hl : bs.length ≤ 2000) : Rdr w.heap.size 0 (w.alloc (.cells #[.slice a bs.length c, .int .i64 0] t)) := by
  refine ⟨a, c, bs, 0, newCell0 _ _ _ _, hx.below (belowAlloc _ _), hb, hl, ?_, newCell1 _ _ _ _, Nat.le_refl _, newFroz _ _ _ _, newFroz _ _ _ _, by simp⟩
  intro x hxa hlen
  obtain ⟨b, off, h, hlt, _⟩ := hx 0 hlen
  rw [hxa] at h; cases h; exact hlt

theorem ReadsK.take {q : IntKind} {w : World} {a : Option Addr} {xs : List Int} (h : ReadsK q w a xs) (n : Nat) : ReadsK q w a (xs.take n) := by
  intro k hk
  have hk2 : k < xs.length := by simp at hk; omega
  have hkn : k < n := by simp at hk; omega
  obtain ⟨b, off, e, hlt, hc⟩ := h k hk2
  refine ⟨b, off, e, hlt, ?_⟩
  rw [hc, nth_eq _ _ hk, nth_eq _ _ hk2, List.getElem_take]

theorem l14Open_any (a : Option Addr) (c : Nat) (bs : List Int) (w : World) (hx : ReadsK .u8 w a bs) (hwf : ∀ n ∈ bs, (Lit.int .u8 n).wf = true) (hl : bs.length ≤ maxLen) (hc : bs.length ≤ c) :
    Calls Try.prog 75 #[.slice a bs.length c] w fun e w' => e = .returned (.pointer (some ⟨w.heap.size, 0, none⟩)) ∧ Rdr w.heap.size 0 w' ∧ Below w.heap.size w w' := by
  unfold maxLen at hl
  have hb : ∀ n ∈ bs, 0 ≤ n ∧ n ≤ 255 := fun n hn => by
    have := hwf n hn
    simp [Lit.wf, IntKind.min, IntKind.max, IntKind.signed, IntKind.bits] at this
    omega
  clear hwf
  by_cases h2 : 2000 < bs.length
  · go_enter Try.func75, Try.ntmps75
    go_wp2
    go_ret
    have h := Rdr.made w a c (bs.take 2000) 106 (hx.take 2000) (fun n hn => hb n (List.mem_of_mem_take hn)) (by simp; omega)
    rw [show (bs.take 2000).length = 2000 by simp; omega] at h
    exact ⟨rfl, h, belowAlloc _ _⟩
  · go_enter Try.func75, Try.ntmps75
    go_wp2
    go_ret
    exact ⟨rfl, Rdr.made w a c bs _ hx hb (by omega), belowAlloc _ _⟩

end Go.Proofs.Ytjmfjgoehicgcaa

/- Sizes and sets: the small tests of both packages. -/
set_option linter.unusedVariables false
set_option linter.unusedSimpArgs false
namespace Go.Proofs.Ytjmfjgoehicgcaa
open Go.RowKit

def inB (n low high : Int) : Bool := decide (low ≤ n ∧ n ≤ high)

theorem l1In_any (n low high : Int) (w : World) :
    Calls Try.prog 93 #[.int .i64 n, .int .i64 low, .int .i64 high] w fun e w' => e = .returned (.bool (inB n low high)) ∧ w = w' := by
  by_cases h1 : low ≤ n <;> by_cases h2 : n ≤ high
  all_goals
    go_enter Try.func93, Try.ntmps93
    go_wp2
    go_ret
    exact ⟨ret_bool (by simp [inB, h1, h2]), rfl⟩

theorem mem_nth (xs : List Int) (k : Nat) (h : k < xs.length) : nth xs k ∈ xs := by rw [nth_eq xs k h]; exact List.getElem_mem h

/-- All numbers lie in a range. -/
def allB (low high : Int) (xs : List Int) : Bool := xs.all fun x => inB x low high

theorem allB_snoc (low high : Int) (xs : List Int) (x : Int) : allB low high (xs ++ [x]) = (allB low high xs && inB x low high) := by simp [allB]

theorem allB_false (low high : Int) (xs : List Int) (k : Nat) (hk : k < xs.length) (h : inB (nth xs k) low high = false) : allB low high xs = false := by
  rw [Bool.eq_false_iff]
  intro hh
  rw [allB, List.all_eq_true] at hh
  have := hh _ (List.getElem_mem hk)
  rw [nth_eq xs k hk] at h
  rw [h] at this
  cases this

theorem allB_nth {low high : Int} {xs : List Int} (h : allB low high xs = true) (k : Nat) (hk : k < xs.length) : low ≤ nth xs k ∧ nth xs k ≤ high := by
  have := List.all_eq_true.1 h _ (mem_nth xs k hk)
  simpa [inB] using this

theorem allB_take {low high : Int} {xs : List Int} (h : allB low high xs = true) (k : Nat) : allB low high (xs.take k) = true := by
  unfold allB at *
  rw [List.all_eq_true] at *
  exact fun x hx => h x (List.mem_of_mem_take hx)

theorem allB_wider {low high low' high' : Int} {xs : List Int} (h : allB low high xs = true) (h1 : low' ≤ low) (h2 : high ≤ high') : allB low' high' xs = true := by
  unfold allB at *
  rw [List.all_eq_true] at *
  intro x hx
  have := h x hx
  simp [inB] at *
  omega

def szB (n : Int) : Bool := inB n 1 4

theorem SizeValid_any (n : Int) (w : World) :
    Calls Try.prog 101 #[.int .i64 n] w fun e w' => e = .returned (.bool (szB n)) ∧ w = w' := by
  go_enter Try.func101, Try.ntmps101
  go_wp2_with (go_at_call 93; refine (l1In_any _ _ _ _).mono ?_; rintro e w' ⟨rfl, rfl⟩)
  go_ret
  exact ⟨rfl, rfl⟩

theorem isSize_any (n : Int) (w : World) :
    Calls Try.prog 70 #[.int .i64 n] w fun e w' => e = .returned (.bool (szB n)) ∧ w = w' := by
  by_cases h1 : 1 ≤ n <;> by_cases h2 : n ≤ 4
  all_goals
    go_enter Try.func70, Try.ntmps70
    go_wp2
    go_ret
    exact ⟨ret_bool (by simp [szB, inB, h1, h2]), rfl⟩

end Go.Proofs.Ytjmfjgoehicgcaa

/- Greatest common divisors: what both packages' loops compute. -/
set_option linter.unusedVariables false
set_option linter.unusedSimpArgs false
namespace Go.Proofs.Ytjmfjgoehicgcaa
open Go.RowKit

/-- The greatest number that divides all numbers of a list. -/
def gcdL (xs : List Int) : Nat := xs.foldl (fun d x => Nat.gcd d x.natAbs) 0

theorem gcdL_snoc (xs : List Int) (x : Int) : gcdL (xs ++ [x]) = Nat.gcd (gcdL xs) x.natAbs := by simp [gcdL]

theorem abs_if (a : Int) : (if a < -a then -a else a) = (a.natAbs : Int) := by split <;> omega

theorem gcd_step (p q : Nat) (h : 0 < q) : Nat.gcd q (p % q) = Nat.gcd p q := by
  rw [Nat.gcd_comm p q, Nat.gcd_comm q (p % q), ← Nat.gcd_rec]

theorem gcdL_le (xs : List Int) (h : allB (-4611686018427387904) 4611686018427387904 xs = true) : gcdL xs ≤ 4611686018427387904 := by
  suffices H : ∀ (l : List Int) (d : Nat), d ≤ 4611686018427387904 → (∀ x ∈ l, x.natAbs ≤ 4611686018427387904) → l.foldl (fun d x => Nat.gcd d x.natAbs) d ≤ 4611686018427387904 by
    refine H xs 0 (by omega) fun x hx => ?_
    have := List.all_eq_true.1 h x hx
    simp [inB] at this
    omega
  intro l
  induction l with
  | nil => intro d hd _; exact hd
  | cons x l ih =>
    intro d hd hl
    simp only [List.foldl_cons]
    refine ih _ ?_ (fun y hy => hl y (by simp [hy]))
    rcases Nat.eq_zero_or_pos d with rfl | hd0
    · rw [Nat.gcd_zero_left]; exact hl x (by simp)
    · exact Nat.le_trans (Nat.gcd_le_left _ hd0) hd

theorem l2Divisor_any (a b : Int) (w : World) (ha : -4611686018427387904 ≤ a) (ha' : a ≤ 4611686018427387904) (hb : -4611686018427387904 ≤ b) (hb' : b ≤ 4611686018427387904) :
    Calls Try.prog 129 #[.int .i64 a, .int .i64 b] w fun e w' => e = .returned (.int .i64 (Nat.gcd a.natAbs b.natAbs : Nat)) ∧ w = w' := by
  go_enter Try.func129, Try.ntmps129
  go_wp2
  all_goals
    go_loop [0, 1] (fun x y => ∃ p q : Nat, x = .int .i64 p ∧ y = .int .i64 q ∧ Nat.gcd p q = Nat.gcd a.natAbs b.natAbs ∧ p ≤ 4611686018427387904 ∧ q ≤ 4611686018427387904) (fun _ y => (intOf y).toNat)
    case atStart => exact ⟨a.natAbs, b.natAbs, congrArg (Value.int .i64) (by omega), congrArg (Value.int .i64) (by omega), rfl, by omega, by omega⟩
    case round =>
      obtain ⟨p, q, rfl, rfl, hg, hp, hq⟩ := hrel
      have HG := Lib.hid hg
      clear hg
      by_cases hq0 : 0 < q
      · have hm : (p : Int) % (q : Int) = ((p % q : Nat) : Int) := by simp
        have hlt := Nat.mod_lt p hq0
        go_wp2
        exact ⟨⟨q, p % q, rfl, congrArg (Value.int .i64) hm, by rw [gcd_step p q hq0]; exact HG.out, hq, by omega⟩, by simp [intOf]; omega⟩
      · have h0 : q = 0 := by omega
        subst h0
        have hfin := Lib.hid HG.out
        rw [Nat.gcd_zero_right] at hfin
        clear HG
        go_wp2
        go_ret
        exact ⟨ret_int (by rw [hfin.out]), rfl⟩

theorem l3Lowest_any (a : Option Addr) (c : Nat) (xs : List Int) (w : World) (hx : Reads w a xs) (hxm : xs.length ≤ 1048576) (hr : allB (-4611686018427387904) 4611686018427387904 xs = true) :
    Calls Try.prog 103 #[.slice a xs.length c] w fun e w' => e = .returned (.int .i64 (gcdL xs)) ∧ w = w' := by
  have HR := Lib.hid hr
  clear hr
  go_enter Try.func103, Try.ntmps103
  go_wp2
  go_loop [3, 4] (fun d i => ∃ k : Nat, k ≤ xs.length ∧ i = .int .i64 k ∧ d = .int .i64 (gcdL (xs.take k))) (fun _ i => xs.length - (intOf i).toNat)
  case atStart => exact ⟨0, Nat.zero_le _, rfl, rfl⟩
  case round =>
    obtain ⟨k, hk, rfl, rfl⟩ := hrel
    by_cases hlt : k < xs.length
    · obtain ⟨b, off, rfl, hbl, hc⟩ := hx k hlt
      have hs := Lib.hid (take_succ_getD xs k hlt)
      have hn := allB_nth HR.out k hlt
      obtain ⟨hn1, hn2⟩ := hn
      have hg := gcdL_le _ (allB_take HR.out k)
      clear hx
      go_wp2_with fail
      refine (l2Divisor_any _ _ _ (by omega) (by omega) hn1 hn2).mono ?_
      rintro e w' ⟨rfl, rfl⟩
      go_wp2_with fail
      exact ⟨⟨k + 1, by omega, by go_num, by rw [hs.out, gcdL_snoc]⟩, by simp [intOf]; omega⟩
    · have h1 : k = xs.length := by omega
      subst h1
      clear hx
      go_wp2
      go_ret
      exact ⟨rfl, rfl⟩

theorem divisorOf_any (a : Option Addr) (c : Nat) (xs : List Int) (w : World) (hx : Reads w a xs) (hxm : xs.length ≤ 1048576) (hr : allB (-4611686018427387904) 4611686018427387904 xs = true) :
    Calls Try.prog 99 #[.slice a xs.length c] w fun e w' => e = .returned (.int .i64 (gcdL xs)) ∧ ∃ n, w' = w.drewN n := by
  have HR := Lib.hid hr
  clear hr
  go_enter Try.func99, Try.ntmps99
  go_wp2
  go_loopw [3, 8] (fun d i wr => ∃ (k : Nat) (p : Int), k ≤ xs.length ∧ i = .int .i64 k ∧ d = .int .i64 p ∧ p.natAbs = gcdL (xs.take k) ∧ -4611686018427387904 ≤ p ∧ p ≤ 4611686018427387904 ∧ ∃ n, wr = w.drewN n) (fun _ i _ => xs.length - (intOf i).toNat)
  case atStart => exact ⟨0, 0, Nat.zero_le _, rfl, rfl, rfl, by omega, by omega, 0, rfl⟩
  case round =>
    obtain ⟨k, p, hk, rfl, rfl, hp, hp1, hp2, n, rfl⟩ := hrel
    have HP := Lib.hid hp
    clear hp
    by_cases hlt : k < xs.length
    · obtain ⟨b, off, rfl, hbl, hc⟩ := hx k hlt
      have hs := Lib.hid (take_succ_getD xs k hlt)
      have hn := allB_nth HR.out k hlt
      obtain ⟨hn1, hn2⟩ := hn
      clear hx
      go_wp2
      go_loopw [3, 5] (fun d i wr => ∃ (p q : Int), d = .int .i64 p ∧ i = .int .i64 q ∧ Nat.gcd p.natAbs q.natAbs = gcdL (xs.take (k + 1)) ∧ -4611686018427387904 ≤ p ∧ p ≤ 4611686018427387904 ∧ -4611686018427387904 ≤ q ∧ q ≤ 4611686018427387904 ∧ ∃ n, wr = w.drewN n) (fun _ i _ => (intOf i).natAbs)
      case atStart => exact ⟨p, nth xs k, rfl, rfl, by rw [hs.out, gcdL_snoc, HP.out], hp1, hp2, hn1, hn2, n, rfl⟩
      case round =>
        clear hc hn1 hn2 hp1 hp2 HP
        obtain ⟨p, q, rfl, rfl, hg, hp1, hp2, hq1, hq2, n, rfl⟩ := hrel
        have HG := Lib.hid hg
        clear hg
        by_cases hq0 : q = 0
        · subst hq0
          have hfin := Lib.hid HG.out
          rw [show (0 : Int).natAbs = 0 from rfl, Nat.gcd_zero_right] at hfin
          clear HG
          go_wp2
          exact ⟨⟨k + 1, p, by omega, by go_num, rfl, hfin.out, hp1, hp2, n, rfl⟩, by simp [intOf]; omega⟩
        · have hq3 : (q != 0) = true := bne_iff_ne.2 hq0
          have hta := Int.natAbs_tmod p q
          have hpos : 0 < q.natAbs := by omega
          have hlt2 := Nat.mod_lt p.natAbs hpos
          have hb1 : -4611686018427387904 ≤ p.tmod q ∧ p.tmod q ≤ 4611686018427387904 := by omega
          have hgs : Nat.gcd q.natAbs (p.tmod q).natAbs = gcdL (xs.take (k + 1)) := by rw [hta, gcd_step _ _ hpos]; exact HG.out
          have hlt3 : (p.tmod q).natAbs < q.natAbs := by omega
          have HF := Lib.hid (And.intro hb1 (And.intro hgs hlt3))
          have hq4 : ¬ q = 0 := hq0
          clear hq0 hb1 hgs hta hlt2 hlt3 hpos HG
          go_wp2
          go_quiet (fail)
          go_wp2
          exact ⟨⟨q, p.tmod q, rfl, rfl, HF.out.2.1, hq1, hq2, HF.out.1.1, HF.out.1.2, _, World.drewN_drewN _ _ _⟩, HF.out.2.2⟩
    · have h1 : k = xs.length := by omega
      subst h1
      have hfin := Lib.hid HP.out
      rw [List.take_length] at hfin
      clear HP hx
      by_cases hp0 : p < -p
      all_goals
        go_wp2
        go_ret
        exact ⟨ret_int (by rw [← hfin.out]; omega), n, rfl⟩

end Go.Proofs.Ytjmfjgoehicgcaa
