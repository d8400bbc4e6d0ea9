/- Plain words on memory that all our walks share: what a slice of ints reads as, what a call owns. -/
import Derived.Test.YtjmfjgoehicgcaaProg
import Derived.WalkKit
import Derived.WalkLawsBesides
import Derived.WalkSpells
import Derived.WalkSmall
import Derived.LoopTactic
import Derived.Below
import Derived.BigQuiet
import Derived.Lib.Hide
import Derived.Deep.RegionHeld3
import Derived.StillTailTactics
set_option linter.unusedVariables false
set_option linter.unusedSimpArgs false
namespace Go.Proofs.Ytjmfjgoehicgcaa
open Go.RowKit

/-- An element of a list, 0 beyond its end; a plain definition, so that the walk leaves it alone. -/
def nth (xs : List Int) (k : Nat) : Int := xs.getD k 0

theorem nth_eq (xs : List Int) (k : Nat) (h : k < xs.length) : nth xs k = xs[k] := by simp [nth, List.getD, h]

/-- The slice of numbers of kind q that begins at a reads as xs in w. -/
def ReadsK (q : IntKind) (w : World) (a : Option Addr) (xs : List Int) : Prop :=
  ∀ k, k < xs.length → ∃ b off, a = some ⟨b, off, none⟩ ∧ b < w.heap.size ∧ w.cell? ⟨b, off + k, none⟩ = some (.int q (nth xs k))
abbrev Reads (w : World) (a : Option Addr) (xs : List Int) : Prop := ReadsK .i64 w a xs

theorem ReadsK.below {q : IntKind} {w w' : World} {a : Option Addr} {xs : List Int} (h : ReadsK q w a xs) (hb : Below w.heap.size w w') : ReadsK q w' a xs := by
  intro k hk
  obtain ⟨b, off, rfl, hlt, hc⟩ := h k hk
  exact ⟨b, off, rfl, Nat.lt_of_lt_of_le hlt hb.size, by rw [hb.cell (p := ⟨b, off + k, none⟩) hlt]; exact hc⟩

theorem ReadsK.nil (q : IntKind) (w : World) (a : Option Addr) : ReadsK q w a [] := fun k hk => by simp at hk

/-- What the call owns from block B on: a slice of ints. -/
def Own (B : Nat) (w : World) (v : Value) (xs : List Int) : Prop :=
  w.ownsRow B 3 1 v xs.length (xs.map (Value.int .i64))

theorem Own.mono {B B' : Nat} {w : World} {v : Value} {xs : List Int} (h : Own B w v xs) (hB : B' ≤ B) : Own B' w v xs := by
  refine ⟨h.1, ?_⟩
  rcases h.2 with h | ⟨g, cap, cur, a, b, r⟩
  · exact .inl h
  · exact .inr ⟨g, cap, cur, a, Nat.le_trans hB b, r⟩

theorem Own.setBelow {B : Nat} {w : World} {v : Value} {xs : List Int} (h : Own B w v xs) {a : Addr} (ha : a.block < B) (u : Value) : Own B (w.setCell a u) v xs :=
  ownsRow_setCell_below h ha u

theorem Own.later {B : Nat} {w w' : World} {v : Value} {xs : List Int} (h : Own B w v xs) (hb : Below w.heap.size w w') : Own B w' v xs := by
  refine ⟨h.1, ?_⟩
  rcases h.2 with h | ⟨g, cap, cur, a, b, hg, r⟩
  · exact .inl h
  · exact .inr ⟨g, cap, cur, a, b, by rw [hb.block g (Array.getElem?_eq_some_iff.1 hg).1]; exact hg, r⟩

theorem Own.shape {B : Nat} {w : World} {v : Value} {xs : List Int} (h : Own B w v xs) : ∃ a c, v = .slice a xs.length c ∧ Reads w a xs := by
  unfold Own at h
  have h0 := h
  rcases h.2 with ⟨rfl, hn⟩ | ⟨g, cap, cur, rfl, hb, hg, hnc, hcm, hcs, ht⟩
  · refine ⟨none, 0, by rw [hn], ?_⟩
    intro k hk; omega
  · refine ⟨some ⟨g, 0, none⟩, cap, rfl, ?_⟩
    intro k hk
    refine ⟨g, 0, rfl, (Array.getElem?_eq_some_iff.1 hg).1, ?_⟩
    rw [Nat.zero_add, World.ownsRow.cellAt h0 k (by omega)]
    simp [nth, List.getD, hk]

theorem bcell {W w1 : World} (hb : Below W.heap.size W w1) : (∀ b o, b < W.heap.size → w1.cell? ⟨b, o, none⟩ = W.cell? ⟨b, o, none⟩) ∧ (∀ b o, b < W.heap.size → w1.frozen? ⟨b, o, none⟩ = W.frozen? ⟨b, o, none⟩) :=
  ⟨fun b o h => hb.cell (p := ⟨b, o, none⟩) h, fun b o h => hb.frozen (p := ⟨b, o, none⟩) h⟩

/-- A world behind W in which nothing below block B has changed. -/
def LaterW (B : Nat) (W : World) : Type := { w' : World // Below B W w' }
instance LaterW.inst {B : Nat} {W : World} : Nonempty (LaterW B W) := ⟨⟨W, Below.refl _ _⟩⟩
def LaterW.w {B : Nat} {W : World} (x : LaterW B W) : World := x.1
theorem LaterW.below {B : Nat} {W : World} (x : LaterW B W) : Below B W x.w := x.2
theorem LaterW.cell {B : Nat} {W : World} {b o : Nat} {v : Value} (hb : b < B) (h : W.cell? ⟨b, o, none⟩ = some v) (x : LaterW B W) : x.w.cell? ⟨b, o, none⟩ = some v :=
  (x.below.cell (p := ⟨b, o, none⟩) hb).trans h
theorem LaterW.reads {q : IntKind} {W : World} {a : Option Addr} {xs : List Int} (x : LaterW W.heap.size W) (h : ReadsK q W a xs) : ReadsK q x.w a xs := h.below x.below

theorem LaterW.call {P : Program} {f : FuncId} {args : Array Value} {v : Value} {W : World} {x : LaterW W.heap.size W}
    (h : Calls P f args x.w fun e w' => e = .returned v ∧ Below x.w.heap.size x.w w') : Calls P f args x.w fun e w'' => e = .returned v ∧ ∃ y : LaterW W.heap.size W, w'' = y.w :=
  h.mono fun _ w' ⟨he, hb⟩ => ⟨he, ⟨w', x.below.trans (hb.mono x.below.size)⟩, rfl⟩

theorem LaterW.callSame {P : Program} {f : FuncId} {args : Array Value} {v : Value} {W : World} {x : LaterW W.heap.size W}
    (h : Calls P f args x.w fun e w' => e = .returned v ∧ x.w = w') : Calls P f args x.w fun e w'' => e = .returned v ∧ ∃ y : LaterW W.heap.size W, w'' = y.w :=
  h.mono fun _ w' ⟨he, hb⟩ => ⟨he, x, hb.symm⟩

/-- A region that draws its order, whose operations read and whose calls make memory of their own: one walk in the text's order. -/
theorem wp_region_later {P : Program} {id : Nat} {Q : Exit → Act → World → Prop} {a : Act} {W : World} {l : List Oper} (hm : P.follows .mixedOrders = true) (hB : Region.lexB .any l.toArray = true)
    (h : wpQuiet P l.toArray (fun w' => ∃ x : LaterW W.heap.size W, w' = x.w) (fun a' => ∀ w', (∃ x : LaterW W.heap.size W, w' = x.w) → Q .normal a' w') l a) : (Code.region id l.toArray true).wp P Q a W :=
  wp_region_quiet (C := fun w' => ∃ x : LaterW W.heap.size W, w' = x.w) hm hB ⟨⟨_, (Below.refl _ _).drew⟩, rfl⟩ (by simpa using h)

theorem Own.reads {B n c : Nat} {w : World} {a : Option Addr} {xs : List Int} (h : Own B w (.slice a n c) xs) : Reads w a xs := by
  obtain ⟨a', c', e, hr⟩ := h.shape
  cases e
  exact hr

theorem sameBelow {B : Nat} {w w' : World} (h : w = w') : Below B w w' := by subst h; exact Below.refl _ _

theorem cellKeep {W W' : World} {b o : Nat} {v : Value} (hb : Below W.heap.size W W') (h : W.cell? ⟨b, o, none⟩ = some v) : W'.cell? ⟨b, o, none⟩ = some v :=
  (hb.cell (p := ⟨b, o, none⟩) (World.block_lt_of_cell? W _ h)).trans h

theorem belowAlloc (w : World) (o : Obj) : Below w.heap.size w (w.alloc o) := (Below.refl _ _).alloc (Nat.le_refl _) o
theorem _root_.Go.RowKit.Below.thenB {w a b : World} (h : Below w.heap.size w a) (k : Below a.heap.size a b) : Below w.heap.size w b := h.trans (k.mono h.size)

theorem newCell0 (w : World) (x y : Value) (t : TypeId) : (w.alloc (.cells #[x, y] t)).cell? ⟨w.heap.size, 0, none⟩ = some x := by
  rw [World.cell?_alloc_at _ _ _ _ (by simp)]; rfl
theorem newCell1 (w : World) (x y : Value) (t : TypeId) : (w.alloc (.cells #[x, y] t)).cell? ⟨w.heap.size, 1, none⟩ = some y := by
  rw [World.cell?_alloc_at _ _ _ _ (by simp)]; rfl

theorem undrew {w w' : World} (h : Below w.drew.heap.size w.drew w') : Below w.heap.size w w' := ((Below.refl _ w).drew).trans h
theorem newCell (w : World) (x : Value) (t : TypeId) : (w.alloc (.cells #[x] t)).cell? ⟨w.heap.size, 0, none⟩ = some x := by
  rw [World.cell?_alloc_at _ _ _ _ (by simp)]; rfl
theorem frozKeep {W W' : World} {b o : Nat} (hb : Below W.heap.size W W') (hlt : b < W.heap.size) (h : W.frozen? ⟨b, o, none⟩ = false) : W'.frozen? ⟨b, o, none⟩ = false :=
  (hb.frozen (p := ⟨b, o, none⟩) hlt).trans h
theorem newFroz (w : World) (cs : Array Value) (t : TypeId) (o : Nat) : (w.alloc (.cells cs t)).frozen? ⟨w.heap.size, o, none⟩ = false := World.frozen?_alloc_at _ _ _ _ (by simp)

/-- A block of two cells that has just been laid, behind a later call. -/
theorem twoKept {w w' : World} {x y : Value} {t : TypeId} (hb : Below (w.alloc (.cells #[x, y] t)).heap.size (w.alloc (.cells #[x, y] t)) w') :
    w'.cell? ⟨w.heap.size, 0, none⟩ = some x ∧ w'.cell? ⟨w.heap.size, 1, none⟩ = some y ∧ w'.frozen? ⟨w.heap.size, 0, none⟩ = false ∧ w'.frozen? ⟨w.heap.size, 1, none⟩ = false ∧ w.heap.size < w'.heap.size ∧ Below w.heap.size w w' := by
  have hs := hb.size
  exact ⟨cellKeep hb (newCell0 _ _ _ _), cellKeep hb (newCell1 _ _ _ _), frozKeep hb (by simp) (newFroz _ _ _ _), frozKeep hb (by simp) (newFroz _ _ _ _), by simp at hs; omega, (belowAlloc _ _).thenB hb⟩

/-- A struct variable of two cells at block m: an int and a slice; neither is frozen. -/
structure VarInv (wr : World) (m : Nat) (s : Int) (v : Value) : Prop where
  c0 : wr.cell? ⟨m, 0, none⟩ = some (.int .i64 s)
  c1 : wr.cell? ⟨m, 1, none⟩ = some v
  f0 : wr.frozen? ⟨m, 0, none⟩ = false
  f1 : wr.frozen? ⟨m, 1, none⟩ = false

theorem VarInv.lt {wr : World} {m : Nat} {s : Int} {v : Value} (h : VarInv wr m s v) : m < wr.heap.size := World.block_lt_of_cell? wr _ h.c0
theorem VarInv.made (w : World) (s : Int) (v : Value) (t : TypeId) : VarInv (w.alloc (.cells #[.int .i64 s, v] t)) w.heap.size s v :=
  ⟨newCell0 _ _ _ _, newCell1 _ _ _ _, newFroz _ _ _ _, newFroz _ _ _ _⟩
theorem VarInv.keep {B : Nat} {w w' : World} {m : Nat} {s : Int} {v : Value} (h : VarInv w m s v) (hb : Below B w w') (hm : m < B) : VarInv w' m s v :=
  ⟨(hb.cell (p := ⟨m, 0, none⟩) hm).trans h.c0, (hb.cell (p := ⟨m, 1, none⟩) hm).trans h.c1, (hb.frozen (p := ⟨m, 0, none⟩) hm).trans h.f0, (hb.frozen (p := ⟨m, 1, none⟩) hm).trans h.f1⟩
theorem VarInv.later {w w' : World} {m : Nat} {s : Int} {v : Value} (h : VarInv w m s v) (hb : Below w.heap.size w w') : VarInv w' m s v := h.keep hb h.lt
theorem VarInv.drewN {w : World} {m : Nat} {s : Int} {v : Value} (h : VarInv w m s v) (n : Nat) : VarInv (w.drewN n) m s v := ⟨h.c0, h.c1, h.f0, h.f1⟩
theorem Own.drew {B : Nat} {w : World} {v : Value} {xs : List Int} (h : Own B w v xs) : Own B w.drew v xs := h
theorem VarInv.drew {w : World} {m : Nat} {s : Int} {v : Value} (h : VarInv w m s v) : VarInv w.drew m s v := ⟨h.c0, h.c1, h.f0, h.f1⟩
theorem ReadsK.drew {q : IntKind} {w : World} {a : Option Addr} {xs : List Int} (h : ReadsK q w a xs) : ReadsK q w.drew a xs := h
theorem cellDrew {w : World} {a : Addr} {v : Value} (h : w.cell? a = some v) : w.drew.cell? a = some v := h
theorem drewAll {w w' : World} (h : Below w.heap.size w w') : Below w.heap.size w w'.drew := h.drew
theorem cellStore2 {w : World} {m b o : Nat} {v x y : Value} (h : w.cell? ⟨b, o, none⟩ = some v) (hne : m ≠ b) : ((w.setCell ⟨m, 0, none⟩ x).setCell ⟨m, 1, none⟩ y).cell? ⟨b, o, none⟩ = some v := by
  rw [World.cell?_setCell_other _ _ _ _ (fun e => hne (by cases e; rfl)), World.cell?_setCell_other _ _ _ _ (fun e => hne (by cases e; rfl))]; exact h
theorem VarInv.store {w : World} {m : Nat} {s : Int} {v : Value} (h : VarInv w m s v) (u : Value) : VarInv (w.setCell ⟨m, 1, none⟩ u) m s u :=
  ⟨by rw [World.cell?_setCell_other _ _ _ _ (by simp)]; exact h.c0, World.cell?_setCell_same _ _ _ h.c1, by rw [World.frozen?_setCell]; exact h.f0, by rw [World.frozen?_setCell]; exact h.f1⟩
theorem VarInv.other {w : World} {m : Nat} {s : Int} {v : Value} (h : VarInv w m s v) (p : Addr) (hp : p.block ≠ m) (u : Value) : VarInv (w.setCell p u) m s v :=
  ⟨by rw [World.cell?_setCell_other _ _ _ _ (fun e => hp (by rw [e]))]; exact h.c0, by rw [World.cell?_setCell_other _ _ _ _ (fun e => hp (by rw [e]))]; exact h.c1, by rw [World.frozen?_setCell]; exact h.f0, by rw [World.frozen?_setCell]; exact h.f1⟩

theorem ret_int {k : IntKind} {a b : Int} (h : a = b) : Ending.returned (.int k a) = .returned (.int k b) := by rw [h]
theorem ret_bool {a b : Bool} (h : a = b) : Ending.returned (.bool a) = .returned (.bool b) := by rw [h]

theorem take_succ_getD (xs : List Int) (k : Nat) (h : k < xs.length) : xs.take (k + 1) = xs.take k ++ [nth xs k] := by
  rw [List.take_succ_eq_append_getElem h]; simp [nth, List.getD, h]

theorem Try.info3 : (Try.prog.info? 3).map (fun i => (i.zero, i.size, i.bytes)) = some (some (.int .i64 0), 1, 8) := by kernel_rfl

theorem Own.nil (B : Nat) (w : World) : Own B w (.slice none 0 0) [] := World.ownsRow_nil w B 3 1

theorem Own.made (w : World) (B : Nat) (hB : B ≤ w.heap.size) : Own B (w.alloc (.cells #[] 3)) (.slice (some ⟨w.heap.size, 0, none⟩) 0 0) [] :=
  World.ownsRow_made w #[] 0 hB (Nat.zero_le _) rfl

/-- 'append(out, y)' on a slice of ints that the call owns. -/
theorem wpList_append1 {ops : Array Oper} {rest : List Oper} {o : Oper} {a : Act} {Q : Exit → Act → World → Prop} (w : World) (hgd : o.guard = none) (s x : Operand)
    (ho : o.op = .call { callee := .builtin .append, args := #[s, x], argTypes := #[22, 22] }) (B : Nat) (v : Value) (xs : List Int) (hs : a.eval s = v) (hown : Own B w v xs)
    (ad : Addr) (c : Nat) (y : Int) (hx : a.eval x = .slice (some ad) 1 c) (hc : w.cell? ad = some (.int .i64 y)) (hlen : xs.length ≤ 1048576) (hB : B ≤ w.heap.size)
    (h : ∀ v' w', Own B w' v' (xs ++ [y]) → Below B w w' → wpList Try.prog ops Q rest (a.put o.dst v') w') : wpList Try.prog ops Q (o :: rest) a w := by
  obtain ⟨i0, hi, hz0, hz1, hz2⟩ := info_parts Try.info3
  refine wpList_append_own w hgd s x 22 ho B 3 i0 (.int .i64 0) 1 8 Try.underlying22 hi hz0 hz1 hz2 rfl (by decide) v xs.length _ hs hown ad 1 c [.int .i64 y] hx rfl ?_ (by simp [Value.oneCell']) (by unfold maxLen; omega) (by omega) hB ?_
  · intro j u hj
    cases j with
    | zero => simp at hj; subst hj; rw [show ad.add 0 = ad by simp [Addr.add]]; exact hc
    | succ j => simp at hj
  · intro v' w' h1 h2 _
    refine h v' w' ?_ ((Below.refl _ _).grown h2 hB (fun k hk => (World.ownsRow.lt hown k hk).1))
    unfold Own; simpa using h1

/-- The same as a step of a region that draws its order. -/
theorem step_append1 {ops : Array Oper} {o : Oper} {a : Act} {K : Act → World → Prop} {Q : Exit → Act → World → Prop} {E : Prop} (w : World) (hgd : o.guard = none) (s x : Operand)
    (ho : o.op = .call { callee := .builtin .append, args := #[s, x], argTypes := #[22, 22] }) (B : Nat) (v : Value) (xs : List Int) (hs : a.eval s = v) (hown : Own B w v xs)
    (ad : Addr) (c : Nat) (y : Int) (hx : a.eval x = .slice (some ad) 1 c) (hc : w.cell? ad = some (.int .i64 y)) (hlen : xs.length ≤ 1048576) (hB : B ≤ w.heap.size)
    (h : ∀ v' w', Own B w' v' (xs ++ [y]) → Below B w w' → K (a.put o.dst v') w') : if Region.wanted o (yielded ops a.tmps) = true then Oper.wp Try.prog o a w K Q else E := by
  obtain ⟨i0, hi, hz0, hz1, hz2⟩ := info_parts Try.info3
  rw [if_pos (by simp [Region.wanted, hgd])]
  refine wp_append_own w s x 22 ho B 3 i0 (.int .i64 0) 1 8 Try.underlying22 hi hz0 hz1 hz2 rfl (by decide) v xs.length _ hs hown ad 1 c [.int .i64 y] hx rfl ?_ (by simp [Value.oneCell']) (by unfold maxLen; omega) (by omega) hB ?_
  · intro j u hj
    cases j with
    | zero => simp at hj; subst hj; rw [show ad.add 0 = ad by simp [Addr.add]]; exact hc
    | succ j => simp at hj
  · intro v' w' h1 h2 _
    refine h v' w' ?_ ((Below.refl _ _).grown h2 hB (fun k hk => (World.ownsRow.lt hown k hk).1))
    unfold Own; simpa using h1

theorem _root_.Go.World.grownBy.trans2 {a b c : World} {row : Option Nat} (h : a.grownBy b row) (k : b.grownBy c row) : a.grownBy c row :=
  ⟨k.os.trans h.os, k.tape.trans h.tape, k.output.trans h.output, Nat.le_trans h.size k.size, fun i hi hne => (k.block i (Nat.lt_of_lt_of_le hi h.size) hne).trans (h.block i hi hne)⟩

theorem Own.blockLt {B : Nat} {w : World} {v : Value} {xs : List Int} (h : Own B w v xs) : ∀ k, v.ownBlock = some k → B ≤ k ∧ k < w.heap.size := World.ownsRow.lt h

theorem Own.grown {B : Nat} {w w' : World} {v u : Value} {xs : List Int} (h : Own B w v xs) (hg : w.grownBy w' u.ownBlock) (hne : ∀ k, u.ownBlock = some k → v.ownBlock ≠ some k) : Own B w' v xs :=
  World.ownsRow.kept h hg (by
    cases hu : u.ownBlock with
    | none => cases hv : v.ownBlock <;> simp
    | some k => exact .inr (hne k hu))

theorem below_of_grown {B : Nat} {w w' : World} {u : Value} {ys : List Int} (ho : Own B w u ys) (hg : w.grownBy w' u.ownBlock) (hB : B ≤ w.heap.size) : Below B w w' :=
  (Below.refl _ _).grown hg hB (fun k hk => (ho.blockLt k hk).1)

end Go.Proofs.Ytjmfjgoehicgcaa
