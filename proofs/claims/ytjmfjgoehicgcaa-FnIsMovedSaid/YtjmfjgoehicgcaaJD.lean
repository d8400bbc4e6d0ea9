/- A flow is begun: the reference. -/
import Derived.Test.YtjmfjgoehicgcaaMgJB
import Derived.Deep.AppendLies
set_option linter.unusedVariables false
set_option linter.unusedSimpArgs false
namespace Go.Proofs.Ytjmfjgoehicgcaa
open Go.RowKit

def mulL (ys : List Int) (M : Int) (k : Nat) : List Int := (List.range k).map fun a => nth ys a * M
theorem mulL_len (ys : List Int) (M : Int) (k : Nat) : (mulL ys M k).length = k := by simp [mulL]
theorem mulL_succ (ys : List Int) (M : Int) (k : Nat) : mulL ys M (k + 1) = mulL ys M k ++ [nth ys k * M] := by simp [mulL, List.range_succ]
theorem mulL_nth (ys : List Int) (M : Int) (k j : Nat) (hj : j < k) : nth (mulL ys M k) j = nth ys j * M := by
  rw [nth_eq _ _ (by rw [mulL_len]; exact hj)]; simp [mulL]

theorem Own.kept {B : Nat} {w w' : World} {v : Value} {xs : List Int} {row : Option Nat} (h : Own B w v xs) (hg : w.grownBy w' row) (hne : v.ownBlock = none ∨ v.ownBlock ≠ row) : Own B w' v xs := World.ownsRow.kept h hg hne

/-- One number is appended, as a step of a region that draws its order: where the slice lies then. -/
theorem step_append_i {ops : Array Oper} {o : Oper} {a : Act} {K : Act → World → Prop} {Q : Exit → Act → World → Prop} {E : Prop} (w : World) (hgd : o.guard = none) (s x : Operand)
    (ho : o.op = .call { callee := .builtin .append, args := #[s, x], argTypes := #[22, 22] }) (B : Nat) (v : Value) (xs : List Int) (hs : a.eval s = v) (hown : Own B w v xs)
    (ad : Addr) (c : Nat) (y : Int) (hx : a.eval x = .slice (some ad) 1 c) (hc : w.cell? ad = some (.int .i64 y)) (hlen : xs.length ≤ 1048576) (hB : B ≤ w.heap.size)
    (h : ∀ g cap w', Own B w' (.slice (some ⟨g, 0, none⟩) (xs.length + 1) cap) (xs ++ [y]) → w.grownBy w' v.ownBlock → (v.ownBlock = some g ∨ g = w.heap.size) → g < w'.heap.size → K (a.put o.dst (.slice (some ⟨g, 0, none⟩) (xs.length + 1) cap)) w') :
    if Region.wanted o (yielded ops a.tmps) = true then Oper.wp Try.prog o a w K Q else E := by
  obtain ⟨i0, hi, hz0, hz1, hz2⟩ := info_parts Try.info3
  refine step_append_lies w hgd s x 22 ho B 3 i0 (.int .i64 0) 1 8 Try.underlying22 hi hz0 hz1 hz2 rfl (by decide) v xs.length _ hs hown ad 1 c [.int .i64 y] hx rfl ?_ (by simp [Value.oneCell']) (by decide) (by unfold maxLen; omega) (by omega) hB _ rfl ?_
  · intro j u hj
    cases j with
    | zero => simp at hj; subst hj; rw [show ad.add 0 = ad by simp [Addr.add]]; exact hc
    | succ j => simp at hj
  · intro g cap w' h1 h2 h3 h4
    exact h g cap w' (by unfold Own; simpa using h1) h2 h3 h4

theorem farCell {w w' : World} {row : Option Nat} (hg : w.grownBy w' row) {b o : Nat} {v : Value} (h : w.cell? ⟨b, o, none⟩ = some v) (hne : row ≠ some b) : w'.cell? ⟨b, o, none⟩ = some v :=
  (World.grownBy.cell_far hg ⟨b, o, none⟩ (World.block_lt_of_cell? w _ h) (fun e => hne e.symm)).trans h
theorem farFroz {w w' : World} {row : Option Nat} (hg : w.grownBy w' row) {b o : Nat} (hb : b < w.heap.size) (h : w.frozen? ⟨b, o, none⟩ = false) (hne : row ≠ some b) : w'.frozen? ⟨b, o, none⟩ = false :=
  (World.grownBy.frozen_far hg ⟨b, o, none⟩ hb (fun e => hne e.symm)).trans h
theorem Bx.far {w w' : World} {row : Option Nat} {b : Nat} {v0 v1 v2 v3 : Value} (h : Bx w b v0 v1 v2 v3) (hg : w.grownBy w' row) (hne : row ≠ some b) : Bx w' b v0 v1 v2 v3 := ⟨farCell hg h.c0 hne, farCell hg h.c1 hne, farCell hg h.c2 hne, farCell hg h.c3 hne⟩
theorem VarInv.far {w w' : World} {row : Option Nat} {m : Nat} {s : Int} {v : Value} (h : VarInv w m s v) (hg : w.grownBy w' row) (hne : row ≠ some m) : VarInv w' m s v :=
  ⟨farCell hg h.c0 hne, farCell hg h.c1 hne, farFroz hg h.lt h.f0 hne, farFroz hg h.lt h.f1 hne⟩
theorem belowRow {B : Nat} {w w' : World} {row : Option Nat} (hg : w.grownBy w' row) (hB : B ≤ w.heap.size) (hr : ∀ g, row = some g → B ≤ g) : Below B w w' := (Below.refl _ _).grown hg hB hr

theorem ownSet {B : Nat} {w : World} {v : Value} {xs : List Int} (h : Own B w v xs) (a : Addr) (hne : v.ownBlock ≠ some a.block) (u : Value) : Own B (w.setCell a u) v xs := by
  refine ⟨h.1, ?_⟩
  rcases h.2 with hn | ⟨g, cap, cur, e, hb, hg, rest⟩
  · exact .inl hn
  · subst e
    exact .inr ⟨g, cap, cur, rfl, hb, by rw [Below.heap_setCell w a u g (fun e2 => hne (by rw [← e2]; rfl))]; exact hg, rest⟩

/-- The memory while a flow is begun. -/
structure NW (s t : Int) (p q : Option Addr) (xn yn c d N nn P G : Nat) (w wr : World) (vL vD : Value) (lL lD : List Int) : Prop where
  bm : VarInv wr w.heap.size s (.slice p xn c)
  bn : VarInv wr (w.heap.size + 1) t (.slice q yn d)
  rx : Bx wr (w.heap.size + 2) (.int .i64 0) (.slice none 0 0) (.slice none 0 0) (.slice none 0 0)
  rf : ∀ o, wr.frozen? ⟨w.heap.size + 2, o, none⟩ = false
  fx : Bx wr P (.int .i64 (N : Int)) (.slice (some ⟨G, 0, none⟩) nn nn) vL vD
  ff : ∀ o, wr.frozen? ⟨P, o, none⟩ = false
  og : Own (w.heap.size + 3) wr (.slice (some ⟨G, 0, none⟩) nn nn) (zeros nn)
  ol : Own (w.heap.size + 3) wr vL lL
  od : Own (w.heap.size + 3) wr vD lD
  pB : w.heap.size + 3 ≤ P
  gP : G ≠ P
  lP : vL.ownBlock ≠ some P
  dP : vD.ownBlock ≠ some P
  lG : vL.ownBlock ≠ some G
  dG : vD.ownBlock ≠ some G
  ld : ∀ g, vL.ownBlock = some g → vD.ownBlock ≠ some g
  bl : Below w.heap.size w wr

section
variable {s t : Int} {p q : Option Addr} {xn yn c d N nn P G : Nat} {w wr : World} {vL vD : Value} {lL lD : List Int}
theorem NW.later {wr' : World} (h : NW s t p q xn yn c d N nn P G w wr vL vD lL lD) (hb : Below wr.heap.size wr wr') : NW s t p q xn yn c d N nn P G w wr' vL vD lL lD :=
  ⟨h.bm.later hb, h.bn.later hb, h.rx.later hb, fun o => frozKeep hb h.rx.lt (h.rf o), h.fx.later hb, fun o => frozKeep hb h.fx.lt (h.ff o), h.og.later hb, h.ol.later hb, h.od.later hb, h.pB, h.gP, h.lP, h.dP, h.lG, h.dG, h.ld, h.bl.thenB hb⟩

theorem NW.fresh (h : NW s t p q xn yn c d N nn P G w wr vL vD lL lD) : w.heap.size + 2 < wr.heap.size ∧ P < wr.heap.size ∧ G < wr.heap.size ∧ w.heap.size + 3 ≤ G ∧ (∀ g, vL.ownBlock = some g → w.heap.size + 3 ≤ g ∧ g < wr.heap.size) ∧ (∀ g, vD.ownBlock = some g → w.heap.size + 3 ≤ g ∧ g < wr.heap.size) :=
  ⟨h.rx.lt, h.fx.lt, (h.og.blockLt G rfl).2, (h.og.blockLt G rfl).1, h.ol.blockLt, h.od.blockLt⟩

theorem NW.offL (h : NW s t p q xn yn c d N nn P G w wr vL vD lL lD) : vL.ownBlock ≠ some w.heap.size ∧ vL.ownBlock ≠ some (w.heap.size + 1) ∧ vL.ownBlock ≠ some (w.heap.size + 2) := by
  refine ⟨fun e => ?_, fun e => ?_, fun e => ?_⟩ <;> (have := (h.ol.blockLt _ e).1; omega)
theorem NW.offD (h : NW s t p q xn yn c d N nn P G w wr vL vD lL lD) : vD.ownBlock ≠ some w.heap.size ∧ vD.ownBlock ≠ some (w.heap.size + 1) ∧ vD.ownBlock ≠ some (w.heap.size + 2) := by
  refine ⟨fun e => ?_, fun e => ?_, fun e => ?_⟩ <;> (have := (h.od.blockLt _ e).1; omega)

theorem NW.putL {w4 : World} {g n cap : Nat} {lL' : List Int} (h : NW s t p q xn yn c d N nn P G w wr vL vD lL lD) (hg : wr.grownBy w4 vL.ownBlock) (ho : Own (w.heap.size + 3) w4 (.slice (some ⟨g, 0, none⟩) n cap) lL') (hl : vL.ownBlock = some g ∨ g = wr.heap.size) :
    NW s t p q xn yn c d N nn P G w (w4.setCell ⟨P, 2, none⟩ (.slice (some ⟨g, 0, none⟩) n cap)) (.slice (some ⟨g, 0, none⟩) n cap) vD lL' lD := by
  obtain ⟨f1, f2, f3, f4, f5, f6⟩ := h.fresh
  obtain ⟨o1, o2, o3⟩ := h.offL
  have pB := h.pB
  have gB := (ho.blockLt g rfl).1
  have gP : g ≠ P := fun e => by rcases hl with hl | hl
                                 · exact h.lP (by rw [hl, e])
                                 · omega
  have gG : g ≠ G := fun e => by rcases hl with hl | hl
                                 · exact h.lG (by rw [hl, e])
                                 · omega
  have gD : vD.ownBlock ≠ some g := fun e => by rcases hl with hl | hl
                                                · exact h.ld g hl e
                                                · have := (f6 g e).2; omega
  have vd : vD.ownBlock = none ∨ vD.ownBlock ≠ vL.ownBlock := by
    cases e : vD.ownBlock with
    | none => exact .inl rfl
    | some z => exact .inr (fun e2 => h.ld z e2.symm e)
  have fx := h.fx.far hg h.lP
  have ne : ∀ b o : Nat, b ≠ P → (⟨P, 2, none⟩ : Addr) ≠ ⟨b, o, none⟩ := fun b o hb e => hb (by injection e with e1; exact e1.symm)
  have ne2 : ∀ o : Nat, o ≠ 2 → (⟨P, 2, none⟩ : Addr) ≠ ⟨P, o, none⟩ := fun o hb e => hb (by injection e with _ e1; exact e1.symm)
  refine ⟨(h.bm.far hg o1).other _ (by show P ≠ _; omega) _, (h.bn.far hg o2).other _ (by show P ≠ _; omega) _, ?_, fun o => by rw [World.frozen?_setCell]; exact farFroz hg f1 (h.rf o) o3, ⟨cellOff fx.c0 (ne2 _ (by decide)), cellOff fx.c1 (ne2 _ (by decide)), World.cell?_setCell_same _ _ _ fx.c2, cellOff fx.c3 (ne2 _ (by decide))⟩,
    fun o => by rw [World.frozen?_setCell]; exact farFroz hg f2 (h.ff o) h.lP, ?_, ?_, ?_, pB, h.gP, fun e => gP (by injection e), h.dP, fun e => gG (by injection e), h.dG, fun z e => by injection e with e; rw [← e]; exact gD, ?_⟩
  · have r := h.rx.far hg o3
    exact ⟨cellOff r.c0 (ne _ _ (by omega)), cellOff r.c1 (ne _ _ (by omega)), cellOff r.c2 (ne _ _ (by omega)), cellOff r.c3 (ne _ _ (by omega))⟩
  · exact (h.og.kept hg (.inr (fun e => h.lG e.symm))).setOther ⟨P, 2, none⟩ (fun e => h.gP e.symm) _
  · exact ho.setOther ⟨P, 2, none⟩ (fun e => gP e.symm) _
  · exact ownSet (h.od.kept hg vd) ⟨P, 2, none⟩ h.dP _
  · exact (h.bl.trans (belowRow hg (by omega) fun z e => by have := (f5 z e).1; omega)).setCell (p := ⟨P, 2, none⟩) (by show _ ≤ P; omega) _

theorem NW.putD {w4 : World} {g n cap : Nat} {lD' : List Int} (h : NW s t p q xn yn c d N nn P G w wr vL vD lL lD) (hg : wr.grownBy w4 vD.ownBlock) (ho : Own (w.heap.size + 3) w4 (.slice (some ⟨g, 0, none⟩) n cap) lD') (hl : vD.ownBlock = some g ∨ g = wr.heap.size) :
    NW s t p q xn yn c d N nn P G w (w4.setCell ⟨P, 3, none⟩ (.slice (some ⟨g, 0, none⟩) n cap)) vL (.slice (some ⟨g, 0, none⟩) n cap) lL lD' := by
  obtain ⟨f1, f2, f3, f4, f5, f6⟩ := h.fresh
  obtain ⟨o1, o2, o3⟩ := h.offD
  have pB := h.pB
  have gB := (ho.blockLt g rfl).1
  have gP : g ≠ P := fun e => by rcases hl with hl | hl
                                 · exact h.dP (by rw [hl, e])
                                 · omega
  have gG : g ≠ G := fun e => by rcases hl with hl | hl
                                 · exact h.dG (by rw [hl, e])
                                 · omega
  have gD : ∀ z, vL.ownBlock = some z → (some g : Option Nat) ≠ some z := fun z e e2 => by
    injection e2 with e2
    rcases hl with hl | hl
    · exact h.ld z e (by rw [hl, e2])
    · have := (f5 z e).2; omega
  have vd : vL.ownBlock = none ∨ vL.ownBlock ≠ vD.ownBlock := by
    cases e : vL.ownBlock with
    | none => exact .inl rfl
    | some z => exact .inr (fun e2 => h.ld z e e2.symm)
  have fx := h.fx.far hg h.dP
  have ne : ∀ b o : Nat, b ≠ P → (⟨P, 3, none⟩ : Addr) ≠ ⟨b, o, none⟩ := fun b o hb e => hb (by injection e with e1; exact e1.symm)
  have ne2 : ∀ o : Nat, o ≠ 3 → (⟨P, 3, none⟩ : Addr) ≠ ⟨P, o, none⟩ := fun o hb e => hb (by injection e with _ e1; exact e1.symm)
  refine ⟨(h.bm.far hg o1).other _ (by show P ≠ _; omega) _, (h.bn.far hg o2).other _ (by show P ≠ _; omega) _, ?_, fun o => by rw [World.frozen?_setCell]; exact farFroz hg f1 (h.rf o) o3, ⟨cellOff fx.c0 (ne2 _ (by decide)), cellOff fx.c1 (ne2 _ (by decide)), cellOff fx.c2 (ne2 _ (by decide)), World.cell?_setCell_same _ _ _ fx.c3⟩,
    fun o => by rw [World.frozen?_setCell]; exact farFroz hg f2 (h.ff o) h.dP, ?_, ?_, ?_, pB, h.gP, h.lP, fun e => gP (by injection e), h.lG, fun e => gG (by injection e), gD, ?_⟩
  · have r := h.rx.far hg o3
    exact ⟨cellOff r.c0 (ne _ _ (by omega)), cellOff r.c1 (ne _ _ (by omega)), cellOff r.c2 (ne _ _ (by omega)), cellOff r.c3 (ne _ _ (by omega))⟩
  · exact (h.og.kept hg (.inr (fun e => h.dG e.symm))).setOther ⟨P, 3, none⟩ (fun e => h.gP e.symm) _
  · exact ownSet (h.ol.kept hg vd) ⟨P, 3, none⟩ h.lP _
  · exact ho.setOther ⟨P, 3, none⟩ (fun e => gP e.symm) _
  · exact (h.bl.trans (belowRow hg (by omega) fun z e => by have := (f6 z e).1; omega)).setCell (p := ⟨P, 3, none⟩) (by show _ ≤ P; omega) _
end

/-- What 'l8New' gives. -/
def NewPost (N nn : Nat) (lL lD : List Int) (w : World) (e : Ending) (w' : World) : Prop :=
  ∃ (fb lb db cl cd : Nat), e = .returned (.agg #[.int .i64 (N : Int), .slice (some ⟨fb, 0, none⟩) nn nn, .slice (some ⟨lb, 0, none⟩) N cl, .slice (some ⟨db, 0, none⟩) N cd]) ∧ FM w.heap.size w' N nn fb lb db nn cl cd (zeros nn) lL lD ∧ Below w.heap.size w w'

/-- Ways that come to one state. -/
theorem shareW2 {R : Nat → Nat → World → Prop} {Q : Nat → Nat → World → Prop} {Z : Prop} (h : (∀ a b w, Hid (R a b w) → Q a b w) → Z) (k : ∀ a b w, Hid (R a b w) → Q a b w) : Z := h k

/-- What the call holds when its flow has been made. -/
theorem NW.start {s t : Int} {p q : Option Addr} {xn yn c d N nn P G : Nat} {w W X : World} (hbW : Below w.heap.size w W) (hsz : W.heap.size = w.heap.size + 3) (bm : VarInv W w.heap.size s (.slice p xn c)) (bn : VarInv W (w.heap.size + 1) t (.slice q yn d))
    (rx : Bx W (w.heap.size + 2) (.int .i64 0) (.slice none 0 0) (.slice none 0 0) (.slice none 0 0)) (rf : ∀ o, W.frozen? ⟨w.heap.size + 2, o, none⟩ = false)
    (hX : Below W.heap.size W X) (fx : Bx X P (.int .i64 (N : Int)) (.slice (some ⟨G, 0, none⟩) nn nn) (.slice none 0 0) (.slice none 0 0)) (ff : ∀ o, X.frozen? ⟨P, o, none⟩ = false) (og : Own W.heap.size X (.slice (some ⟨G, 0, none⟩) nn nn) (zeros nn)) (pB : W.heap.size ≤ P) (gP : G ≠ P) :
    NW s t p q xn yn c d N nn P G w X (.slice none 0 0) (.slice none 0 0) [] [] :=
  ⟨bm.later hX, bn.later hX, rx.later hX, fun o => frozKeep hX rx.lt (rf o), fx, ff, og.mono (by omega), Own.nil _ _, Own.nil _ _, by omega, gP, (fun e => by cases e), (fun e => by cases e), (fun e => by cases e), (fun e => by cases e), (fun g e => by cases e), hbW.thenB hX⟩

set_option maxHeartbeats 4000000 in
set_option maxRecDepth 100000 in
theorem l8New_any (N : Nat) (s t : Int) (p q : Option Addr) (c d : Nat) (xs ys : List Int) (w : World) (hx : Reads w p xs) (hy : Reads w q ys) (h1 : 1 ≤ N) (h16 : N ≤ 16) (hxl : xs.length = N) (hyl : ys.length = N) (hax : allB 0 1000000 xs = true) (hay : allB 0 1000000 ys = true) (hsx : 0 ≤ sumL xs ∧ sumL xs ≤ 1000000) (hsy : 0 ≤ sumL ys ∧ sumL ys ≤ 1000000) :
    Calls Try.prog 57 #[.agg #[.int .i64 s, .slice p N c], .agg #[.int .i64 t, .slice q N d]] w (NewPost N (N * N) (mulL ys (sumL xs) N) (mulL xs (sumL ys) N) w) := by
  obtain ⟨nn, hnn⟩ : ∃ nn, nn = N * N := ⟨_, rfl⟩
  have hnn2 : nn ≤ 256 := by rw [hnn]; exact Nat.mul_le_mul h16 h16
  have hwr : wrap64 ((N : Int) * (N : Int)) = (nn : Int) := wrapM (by rw [hnn, Int.natCast_mul]) (by omega)
  have hwr2 : IntKind.i64.wrap ((N : Int) * (N : Int)) = (nn : Int) := wrapI (by rw [hnn, Int.natCast_mul]) (by omega)
  have HW1 := Lib.hid (fun (w : World) (h : Reads w p xs) => l3Whole_any s p c xs w h (by omega) hax)
  have HW2 := Lib.hid (fun (w : World) (h : Reads w q ys) => l3Whole_any t q d ys w h (by omega) hay)
  rw [hxl] at HW1
  rw [hyl] at HW2
  obtain ⟨mf, hmf⟩ := makeFn nn (by omega)
  have hrun := fun w => (hmf w).1
  have HMF := Lib.hid hmf
  have HX := Lib.hid hx
  have HY := Lib.hid hy
  have HAX := Lib.hid hax
  have HAY := Lib.hid hay
  have HXL := Lib.hid hxl
  have HYL := Lib.hid hyl
  obtain ⟨X, hX⟩ : ∃ X, X = sumL xs := ⟨_, rfl⟩
  obtain ⟨Y, hY⟩ : ∃ Y, Y = sumL ys := ⟨_, rfl⟩
  rw [← hX] at HW1 hsx ⊢
  rw [← hY] at HW2 hsy ⊢
  rw [← hnn]
  have HNN := Lib.hid hnn
  clear hmf hx hy hax hay hxl hyl hX hY hnn
  go_enter Try.func57, Try.ntmps57
  go_wp2_with fail
  obtain ⟨W, hW⟩ : ∃ W : World, W = ((w.alloc (.cells #[.int .i64 s, .slice p N c] 27)).alloc (.cells #[.int .i64 t, .slice q N d] 27)).alloc (.cells #[.int .i64 0, .slice none 0 0, .slice none 0 0, .slice none 0 0] 64) := ⟨_, rfl⟩
  rw [← hW]
  have hbW : Below w.heap.size w W := by rw [hW]; exact ((belowAlloc w _).thenB (belowAlloc _ _)).thenB (belowAlloc _ _)
  have hszW : W.heap.size = w.heap.size + 3 := by rw [hW]; simp
  have bm : VarInv W w.heap.size s (.slice p N c) := by rw [hW]; exact ((VarInv.made _ _ _ _).later (belowAlloc _ _)).later (belowAlloc _ _)
  have bn : VarInv W (w.heap.size + 1) t (.slice q N d) := by
    have e := (VarInv.made (w.alloc (.cells #[.int .i64 s, .slice p N c] 27)) t (.slice q N d) 27).later (belowAlloc _ (.cells #[.int .i64 0, .slice none 0 0, .slice none 0 0, .slice none 0 0] 64))
    rw [allocSz] at e
    rw [hW]; exact e
  have rx : Bx W (w.heap.size + 2) (.int .i64 0) (.slice none 0 0) (.slice none 0 0) (.slice none 0 0) := by
    have e := Bx.made ((w.alloc (.cells #[.int .i64 s, .slice p N c] 27)).alloc (.cells #[.int .i64 t, .slice q N d] 27)) (.int .i64 0) (.slice none 0 0) (.slice none 0 0) (.slice none 0 0) 64
    rw [allocSz, allocSz] at e
    rw [hW]; exact e
  have rf : ∀ o, W.frozen? ⟨w.heap.size + 2, o, none⟩ = false := by
    have e := newFroz ((w.alloc (.cells #[.int .i64 s, .slice p N c] 27)).alloc (.cells #[.int .i64 t, .slice q N d] 27)) #[.int .i64 0, .slice none 0 0, .slice none 0 0, .slice none 0 0] 64
    rw [allocSz, allocSz] at e
    rw [hW]; exact e
  have c0 := bm.c0
  have c1 := bm.c1
  have HST := Lib.hid (fun (X : World) (P G : Nat) => NW.start (X := X) (P := P) (G := G) (N := N) (nn := nn) hbW hszW bm bn rx rf)
  obtain ⟨-, -, hbA, hlA⟩ := HMF.out W.drew
  replace hbA := undrew hbA
  replace hlA : W.heap.size < (mf W.drew).heap.size := hlA
  have cA := cellKeep hbA c1
  have cA0 := cellKeep hbA c0
  obtain ⟨-, -, hbB, hlB⟩ := HMF.out (W.alloc (.cells #[.int .i64 0, .slice none 0 0, .slice none 0 0, .slice none 0 0] 64)).drew
  replace hbB := undrew hbB
  have cB := cellKeep ((belowAlloc W (.cells #[.int .i64 0, .slice none 0 0, .slice none 0 0, .slice none 0 0] 64)).thenB hbB) c1
  have pB := (Bx.made W (.int .i64 0) (.slice none 0 0) (.slice none 0 0) (.slice none 0 0) 64).later hbB
  have pB0 := pB.c0
  have pB1 := pB.c1
  have pB2 := pB.c2
  have pB3 := pB.c3
  have pF : ∀ o, (mf (W.alloc (.cells #[.int .i64 0, .slice none 0 0, .slice none 0 0, .slice none 0 0] 64)).drew).frozen? ⟨W.heap.size, o, none⟩ = false := fun o => frozKeep hbB (by simp) (newFroz W _ _ o)
  have pF0 := pF 0
  have pF1 := pF 1
  have pF2 := pF 2
  have pF3 := pF 3
  have oA := (HMF.out W.drew).2.1 W.heap.size (Nat.le_refl _)
  have hlB2 : W.heap.size < (mf (W.alloc (.cells #[.int .i64 0, .slice none 0 0, .slice none 0 0, .slice none 0 0] 64)).drew).heap.size := by have e : (W.alloc (.cells #[.int .i64 0, .slice none 0 0, .slice none 0 0, .slice none 0 0] 64)).heap.size < _ := hlB; simp at e; omega
  have oB := (HMF.out (W.alloc (.cells #[.int .i64 0, .slice none 0 0, .slice none 0 0, .slice none 0 0] 64)).drew).2.1 W.heap.size (by show W.heap.size ≤ (W.alloc (.cells #[.int .i64 0, .slice none 0 0, .slice none 0 0, .slice none 0 0] 64)).heap.size; simp)
  have hlB := hlB2
  have HBB := Lib.hid (And.intro ((belowAlloc W (.cells #[.int .i64 0, .slice none 0 0, .slice none 0 0, .slice none 0 0] 64)).thenB hbB) (And.intro pB (And.intro pF oB)))
  have HAA := Lib.hid (And.intro hbA oA)
  have hlt0 : w.heap.size < W.heap.size := by omega
  have hlt2 : w.heap.size < (mf W.drew).heap.size := by omega
  have hlt3 : w.heap.size < (mf (W.alloc (.cells #[.int .i64 0, .slice none 0 0, .slice none 0 0, .slice none 0 0] 64)).drew).heap.size := by omega
  have HSZ := Lib.hid hszW
  clear hszW
  clear hbW hW bm bn rx rf hbA hbB pB pF oA oB hlB2
  apply shareW2 (R := fun G P wB => NW s t p q N N c d N nn P G w wB (.slice none 0 0) (.slice none 0 0) [] [])
  · intro key
    go_region
    · have HQ : Hid (NW s t p q N N c d N nn (mf W.drew).heap.size W.heap.size w ((mf W.drew).alloc (.cells #[.int .i64 (N : Int), .slice (some ⟨W.heap.size, 0, none⟩) nn nn, .slice none 0 0, .slice none 0 0] 64)) (.slice none 0 0) (.slice none 0 0) [] []) := Lib.hid (by
        obtain ⟨q1, q2⟩ := HAA.out
        exact HST.out _ _ _ (q1.thenB (belowAlloc _ _)) (Bx.made _ _ _ _ _ _) (newFroz _ _ _) (q2.later (belowAlloc _ _)) (by omega) (by omega))
      revert HQ
      generalize (mf W.drew).alloc (.cells #[.int .i64 (N : Int), .slice (some ⟨W.heap.size, 0, none⟩) nn nn, .slice none 0 0, .slice none 0 0] 64) = wB
      generalize (mf W.drew).heap.size = P
      generalize W.heap.size = G
      intro HQ
      exact key G P wB HQ
    · refine key _ _ _ (Lib.hid ?_)
      obtain ⟨q1, q2, q3, q4⟩ := HBB.out
      have q5 := q4
      rw [show (W.alloc (.cells #[.int .i64 0, .slice none 0 0, .slice none 0 0, .slice none 0 0] 64)).drew.heap.size = W.heap.size + 1 from allocSz _ _] at q5
      exact HST.out _ _ _ (((((q1.setCell (Nat.le_refl _) _).setCell (Nat.le_refl _) _).setCell (Nat.le_refl _) _).setCell (Nat.le_refl _) _)) q2.put4 (fun o => by simp only [World.frozen?_setCell]; exact q3 o)
        ((((q5.setOther ⟨W.heap.size, 0, none⟩ (by show W.heap.size ≠ _; omega) _).setOther ⟨W.heap.size, 1, none⟩ (by show W.heap.size ≠ _; omega) _).setOther ⟨W.heap.size, 2, none⟩ (by show W.heap.size ≠ _; omega) _).setOther ⟨W.heap.size, 3, none⟩ (by show W.heap.size ≠ _; omega) _) (Nat.le_refl _) (by omega)
  intro G P wB HNW
  clear HBB HAA HST HMF hrun cA cA0 cB pB0 pB1 pB2 pB3 pF0 pF1 pF2 pF3 hlt0 hlt2 hlt3 hlA hlB c0 c1
  clear hlB
  clear mf
  go_wp2_with fail
  go_loopw [6] (fun i wr => ∃ (k : Nat) (vL vD : Value), k ≤ N ∧ i = .int .i64 k ∧ NW s t p q N N c d N nn P G w wr vL vD (mulL ys X k) (mulL xs Y k)) (fun i _ => N - (intOf i).toNat)
  case atStart => exact ⟨0, _, _, Nat.zero_le _, rfl, HNW.out⟩
  case round =>
    clear HNW HSZ
    obtain ⟨k, vL, vD, hk, rfl, h⟩ := hrel
    by_cases hkN : k < N
    · have hkz : (k : Int) < (N : Int) := by omega
      have xm1 := h.bm.c1
      go_wp2_with fail
      clear xm1
      have HS := Lib.hid h
      obtain ⟨bb, oo, hqe, hblt, cy0⟩ := HY.out k (by rw [HYL.out]; exact hkN)
      obtain ⟨V1, hV⟩ : ∃ V, V = nth ys k := ⟨_, rfl⟩
      have HQE := Lib.hid (And.intro hqe (And.intro hblt (And.intro cy0 hV)))
      clear h hqe hblt cy0 hV
      apply shareW (R := fun g cap _ w' => NW s t p q N N c d N nn P G w w' (.slice (some ⟨g, 0, none⟩) ((mulL ys X k).length + 1) cap) vD (mulL ys X (k + 1)) (mulL xs Y k))
      · intro key
        have hh := HS.out
        obtain ⟨hqe, hblt, cy0, hV⟩ := HQE.out
        have m0 := hh.bm.c0
        have m1 := hh.bm.c1
        have n1 := hh.bn.c1
        have c2 := hh.fx.c2
        have f2 := hh.ff 2
        have hPlt := hh.fx.lt
        obtain ⟨hz3, _, _, _, _, _⟩ := hh.fresh
        have hxr := HX.out.below hh.bl
        have cy := (hh.bl.cell (p := ⟨bb, oo + k, none⟩) hblt).trans cy0
        have hv := allB_nth HAY.out k (by rw [HYL.out]; exact hkN)
        rw [← hV] at cy hv
        have HLV : Hid (mulL ys X (k + 1) = mulL ys X k ++ [V1 * X]) := Lib.hid (by rw [mulL_succ, hV])
        rw [hqe] at n1
        have hmu : 0 ≤ V1 * X ∧ V1 * X ≤ 1000000 * 1000000 := ⟨Int.mul_nonneg (by omega) (by omega), Int.mul_le_mul (by omega) (by omega) (by omega) (by omega)⟩
        have hwm : IntKind.i64.wrap (V1 * X) = V1 * X := IntWalk.i64_in _ (by omega)
        have hwm2 : wrap64 (V1 * X) = V1 * X := IntWalk.wrap64_in _ ⟨by omega, by omega⟩
        have hof : Hid (∀ z, z < w.heap.size + 3 → (vL).ownBlock ≠ some z) := Lib.hid (fun z hz e => by have := (hh.ol.blockLt z e).1; omega)
        have hofP : Hid ((vL).ownBlock ≠ some P) := Lib.hid hh.lP
        have hbx : Hid (bb < w.heap.size) := Lib.hid hblt
        clear hV hqe hmu cy0 hblt
        go_region_law
          (first
            | (refine step_append_i _ (by rfl) _ _ (by rfl) (w.heap.size + 3) _ _ (by rfl) ((hh.later (belowAlloc _ _)).ol) ⟨w3.heap.size, 0, none⟩ 1 (V1 * X) (by rfl) (newCell _ _ _) (by rw [mulL_len]; omega) (by simp; omega) ?_; intro g cap w4 ow hg hl hlt; (have bA := belowAlloc w3 (.cells #[.int .i64 (V1 * X)] 3)); (replace hh := hh.later bA); (replace c2 := farCell hg (cellKeep bA c2) hofP.out); (replace f2 := farFroz hg (Nat.lt_of_lt_of_le hPlt bA.size) (frozKeep bA hPlt f2) hofP.out))
            | (go_simp; go_at_call 80; (with_reducible refine (HW1.out _ (ReadsK.drew hxr)).mono ?_); rintro e w3 ⟨rfl, hb3⟩; (replace hb3 := undrew hb3); (replace hh := hh.later hb3); (replace m0 := cellKeep hb3 m0); (replace m1 := cellKeep hb3 m1); (replace n1 := cellKeep hb3 n1); (replace cy := cellKeep hb3 cy); (replace c2 := cellKeep hb3 c2); (replace f2 := frozKeep hb3 hPlt f2); (have hs3 := hb3.size); (replace hPlt := Nat.lt_of_lt_of_le hPlt hs3); (replace hz3 := Nat.lt_of_lt_of_le hz3 hs3); (have hbq : bb < w3.heap.size := by have := hbx.out; omega); clear hb3 hs3))
        all_goals
          have hQ : Hid (NW s t p q N N c d N nn P G w (w4.setCell ⟨P, 2, none⟩ (.slice (some ⟨g, 0, none⟩) ((mulL ys X k).length + 1) cap)) (.slice (some ⟨g, 0, none⟩) ((mulL ys X k).length + 1) cap) vD (mulL ys X (k + 1)) (mulL xs Y k)) := Lib.hid (by rw [HLV.out]; exact hh.putL hg ow hl)
          revert hQ
          generalize w4.setCell ⟨P, 2, none⟩ (.slice (some ⟨g, 0, none⟩) ((mulL ys X k).length + 1) cap) = w5
          generalize w3.heap.size = a3
          intro hQ
          exact key g cap a3 w5 hQ
      intro g cap _ wr1 HQ
      generalize hvv : (Value.slice (some ⟨g, 0, none⟩) ((mulL ys X k).length + 1) cap) = vL1 at HQ
      clear hvv
      have ha := HQ.out
      clear HQ HS HQE
      have xm1 := ha.bm.c1
      go_wp2_with fail
      clear xm1
      have HS := Lib.hid ha
      obtain ⟨bb, oo, hqe, hblt, cy0⟩ := HX.out k (by rw [HXL.out]; exact hkN)
      obtain ⟨V1, hV⟩ : ∃ V, V = nth xs k := ⟨_, rfl⟩
      have HQE := Lib.hid (And.intro hqe (And.intro hblt (And.intro cy0 hV)))
      clear ha hqe hblt cy0 hV
      apply shareW (R := fun g cap _ w' => NW s t p q N N c d N nn P G w w' vL1 (.slice (some ⟨g, 0, none⟩) ((mulL xs Y k).length + 1) cap) (mulL ys X (k + 1)) (mulL xs Y (k + 1)))
      · intro key
        have hh := HS.out
        obtain ⟨hqe, hblt, cy0, hV⟩ := HQE.out
        have m0 := hh.bn.c0
        have m1 := hh.bn.c1
        have n1 := hh.bm.c1
        have c2 := hh.fx.c3
        have f2 := hh.ff 3
        have hPlt := hh.fx.lt
        obtain ⟨hz3, _, _, _, _, _⟩ := hh.fresh
        have hxr := HY.out.below hh.bl
        have cy := (hh.bl.cell (p := ⟨bb, oo + k, none⟩) hblt).trans cy0
        have hv := allB_nth HAX.out k (by rw [HXL.out]; exact hkN)
        rw [← hV] at cy hv
        have HLV : Hid (mulL xs Y (k + 1) = mulL xs Y k ++ [V1 * Y]) := Lib.hid (by rw [mulL_succ, hV])
        rw [hqe] at n1
        have hmu : 0 ≤ V1 * Y ∧ V1 * Y ≤ 1000000 * 1000000 := ⟨Int.mul_nonneg (by omega) (by omega), Int.mul_le_mul (by omega) (by omega) (by omega) (by omega)⟩
        have hwm : IntKind.i64.wrap (V1 * Y) = V1 * Y := IntWalk.i64_in _ (by omega)
        have hwm2 : wrap64 (V1 * Y) = V1 * Y := IntWalk.wrap64_in _ ⟨by omega, by omega⟩
        have hof : Hid (∀ z, z < w.heap.size + 3 → (vD).ownBlock ≠ some z) := Lib.hid (fun z hz e => by have := (hh.od.blockLt z e).1; omega)
        have hofP : Hid ((vD).ownBlock ≠ some P) := Lib.hid hh.dP
        have hbx : Hid (bb < w.heap.size) := Lib.hid hblt
        clear hV hqe hmu cy0 hblt
        go_region_law
          (first
            | (refine step_append_i _ (by rfl) _ _ (by rfl) (w.heap.size + 3) _ _ (by rfl) ((hh.later (belowAlloc _ _)).od) ⟨w3.heap.size, 0, none⟩ 1 (V1 * Y) (by rfl) (newCell _ _ _) (by rw [mulL_len]; omega) (by simp; omega) ?_; intro g cap w4 ow hg hl hlt; (have bA := belowAlloc w3 (.cells #[.int .i64 (V1 * Y)] 3)); (replace hh := hh.later bA); (replace c2 := farCell hg (cellKeep bA c2) hofP.out); (replace f2 := farFroz hg (Nat.lt_of_lt_of_le hPlt bA.size) (frozKeep bA hPlt f2) hofP.out))
            | (go_simp; go_at_call 80; (with_reducible refine (HW2.out _ (ReadsK.drew hxr)).mono ?_); rintro e w3 ⟨rfl, hb3⟩; (replace hb3 := undrew hb3); (replace hh := hh.later hb3); (replace m0 := cellKeep hb3 m0); (replace m1 := cellKeep hb3 m1); (replace n1 := cellKeep hb3 n1); (replace cy := cellKeep hb3 cy); (replace c2 := cellKeep hb3 c2); (replace f2 := frozKeep hb3 hPlt f2); (have hs3 := hb3.size); (replace hPlt := Nat.lt_of_lt_of_le hPlt hs3); (replace hz3 := Nat.lt_of_lt_of_le hz3 hs3); (have hbq : bb < w3.heap.size := by have := hbx.out; omega); clear hb3 hs3))
        all_goals
          have hQ : Hid (NW s t p q N N c d N nn P G w (w4.setCell ⟨P, 3, none⟩ (.slice (some ⟨g, 0, none⟩) ((mulL xs Y k).length + 1) cap)) vL1 (.slice (some ⟨g, 0, none⟩) ((mulL xs Y k).length + 1) cap) (mulL ys X (k + 1)) (mulL xs Y (k + 1))) := Lib.hid (by rw [HLV.out]; exact hh.putD hg ow hl)
          revert hQ
          generalize w4.setCell ⟨P, 3, none⟩ (.slice (some ⟨g, 0, none⟩) ((mulL xs Y k).length + 1) cap) = w5
          generalize w3.heap.size = a3
          intro hQ
          exact key g cap a3 w5 hQ
      intro g cap _ wr2 HQ
      generalize hvv : (Value.slice (some ⟨g, 0, none⟩) ((mulL xs Y k).length + 1) cap) = vD1 at HQ
      clear hvv
      have hb := HQ.out
      clear HQ HS HQE
      have H3 := Lib.hid hb
      clear hb
      go_wp2
      exact ⟨⟨k + 1, _, _, by omega, by go_num, H3.out⟩, by simp [intOf]; omega⟩
    · have hkE : N = k := by omega
      subst hkE
      obtain ⟨gl, kl, e1, -, -⟩ := World.ownsRow.form (show World.ownsRow _ _ _ _ _ _ _ from h.ol) (by rw [mulL_len]; omega)
      obtain ⟨gd, kd, e2, -, -⟩ := World.ownsRow.form (show World.ownsRow _ _ _ _ _ _ _ from h.od) (by rw [mulL_len]; omega)
      rw [mulL_len] at e1 e2
      subst e1 e2
      have m1 := h.bm.c1
      have x0 := h.fx.c0
      have x1 := h.fx.c1
      have x2 := h.fx.c2
      have x3 := h.fx.c3
      have r0 := h.rx.c0
      have r1 := h.rx.c1
      have r2 := h.rx.c2
      have r3 := h.rx.c3
      have f0 := h.rf 0
      have f1 := h.rf 1
      have f2 := h.rf 2
      have f3 := h.rf 3
      have H3 := Lib.hid h
      clear h
      go_wp2
      have hpx : ∀ z, z ≠ w.heap.size + 1 + 1 → ∀ o : Nat, (⟨w.heap.size + 1 + 1, o, none⟩ : Addr).block ≠ z := fun z h o e => h (by rw [← e])
      have zG : G ≠ w.heap.size + 1 + 1 := by have := H3.out.og.blockLt G rfl; omega
      have zL : gl ≠ w.heap.size + 1 + 1 := by have := H3.out.ol.blockLt gl rfl; omega
      have zD : gd ≠ w.heap.size + 1 + 1 := by have := H3.out.od.blockLt gd rfl; omega
      refine bodyPost_ret (v := .agg #[.int .i64 (N : Int), .slice (some ⟨G, 0, none⟩) nn nn, .slice (some ⟨gl, 0, none⟩) N kl, .slice (some ⟨gd, 0, none⟩) N kd]) (by simp [results, Try.results57, go_sem, r0, r1, r2, r3, f0, f1, f2, f3]) rfl ⟨G, gl, gd, kl, kd, rfl, ⟨HNN.out, zeros_len _, mulL_len _ _ _, mulL_len _ _ _, ?_, ?_, ?_, ?_, ?_, ?_⟩, ?_⟩
      · exact ((((H3.out.og.setOther _ (hpx _ zG 0) _).setOther _ (hpx _ zG 1) _).setOther _ (hpx _ zG 2) _).setOther _ (hpx _ zG 3) _).mono (by omega)
      · exact ((((H3.out.ol.setOther _ (hpx _ zL 0) _).setOther _ (hpx _ zL 1) _).setOther _ (hpx _ zL 2) _).setOther _ (hpx _ zL 3) _).mono (by omega)
      · exact ((((H3.out.od.setOther _ (hpx _ zD 0) _).setOther _ (hpx _ zD 1) _).setOther _ (hpx _ zD 2) _).setOther _ (hpx _ zD 3) _).mono (by omega)
      · exact fun e => H3.out.lG (by rw [e]; rfl)
      · exact fun e => H3.out.dG (by rw [e]; rfl)
      · exact fun e => H3.out.ld gl rfl (by rw [e]; rfl)
      · exact (((H3.out.bl.setCell (p := ⟨w.heap.size + 1 + 1, 0, none⟩) (by show _ ≤ w.heap.size + 1 + 1; omega) _).setCell (p := ⟨w.heap.size + 1 + 1, 1, none⟩) (by show _ ≤ w.heap.size + 1 + 1; omega) _).setCell (p := ⟨w.heap.size + 1 + 1, 2, none⟩) (by show _ ≤ w.heap.size + 1 + 1; omega) _).setCell (p := ⟨w.heap.size + 1 + 1, 3, none⟩) (by show _ ≤ w.heap.size + 1 + 1; omega) _

end Go.Proofs.Ytjmfjgoehicgcaa
