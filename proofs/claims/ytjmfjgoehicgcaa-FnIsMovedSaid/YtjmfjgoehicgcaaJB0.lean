/- The reference's push: its second loop, as declarations of its own. -/
import Derived.Test.YtjmfjgoehicgcaaJA
set_option linter.unusedVariables false
set_option linter.unusedSimpArgs false
namespace Go.Proofs.Ytjmfjgoehicgcaa
open Go.RowKit

theorem allocSz (w : World) (o : Obj) : (w.alloc o).heap.size = w.heap.size + 1 := by simp

/-- A reference's flow: three slices of its own. -/
structure FM (B : Nat) (w : World) (N nn fb lb db cf cl cd : Nat) (Fl lf du : List Int) : Prop where
  hn : nn = N * N
  fl : Fl.length = nn
  ll : lf.length = N
  dl : du.length = N
  of : Own B w (.slice (some ⟨fb, 0, none⟩) nn cf) Fl
  ol : Own B w (.slice (some ⟨lb, 0, none⟩) N cl) lf
  od : Own B w (.slice (some ⟨db, 0, none⟩) N cd) du
  n1 : fb ≠ lb
  n2 : fb ≠ db
  n3 : lb ≠ db

/-- All but three blocks is as it was. -/
structure Ex3 (f l d : Nat) (w w' : World) : Prop where
  os : w'.os = w.os
  tape : w'.tape = w.tape
  output : w'.output = w.output
  size : w.heap.size ≤ w'.heap.size
  block : ∀ z, z < w.heap.size → z ≠ f → z ≠ l → z ≠ d → w'.heap[z]? = w.heap[z]?

section
variable {f l d : Nat} {a b c : World}
theorem Ex3.refl (f l d : Nat) (w : World) : Ex3 f l d w w := ⟨rfl, rfl, rfl, Nat.le_refl _, fun _ _ _ _ _ => rfl⟩
theorem Ex3.trans (h : Ex3 f l d a b) (k : Ex3 f l d b c) : Ex3 f l d a c :=
  ⟨k.os.trans h.os, k.tape.trans h.tape, k.output.trans h.output, Nat.le_trans h.size k.size, fun z hz h1 h2 h3 => (k.block z (Nat.lt_of_lt_of_le hz h.size) h1 h2 h3).trans (h.block z hz h1 h2 h3)⟩
theorem Ex3.ofBelow (h : Below a.heap.size a b) : Ex3 f l d a b := ⟨h.os, h.tape, h.output, h.size, fun z hz _ _ _ => h.block z hz⟩
theorem Ex3.drew (h : Ex3 f l d a b) : Ex3 f l d a b.drew := ⟨h.os, h.tape, h.output, h.size, h.block⟩
theorem Ex3.setCell (h : Ex3 f l d a b) (p : Addr) (hp : p.block = f ∨ p.block = l ∨ p.block = d ∨ a.heap.size ≤ p.block) (u : Value) : Ex3 f l d a (b.setCell p u) :=
  ⟨h.os, h.tape, h.output, by simpa using h.size, fun z hz h1 h2 h3 => by rw [Below.heap_setCell _ _ _ _ (by omega)]; exact h.block z hz h1 h2 h3⟩
theorem Ex3.cell (h : Ex3 f l d a b) {z o : Nat} {v : Value} (hc : a.cell? ⟨z, o, none⟩ = some v) (h1 : z ≠ f) (h2 : z ≠ l) (h3 : z ≠ d) : b.cell? ⟨z, o, none⟩ = some v :=
  (World.cell?_of_block (w := a) (h.block z (World.block_lt_of_cell? a _ hc) h1 h2 h3)).trans hc
theorem Ex3.froz (h : Ex3 f l d a b) {z o : Nat} (hz : z < a.heap.size) (hc : a.frozen? ⟨z, o, none⟩ = false) (h1 : z ≠ f) (h2 : z ≠ l) (h3 : z ≠ d) : b.frozen? ⟨z, o, none⟩ = false :=
  (World.frozen?_of_block (w := a) (h.block z hz h1 h2 h3)).trans hc
theorem Ex3.below (h : Ex3 f l d a b) {B : Nat} (hB : B ≤ a.heap.size) (h1 : B ≤ f) (h2 : B ≤ l) (h3 : B ≤ d) : Below B a b := ⟨h.os, h.tape, h.output, h.size, fun z hz => h.block z (by omega) (by omega) (by omega) (by omega)⟩
theorem ReadsK.ex3 {q : IntKind} {g : Nat} {o : Nat} {xs : List Int} (h : ReadsK q a (some ⟨g, o, none⟩) xs) (hb : Ex3 f l d a b) (h1 : g ≠ f) (h2 : g ≠ l) (h3 : g ≠ d) : ReadsK q b (some ⟨g, o, none⟩) xs := by
  intro k hk
  obtain ⟨bb, off, e, hlt, hc⟩ := h k hk
  cases e
  exact ⟨g, o, rfl, Nat.lt_of_lt_of_le hlt hb.size, hb.cell hc h1 h2 h3⟩
theorem Own.ex3 {B : Nat} {v : Value} {xs : List Int} (h : Own B a v xs) (hb : Ex3 f l d a b) (hv : ∀ k, v.ownBlock = some k → k ≠ f ∧ k ≠ l ∧ k ≠ d) : Own B b v xs := by
  refine ⟨h.1, ?_⟩
  rcases h.2 with hn | ⟨g, cap, cur, e, hB, hg, rest⟩
  · exact .inl hn
  · obtain ⟨h1, h2, h3⟩ := hv g (by rw [e]; rfl)
    exact .inr ⟨g, cap, cur, e, hB, by rw [hb.block g (Array.getElem?_eq_some_iff.1 hg).1 h1 h2 h3]; exact hg, rest⟩
end

section
variable {B : Nat} {w w' : World} {N nn fb lb db cf cl cd : Nat} {Fl lf du : List Int}
theorem FM.later (h : FM B w N nn fb lb db cf cl cd Fl lf du) (hb : Below w.heap.size w w') : FM B w' N nn fb lb db cf cl cd Fl lf du := ⟨h.hn, h.fl, h.ll, h.dl, h.of.later hb, h.ol.later hb, h.od.later hb, h.n1, h.n2, h.n3⟩
theorem FM.drew (h : FM B w N nn fb lb db cf cl cd Fl lf du) : FM B w.drew N nn fb lb db cf cl cd Fl lf du := ⟨h.hn, h.fl, h.ll, h.dl, h.of, h.ol, h.od, h.n1, h.n2, h.n3⟩
theorem FM.setF (h : FM B w N nn fb lb db cf cl cd Fl lf du) (k : Nat) (y : Int) : FM B (w.setCell ⟨fb, k, none⟩ (.int .i64 y)) N nn fb lb db cf cl cd (Fl.set k y) lf du :=
  ⟨h.hn, by rw [List.length_set]; exact h.fl, h.ll, h.dl, h.of.storedAt h.fl k y, h.ol.setOther ⟨fb, k, none⟩ h.n1 _, h.od.setOther ⟨fb, k, none⟩ h.n2 _, h.n1, h.n2, h.n3⟩
theorem FM.setL (h : FM B w N nn fb lb db cf cl cd Fl lf du) (k : Nat) (y : Int) : FM B (w.setCell ⟨lb, k, none⟩ (.int .i64 y)) N nn fb lb db cf cl cd Fl (lf.set k y) du :=
  ⟨h.hn, h.fl, by rw [List.length_set]; exact h.ll, h.dl, h.of.setOther ⟨lb, k, none⟩ h.n1.symm _, h.ol.storedAt h.ll k y, h.od.setOther ⟨lb, k, none⟩ h.n3 _, h.n1, h.n2, h.n3⟩
theorem FM.setD (h : FM B w N nn fb lb db cf cl cd Fl lf du) (k : Nat) (y : Int) : FM B (w.setCell ⟨db, k, none⟩ (.int .i64 y)) N nn fb lb db cf cl cd Fl lf (du.set k y) :=
  ⟨h.hn, h.fl, h.ll, by rw [List.length_set]; exact h.dl, h.of.setOther ⟨db, k, none⟩ h.n2.symm _, h.ol.setOther ⟨db, k, none⟩ h.n3.symm _, h.od.storedAt h.dl k y, h.n1, h.n2, h.n3⟩
theorem FM.other (h : FM B w N nn fb lb db cf cl cd Fl lf du) (p : Addr) (h1 : p.block ≠ fb) (h2 : p.block ≠ lb) (h3 : p.block ≠ db) (u : Value) : FM B (w.setCell p u) N nn fb lb db cf cl cd Fl lf du :=
  ⟨h.hn, h.fl, h.ll, h.dl, h.of.setOther p h1 u, h.ol.setOther p h2 u, h.od.setOther p h3 u, h.n1, h.n2, h.n3⟩
theorem FM.lts (h : FM B w N nn fb lb db cf cl cd Fl lf du) : (B ≤ fb ∧ fb < w.heap.size) ∧ (B ≤ lb ∧ lb < w.heap.size) ∧ (B ≤ db ∧ db < w.heap.size) := ⟨h.of.blockLt fb rfl, h.ol.blockLt lb rfl, h.od.blockLt db rfl⟩
end

/-- The memory of a push. -/
structure PM (B N nn fb lb db cf cl cd G T : Nat) (w wr : World) (Fl lf du pf pt : List Int) : Prop where
  fm : FM B wr N nn fb lb db cf cl cd Fl lf du
  bx : Bx wr w.heap.size (.int .i64 (N : Int)) (.slice (some ⟨fb, 0, none⟩) nn cf) (.slice (some ⟨lb, 0, none⟩) N cl) (.slice (some ⟨db, 0, none⟩) N cd)
  p0 : wr.cell? ⟨w.heap.size + 1, 0, none⟩ = some (.slice (some ⟨G, 0, none⟩) N N)
  p1 : wr.cell? ⟨w.heap.size + 1, 1, none⟩ = some (.slice (some ⟨T, 0, none⟩) N N)
  rx : Bx wr (w.heap.size + 1 + 1) (.int .i64 0) (.slice none 0 0) (.slice none 0 0) (.slice none 0 0)
  rf : ∀ o, wr.frozen? ⟨w.heap.size + 1 + 1, o, none⟩ = false
  og : Reads wr (some ⟨G, 0, none⟩) pf
  ot : Reads wr (some ⟨T, 0, none⟩) pt
  ex : Ex3 fb lb db w wr
  lt : fb < w.heap.size ∧ lb < w.heap.size ∧ db < w.heap.size
  ng : G ≠ fb ∧ G ≠ lb ∧ G ≠ db
  nt : T ≠ fb ∧ T ≠ lb ∧ T ≠ db

section
variable {B N nn fb lb db cf cl cd G T : Nat} {w wr : World} {Fl lf du pf pt : List Int}
theorem PM.put {Fl' lf' du' : List Int} (h : PM B N nn fb lb db cf cl cd G T w wr Fl lf du pf pt) (p : Addr) (u : Value) (hp : p.block = fb ∨ p.block = lb ∨ p.block = db) (hf : FM B (wr.setCell p u) N nn fb lb db cf cl cd Fl' lf' du') : PM B N nn fb lb db cf cl cd G T w (wr.setCell p u) Fl' lf' du' pf pt := by
  obtain ⟨l1, l2, l3⟩ := h.lt
  obtain ⟨g1, g2, g3⟩ := h.ng
  obtain ⟨t1, t2, t3⟩ := h.nt
  have e : Ex3 fb lb db wr (wr.setCell p u) := (Ex3.refl _ _ _ _).setCell p (by omega) u
  exact ⟨hf, ⟨cellOf h.bx.c0 (by omega), cellOf h.bx.c1 (by omega), cellOf h.bx.c2 (by omega), cellOf h.bx.c3 (by omega)⟩, cellOf h.p0 (by omega), cellOf h.p1 (by omega), ⟨cellOf h.rx.c0 (by omega), cellOf h.rx.c1 (by omega), cellOf h.rx.c2 (by omega), cellOf h.rx.c3 (by omega)⟩,
    fun o => by rw [World.frozen?_setCell]; exact h.rf o, h.og.ex3 e g1 g2 g3, h.ot.ex3 e t1 t2 t3, h.ex.setCell p (by omega) u, h.lt, h.ng, h.nt⟩
theorem PM.setF (h : PM B N nn fb lb db cf cl cd G T w wr Fl lf du pf pt) (k : Nat) (y : Int) : PM B N nn fb lb db cf cl cd G T w (wr.setCell ⟨fb, k, none⟩ (.int .i64 y)) (Fl.set k y) lf du pf pt := h.put _ _ (.inl rfl) (h.fm.setF k y)
theorem PM.setL (h : PM B N nn fb lb db cf cl cd G T w wr Fl lf du pf pt) (k : Nat) (y : Int) : PM B N nn fb lb db cf cl cd G T w (wr.setCell ⟨lb, k, none⟩ (.int .i64 y)) Fl (lf.set k y) du pf pt := h.put _ _ (.inr (.inl rfl)) (h.fm.setL k y)
theorem PM.setD (h : PM B N nn fb lb db cf cl cd G T w wr Fl lf du pf pt) (k : Nat) (y : Int) : PM B N nn fb lb db cf cl cd G T w (wr.setCell ⟨db, k, none⟩ (.int .i64 y)) Fl lf (du.set k y) pf pt := h.put _ _ (.inr (.inr rfl)) (h.fm.setD k y)
theorem PM.drew (h : PM B N nn fb lb db cf cl cd G T w wr Fl lf du pf pt) : PM B N nn fb lb db cf cl cd G T w wr.drew Fl lf du pf pt := ⟨h.fm.drew, ⟨h.bx.c0, h.bx.c1, h.bx.c2, h.bx.c3⟩, h.p0, h.p1, ⟨h.rx.c0, h.rx.c1, h.rx.c2, h.rx.c3⟩, h.rf, h.og, h.ot, h.ex.drew, h.lt, h.ng, h.nt⟩
end

theorem rdAt {w : World} {g : Nat} {xs : List Int} (h : Reads w (some ⟨g, 0, none⟩) xs) (k : Nat) (hk : k < xs.length) : w.cell? ⟨g, k, none⟩ = some (.int .i64 (nth xs k)) := by
  obtain ⟨b, o, e, hlt, hc⟩ := h k hk
  cases e
  rw [Nat.zero_add] at hc
  exact hc

/-- Where a way begins. -/
inductive RootAt (root : Nat → Bool) (giv get : Nat → Int) : Nat → Nat → Prop
  | last {a : Nat} : root (giv a).toNat = true → RootAt root giv get a (giv a).toNat
  | step {a b : Nat} : root (giv a).toNat = false → RootAt root giv get (get (giv a).toNat).toNat b → RootAt root giv get a b
theorem RootAt.here {root : Nat → Bool} {giv get : Nat → Int} {a b : Nat} (h : RootAt root giv get a b) (hr : root (giv a).toNat = true) : b = (giv a).toNat := by
  cases h with
  | last h1 => rfl
  | step h1 h2 => rw [h1] at hr; cases hr
theorem RootAt.next {root : Nat → Bool} {giv get : Nat → Int} {a b : Nat} (h : RootAt root giv get a b) (hr : root (giv a).toNat = false) : RootAt root giv get (get (giv a).toNat).toNat b := by
  cases h with
  | last h1 => rw [h1] at hr; cases hr
  | step h1 h2 => exact h2

def gvR (p : List Int) : Nat → Int := fun a => nth p a - 1
def rtR (lf : List Int) : Nat → Bool := fun b => decide (0 < nth lf b)

/-- What 'l8Push' makes of a flow. -/
def PushedR (B N nn fb lb db cf cl cd : Nat) (Fl lf du : List Int) (en : Nat) (w : World) (e : Ending) (w' : World) : Prop :=
  ∃ (m : Int) (bn : Nat) (Fl' : List Int), e = .returned (.agg #[.int .i64 (N : Int), .slice (some ⟨fb, 0, none⟩) nn cf, .slice (some ⟨lb, 0, none⟩) N cl, .slice (some ⟨db, 0, none⟩) N cd]) ∧ 1 ≤ m ∧ m ≤ nth lf bn ∧ m ≤ nth du en ∧
    PushEnd N subO (tab N Fl) en m bn (tab N Fl') ∧ FM B w' N nn fb lb db cf cl cd Fl' (lf.set bn (nth lf bn - m)) (du.set en (nth du en - m)) ∧ Ex3 fb lb db w w'

/-- The loops of a function, those within others left out. -/
def loopsOf : Code → List Code
  | .loop c => [c]
  | .seq a b => loopsOf a ++ loopsOf b
  | .block _ c => loopsOf c
  | .scope c => loopsOf c
  | .cond _ a b => loopsOf a ++ loopsOf b
  | _ => []

/-- The same, but that nothing is said of a panic. -/
def blindQ (Q : Exit → Act → World → Prop) : Exit → Act → World → Prop
  | .panic _, _, _ => False
  | e, a, w => Q e a w
theorem blindQ_le {Q : Exit → Act → World → Prop} : ∀ e a w, blindQ Q e a w → Q e a w := fun e a w h => by
  cases e <;> first | exact h | exact absurd h id

def l2R (B N nn fb lb db cf cl cd G T : Nat) (w : World) (Fl lf lf' du' pf pt : List Int) (tg tc : Nat → Nat) (TT en bn : Nat) (m : Int) (a b : Value) (wr : World) : Prop :=
  ∃ (am bm : Nat) (F1 : Nat → Nat → Int) (Fl1 : List Int), a = .int .i64 am ∧ b = .int .i64 bm ∧ bm < N ∧ gvR pt am = (bm : Int) ∧ PushSt N subO (tab N Fl) (rtR lf) (gvR pt) (gvR pf) tg tc en m am F1 ∧ tab N Fl1 = upd F1 bm am (F1 bm am + m) ∧ RootAt (rtR lf) (gvR pt) (gvR pf) am bn ∧ PM B N nn fb lb db cf cl cd G T w wr Fl1 lf' du' pf pt

def l2X (B N nn fb lb db cf cl cd G T : Nat) (w : World) (Fl lf lf' du' pf pt : List Int) (tg tc : Nat → Nat) (TT en bn : Nat) (m : Int) (a b : Value) (wr : World) : Prop :=
  ∃ Fl1 : List Int, PushEnd N subO (tab N Fl) en m bn (tab N Fl1) ∧ PM B N nn fb lb db cf cl cd G T w wr Fl1 lf' du' pf pt

noncomputable def l2Body : Code := (Try.f95.body.bind fun c => (loopsOf c)[1]?).getD .skip

set_option maxRecDepth 1000000 in
def l2I (B N nn fb lb db cf cl cd G T : Nat) (w : World) (Fl lf lf' du' pf pt : List Int) (tg tc : Nat → Nat) (TT en bn : Nat) (m : Int) (y0 y1 y2 y5 y6 y10 y11 y12 y13 y14 y15 y16 y17 y18 y19 y20 y21 y22 y23 y24 y25 y26 y27 y28 y29 y30 y31 y32 y33 y34 y35 y36 y37 y38 y39 y40 y41 y42 y43 y44 y45 y46 y47 y48 y49 y50 y51 y52 y53 y54 y55 y56 y57 y58 y59 y60 y61 y62 y63 y64 y65 y66 y67 y68 y69 y70 y71 y72 y73 y74 y75 y76 y77 y78 y79 y80 y81 y82 y83 y84 y85 y86 y87 y88 y89 y90 y91 y92 y93 y94 y95 y96 y97 y98 y99 y100 y101 y102 y103 y104 y105 y106 y107 y108 y169 : Value) (a' : Act) (w' : World) : Prop := ∃ u8 u9 u109 u110 u111 u112 u113 u114 u115 u116 u117 u118 u119 u120 u121 u122 u123 u124 u125 u126 u127 u128 u129 u130 u131 u132 u133 u134 u135 u136 u137 u138 u139 u140 u141 u142 u143 u144 u145 u146 u147 u148 u149 u150 u151 u152 u153 u154 u155 u156 u157 u158 u159 u160 u161 u162 u163 u164 u165 u166 u167 u168 : Value, l2R B N nn fb lb db cf cl cd G T w Fl lf lf' du' pf pt tg tc TT en bn m u8 u9 w' ∧ a' = ⟨#[y0, y1, y2, .pointer (some ⟨w.heap.size, 0, none⟩), .pointer (some ⟨w.heap.size + 1, 0, none⟩), y5, y6, .int .i64 m, u8, u9, y10, y11, y12, y13, y14, y15, y16, y17, y18, y19, y20, y21, y22, y23, y24, y25, y26, y27, y28, y29, y30, y31, y32, y33, y34, y35, y36, y37, y38, y39, y40, y41, y42, y43, y44, y45, y46, y47, y48, y49, y50, y51, y52, y53, y54, y55, y56, y57, y58, y59, y60, y61, y62, y63, y64, y65, y66, y67, y68, y69, y70, y71, y72, y73, y74, y75, y76, y77, y78, y79, y80, y81, y82, y83, y84, y85, y86, y87, y88, y89, y90, y91, y92, y93, y94, y95, y96, y97, y98, y99, y100, y101, y102, y103, y104, y105, y106, y107, y108, u109, u110, u111, u112, u113, u114, u115, u116, u117, u118, u119, u120, u121, u122, u123, u124, u125, u126, u127, u128, u129, u130, u131, u132, u133, u134, u135, u136, u137, u138, u139, u140, u141, u142, u143, u144, u145, u146, u147, u148, u149, u150, u151, u152, u153, u154, u155, u156, u157, u158, u159, u160, u161, u162, u163, u164, u165, u166, u167, u168, y169], []⟩

def l2Mu (tc : Nat → Nat) (a' : Act) (w' : World) : Nat := tc (intOf (a'.tmps.getD 8 undef)).toNat

set_option maxHeartbeats 16000000 in
set_option maxRecDepth 1000000 in
theorem l2Root (B N nn fb lb db cf cl cd G T : Nat) (w : World) (Fl lf lf' du' pf pt : List Int) (tg tc : Nat → Nat) (TT en bn : Nat) (m : Int) (h16 : N ≤ 16) (hen : en < N) (HR : Hid (Reached N subO (tab N Fl) (rtR lf) (gvR pt) (gvR pf) tg tc)) (HRC : Hid (Rch N (tab N Fl) (nth lf) (nth pf) (nth pt) tg tc TT)) (HF : Hid (∀ b a, b < N → a < N → 0 ≤ tab N Fl b a)) (HB : Hid (∀ b, b < N → sm N (fun a => tab N Fl b a) ≤ 10000000000000)) (HGL : Hid (pf.length = N)) (HTL : Hid (pt.length = N)) (hm1 : 1 ≤ m) (hmM : m ≤ 10000000000000) (y0 y1 y2 y5 y6 y10 y11 y12 y13 y14 y15 y16 y17 y18 y19 y20 y21 y22 y23 y24 y25 y26 y27 y28 y29 y30 y31 y32 y33 y34 y35 y36 y37 y38 y39 y40 y41 y42 y43 y44 y45 y46 y47 y48 y49 y50 y51 y52 y53 y54 y55 y56 y57 y58 y59 y60 y61 y62 y63 y64 y65 y66 y67 y68 y69 y70 y71 y72 y73 y74 y75 y76 y77 y78 y79 y80 y81 y82 y83 y84 y85 y86 y87 y88 y89 y90 y91 y92 y93 y94 y95 y96 y97 y98 y99 y100 y101 y102 y103 y104 y105 y106 y107 y108 y169 : Value) (Q0 : Exit → Act → World → Prop) (HEX : Hid (∀ (u8 u9 u109 u110 u111 u112 u113 u114 u115 u116 u117 u118 u119 u120 u121 u122 u123 u124 u125 u126 u127 u128 u129 u130 u131 u132 u133 u134 u135 u136 u137 u138 u139 u140 u141 u142 u143 u144 u145 u146 u147 u148 u149 u150 u151 u152 u153 u154 u155 u156 u157 u158 u159 u160 u161 u162 u163 u164 u165 u166 u167 u168 : Value) (w' : World), l2X B N nn fb lb db cf cl cd G T w Fl lf lf' du' pf pt tg tc TT en bn m u8 u9 w' → Q0 (.exit 2) ⟨#[y0, y1, y2, .pointer (some ⟨w.heap.size, 0, none⟩), .pointer (some ⟨w.heap.size + 1, 0, none⟩), y5, y6, .int .i64 m, u8, u9, y10, y11, y12, y13, y14, y15, y16, y17, y18, y19, y20, y21, y22, y23, y24, y25, y26, y27, y28, y29, y30, y31, y32, y33, y34, y35, y36, y37, y38, y39, y40, y41, y42, y43, y44, y45, y46, y47, y48, y49, y50, y51, y52, y53, y54, y55, y56, y57, y58, y59, y60, y61, y62, y63, y64, y65, y66, y67, y68, y69, y70, y71, y72, y73, y74, y75, y76, y77, y78, y79, y80, y81, y82, y83, y84, y85, y86, y87, y88, y89, y90, y91, y92, y93, y94, y95, y96, y97, y98, y99, y100, y101, y102, y103, y104, y105, y106, y107, y108, u109, u110, u111, u112, u113, u114, u115, u116, u117, u118, u119, u120, u121, u122, u123, u124, u125, u126, u127, u128, u129, u130, u131, u132, u133, u134, u135, u136, u137, u138, u139, u140, u141, u142, u143, u144, u145, u146, u147, u148, u149, u150, u151, u152, u153, u154, u155, u156, u157, u158, u159, u160, u161, u162, u163, u164, u165, u166, u167, u168, y169], []⟩ w')) (u109 u110 u111 u112 u113 u114 u115 u116 u117 u118 u119 u120 u121 u122 u123 u124 u125 u126 u127 u128 u129 u130 u131 u132 u133 u134 u135 u136 u137 u138 u139 u140 u141 u142 u143 u144 u145 u146 u147 u148 u149 u150 u151 u152 u153 u154 u155 u156 u157 u158 u159 u160 u161 u162 u163 u164 u165 u166 u167 u168 : Value) (wr : World) (am bm : Nat) (F1 : Nat → Nat → Int) (Fl1 : List Int) (hbmN : bm < N) (hgv : gvR pt am = (bm : Int)) (hps : PushSt N subO (tab N Fl) (rtR lf) (gvR pt) (gvR pf) tg tc en m am F1) (hft : tab N Fl1 = upd F1 bm am (F1 bm am + m)) (hro : RootAt (rtR lf) (gvR pt) (gvR pf) am bn) (hpm : PM B N nn fb lb db cf cl cd G T w wr Fl1 lf' du' pf pt) (hr : 0 < nth lf bm) :
    Code.wp Try.prog l2Body (Exit.then (fun a' w'' => l2I B N nn fb lb db cf cl cd G T w Fl lf lf' du' pf pt tg tc TT en bn m y0 y1 y2 y5 y6 y10 y11 y12 y13 y14 y15 y16 y17 y18 y19 y20 y21 y22 y23 y24 y25 y26 y27 y28 y29 y30 y31 y32 y33 y34 y35 y36 y37 y38 y39 y40 y41 y42 y43 y44 y45 y46 y47 y48 y49 y50 y51 y52 y53 y54 y55 y56 y57 y58 y59 y60 y61 y62 y63 y64 y65 y66 y67 y68 y69 y70 y71 y72 y73 y74 y75 y76 y77 y78 y79 y80 y81 y82 y83 y84 y85 y86 y87 y88 y89 y90 y91 y92 y93 y94 y95 y96 y97 y98 y99 y100 y101 y102 y103 y104 y105 y106 y107 y108 y169 a' w'' ∧ l2Mu tc a' w'' < l2Mu tc ⟨#[y0, y1, y2, .pointer (some ⟨w.heap.size, 0, none⟩), .pointer (some ⟨w.heap.size + 1, 0, none⟩), y5, y6, .int .i64 m, .int .i64 am, .int .i64 bm, y10, y11, y12, y13, y14, y15, y16, y17, y18, y19, y20, y21, y22, y23, y24, y25, y26, y27, y28, y29, y30, y31, y32, y33, y34, y35, y36, y37, y38, y39, y40, y41, y42, y43, y44, y45, y46, y47, y48, y49, y50, y51, y52, y53, y54, y55, y56, y57, y58, y59, y60, y61, y62, y63, y64, y65, y66, y67, y68, y69, y70, y71, y72, y73, y74, y75, y76, y77, y78, y79, y80, y81, y82, y83, y84, y85, y86, y87, y88, y89, y90, y91, y92, y93, y94, y95, y96, y97, y98, y99, y100, y101, y102, y103, y104, y105, y106, y107, y108, u109, u110, u111, u112, u113, u114, u115, u116, u117, u118, u119, u120, u121, u122, u123, u124, u125, u126, u127, u128, u129, u130, u131, u132, u133, u134, u135, u136, u137, u138, u139, u140, u141, u142, u143, u144, u145, u146, u147, u148, u149, u150, u151, u152, u153, u154, u155, u156, u157, u158, u159, u160, u161, u162, u163, u164, u165, u166, u167, u168, y169], []⟩ wr) (blindQ Q0)) ⟨#[y0, y1, y2, .pointer (some ⟨w.heap.size, 0, none⟩), .pointer (some ⟨w.heap.size + 1, 0, none⟩), y5, y6, .int .i64 m, .int .i64 am, .int .i64 bm, y10, y11, y12, y13, y14, y15, y16, y17, y18, y19, y20, y21, y22, y23, y24, y25, y26, y27, y28, y29, y30, y31, y32, y33, y34, y35, y36, y37, y38, y39, y40, y41, y42, y43, y44, y45, y46, y47, y48, y49, y50, y51, y52, y53, y54, y55, y56, y57, y58, y59, y60, y61, y62, y63, y64, y65, y66, y67, y68, y69, y70, y71, y72, y73, y74, y75, y76, y77, y78, y79, y80, y81, y82, y83, y84, y85, y86, y87, y88, y89, y90, y91, y92, y93, y94, y95, y96, y97, y98, y99, y100, y101, y102, y103, y104, y105, y106, y107, y108, u109, u110, u111, u112, u113, u114, u115, u116, u117, u118, u119, u120, u121, u122, u123, u124, u125, u126, u127, u128, u129, u130, u131, u132, u133, u134, u135, u136, u137, u138, u139, u140, u141, u142, u143, u144, u145, u146, u147, u148, u149, u150, u151, u152, u153, u154, u155, u156, u157, u158, u159, u160, u161, u162, u163, u164, u165, u166, u167, u168, y169], []⟩ wr := by
  conv => arg 2; whnf
  generalize hQQ : (fun (a' : Act) (w'' : World) => l2I B N nn fb lb db cf cl cd G T w Fl lf lf' du' pf pt tg tc TT en bn m y0 y1 y2 y5 y6 y10 y11 y12 y13 y14 y15 y16 y17 y18 y19 y20 y21 y22 y23 y24 y25 y26 y27 y28 y29 y30 y31 y32 y33 y34 y35 y36 y37 y38 y39 y40 y41 y42 y43 y44 y45 y46 y47 y48 y49 y50 y51 y52 y53 y54 y55 y56 y57 y58 y59 y60 y61 y62 y63 y64 y65 y66 y67 y68 y69 y70 y71 y72 y73 y74 y75 y76 y77 y78 y79 y80 y81 y82 y83 y84 y85 y86 y87 y88 y89 y90 y91 y92 y93 y94 y95 y96 y97 y98 y99 y100 y101 y102 y103 y104 y105 y106 y107 y108 y169 a' w'' ∧ l2Mu tc a' w'' < l2Mu tc ⟨#[y0, y1, y2, .pointer (some ⟨w.heap.size, 0, none⟩), .pointer (some ⟨w.heap.size + 1, 0, none⟩), y5, y6, .int .i64 m, .int .i64 am, .int .i64 bm, y10, y11, y12, y13, y14, y15, y16, y17, y18, y19, y20, y21, y22, y23, y24, y25, y26, y27, y28, y29, y30, y31, y32, y33, y34, y35, y36, y37, y38, y39, y40, y41, y42, y43, y44, y45, y46, y47, y48, y49, y50, y51, y52, y53, y54, y55, y56, y57, y58, y59, y60, y61, y62, y63, y64, y65, y66, y67, y68, y69, y70, y71, y72, y73, y74, y75, y76, y77, y78, y79, y80, y81, y82, y83, y84, y85, y86, y87, y88, y89, y90, y91, y92, y93, y94, y95, y96, y97, y98, y99, y100, y101, y102, y103, y104, y105, y106, y107, y108, u109, u110, u111, u112, u113, u114, u115, u116, u117, u118, u119, u120, u121, u122, u123, u124, u125, u126, u127, u128, u129, u130, u131, u132, u133, u134, u135, u136, u137, u138, u139, u140, u141, u142, u143, u144, u145, u146, u147, u148, u149, u150, u151, u152, u153, u154, u155, u156, u157, u158, u159, u160, u161, u162, u163, u164, u165, u166, u167, u168, y169], []⟩ wr) = QQ
  have HQQ := Lib.hid hQQ
  clear hQQ
  have ham := hps.an
  have q1 := rdAt hpm.og bm (by rw [HGL.out]; exact hbmN)
  have hpb := HRC.out.pb bm hbmN
  have c0 := hpm.bx.c0
  have c1 := hpm.bx.c1
  have c2 := hpm.bx.c2
  have c3 := hpm.bx.c3
  have p0 := hpm.p0
  have p1 := hpm.p1
  have HGV := Lib.hid hgv
  have HPS := Lib.hid hps
  have HFT := Lib.hid hft
  have HRT := Lib.hid hro
  have HPM := Lib.hid hpm
  have hbmz : (bm : Int) < (N : Int) := by omega
  clear hgv hps hft hro
  have hq : nth pf bm = 100 := (HRC.out.root bm hbmN).2 hr
  rw [hq] at q1
  have hrt : rtR lf (gvR pt am).toNat = true := by rw [HGV.out]; exact decide_eq_true hr
  have hbe : bn = bm := by have e := HRT.out.here hrt; rw [HGV.out] at e; exact e
  have hend := HPS.out.add HR.out (by omega)
  rw [HGV.out, Int.toNat_natCast, ← HFT.out, ← hbe] at hend
  have HEND := Lib.hid hend
  clear hq hrt hbe hend hpm hpb
  go_wp2
  exact HEX.out _ _ _ _ _ _ _ _ _ _ _ _ _ _ _ _ _ _ _ _ _ _ _ _ _ _ _ _ _ _ _ _ _ _ _ _ _ _ _ _ _ _ _ _ _ _ _ _ _ _ _ _ _ _ _ _ _ _ _ _ _ _ _ ⟨Fl1, HEND.out, HPM.out⟩
  

set_option maxHeartbeats 16000000 in
set_option maxRecDepth 1000000 in
theorem l2Step (B N nn fb lb db cf cl cd G T : Nat) (w : World) (Fl lf lf' du' pf pt : List Int) (tg tc : Nat → Nat) (TT en bn : Nat) (m : Int) (h16 : N ≤ 16) (hen : en < N) (HR : Hid (Reached N subO (tab N Fl) (rtR lf) (gvR pt) (gvR pf) tg tc)) (HRC : Hid (Rch N (tab N Fl) (nth lf) (nth pf) (nth pt) tg tc TT)) (HF : Hid (∀ b a, b < N → a < N → 0 ≤ tab N Fl b a)) (HB : Hid (∀ b, b < N → sm N (fun a => tab N Fl b a) ≤ 10000000000000)) (HGL : Hid (pf.length = N)) (HTL : Hid (pt.length = N)) (hm1 : 1 ≤ m) (hmM : m ≤ 10000000000000) (y0 y1 y2 y5 y6 y10 y11 y12 y13 y14 y15 y16 y17 y18 y19 y20 y21 y22 y23 y24 y25 y26 y27 y28 y29 y30 y31 y32 y33 y34 y35 y36 y37 y38 y39 y40 y41 y42 y43 y44 y45 y46 y47 y48 y49 y50 y51 y52 y53 y54 y55 y56 y57 y58 y59 y60 y61 y62 y63 y64 y65 y66 y67 y68 y69 y70 y71 y72 y73 y74 y75 y76 y77 y78 y79 y80 y81 y82 y83 y84 y85 y86 y87 y88 y89 y90 y91 y92 y93 y94 y95 y96 y97 y98 y99 y100 y101 y102 y103 y104 y105 y106 y107 y108 y169 : Value) (Q0 : Exit → Act → World → Prop) (HEX : Hid (∀ (u8 u9 u109 u110 u111 u112 u113 u114 u115 u116 u117 u118 u119 u120 u121 u122 u123 u124 u125 u126 u127 u128 u129 u130 u131 u132 u133 u134 u135 u136 u137 u138 u139 u140 u141 u142 u143 u144 u145 u146 u147 u148 u149 u150 u151 u152 u153 u154 u155 u156 u157 u158 u159 u160 u161 u162 u163 u164 u165 u166 u167 u168 : Value) (w' : World), l2X B N nn fb lb db cf cl cd G T w Fl lf lf' du' pf pt tg tc TT en bn m u8 u9 w' → Q0 (.exit 2) ⟨#[y0, y1, y2, .pointer (some ⟨w.heap.size, 0, none⟩), .pointer (some ⟨w.heap.size + 1, 0, none⟩), y5, y6, .int .i64 m, u8, u9, y10, y11, y12, y13, y14, y15, y16, y17, y18, y19, y20, y21, y22, y23, y24, y25, y26, y27, y28, y29, y30, y31, y32, y33, y34, y35, y36, y37, y38, y39, y40, y41, y42, y43, y44, y45, y46, y47, y48, y49, y50, y51, y52, y53, y54, y55, y56, y57, y58, y59, y60, y61, y62, y63, y64, y65, y66, y67, y68, y69, y70, y71, y72, y73, y74, y75, y76, y77, y78, y79, y80, y81, y82, y83, y84, y85, y86, y87, y88, y89, y90, y91, y92, y93, y94, y95, y96, y97, y98, y99, y100, y101, y102, y103, y104, y105, y106, y107, y108, u109, u110, u111, u112, u113, u114, u115, u116, u117, u118, u119, u120, u121, u122, u123, u124, u125, u126, u127, u128, u129, u130, u131, u132, u133, u134, u135, u136, u137, u138, u139, u140, u141, u142, u143, u144, u145, u146, u147, u148, u149, u150, u151, u152, u153, u154, u155, u156, u157, u158, u159, u160, u161, u162, u163, u164, u165, u166, u167, u168, y169], []⟩ w')) (u109 u110 u111 u112 u113 u114 u115 u116 u117 u118 u119 u120 u121 u122 u123 u124 u125 u126 u127 u128 u129 u130 u131 u132 u133 u134 u135 u136 u137 u138 u139 u140 u141 u142 u143 u144 u145 u146 u147 u148 u149 u150 u151 u152 u153 u154 u155 u156 u157 u158 u159 u160 u161 u162 u163 u164 u165 u166 u167 u168 : Value) (wr : World) (am bm : Nat) (F1 : Nat → Nat → Int) (Fl1 : List Int) (hbmN : bm < N) (hgv : gvR pt am = (bm : Int)) (hps : PushSt N subO (tab N Fl) (rtR lf) (gvR pt) (gvR pf) tg tc en m am F1) (hft : tab N Fl1 = upd F1 bm am (F1 bm am + m)) (hro : RootAt (rtR lf) (gvR pt) (gvR pf) am bn) (hpm : PM B N nn fb lb db cf cl cd G T w wr Fl1 lf' du' pf pt) (hr : ¬ 0 < nth lf bm) :
    Code.wp Try.prog l2Body (Exit.then (fun a' w'' => l2I B N nn fb lb db cf cl cd G T w Fl lf lf' du' pf pt tg tc TT en bn m y0 y1 y2 y5 y6 y10 y11 y12 y13 y14 y15 y16 y17 y18 y19 y20 y21 y22 y23 y24 y25 y26 y27 y28 y29 y30 y31 y32 y33 y34 y35 y36 y37 y38 y39 y40 y41 y42 y43 y44 y45 y46 y47 y48 y49 y50 y51 y52 y53 y54 y55 y56 y57 y58 y59 y60 y61 y62 y63 y64 y65 y66 y67 y68 y69 y70 y71 y72 y73 y74 y75 y76 y77 y78 y79 y80 y81 y82 y83 y84 y85 y86 y87 y88 y89 y90 y91 y92 y93 y94 y95 y96 y97 y98 y99 y100 y101 y102 y103 y104 y105 y106 y107 y108 y169 a' w'' ∧ l2Mu tc a' w'' < l2Mu tc ⟨#[y0, y1, y2, .pointer (some ⟨w.heap.size, 0, none⟩), .pointer (some ⟨w.heap.size + 1, 0, none⟩), y5, y6, .int .i64 m, .int .i64 am, .int .i64 bm, y10, y11, y12, y13, y14, y15, y16, y17, y18, y19, y20, y21, y22, y23, y24, y25, y26, y27, y28, y29, y30, y31, y32, y33, y34, y35, y36, y37, y38, y39, y40, y41, y42, y43, y44, y45, y46, y47, y48, y49, y50, y51, y52, y53, y54, y55, y56, y57, y58, y59, y60, y61, y62, y63, y64, y65, y66, y67, y68, y69, y70, y71, y72, y73, y74, y75, y76, y77, y78, y79, y80, y81, y82, y83, y84, y85, y86, y87, y88, y89, y90, y91, y92, y93, y94, y95, y96, y97, y98, y99, y100, y101, y102, y103, y104, y105, y106, y107, y108, u109, u110, u111, u112, u113, u114, u115, u116, u117, u118, u119, u120, u121, u122, u123, u124, u125, u126, u127, u128, u129, u130, u131, u132, u133, u134, u135, u136, u137, u138, u139, u140, u141, u142, u143, u144, u145, u146, u147, u148, u149, u150, u151, u152, u153, u154, u155, u156, u157, u158, u159, u160, u161, u162, u163, u164, u165, u166, u167, u168, y169], []⟩ wr) (blindQ Q0)) ⟨#[y0, y1, y2, .pointer (some ⟨w.heap.size, 0, none⟩), .pointer (some ⟨w.heap.size + 1, 0, none⟩), y5, y6, .int .i64 m, .int .i64 am, .int .i64 bm, y10, y11, y12, y13, y14, y15, y16, y17, y18, y19, y20, y21, y22, y23, y24, y25, y26, y27, y28, y29, y30, y31, y32, y33, y34, y35, y36, y37, y38, y39, y40, y41, y42, y43, y44, y45, y46, y47, y48, y49, y50, y51, y52, y53, y54, y55, y56, y57, y58, y59, y60, y61, y62, y63, y64, y65, y66, y67, y68, y69, y70, y71, y72, y73, y74, y75, y76, y77, y78, y79, y80, y81, y82, y83, y84, y85, y86, y87, y88, y89, y90, y91, y92, y93, y94, y95, y96, y97, y98, y99, y100, y101, y102, y103, y104, y105, y106, y107, y108, u109, u110, u111, u112, u113, u114, u115, u116, u117, u118, u119, u120, u121, u122, u123, u124, u125, u126, u127, u128, u129, u130, u131, u132, u133, u134, u135, u136, u137, u138, u139, u140, u141, u142, u143, u144, u145, u146, u147, u148, u149, u150, u151, u152, u153, u154, u155, u156, u157, u158, u159, u160, u161, u162, u163, u164, u165, u166, u167, u168, y169], []⟩ wr := by
  conv => arg 2; whnf
  generalize hQQ : (fun (a' : Act) (w'' : World) => l2I B N nn fb lb db cf cl cd G T w Fl lf lf' du' pf pt tg tc TT en bn m y0 y1 y2 y5 y6 y10 y11 y12 y13 y14 y15 y16 y17 y18 y19 y20 y21 y22 y23 y24 y25 y26 y27 y28 y29 y30 y31 y32 y33 y34 y35 y36 y37 y38 y39 y40 y41 y42 y43 y44 y45 y46 y47 y48 y49 y50 y51 y52 y53 y54 y55 y56 y57 y58 y59 y60 y61 y62 y63 y64 y65 y66 y67 y68 y69 y70 y71 y72 y73 y74 y75 y76 y77 y78 y79 y80 y81 y82 y83 y84 y85 y86 y87 y88 y89 y90 y91 y92 y93 y94 y95 y96 y97 y98 y99 y100 y101 y102 y103 y104 y105 y106 y107 y108 y169 a' w'' ∧ l2Mu tc a' w'' < l2Mu tc ⟨#[y0, y1, y2, .pointer (some ⟨w.heap.size, 0, none⟩), .pointer (some ⟨w.heap.size + 1, 0, none⟩), y5, y6, .int .i64 m, .int .i64 am, .int .i64 bm, y10, y11, y12, y13, y14, y15, y16, y17, y18, y19, y20, y21, y22, y23, y24, y25, y26, y27, y28, y29, y30, y31, y32, y33, y34, y35, y36, y37, y38, y39, y40, y41, y42, y43, y44, y45, y46, y47, y48, y49, y50, y51, y52, y53, y54, y55, y56, y57, y58, y59, y60, y61, y62, y63, y64, y65, y66, y67, y68, y69, y70, y71, y72, y73, y74, y75, y76, y77, y78, y79, y80, y81, y82, y83, y84, y85, y86, y87, y88, y89, y90, y91, y92, y93, y94, y95, y96, y97, y98, y99, y100, y101, y102, y103, y104, y105, y106, y107, y108, u109, u110, u111, u112, u113, u114, u115, u116, u117, u118, u119, u120, u121, u122, u123, u124, u125, u126, u127, u128, u129, u130, u131, u132, u133, u134, u135, u136, u137, u138, u139, u140, u141, u142, u143, u144, u145, u146, u147, u148, u149, u150, u151, u152, u153, u154, u155, u156, u157, u158, u159, u160, u161, u162, u163, u164, u165, u166, u167, u168, y169], []⟩ wr) = QQ
  have HQQ := Lib.hid hQQ
  clear hQQ
  have ham := hps.an
  have q1 := rdAt hpm.og bm (by rw [HGL.out]; exact hbmN)
  have hpb := HRC.out.pb bm hbmN
  have c0 := hpm.bx.c0
  have c1 := hpm.bx.c1
  have c2 := hpm.bx.c2
  have c3 := hpm.bx.c3
  have p0 := hpm.p0
  have p1 := hpm.p1
  have HGV := Lib.hid hgv
  have HPS := Lib.hid hps
  have HFT := Lib.hid hft
  have HRT := Lib.hid hro
  have HPM := Lib.hid hpm
  have hbmz : (bm : Int) < (N : Int) := by omega
  clear hgv hps hft hro
  have hne : nth pf bm ≠ 100 := fun e => hr ((HRC.out.root bm hbmN).1 e)
  obtain ⟨PF, hPF⟩ : ∃ x, x = nth pf bm := ⟨_, rfl⟩
  have hrt : rtR lf (gvR pt am).toNat = false := by rw [HGV.out]; exact decide_eq_false hr
  obtain ⟨g1, g2, g3, g4⟩ := HR.out.cg am ham HPS.out.ar
  have g5 := g4 hrt
  rw [HGV.out, Int.toNat_natCast] at g5
  obtain ⟨k1, k2, k3, k4, k5⟩ := HR.out.cb bm hbmN (decide_eq_false hr) g5
  obtain ⟨gc, hgc⟩ := Int.eq_ofNat_of_zero_le g5
  rw [hgc, Int.toNat_natCast] at k2 k3 k4 k5
  have hgcN : gc < N := by rw [hgc] at k1; omega
  have hsc : PF - 1 = (gc : Int) := by rw [hPF]; exact hgc
  obtain ⟨n1, n2, n3, n4, n5, n6, n7⟩ := HPS.out.next HR.out (by omega) hrt bm gc (by rw [HGV.out]; rfl) (by rw [HGV.out, Int.toNat_natCast, hgc]; rfl)
  have hro2 := HRT.out.next hrt
  rw [HGV.out, Int.toNat_natCast, hgc, Int.toNat_natCast] at hro2
  rw [n4] at n7
  rw [← HFT.out] at n4 n7
  obtain ⟨nb, i1, hnb, hi1, hilt, HWX⟩ := idx_facts h16 hgcN hbmN
  obtain ⟨V, hV⟩ : ∃ x, x = tab N Fl bm gc := ⟨_, rfl⟩
  have hix : i1 < nn := by rw [hpm.fm.hn]; exact hilt
  obtain ⟨v1, v2⟩ := hpm.fm.of.cellAt hpm.fm.fl i1 hix
  have hVn : nth Fl1 i1 = V := by rw [hV, hi1, ← tab_at hbmN hgcN, n4]
  rw [hVn] at v1
  rw [← hV] at n5 n7
  have hV1 : V ≤ 10000000000000 := by
    have a1 := sm_pick (f := fun y => tab N Fl bm y) (fun k hk => HF.out bm k hbmN hk) gc hgcN
    have a3 := HB.out bm hbmN
    rw [hV]; omega
  rw [← hPF] at q1 hne hpb
  have hPFz : PF < 100 := by omega
  have hiz : (i1 : Int) < (nn : Int) := Int.ofNat_lt.2 hix
  have hcz : (gc : Int) < (N : Int) := by omega
  obtain ⟨b2, hb2⟩ := Int.eq_ofNat_of_zero_le k2
  obtain ⟨l1, l2, l3, l4⟩ := HR.out.cg gc hgcN k2
  have hb2N : b2 < N := by rw [hb2] at l1; omega
  obtain ⟨F2, hF2⟩ : ∃ F2, F2 = upd (tab N Fl1) bm gc (V - m) := ⟨_, rfl⟩
  have hft2 : tab N (Fl1.set i1 (V - m)) = F2 := by rw [hi1, tab_set (by rw [hpm.fm.fl, hpm.fm.hn]) hbmN hgcN, hF2]
  rw [← hF2] at n7
  have hp4 : PM B N nn fb lb db cf cl cd G T w (wr.setCell ⟨fb, i1, none⟩ (.int .i64 (V - m))).drew (Fl1.set i1 (V - m)) lf' du' pf pt := (hpm.setF i1 (V - m)).drew
  obtain ⟨Fl2, hFl2⟩ : ∃ x, x = Fl1.set i1 (V - m) := ⟨_, rfl⟩
  rw [← hFl2] at hft2 hp4
  clear hFl2
  have HN7 := Lib.hid n7
  have HFT2 := Lib.hid hft2
  have HRO2 := Lib.hid hro2
  have HGC := Lib.hid hgc
  have HB2 := Lib.hid hb2
  have HP4 := Lib.hid hp4
  clear k1 k2 k3 k4 k5 g1 g2 g3 g4 g5 l1 l2 l3 l4 hgc hrt hne hPF hVn hV hb2 hpm hnb hi1 hilt n1 n2 n3 n4 n7 hF2 hft2 hro2 hp4 HFT HPS HRT
  obtain ⟨hwb, hsum, hwb2, hsum2⟩ := HWX.out
  go_wp2
  go_region
  clear hwb hsum hwb2 hsum2 HPM v1 v2 q1 c0 c1 c2 c3 p0 p1 hix HWX hiz hsc
  generalize (wr.setCell ⟨fb, i1, none⟩ (.int .i64 (V - m))).drew = w5 at *
  have hpm := HP4.out
  have p1 := hpm.p1
  have c0 := hpm.bx.c0
  have c1 := hpm.bx.c1
  have t1 := rdAt hpm.ot gc (by rw [HTL.out]; exact hgcN)
  obtain ⟨PT, hPT⟩ : ∃ x, x = nth pt gc := ⟨_, rfl⟩
  have hsb : PT - 1 = (b2 : Int) := by rw [hPT]; exact HB2.out
  have hPTb := HRC.out.tb2 gc hgcN
  rw [← hPT] at t1 hPTb
  obtain ⟨nb, i1, hnb, hi1, hilt, HWX⟩ := idx_facts h16 hgcN hb2N
  obtain ⟨V3, hV3⟩ : ∃ x, x = F2 b2 gc := ⟨_, rfl⟩
  have hix : i1 < nn := by rw [hpm.fm.hn]; exact hilt
  obtain ⟨v1, v2⟩ := hpm.fm.of.cellAt hpm.fm.fl i1 hix
  have hVn : nth Fl2 i1 = V3 := by rw [hV3, ← HFT2.out, tab_at hb2N hgcN, ← hi1]
  rw [hVn] at v1
  have hV0 : 0 ≤ V3 := by rw [hV3]; exact HN7.out.nn b2 gc hb2N hgcN
  have hV31 : V3 ≤ 10000000000000 := by
    have a1 := sm_pick (f := fun y => F2 b2 y) (fun k hk => HN7.out.nn b2 k hb2N hk) gc hgcN
    have a2 := HN7.out.row b2 hb2N
    have a3 := HB.out b2 hb2N
    rw [hV3]; omega
  have hiz : (i1 : Int) < (nn : Int) := Int.ofNat_lt.2 hix
  have hb2z : (b2 : Int) < (N : Int) := by omega
  have hft3 : tab N (Fl2.set i1 (V3 + m)) = upd F2 b2 gc (F2 b2 gc + m) := by rw [hi1, tab_set (by rw [hpm.fm.fl, hpm.fm.hn]) hb2N hgcN, HFT2.out, ← hV3]
  have hp5 := (hpm.setF i1 (V3 + m)).drew
  have HFT3 := Lib.hid hft3
  have HP5 := Lib.hid hp5
  clear hPT hnb hi1 hilt hV3 hVn hpm hft3 hp5 HP4 HFT2
  obtain ⟨hwb, hsum, hwb2, hsum2⟩ := HWX.out
  go_wp2
  go_region
  clear hwb hsum hwb2 hsum2
  go_wp2
  rw [← HQQ.out]
  refine ⟨?_, by simpa [l2Mu, intOf] using n6⟩
  unfold l2I
  refine ⟨_, _, _, _, _, _, _, _, _, _, _, _, _, _, _, _, _, _, _, _, _, _, _, _, _, _, _, _, _, _, _, _, _, _, _, _, _, _, _, _, _, _, _, _, _, _, _, _, _, _, _, _, _, _, _, _, _, _, _, _, _, _, ?_, rfl⟩
  exact ⟨gc, b2, F2, _, rfl, rfl, hb2N, HB2.out, HN7.out, HFT3.out, HRO2.out, HP5.out⟩
  

set_option maxHeartbeats 16000000 in
set_option maxRecDepth 1000000 in
theorem l2Loop (B N nn fb lb db cf cl cd G T : Nat) (w : World) (Fl lf lf' du' pf pt : List Int) (tg tc : Nat → Nat) (TT en bn : Nat) (m : Int) (h16 : N ≤ 16) (hen : en < N) (HR : Hid (Reached N subO (tab N Fl) (rtR lf) (gvR pt) (gvR pf) tg tc)) (HRC : Hid (Rch N (tab N Fl) (nth lf) (nth pf) (nth pt) tg tc TT)) (HF : Hid (∀ b a, b < N → a < N → 0 ≤ tab N Fl b a)) (HB : Hid (∀ b, b < N → sm N (fun a => tab N Fl b a) ≤ 10000000000000)) (HGL : Hid (pf.length = N)) (HTL : Hid (pt.length = N)) (hm1 : 1 ≤ m) (hmM : m ≤ 10000000000000) (y0 y1 y2 y5 y6 y10 y11 y12 y13 y14 y15 y16 y17 y18 y19 y20 y21 y22 y23 y24 y25 y26 y27 y28 y29 y30 y31 y32 y33 y34 y35 y36 y37 y38 y39 y40 y41 y42 y43 y44 y45 y46 y47 y48 y49 y50 y51 y52 y53 y54 y55 y56 y57 y58 y59 y60 y61 y62 y63 y64 y65 y66 y67 y68 y69 y70 y71 y72 y73 y74 y75 y76 y77 y78 y79 y80 y81 y82 y83 y84 y85 y86 y87 y88 y89 y90 y91 y92 y93 y94 y95 y96 y97 y98 y99 y100 y101 y102 y103 y104 y105 y106 y107 y108 y169 : Value) (Q0 : Exit → Act → World → Prop) (HEX : Hid (∀ (u8 u9 u109 u110 u111 u112 u113 u114 u115 u116 u117 u118 u119 u120 u121 u122 u123 u124 u125 u126 u127 u128 u129 u130 u131 u132 u133 u134 u135 u136 u137 u138 u139 u140 u141 u142 u143 u144 u145 u146 u147 u148 u149 u150 u151 u152 u153 u154 u155 u156 u157 u158 u159 u160 u161 u162 u163 u164 u165 u166 u167 u168 : Value) (w' : World), l2X B N nn fb lb db cf cl cd G T w Fl lf lf' du' pf pt tg tc TT en bn m u8 u9 w' → Q0 (.exit 2) ⟨#[y0, y1, y2, .pointer (some ⟨w.heap.size, 0, none⟩), .pointer (some ⟨w.heap.size + 1, 0, none⟩), y5, y6, .int .i64 m, u8, u9, y10, y11, y12, y13, y14, y15, y16, y17, y18, y19, y20, y21, y22, y23, y24, y25, y26, y27, y28, y29, y30, y31, y32, y33, y34, y35, y36, y37, y38, y39, y40, y41, y42, y43, y44, y45, y46, y47, y48, y49, y50, y51, y52, y53, y54, y55, y56, y57, y58, y59, y60, y61, y62, y63, y64, y65, y66, y67, y68, y69, y70, y71, y72, y73, y74, y75, y76, y77, y78, y79, y80, y81, y82, y83, y84, y85, y86, y87, y88, y89, y90, y91, y92, y93, y94, y95, y96, y97, y98, y99, y100, y101, y102, y103, y104, y105, y106, y107, y108, u109, u110, u111, u112, u113, u114, u115, u116, u117, u118, u119, u120, u121, u122, u123, u124, u125, u126, u127, u128, u129, u130, u131, u132, u133, u134, u135, u136, u137, u138, u139, u140, u141, u142, u143, u144, u145, u146, u147, u148, u149, u150, u151, u152, u153, u154, u155, u156, u157, u158, u159, u160, u161, u162, u163, u164, u165, u166, u167, u168, y169], []⟩ w')) (u8 u9 u109 u110 u111 u112 u113 u114 u115 u116 u117 u118 u119 u120 u121 u122 u123 u124 u125 u126 u127 u128 u129 u130 u131 u132 u133 u134 u135 u136 u137 u138 u139 u140 u141 u142 u143 u144 u145 u146 u147 u148 u149 u150 u151 u152 u153 u154 u155 u156 u157 u158 u159 u160 u161 u162 u163 u164 u165 u166 u167 u168 : Value) (wr : World) (hrel : l2R B N nn fb lb db cf cl cd G T w Fl lf lf' du' pf pt tg tc TT en bn m u8 u9 wr) :
    Code.wp Try.prog (Code.loop l2Body) Q0 ⟨#[y0, y1, y2, .pointer (some ⟨w.heap.size, 0, none⟩), .pointer (some ⟨w.heap.size + 1, 0, none⟩), y5, y6, .int .i64 m, u8, u9, y10, y11, y12, y13, y14, y15, y16, y17, y18, y19, y20, y21, y22, y23, y24, y25, y26, y27, y28, y29, y30, y31, y32, y33, y34, y35, y36, y37, y38, y39, y40, y41, y42, y43, y44, y45, y46, y47, y48, y49, y50, y51, y52, y53, y54, y55, y56, y57, y58, y59, y60, y61, y62, y63, y64, y65, y66, y67, y68, y69, y70, y71, y72, y73, y74, y75, y76, y77, y78, y79, y80, y81, y82, y83, y84, y85, y86, y87, y88, y89, y90, y91, y92, y93, y94, y95, y96, y97, y98, y99, y100, y101, y102, y103, y104, y105, y106, y107, y108, u109, u110, u111, u112, u113, u114, u115, u116, u117, u118, u119, u120, u121, u122, u123, u124, u125, u126, u127, u128, u129, u130, u131, u132, u133, u134, u135, u136, u137, u138, u139, u140, u141, u142, u143, u144, u145, u146, u147, u148, u149, u150, u151, u152, u153, u154, u155, u156, u157, u158, u159, u160, u161, u162, u163, u164, u165, u166, u167, u168, y169], []⟩ wr := by
  refine wp_mono (Q := blindQ Q0) ?_ blindQ_le
  refine wp_loop (l2I B N nn fb lb db cf cl cd G T w Fl lf lf' du' pf pt tg tc TT en bn m y0 y1 y2 y5 y6 y10 y11 y12 y13 y14 y15 y16 y17 y18 y19 y20 y21 y22 y23 y24 y25 y26 y27 y28 y29 y30 y31 y32 y33 y34 y35 y36 y37 y38 y39 y40 y41 y42 y43 y44 y45 y46 y47 y48 y49 y50 y51 y52 y53 y54 y55 y56 y57 y58 y59 y60 y61 y62 y63 y64 y65 y66 y67 y68 y69 y70 y71 y72 y73 y74 y75 y76 y77 y78 y79 y80 y81 y82 y83 y84 y85 y86 y87 y88 y89 y90 y91 y92 y93 y94 y95 y96 y97 y98 y99 y100 y101 y102 y103 y104 y105 y106 y107 y108 y169) (l2Mu tc) ?_ ?_
  · unfold l2I; exact ⟨u8, u9, u109, u110, u111, u112, u113, u114, u115, u116, u117, u118, u119, u120, u121, u122, u123, u124, u125, u126, u127, u128, u129, u130, u131, u132, u133, u134, u135, u136, u137, u138, u139, u140, u141, u142, u143, u144, u145, u146, u147, u148, u149, u150, u151, u152, u153, u154, u155, u156, u157, u158, u159, u160, u161, u162, u163, u164, u165, u166, u167, u168, hrel, rfl⟩
  · clear hrel u8 u9 u109 u110 u111 u112 u113 u114 u115 u116 u117 u118 u119 u120 u121 u122 u123 u124 u125 u126 u127 u128 u129 u130 u131 u132 u133 u134 u135 u136 u137 u138 u139 u140 u141 u142 u143 u144 u145 u146 u147 u148 u149 u150 u151 u152 u153 u154 u155 u156 u157 u158 u159 u160 u161 u162 u163 u164 u165 u166 u167 u168
    intro a wr hI
    unfold l2I at hI
    obtain ⟨u8, hI⟩ := hI
    obtain ⟨u9, hI⟩ := hI
    obtain ⟨u109, hI⟩ := hI
    obtain ⟨u110, hI⟩ := hI
    obtain ⟨u111, hI⟩ := hI
    obtain ⟨u112, hI⟩ := hI
    obtain ⟨u113, hI⟩ := hI
    obtain ⟨u114, hI⟩ := hI
    obtain ⟨u115, hI⟩ := hI
    obtain ⟨u116, hI⟩ := hI
    obtain ⟨u117, hI⟩ := hI
    obtain ⟨u118, hI⟩ := hI
    obtain ⟨u119, hI⟩ := hI
    obtain ⟨u120, hI⟩ := hI
    obtain ⟨u121, hI⟩ := hI
    obtain ⟨u122, hI⟩ := hI
    obtain ⟨u123, hI⟩ := hI
    obtain ⟨u124, hI⟩ := hI
    obtain ⟨u125, hI⟩ := hI
    obtain ⟨u126, hI⟩ := hI
    obtain ⟨u127, hI⟩ := hI
    obtain ⟨u128, hI⟩ := hI
    obtain ⟨u129, hI⟩ := hI
    obtain ⟨u130, hI⟩ := hI
    obtain ⟨u131, hI⟩ := hI
    obtain ⟨u132, hI⟩ := hI
    obtain ⟨u133, hI⟩ := hI
    obtain ⟨u134, hI⟩ := hI
    obtain ⟨u135, hI⟩ := hI
    obtain ⟨u136, hI⟩ := hI
    obtain ⟨u137, hI⟩ := hI
    obtain ⟨u138, hI⟩ := hI
    obtain ⟨u139, hI⟩ := hI
    obtain ⟨u140, hI⟩ := hI
    obtain ⟨u141, hI⟩ := hI
    obtain ⟨u142, hI⟩ := hI
    obtain ⟨u143, hI⟩ := hI
    obtain ⟨u144, hI⟩ := hI
    obtain ⟨u145, hI⟩ := hI
    obtain ⟨u146, hI⟩ := hI
    obtain ⟨u147, hI⟩ := hI
    obtain ⟨u148, hI⟩ := hI
    obtain ⟨u149, hI⟩ := hI
    obtain ⟨u150, hI⟩ := hI
    obtain ⟨u151, hI⟩ := hI
    obtain ⟨u152, hI⟩ := hI
    obtain ⟨u153, hI⟩ := hI
    obtain ⟨u154, hI⟩ := hI
    obtain ⟨u155, hI⟩ := hI
    obtain ⟨u156, hI⟩ := hI
    obtain ⟨u157, hI⟩ := hI
    obtain ⟨u158, hI⟩ := hI
    obtain ⟨u159, hI⟩ := hI
    obtain ⟨u160, hI⟩ := hI
    obtain ⟨u161, hI⟩ := hI
    obtain ⟨u162, hI⟩ := hI
    obtain ⟨u163, hI⟩ := hI
    obtain ⟨u164, hI⟩ := hI
    obtain ⟨u165, hI⟩ := hI
    obtain ⟨u166, hI⟩ := hI
    obtain ⟨u167, hI⟩ := hI
    obtain ⟨u168, hI⟩ := hI
    obtain ⟨hrel, rfl⟩ := hI
    obtain ⟨am, bm, F1, Fl1, rfl, rfl, hbmN, hgv, hps, hft, hro, hpm⟩ := hrel
    by_cases hr : 0 < nth lf bm
    · exact l2Root B N nn fb lb db cf cl cd G T w Fl lf lf' du' pf pt tg tc TT en bn m h16 hen HR HRC HF HB HGL HTL hm1 hmM y0 y1 y2 y5 y6 y10 y11 y12 y13 y14 y15 y16 y17 y18 y19 y20 y21 y22 y23 y24 y25 y26 y27 y28 y29 y30 y31 y32 y33 y34 y35 y36 y37 y38 y39 y40 y41 y42 y43 y44 y45 y46 y47 y48 y49 y50 y51 y52 y53 y54 y55 y56 y57 y58 y59 y60 y61 y62 y63 y64 y65 y66 y67 y68 y69 y70 y71 y72 y73 y74 y75 y76 y77 y78 y79 y80 y81 y82 y83 y84 y85 y86 y87 y88 y89 y90 y91 y92 y93 y94 y95 y96 y97 y98 y99 y100 y101 y102 y103 y104 y105 y106 y107 y108 y169 Q0 HEX u109 u110 u111 u112 u113 u114 u115 u116 u117 u118 u119 u120 u121 u122 u123 u124 u125 u126 u127 u128 u129 u130 u131 u132 u133 u134 u135 u136 u137 u138 u139 u140 u141 u142 u143 u144 u145 u146 u147 u148 u149 u150 u151 u152 u153 u154 u155 u156 u157 u158 u159 u160 u161 u162 u163 u164 u165 u166 u167 u168 wr am bm F1 Fl1 hbmN hgv hps hft hro hpm hr
    · exact l2Step B N nn fb lb db cf cl cd G T w Fl lf lf' du' pf pt tg tc TT en bn m h16 hen HR HRC HF HB HGL HTL hm1 hmM y0 y1 y2 y5 y6 y10 y11 y12 y13 y14 y15 y16 y17 y18 y19 y20 y21 y22 y23 y24 y25 y26 y27 y28 y29 y30 y31 y32 y33 y34 y35 y36 y37 y38 y39 y40 y41 y42 y43 y44 y45 y46 y47 y48 y49 y50 y51 y52 y53 y54 y55 y56 y57 y58 y59 y60 y61 y62 y63 y64 y65 y66 y67 y68 y69 y70 y71 y72 y73 y74 y75 y76 y77 y78 y79 y80 y81 y82 y83 y84 y85 y86 y87 y88 y89 y90 y91 y92 y93 y94 y95 y96 y97 y98 y99 y100 y101 y102 y103 y104 y105 y106 y107 y108 y169 Q0 HEX u109 u110 u111 u112 u113 u114 u115 u116 u117 u118 u119 u120 u121 u122 u123 u124 u125 u126 u127 u128 u129 u130 u131 u132 u133 u134 u135 u136 u137 u138 u139 u140 u141 u142 u143 u144 u145 u146 u147 u148 u149 u150 u151 u152 u153 u154 u155 u156 u157 u158 u159 u160 u161 u162 u163 u164 u165 u166 u167 u168 wr am bm F1 Fl1 hbmN hgv hps hft hro hpm hr

end Go.Proofs.Ytjmfjgoehicgcaa
