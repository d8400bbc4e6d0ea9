/- What the reference's search reaches: the program. -/
import Derived.Test.YtjmfjgoehicgcaaMgDD
import Derived.Test.YtjmfjgoehicgcaaMgZF
import Derived.Test.YtjmfjgoehicgcaaIC
set_option linter.unusedVariables false
set_option linter.unusedSimpArgs false
namespace Go.Proofs.Ytjmfjgoehicgcaa
open Go.RowKit

def FlT : TypeId := 64
def PlT : TypeId := 97

/-- A table that lies row behind row. -/
def tab (N : Nat) (fl : List Int) : Nat → Nat → Int := fun b a => if b < N ∧ a < N then nth fl (N * b + a) else 0
theorem tab_at {N : Nat} {fl : List Int} {b a : Nat} (hb : b < N) (ha : a < N) : tab N fl b a = nth fl (N * b + a) := if_pos ⟨hb, ha⟩

theorem wrapM {x : Int} {n : Nat} (h : x = (n : Int)) (hn : n ≤ 300) : wrap64 x = (n : Int) := by
  subst h
  exact IntWalk.wrap64_in _ ⟨by omega, by omega⟩
theorem wrapI {x : Int} {n : Nat} (h : x = (n : Int)) (hn : n ≤ 300) : IntKind.i64.wrap x = (n : Int) := by
  subst h
  exact IntWalk.i64_in _ (by omega)

theorem tab_lt {N a b : Nat} (ha : a < N) (hb : b < N) : N * b + a < N * N := by
  have h1 : N * (b + 1) ≤ N * N := Nat.mul_le_mul_left N hb
  rw [Nat.mul_succ] at h1
  omega

theorem idx_facts {N a b : Nat} (h16 : N ≤ 16) (ha : a < N) (hb : b < N) : ∃ nb i1 : Nat, nb = N * b ∧ i1 = N * b + a ∧ i1 < N * N ∧ Hid (wrap64 ((N : Int) * (b : Int)) = (nb : Int) ∧ wrap64 ((nb : Int) + (a : Int)) = (i1 : Int) ∧ IntKind.i64.wrap ((N : Int) * (b : Int)) = (nb : Int) ∧ IntKind.i64.wrap ((nb : Int) + (a : Int)) = (i1 : Int)) := by
  have hlt := tab_lt ha hb
  have h256 : N * N ≤ 256 := Nat.mul_le_mul h16 h16
  have h1 : N * b ≤ 300 := by omega
  have h2 : N * b + a ≤ 300 := by omega
  exact ⟨N * b, N * b + a, rfl, rfl, hlt, Lib.hid ⟨wrapM (by rw [Int.natCast_mul]) h1, wrapM (by rw [Int.natCast_add]) h2, wrapI (by rw [Int.natCast_mul]) h1, wrapI (by rw [Int.natCast_add]) h2⟩⟩

theorem tab_inj {N a b x y : Nat} (ha : a < N) (hy : y < N) (h : N * x + y = N * b + a) : x = b ∧ y = a := by
  have e1 : (N * x + y) / N = x := by rw [Nat.mul_add_div (by omega), Nat.div_eq_of_lt hy]; rfl
  have e2 : (N * b + a) / N = b := by rw [Nat.mul_add_div (by omega), Nat.div_eq_of_lt ha]; rfl
  have : x = b := by rw [← e1, ← e2, h]
  subst this
  exact ⟨rfl, by omega⟩

theorem tab_set {N : Nat} {fl : List Int} {b a : Nat} (hl : fl.length = N * N) (hb : b < N) (ha : a < N) (v : Int) : tab N (fl.set (N * b + a) v) = upd (tab N fl) b a v := by
  funext x y
  have hlt := tab_lt ha hb
  by_cases hx : x < N ∧ y < N
  · rw [tab_at hx.1 hx.2, nth_setv _ _ _ (by omega)]
    by_cases e : x = b ∧ y = a
    · obtain ⟨rfl, rfl⟩ := e
      rw [upv_same, upd_same]
    · rw [upv_off _ _ _ _ (fun q => e (tab_inj ha hx.2 q)), upd_off _ _ _ _ _ _ e, tab_at hx.1 hx.2]
  · have e1 : tab N (fl.set (N * b + a) v) x y = 0 := if_neg hx
    have e2 : tab N fl x y = 0 := if_neg hx
    rw [e1, upd_off _ _ _ _ _ _ (fun q => hx ⟨by omega, by omega⟩), e2]

theorem newAt (w : World) (cs : Array Value) (t : TypeId) (k : Nat) (v : Value) (h : cs[k]? = some v) : (w.alloc (.cells cs t)).cell? ⟨w.heap.size, k, none⟩ = some v := by
  rw [World.cell?_alloc_at _ _ _ _ rfl]; exact h

/-- The box of a reference's flow. -/
structure Bx (w : World) (b : Nat) (v0 v1 v2 v3 : Value) : Prop where
  c0 : w.cell? ⟨b, 0, none⟩ = some v0
  c1 : w.cell? ⟨b, 1, none⟩ = some v1
  c2 : w.cell? ⟨b, 2, none⟩ = some v2
  c3 : w.cell? ⟨b, 3, none⟩ = some v3
theorem Bx.made (w : World) (v0 v1 v2 v3 : Value) (t : TypeId) : Bx (w.alloc (.cells #[v0, v1, v2, v3] t)) w.heap.size v0 v1 v2 v3 := ⟨newAt _ _ _ _ _ rfl, newAt _ _ _ _ _ rfl, newAt _ _ _ _ _ rfl, newAt _ _ _ _ _ rfl⟩
theorem Bx.later {w w' : World} {b : Nat} {v0 v1 v2 v3 : Value} (h : Bx w b v0 v1 v2 v3) (hb : Below w.heap.size w w') : Bx w' b v0 v1 v2 v3 := ⟨cellKeep hb h.c0, cellKeep hb h.c1, cellKeep hb h.c2, cellKeep hb h.c3⟩
theorem Bx.lt {w : World} {b : Nat} {v0 v1 v2 v3 : Value} (h : Bx w b v0 v1 v2 v3) : b < w.heap.size := World.block_lt_of_cell? w _ h.c0

/-- The memory of the reference's search. -/
structure RM (N : Nat) (w wr : World) (B P R G T : Nat) (a0 a1 a2 a3 : Value) (pf pt : List Int) : Prop where
  gl : pf.length = N
  tl : pt.length = N
  og : Own w.heap.size wr (.slice (some ⟨G, 0, none⟩) N N) pf
  ot : Own w.heap.size wr (.slice (some ⟨T, 0, none⟩) N N) pt
  gt : G ≠ T
  gb : G ≠ B
  gp : G ≠ P
  gr : G ≠ R
  tb : T ≠ B
  tp : T ≠ P
  tr : T ≠ R
  c0 : wr.cell? ⟨B, 0, none⟩ = some a0
  c1 : wr.cell? ⟨B, 1, none⟩ = some a1
  c2 : wr.cell? ⟨B, 2, none⟩ = some a2
  c3 : wr.cell? ⟨B, 3, none⟩ = some a3
  p0 : wr.cell? ⟨P, 0, none⟩ = some (.slice (some ⟨G, 0, none⟩) N N)
  p1 : wr.cell? ⟨P, 1, none⟩ = some (.slice (some ⟨T, 0, none⟩) N N)
  r0 : wr.cell? ⟨R, 0, none⟩ = some (.slice none 0 0)
  r1 : wr.cell? ⟨R, 1, none⟩ = some (.slice none 0 0)
  f0 : wr.frozen? ⟨R, 0, none⟩ = false
  f1 : wr.frozen? ⟨R, 1, none⟩ = false
  rb : w.heap.size ≤ R
  rl : R < wr.heap.size
  bl : Below w.heap.size w wr

theorem cellOf {w : World} {p : Addr} {b o : Nat} {v u : Value} (h : w.cell? ⟨b, o, none⟩ = some v) (hne : p.block ≠ b) : (w.setCell p u).cell? ⟨b, o, none⟩ = some v := by
  rw [World.cell?_setCell_other _ _ _ _ (fun e => hne (by rw [e]))]; exact h

theorem RM.setG {N : Nat} {w wr : World} {B P R G T : Nat} {a0 a1 a2 a3 : Value} {pf pt : List Int} (h : RM N w wr B P R G T a0 a1 a2 a3 pf pt) (k : Nat) (y : Int) : RM N w (wr.setCell ⟨G, k, none⟩ (.int .i64 y)) B P R G T a0 a1 a2 a3 (pf.set k y) pt := by
  have hG := (h.og.blockLt G rfl).1
  exact ⟨by rw [List.length_set]; exact h.gl, h.tl, h.og.storedAt h.gl k y, h.ot.setOther ⟨G, k, none⟩ h.gt _, h.gt, h.gb, h.gp, h.gr, h.tb, h.tp, h.tr, cellOf h.c0 h.gb, cellOf h.c1 h.gb, cellOf h.c2 h.gb, cellOf h.c3 h.gb, cellOf h.p0 h.gp, cellOf h.p1 h.gp, cellOf h.r0 h.gr, cellOf h.r1 h.gr,
    by rw [World.frozen?_setCell]; exact h.f0, by rw [World.frozen?_setCell]; exact h.f1, h.rb, by simp; exact h.rl, h.bl.setCell hG _⟩

theorem RM.setT {N : Nat} {w wr : World} {B P R G T : Nat} {a0 a1 a2 a3 : Value} {pf pt : List Int} (h : RM N w wr B P R G T a0 a1 a2 a3 pf pt) (k : Nat) (y : Int) : RM N w (wr.setCell ⟨T, k, none⟩ (.int .i64 y)) B P R G T a0 a1 a2 a3 pf (pt.set k y) := by
  have hT := (h.ot.blockLt T rfl).1
  exact ⟨h.gl, by rw [List.length_set]; exact h.tl, h.og.setOther ⟨T, k, none⟩ h.gt.symm _, h.ot.storedAt h.tl k y, h.gt, h.gb, h.gp, h.gr, h.tb, h.tp, h.tr, cellOf h.c0 h.tb, cellOf h.c1 h.tb, cellOf h.c2 h.tb, cellOf h.c3 h.tb, cellOf h.p0 h.tp, cellOf h.p1 h.tp, cellOf h.r0 h.tr, cellOf h.r1 h.tr,
    by rw [World.frozen?_setCell]; exact h.f0, by rw [World.frozen?_setCell]; exact h.f1, h.rb, by simp; exact h.rl, h.bl.setCell hT _⟩

theorem RM.two {N : Nat} {w W Y : World} {P G T : Nat} {a0 a1 a2 a3 x y : Value} (hbW : Below w.heap.size w W) (hsz : W.heap.size = w.heap.size + 2) (hbx : Bx W w.heap.size a0 a1 a2 a3)
    (r0 : W.cell? ⟨w.heap.size + 1, 0, none⟩ = some (.slice none 0 0)) (r1 : W.cell? ⟨w.heap.size + 1, 1, none⟩ = some (.slice none 0 0)) (f0 : W.frozen? ⟨w.heap.size + 1, 0, none⟩ = false) (f1 : W.frozen? ⟨w.heap.size + 1, 1, none⟩ = false)
    (hY : Below W.heap.size W Y) (og : Own W.heap.size Y (.slice (some ⟨G, 0, none⟩) N N) (zeros N)) (ot : Own W.heap.size Y (.slice (some ⟨T, 0, none⟩) N N) (zeros N)) (gt : G ≠ T) (gp : G ≠ P) (tp : T ≠ P) (pb : W.heap.size ≤ P) (p0 : Y.cell? ⟨P, 0, none⟩ = some x) (p1 : Y.cell? ⟨P, 1, none⟩ = some y) :
    RM N w ((Y.setCell ⟨P, 0, none⟩ (.slice (some ⟨G, 0, none⟩) N N)).setCell ⟨P, 1, none⟩ (.slice (some ⟨T, 0, none⟩) N N)) w.heap.size P (w.heap.size + 1) G T a0 a1 a2 a3 (zeros N) (zeros N) := by
  have g0 := (og.blockLt G rfl).1
  have t0 := (ot.blockLt T rfl).1
  have hbx2 := hbx.later hY
  have hs := hY.size
  have key : ∀ {b o : Nat} {v : Value}, b < W.heap.size → Y.cell? ⟨b, o, none⟩ = some v → ((Y.setCell ⟨P, 0, none⟩ (.slice (some ⟨G, 0, none⟩) N N)).setCell ⟨P, 1, none⟩ (.slice (some ⟨T, 0, none⟩) N N)).cell? ⟨b, o, none⟩ = some v := fun hb h => cellOf (cellOf h (by show P ≠ _; omega)) (by show P ≠ _; omega)
  refine ⟨zeros_len _, zeros_len _, ((og.mono (by omega)).setOther ⟨P, 0, none⟩ gp.symm _).setOther ⟨P, 1, none⟩ gp.symm _, ((ot.mono (by omega)).setOther ⟨P, 0, none⟩ tp.symm _).setOther ⟨P, 1, none⟩ tp.symm _, gt, by omega, gp, by omega, by omega, tp, by omega,
    key (by omega) hbx2.c0, key (by omega) hbx2.c1, key (by omega) hbx2.c2, key (by omega) hbx2.c3, ?_, ?_, key (by omega) (cellKeep hY r0), key (by omega) (cellKeep hY r1), ?_, ?_, by omega, by simp; omega, ?_⟩
  · exact cellOff (World.cell?_setCell_same _ _ _ p0) (by simp)
  · exact World.cell?_setCell_same _ _ _ (cellOff p1 (by simp))
  · rw [World.frozen?_setCell, World.frozen?_setCell]; exact frozKeep hY (by omega) f0
  · rw [World.frozen?_setCell, World.frozen?_setCell]; exact frozKeep hY (by omega) f1
  · exact ((hbW.thenB hY).setCell (p := ⟨P, 0, none⟩) (by show _ ≤ P; omega) _).setCell (p := ⟨P, 1, none⟩) (by show _ ≤ P; omega) _

theorem RM.one {N : Nat} {w W Y : World} {G T : Nat} {a0 a1 a2 a3 : Value} {t : TypeId} (hbW : Below w.heap.size w W) (hsz : W.heap.size = w.heap.size + 2) (hbx : Bx W w.heap.size a0 a1 a2 a3)
    (r0 : W.cell? ⟨w.heap.size + 1, 0, none⟩ = some (.slice none 0 0)) (r1 : W.cell? ⟨w.heap.size + 1, 1, none⟩ = some (.slice none 0 0)) (f0 : W.frozen? ⟨w.heap.size + 1, 0, none⟩ = false) (f1 : W.frozen? ⟨w.heap.size + 1, 1, none⟩ = false)
    (hY : Below W.heap.size W Y) (og : Own W.heap.size Y (.slice (some ⟨G, 0, none⟩) N N) (zeros N)) (ot : Own W.heap.size Y (.slice (some ⟨T, 0, none⟩) N N) (zeros N)) (gt : G ≠ T) :
    RM N w (Y.alloc (.cells #[.slice (some ⟨G, 0, none⟩) N N, .slice (some ⟨T, 0, none⟩) N N] t)) w.heap.size Y.heap.size (w.heap.size + 1) G T a0 a1 a2 a3 (zeros N) (zeros N) := by
  have g0 := og.blockLt G rfl
  have t0 := ot.blockLt T rfl
  have hY2 := hY.thenB (belowAlloc Y (.cells #[.slice (some ⟨G, 0, none⟩) N N, .slice (some ⟨T, 0, none⟩) N N] t))
  have hbx2 := hbx.later hY2
  have hs := hY.size
  exact ⟨zeros_len _, zeros_len _, (og.mono (by omega)).later (belowAlloc _ _), (ot.mono (by omega)).later (belowAlloc _ _), gt, by omega, by omega, by omega, by omega, by omega, by omega,
    hbx2.c0, hbx2.c1, hbx2.c2, hbx2.c3, newCell0 _ _ _ _, newCell1 _ _ _ _, cellKeep hY2 r0, cellKeep hY2 r1, frozKeep hY2 (by omega) f0, frozKeep hY2 (by omega) f1, by omega, by simp; omega, hbW.thenB hY2⟩

theorem Ini.go {lf : Nat → Int} {N : Nat} {pf : List Int} {k : Nat} (hl : pf.length = N) (hk : k < N) (h : ∀ x, nth pf x = if x < k ∧ 0 < lf x then 100 else 0) (hp : 0 < lf k) : ∀ x, nth (pf.set k 100) x = if x < k + 1 ∧ 0 < lf x then 100 else 0 := fun x => by
  rw [nth_setv _ _ _ (by omega)]
  by_cases e : x = k
  · subst e; rw [upv_same, if_pos ⟨by omega, hp⟩]
  · rw [upv_off _ _ _ _ e, h x]
    by_cases q : 0 < lf x
    · by_cases z : x < k
      · rw [if_pos ⟨z, q⟩, if_pos ⟨by omega, q⟩]
      · rw [if_neg (fun c => z c.1), if_neg (fun c => z (by omega))]
    · rw [if_neg (fun c => q c.2), if_neg (fun c => q c.2)]

theorem Ini.no {lf : Nat → Int} {pf : List Int} {k : Nat} (h : ∀ x, nth pf x = if x < k ∧ 0 < lf x then 100 else 0) (hp : ¬ 0 < lf k) : ∀ x, nth pf x = if x < k + 1 ∧ 0 < lf x then 100 else 0 := fun x => by
  rw [h x]
  by_cases q : 0 < lf x
  · have hne : x ≠ k := fun e => hp (by rw [← e]; exact q)
    by_cases z : x < k
    · rw [if_pos ⟨z, q⟩, if_pos ⟨by omega, q⟩]
    · rw [if_neg (fun c => z c.1), if_neg (fun c => z (by omega))]
  · rw [if_neg (fun c => q c.2), if_neg (fun c => q c.2)]

def Ini (lf : Nat → Int) (pf : List Int) (k : Nat) : Prop := ∀ x, nth pf x = if x < k ∧ 0 < lf x then 100 else 0

/-- Behind a sweep. -/
structure OutS (N : Nat) (F : Nat → Nat → Int) (lf pf pt : Nat → Int) (ch : Bool) : Prop where
  rch : ∃ tg tc T, Rch N F lf pf pt tg tc T
  clo : ch = false → Rchd N F lf pf pt

theorem Swp.out {N : Nat} {F : Nat → Nat → Int} {lf pf pt : Nat → Int} {c0 : Int} {ch : Bool} (h : Swp N F lf pf pt c0 ch N 0) : OutS N F lf pf pt ch ∧ (cnt2 N pf pt).toNat + ch.toNat ≤ c0.toNat := by
  have hn := cnt2_nn N pf pt
  refine ⟨⟨h.rch, fun e => by subst e; exact h.done⟩, ?_⟩
  cases ch with
  | false => have := h.le; simp; omega
  | true => have := h.yes rfl; simp; omega

/-- What 'l8Reach' gives. -/
def ReachPost (N : Nat) (F : Nat → Nat → Int) (lf : Nat → Int) (w : World) (e : Ending) (w' : World) : Prop :=
  ∃ (G T : Nat) (pf pt : List Int), e = .returned (.agg #[.slice (some ⟨G, 0, none⟩) N N, .slice (some ⟨T, 0, none⟩) N N]) ∧ pf.length = N ∧ pt.length = N ∧ Own w.heap.size w' (.slice (some ⟨G, 0, none⟩) N N) pf ∧ Own w.heap.size w' (.slice (some ⟨T, 0, none⟩) N N) pt ∧
    Rchd N F lf (nth pf) (nth pt) ∧ Below w.heap.size w w'

/-- Ways that come to one state. -/
theorem shareW {R : Nat → Nat → Nat → World → Prop} {Q : Nat → Nat → Nat → World → Prop} {Z : Prop} (h : (∀ a b c w, Hid (R a b c w) → Q a b c w) → Z) (k : ∀ a b c w, Hid (R a b c w) → Q a b c w) : Z := h k

set_option maxHeartbeats 16000000 in
set_option maxRecDepth 100000 in
theorem l8Reach_any (N : Nat) (w : World) (h1 : 1 ≤ N) (h16 : N ≤ 16) (pF pL pD : Option Addr) (cF cL cD nD : Nat) (Fl Lf : List Int) (hF : Reads w pF Fl) (hL : Reads w pL Lf) (hFl : Fl.length = N * N) (hLl : Lf.length = N) (hs : ∀ b a, b < N → a < N → subB a b = false → tab N Fl b a = 0) :
    Calls Try.prog 94 #[.agg #[.int .i64 N, .slice pF Fl.length cF, .slice pL Lf.length cL, .slice pD nD cD]] w (ReachPost N (tab N Fl) (nth Lf) w) := by
  obtain ⟨mf, hmf⟩ := makeFn N (by omega)
  have hrun := fun w => (hmf w).1
  have HMF := Lib.hid hmf
  have HF := Lib.hid hF
  have HL := Lib.hid hL
  have HFL := Lib.hid hFl
  have HLL := Lib.hid hLl
  have HS := Lib.hid hs
  clear hmf hF hL hFl hLl hs
  go_enter Try.func94, Try.ntmps94
  go_wp2_with fail
  obtain ⟨W, hW⟩ : ∃ W : World, W = (w.alloc (.cells #[.int .i64 (N : Int), .slice pF Fl.length cF, .slice pL Lf.length cL, .slice pD nD cD] FlT)).alloc (.cells #[.slice none 0 0, .slice none 0 0] PlT) := ⟨_, rfl⟩
  rw [FlT, PlT] at hW
  rw [← hW]
  have hbW : Below w.heap.size w W := by rw [hW]; exact (belowAlloc w _).thenB (belowAlloc _ _)
  have hszW : W.heap.size = w.heap.size + 2 := by rw [hW]; simp
  have hbx : Bx W w.heap.size (.int .i64 (N : Int)) (.slice pF Fl.length cF) (.slice pL Lf.length cL) (.slice pD nD cD) := by rw [hW]; exact (Bx.made _ _ _ _ _ _).later (belowAlloc _ _)
  have c0 := hbx.c0
  have c0 := hbx.c0
  obtain ⟨-, -, hbA, hlA⟩ := HMF.out W.drew
  replace hbA := undrew hbA
  replace hlA : W.heap.size < (mf W.drew).heap.size := hlA
  have cA := cellKeep hbA c0
  obtain ⟨-, -, hbB, hlB⟩ := HMF.out (W.alloc (.cells #[.slice none 0 0, .slice none 0 0] 97)).drew
  replace hbB := undrew hbB
  have cB := cellKeep ((belowAlloc W (.cells #[.slice none 0 0, .slice none 0 0] 97)).thenB hbB) c0
  obtain ⟨-, -, hbC, hlC⟩ := HMF.out (mf (W.alloc (.cells #[.slice none 0 0, .slice none 0 0] 97)).drew)
  replace hbC := hbB.thenB hbC
  have pa0 := cellKeep hbC (newCell0 W (.slice none 0 0) (.slice none 0 0) 97)
  have pa1 := cellKeep hbC (newCell1 W (.slice none 0 0) (.slice none 0 0) 97)
  have pa2 := frozKeep (o := 0) hbC (by simp) (newFroz W #[.slice none 0 0, .slice none 0 0] 97 0)
  have pa3 := frozKeep (o := 1) hbC (by simp) (newFroz W #[.slice none 0 0, .slice none 0 0] 97 1)
  obtain ⟨-, -, hbD, hlD⟩ := HMF.out ((mf W.drew).alloc (.cells #[.slice none 0 0, .slice none 0 0] 97))
  have pb0 := cellKeep hbD (newCell0 (mf W.drew) (.slice none 0 0) (.slice none 0 0) 97)
  have pb1 := cellKeep hbD (newCell1 (mf W.drew) (.slice none 0 0) (.slice none 0 0) 97)
  have pb2 := frozKeep (o := 0) hbD (by simp) (newFroz (mf W.drew) #[.slice none 0 0, .slice none 0 0] 97 0)
  have pb3 := frozKeep (o := 1) hbD (by simp) (newFroz (mf W.drew) #[.slice none 0 0, .slice none 0 0] 97 1)
  have hR0 : W.cell? ⟨w.heap.size + 1, 0, none⟩ = some (.slice none 0 0) := by rw [hW]; simp
  have hR1 : W.cell? ⟨w.heap.size + 1, 1, none⟩ = some (.slice none 0 0) := by rw [hW]; simp
  have hR2 : W.frozen? ⟨w.heap.size + 1, 0, none⟩ = false := by rw [hW]; simp
  have hR3 : W.frozen? ⟨w.heap.size + 1, 1, none⟩ = false := by rw [hW]; simp
  have HRR := Lib.hid (And.intro hR0 (And.intro hR1 (And.intro hR2 hR3)))
  have oA1 := (HMF.out W.drew).2.1 W.heap.size (Nat.le_refl _)
  have oB1 := (HMF.out (mf W.drew)).2.1 W.heap.size (by omega)
  have bB1 := (HMF.out (mf W.drew)).2.2.1
  have HB := Lib.hid (And.intro (hbA.thenB bB1) (And.intro (oA1.later bB1) oB1))
  have oD1 := (HMF.out ((mf W.drew).alloc (.cells #[.slice none 0 0, .slice none 0 0] 97))).2.1 W.heap.size (by simp; omega)
  have HA := Lib.hid (And.intro (hbA.thenB ((belowAlloc _ _).thenB hbD)) (And.intro ((oA1.later (belowAlloc _ _)).later hbD) (And.intro oD1 (And.intro pb0 pb1))))
  have oC1 := (HMF.out (W.alloc (.cells #[.slice none 0 0, .slice none 0 0] 97)).drew).2.1 W.heap.size (by show _ ≤ (W.alloc (.cells #[.slice none 0 0, .slice none 0 0] 97)).heap.size; simp)
  have oC2 := (HMF.out (mf (W.alloc (.cells #[.slice none 0 0, .slice none 0 0] 97)).drew)).2.1 W.heap.size (by have : (W.alloc (.cells #[.slice none 0 0, .slice none 0 0] 97)).heap.size < _ := hlB; simp at this; omega)
  have HC := Lib.hid (And.intro ((belowAlloc W (.cells #[.slice none 0 0, .slice none 0 0] 97)).thenB hbC) (And.intro (oC1.later (HMF.out (mf (W.alloc (.cells #[.slice none 0 0, .slice none 0 0] 97)).drew)).2.2.1) (And.intro oC2 (And.intro pa0 pa1))))
  have hlB2 : W.heap.size + 1 < (mf (W.alloc (.cells #[.slice none 0 0, .slice none 0 0] 97)).drew).heap.size := by have : (W.alloc (.cells #[.slice none 0 0, .slice none 0 0] 97)).heap.size < _ := hlB; simpa using this
  have HLB := Lib.hid hlB2
  have HLA := Lib.hid hlA
  clear hR0 hR1 hR2 hR3 oA1 oB1 bB1 oC1 oC2 oD1 hlB2
  clear hbA hbB hbC hbD hlB hlC hlD
  
  have HBX := Lib.hid hbx
  have HSZ := Lib.hid hszW
  have HBW := Lib.hid hbW
  have hlt0 : w.heap.size < W.heap.size := by omega
  have hlt2 : w.heap.size < (mf W.drew).heap.size := by omega
  clear hbx hszW hbW hW
  clear hlA
  apply shareW (R := fun G T P wB => RM N w wB w.heap.size P (w.heap.size + 1) G T (.int .i64 (N : Int)) (.slice pF Fl.length cF) (.slice pL Lf.length cL) (.slice pD nD cD) (zeros N) (zeros N))
  · intro key
    go_region
    · have HX : Hid (RM N w ((mf (mf W.drew)).alloc (.cells #[.slice (some ⟨W.heap.size, 0, none⟩) N N, .slice (some ⟨(mf W.drew).heap.size, 0, none⟩) N N] 97)) w.heap.size (mf (mf W.drew)).heap.size (w.heap.size + 1) W.heap.size (mf W.drew).heap.size (.int .i64 (N : Int)) (.slice pF Fl.length cF) (.slice pL Lf.length cL) (.slice pD nD cD) (zeros N) (zeros N)) := Lib.hid (by have h0 := HSZ.out; have h2 := HLA.out; obtain ⟨q1, q2, q3⟩ := HB.out; obtain ⟨r1, r2, r3, r4⟩ := HRR.out; exact RM.one HBW.out h0 HBX.out r1 r2 r3 r4 q1 q2 q3 (by omega))
      revert HX
      generalize (mf (mf W.drew)).alloc (.cells #[.slice (some ⟨W.heap.size, 0, none⟩) N N, .slice (some ⟨(mf W.drew).heap.size, 0, none⟩) N N] 97) = wB
      generalize (mf (mf W.drew)).heap.size = P
      generalize (mf W.drew).heap.size = T
      generalize W.heap.size = G
      intro HX
      exact key G T P wB HX
    all_goals
      refine key _ _ _ _ (Lib.hid ?_)
      have h0 := HSZ.out
      have h2 := HLA.out
      have h3 := HLB.out
      obtain ⟨r1, r2, r3, r4⟩ := HRR.out
      first
        | (obtain ⟨q1, q2, q3, q4, q5⟩ := HA.out; exact RM.two HBW.out h0 HBX.out r1 r2 r3 r4 q1 (by simpa using q3) q2 (by omega) (by omega) (by omega) (by omega) q4 q5)
        | (obtain ⟨q1, q2, q3, q4, q5⟩ := HC.out; exact RM.two HBW.out h0 HBX.out r1 r2 r3 r4 q1 (by simpa using q2) q3 (by omega) (by omega) (by omega) (by omega) q4 q5)
        | (obtain ⟨q1, q2, q3, q4, q5⟩ := HC.out; exact RM.two HBW.out h0 HBX.out r1 r2 r3 r4 q1 q3 (by simpa using q2) (by omega) (by omega) (by omega) (by omega) q4 q5)
        | (obtain ⟨q1, q2, q3, q4, q5⟩ := HA.out; exact RM.two HBW.out h0 HBX.out r1 r2 r3 r4 q1 q2 (by simpa using q3) (by omega) (by omega) (by omega) (by omega) q4 q5)
        | (obtain ⟨q1, q2, q3⟩ := HB.out; exact RM.one HBW.out h0 HBX.out r1 r2 r3 r4 q1 q2 q3 (by omega))
        | (obtain ⟨q1, q2, q3⟩ := HB.out; exact RM.one HBW.out h0 HBX.out r1 r2 r3 r4 q1 q3 q2 (by omega))
  intro G T P wB HRM
  clear HB HA HC HRR HLA HLB HSZ HBX HBW HMF hrun cA cB pa0 pa1 pa2 pa3 pb0 pb1 pb2 pb3 c0 hlt0 hlt2
  clear mf
  go_wp2_with fail
  go_loopw [4] (fun i wr => ∃ (k : Nat) (pf : List Int), k ≤ N ∧ i = .int .i64 k ∧ Ini (nth Lf) pf k ∧ RM N w wr w.heap.size P (w.heap.size + 1) G T (.int .i64 (N : Int)) (.slice pF Fl.length cF) (.slice pL Lf.length cL) (.slice pD nD cD) pf (zeros N)) (fun i _ => N - (intOf i).toNat)
  case atStart => exact ⟨0, zeros N, Nat.zero_le _, rfl, fun x => by rw [zeros_nth0, if_neg (fun c => Nat.not_lt_zero _ c.1)], HRM.out⟩
  case round =>
    clear HRM
    obtain ⟨k, pf, hk, rfl, hini, hm⟩ := hrel
    have HI := Lib.hid hini
    have c0 := hm.c0
    have c2 := hm.c2
    have p0 := hm.p0
    have bl := hm.bl
    clear hini
    by_cases hkN : k < N
    · obtain ⟨bb, oo, rfl, hlt, hc⟩ := (HL.out.below bl) k (by rw [HLL.out]; exact hkN)
      obtain ⟨q1, q2⟩ := hm.og.cellAt hm.gl k hkN
      obtain ⟨V, hV⟩ : ∃ V, V = nth Lf k := ⟨_, rfl⟩
      rw [← hV] at hc
      have HV := Lib.hid hV
      have HM := Lib.hid hm
      have hkz : (k : Int) < (N : Int) := by omega
      have hkl : (k : Int) < (Lf.length : Int) := by rw [HLL.out]; omega
      clear hV hm bl
      by_cases hv : 0 < V
      · go_wp2
        exact ⟨⟨k + 1, pf.set k 100, by omega, by go_num, Ini.go HM.out.gl hkN HI.out (by rw [← HV.out]; exact hv), HM.out.setG k 100⟩, by simp [intOf]; omega⟩
      · go_wp2
        exact ⟨⟨k + 1, pf, by omega, by go_num, Ini.no HI.out (by rw [← HV.out]; exact hv), HM.out⟩, by simp [intOf]; omega⟩
    · have hkE : N = k := by omega
      subst hkE
      have hout : OutS N (tab N Fl) (nth Lf) (nth pf) (nth (zeros N)) true := ⟨⟨_, _, _, Rch.start (fun b hb => by rw [HI.out b]; by_cases q : 0 < nth Lf b <;> simp [q, hb]) (fun a ha => zeros_nth0 _ _)⟩, fun h => by cases h⟩
      have HO := Lib.hid hout
      have HM := Lib.hid hm
      clear hout hm bl HI p0 c2
      go_wp2_with fail
      clear c0
      go_loopg [5] (2 + (cnt2 N (nth pf) (nth (zeros N))).toNat) (fun gm c wr => ∃ (ch : Bool) (pf pt : List Int), c = .bool ch ∧ OutS N (tab N Fl) (nth Lf) (nth pf) (nth pt) ch ∧ RM N w wr w.heap.size P (w.heap.size + 1) G T (.int .i64 (N : Int)) (.slice pF Fl.length cF) (.slice pL Lf.length cL) (.slice pD nD cD) pf pt ∧ (cnt2 N (nth pf) (nth pt)).toNat + ch.toNat ≤ gm)
      case atStart => exact ⟨true, pf, zeros N, rfl, HO.out, HM.out, by simp; omega⟩
      case round =>
        clear HO HM
        obtain ⟨ch, pf, pt, rfl, hout, hm, hgm⟩ := hrel
        cases ch
        · have hrd := hout.clo rfl
          have HRD := Lib.hid hrd
          have HM := Lib.hid hm
          have p0 := hm.p0
          have p1 := hm.p1
          have r0 := hm.r0
          have r1 := hm.r1
          have f0 := hm.f0
          have f1 := hm.f1
          clear hrd hm hout hgm
          go_wp2
          refine bodyPost_ret (v := .agg #[.slice (some ⟨G, 0, none⟩) N N, .slice (some ⟨T, 0, none⟩) N N]) (by simp [results, Try.results94, go_sem, r0, r1, f0, f1]) rfl ⟨G, T, pf, pt, rfl, HM.out.gl, HM.out.tl, ?_, ?_, HRD.out, ?_⟩
          · exact (HM.out.og.setOther ⟨w.heap.size + 1, 0, none⟩ HM.out.gr.symm _).setOther ⟨w.heap.size + 1, 1, none⟩ HM.out.gr.symm _
          · exact (HM.out.ot.setOther ⟨w.heap.size + 1, 0, none⟩ HM.out.tr.symm _).setOther ⟨w.heap.size + 1, 1, none⟩ HM.out.tr.symm _
          · exact (HM.out.bl.setCell (p := ⟨w.heap.size + 1, 0, none⟩) HM.out.rb _).setCell (p := ⟨w.heap.size + 1, 1, none⟩) HM.out.rb _
        · obtain ⟨C0, hC0⟩ : ∃ C0, C0 = cnt2 N (nth pf) (nth pt) := ⟨_, rfl⟩
          have hsw : Swp N (tab N Fl) (nth Lf) (nth pf) (nth pt) C0 false 0 0 := by obtain ⟨tg, tc, TT, R⟩ := hout.rch; rw [hC0]; exact Swp.first R
          have hgm2 : C0.toNat + 1 ≤ gk := by rw [hC0]; exact hgm
          have HSW := Lib.hid hsw
          have HM := Lib.hid hm
          have HGM := Lib.hid hgm2
          clear hsw hm hout hgm hgm2 hC0
          go_wp2_with fail
          go_loopw [5, 6] (fun c i wr => ∃ (ch : Bool) (b : Nat) (pf pt : List Int), b ≤ N ∧ c = .bool ch ∧ i = .int .i64 b ∧ Swp N (tab N Fl) (nth Lf) (nth pf) (nth pt) C0 ch b 0 ∧ RM N w wr w.heap.size P (w.heap.size + 1) G T (.int .i64 (N : Int)) (.slice pF Fl.length cF) (.slice pL Lf.length cL) (.slice pD nD cD) pf pt) (fun _ i _ => N - (intOf i).toNat)
          case atStart => exact ⟨false, 0, pf, pt, Nat.zero_le _, rfl, rfl, HSW.out, HM.out⟩
          case round =>
            clear HSW HM
            obtain ⟨ch, b, pf, pt, hb, rfl, rfl, hsw, hm⟩ := hrel
            have HSW := Lib.hid hsw
            have HM := Lib.hid hm
            have c0 := hm.c0
            clear hsw hm
            by_cases hbN : b < N
            rotate_left
            · have hbE : b = N := by omega
              have hso := (show Swp N (tab N Fl) (nth Lf) (nth pf) (nth pt) C0 ch N 0 from by have h := HSW.out; rw [hbE] at h; exact h).out
              have HSO := Lib.hid hso
              clear hso hbE HSW
              go_wp2
              go_roundg ((cnt2 N (nth pf) (nth pt)).toNat + ch.toNat)
              case measure => have e1 := HSO.out.2; have e2 := HGM.out; omega
              case rel => exact ⟨ch, pf, pt, rfl, HSO.out.1, HM.out, Nat.le_refl _⟩
            · have hbz : (b : Int) < (N : Int) := by omega
              go_wp2_with fail
              clear c0
              go_loopw [5, 7] (fun c i wr => ∃ (ch : Bool) (a : Nat) (pf pt : List Int), a ≤ N ∧ c = .bool ch ∧ i = .int .i64 a ∧ Swp N (tab N Fl) (nth Lf) (nth pf) (nth pt) C0 ch b a ∧ RM N w wr w.heap.size P (w.heap.size + 1) G T (.int .i64 (N : Int)) (.slice pF Fl.length cF) (.slice pL Lf.length cL) (.slice pD nD cD) pf pt) (fun _ i _ => N - (intOf i).toNat)
              case atStart => exact ⟨ch, 0, pf, pt, Nat.zero_le _, rfl, rfl, HSW.out, HM.out⟩
              case round =>
                clear HSW HM
                obtain ⟨ch, a, pf, pt, ha, rfl, rfl, hsw, hm⟩ := hrel
                have HM := Lib.hid hm
                have c0 := hm.c0
                by_cases haN : a < N
                rotate_left
                · have haE : a = N := by omega
                  have hsr := (show Swp N (tab N Fl) (nth Lf) (nth pf) (nth pt) C0 ch b N from by rw [haE] at hsw; exact hsw).row
                  have HSR := Lib.hid hsr
                  clear hsr haE hsw hm
                  go_wp2
                  first | exact ⟨⟨ch, b + 1, pf, pt, by omega, rfl, by go_num, HSR.out, HM.out⟩, by simp [intOf]; omega⟩ | (refine And.intro ?_ (by simp [intOf]; omega); (repeat apply Exists.intro); refine And.intro ?_ rfl; exact ⟨ch, b + 1, pf, pt, by omega, rfl, by go_num, HSR.out, HM.out⟩)
                · have HSW := Lib.hid hsw
                  have haz : (a : Int) < (N : Int) := by omega
                  have c1 := hm.c1
                  have p0 := hm.p0
                  have p1 := hm.p1
                  obtain ⟨g1, g2⟩ := hm.og.cellAt hm.gl b hbN
                  obtain ⟨t1, t2⟩ := hm.ot.cellAt hm.tl a haN
                  obtain ⟨PF, hPF⟩ : ∃ x, x = nth pf b := ⟨_, rfl⟩
                  obtain ⟨PT, hPT⟩ : ∃ x, x = nth pt a := ⟨_, rfl⟩
                  obtain ⟨X, hX⟩ : ∃ x, x = tab N Fl b a := ⟨_, rfl⟩
                  obtain ⟨tg, tc, TT, hR⟩ := hsw.rch
                  have hPF0 := hR.pb b hbN
                  have hPT0 := hR.tb2 a haN
                  rw [← hPF] at g1 hPF0
                  rw [← hPT] at t1 hPT0
                  obtain ⟨nb, i1, hnb, hi1, hilt, HWX⟩ := idx_facts h16 haN hbN
                  have hix : i1 < Fl.length := by rw [HFL.out]; exact hilt
                  obtain ⟨bb, oo, rfl, hlt, hcx⟩ := (HF.out.below hm.bl) i1 hix
                  have hXn : nth Fl i1 = X := by rw [hX, hi1, tab_at hbN haN]
                  rw [hXn] at hcx
                  have hiz : (i1 : Int) < (Fl.length : Int) := Int.ofNat_lt.2 hix
                  have ha16 : a < 16 := Nat.lt_of_lt_of_le haN h16
                  have hb16 : b < 16 := Nat.lt_of_lt_of_le hbN h16
                  have hbit := sub_test a b ha16 hb16
                  have HPF := Lib.hid hPF
                  have HPT := Lib.hid hPT
                  have HX := Lib.hid hX
                  have hsx : Hid (0 < X → subB a b = true) := Lib.hid (fun h => by
                    cases q : subB a b
                    · rw [hX, HS.out b a hbN haN q] at h; exact absurd h (by omega)
                    · rfl)
                  clear hPF hPT hX hXn hsw hR hm hilt hnb hi1
                  rcases (show PF = 0 ∨ 0 < PF by omega) with rfl | hp
                  · rcases (show PT = 0 ∨ 0 < PT by omega) with rfl | ht
                    · clear hsx
                      cases hS : subB a b
                      · rw [hS] at hbit
                        clear hS
                        obtain ⟨hwb, hsum, -, -⟩ := HWX.out
                        go_wp2
                        clear hwb hsum hbit
                        first | exact ⟨⟨ch, a + 1, pf, pt, by omega, rfl, by go_num, HSW.out.skip ⟨fun _ h => by rw [← HPF.out] at h; omega, fun h => by rw [← HPT.out] at h; omega⟩, HM.out⟩, by simp [intOf]; omega⟩ | (refine And.intro ?_ (by simp [intOf]; omega); (repeat apply Exists.intro); refine And.intro ?_ rfl; exact ⟨ch, a + 1, pf, pt, by omega, rfl, by go_num, HSW.out.skip ⟨fun _ h => by rw [← HPF.out] at h; omega, fun h => by rw [← HPT.out] at h; omega⟩, HM.out⟩)
                      · rw [hS] at hbit
                        clear hS
                        obtain ⟨hwb, hsum, -, -⟩ := HWX.out
                        go_wp2
                        clear hwb hsum hbit
                        first | exact ⟨⟨ch, a + 1, pf, pt, by omega, rfl, by go_num, HSW.out.skip ⟨fun _ h => by rw [← HPF.out] at h; omega, fun h => by rw [← HPT.out] at h; omega⟩, HM.out⟩, by simp [intOf]; omega⟩ | (refine And.intro ?_ (by simp [intOf]; omega); (repeat apply Exists.intro); refine And.intro ?_ rfl; exact ⟨ch, a + 1, pf, pt, by omega, rfl, by go_num, HSW.out.skip ⟨fun _ h => by rw [← HPF.out] at h; omega, fun h => by rw [← HPT.out] at h; omega⟩, HM.out⟩)
                    · have et : (PT == 0) = false := by simp; omega
                      by_cases hx : 0 < X
                      · have hS := hsx.out hx
                        have hm2 := HM.out.setG b ((a : Int) + 1)
                        have hnv : nth (pf.set b ((a : Int) + 1)) = upv (nth pf) b ((a : Int) + 1) := nth_setv _ _ _ (by rw [HM.out.gl]; exact hbN)
                        have hmk := HSW.out.markB h16 hbN haN hS (by rw [← HPT.out]; exact ht) HPF.out.symm (by rw [← HX.out]; exact hx)
                        rw [← hnv] at hmk
                        rw [hS] at hbit
                        have HMK := Lib.hid hmk
                        have HM2 := Lib.hid hm2
                        clear hmk hm2 hnv hS hsx
                        obtain ⟨hwb, hsum, -, -⟩ := HWX.out
                        go_wp2
                        clear hwb hsum hbit
                        first | exact ⟨⟨true, a + 1, pf.set b ((a : Int) + 1), pt, by omega, rfl, by go_num, HMK.out.some, HM2.out⟩, by simp [intOf]; omega⟩ | (refine And.intro ?_ (by simp [intOf]; omega); (repeat apply Exists.intro); refine And.intro ?_ rfl; exact ⟨true, a + 1, pf.set b ((a : Int) + 1), pt, by omega, rfl, by go_num, HMK.out.some, HM2.out⟩)
                      · clear hsx
                        cases hS : subB a b
                        · rw [hS] at hbit
                          clear hS
                          obtain ⟨hwb, hsum, -, -⟩ := HWX.out
                          go_wp2
                          clear hwb hsum hbit
                          first | exact ⟨⟨ch, a + 1, pf, pt, by omega, rfl, by go_num, HSW.out.skip ⟨fun _ h => by rw [← HPF.out] at h; omega, fun _ h => by rw [← HX.out] at h; omega⟩, HM.out⟩, by simp [intOf]; omega⟩ | (refine And.intro ?_ (by simp [intOf]; omega); (repeat apply Exists.intro); refine And.intro ?_ rfl; exact ⟨ch, a + 1, pf, pt, by omega, rfl, by go_num, HSW.out.skip ⟨fun _ h => by rw [← HPF.out] at h; omega, fun _ h => by rw [← HX.out] at h; omega⟩, HM.out⟩)
                        · rw [hS] at hbit
                          clear hS
                          obtain ⟨hwb, hsum, -, -⟩ := HWX.out
                          go_wp2
                          clear hwb hsum hbit
                          first | exact ⟨⟨ch, a + 1, pf, pt, by omega, rfl, by go_num, HSW.out.skip ⟨fun _ h => by rw [← HPF.out] at h; omega, fun _ h => by rw [← HX.out] at h; omega⟩, HM.out⟩, by simp [intOf]; omega⟩ | (refine And.intro ?_ (by simp [intOf]; omega); (repeat apply Exists.intro); refine And.intro ?_ rfl; exact ⟨ch, a + 1, pf, pt, by omega, rfl, by go_num, HSW.out.skip ⟨fun _ h => by rw [← HPF.out] at h; omega, fun _ h => by rw [← HX.out] at h; omega⟩, HM.out⟩)
                  · have ep : (PF == 0) = false := by simp; omega
                    clear hsx
                    cases hS : subB a b
                    · rw [hS] at hbit
                      have HSF := Lib.hid hS
                      clear hS
                      rcases (show PT = 0 ∨ 0 < PT by omega) with rfl | ht
                      · skip
                        obtain ⟨hwb, hsum, -, -⟩ := HWX.out
                        go_wp2
                        clear hwb hsum hbit
                        first | exact ⟨⟨ch, a + 1, pf, pt, by omega, rfl, by go_num, HSW.out.skip ⟨fun h => (by rw [HSF.out] at h; cases h), fun _ _ => by rw [← HPF.out]; exact hp⟩, HM.out⟩, by simp [intOf]; omega⟩ | (refine And.intro ?_ (by simp [intOf]; omega); (repeat apply Exists.intro); refine And.intro ?_ rfl; exact ⟨ch, a + 1, pf, pt, by omega, rfl, by go_num, HSW.out.skip ⟨fun h => (by rw [HSF.out] at h; cases h), fun _ _ => by rw [← HPF.out]; exact hp⟩, HM.out⟩)
                      · skip
                        obtain ⟨hwb, hsum, -, -⟩ := HWX.out
                        go_wp2
                        clear hwb hsum hbit
                        first | exact ⟨⟨ch, a + 1, pf, pt, by omega, rfl, by go_num, HSW.out.skip ⟨fun h => (by rw [HSF.out] at h; cases h), fun _ _ => by rw [← HPF.out]; exact hp⟩, HM.out⟩, by simp [intOf]; omega⟩ | (refine And.intro ?_ (by simp [intOf]; omega); (repeat apply Exists.intro); refine And.intro ?_ rfl; exact ⟨ch, a + 1, pf, pt, by omega, rfl, by go_num, HSW.out.skip ⟨fun h => (by rw [HSF.out] at h; cases h), fun _ _ => by rw [← HPF.out]; exact hp⟩, HM.out⟩)
                    · rcases (show PT = 0 ∨ 0 < PT by omega) with rfl | ht
                      · have hm2 := HM.out.setT a ((b : Int) + 1)
                        have hnv : nth (pt.set a ((b : Int) + 1)) = upv (nth pt) a ((b : Int) + 1) := nth_setv _ _ _ (by rw [HM.out.tl]; exact haN)
                        have hmk := HSW.out.markA h16 hbN haN hS (by rw [← HPF.out]; exact hp) HPT.out.symm
                        rw [← hnv] at hmk
                        rw [hS] at hbit
                        have HMK := Lib.hid hmk
                        have d0 := hm2.c0
                        have d1 := hm2.p0
                        have d2 := hm2.p1
                        obtain ⟨d3, d4⟩ := hm2.og.cellAt hm2.gl b hbN
                        obtain ⟨d5, d6⟩ := hm2.ot.cellAt hm2.tl a haN
                        rw [← HPF.out] at d3
                        rw [hnv, upv_same] at d5
                        have HM2 := Lib.hid hm2
                        clear hmk hm2 hnv hS
                        obtain ⟨hwb, hsum, -, -⟩ := HWX.out
                        go_wp2
                        clear hwb hsum hbit
                        first | exact ⟨⟨true, a + 1, pf, pt.set a ((b : Int) + 1), by omega, rfl, by go_num, HMK.out.some, HM2.out⟩, by simp [intOf]; omega⟩ | (refine And.intro ?_ (by simp [intOf]; omega); (repeat apply Exists.intro); refine And.intro ?_ rfl; exact ⟨true, a + 1, pf, pt.set a ((b : Int) + 1), by omega, rfl, by go_num, HMK.out.some, HM2.out⟩)
                      · have et : (PT == 0) = false := by simp; omega
                        rw [hS] at hbit
                        clear hS
                        obtain ⟨hwb, hsum, -, -⟩ := HWX.out
                        go_wp2
                        clear hwb hsum hbit
                        first | exact ⟨⟨ch, a + 1, pf, pt, by omega, rfl, by go_num, HSW.out.skip ⟨fun _ _ => by rw [← HPT.out]; exact ht, fun _ _ => by rw [← HPF.out]; exact hp⟩, HM.out⟩, by simp [intOf]; omega⟩ | (refine And.intro ?_ (by simp [intOf]; omega); (repeat apply Exists.intro); refine And.intro ?_ rfl; exact ⟨ch, a + 1, pf, pt, by omega, rfl, by go_num, HSW.out.skip ⟨fun _ _ => by rw [← HPT.out]; exact ht, fun _ _ => by rw [← HPF.out]; exact hp⟩, HM.out⟩)

end Go.Proofs.Ytjmfjgoehicgcaa
