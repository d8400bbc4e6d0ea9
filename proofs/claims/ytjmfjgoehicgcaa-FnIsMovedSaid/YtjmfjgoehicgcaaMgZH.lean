/- Plain facts: the first table is reached by raising one gift behind the other, in either of two ways. -/
import Derived.Test.YtjmfjgoehicgcaaMgZF
import Derived.Test.YtjmfjgoehicgcaaJD
import Derived.Test.YtjmfjgoehicgcaaMgM3
import Derived.Test.YtjmfjgoehicgcaaMgDC
import Derived.Test.YtjmfjgoehicgcaaMgK7
set_option linter.unusedVariables false
set_option linter.unusedSimpArgs false
namespace Go.Proofs.Ytjmfjgoehicgcaa
open Go.RowKit

/-- What is open if a giver and a getter are left out. -/
def opX (op : Nat → Nat → Bool) (b0 a0 : Nat) : Nat → Nat → Bool := fun b a => op b a && (!(b == b0) && !(a == a0))
theorem opX_iff {op : Nat → Nat → Bool} {b0 a0 b a : Nat} : opX op b0 a0 b a = true ↔ op b a = true ∧ b ≠ b0 ∧ a ≠ a0 := by simp [opX]

/-- At which getters a giver's gift can be lowered. -/
def endX (op : Nat → Nat → Bool) (F : Nat → Nat → Int) (b0 a0 : Nat) : Nat → Bool := fun c => !(c == a0) && (op b0 c && decide (0 < F b0 c))
theorem endX_iff {op : Nat → Nat → Bool} {F : Nat → Nat → Int} {b0 a0 c : Nat} : endX op F b0 a0 c = true ↔ c ≠ a0 ∧ op b0 c = true ∧ 0 < F b0 c := by simp [endX]

/-- Where no other giver finds a way round, the gift is as great as it can be. -/
theorem raise_done {N : Nat} {sup dem : Nat → Int} {F G : Nat → Nat → Int} (f : Flow N sup dem F) (g : Flow N sup dem G) (op : Nat → Nat → Bool) (hop : ∀ b a, b < N → a < N → op b a = false → G b a = F b a) (b0 a0 : Nat) (hb0 : b0 < N) (ha0 : a0 < N)
    (H : ∀ b2, b2 < N → b2 ≠ b0 → op b2 a0 = true → 0 < F b2 a0 → ∃ R S, NoWay N (opX op b0 a0) F b2 (endX op F b0 a0) R S) : G b0 a0 ≤ F b0 a0 := by
  have hd : ∀ {p : Prop}, (@decide p (Classical.propDecidable p) = true ↔ p) := fun {p} => @decide_eq_true_iff p (Classical.propDecidable p)
  have hf : ∀ {p : Prop}, (@decide p (Classical.propDecidable p) = false ↔ ¬ p) := fun {p} => @decide_eq_false_iff_not p (Classical.propDecidable p)
  have notb0 : ∀ b, b < N → (∃ b2 R S, b2 ≠ b0 ∧ NoWay N (opX op b0 a0) F b2 (endX op F b0 a0) R S ∧ R b = true) → b ≠ b0 := by
    rintro b hb ⟨b2, R, S, h1, h2, h3⟩ rfl
    rcases h2.c4 b hb h3 with e | ⟨a, _, e⟩
    · exact h1 e.symm
    · exact (opX_iff.1 e).2.1 rfl
  refine raise_max f g op hop b0 a0 hb0 ha0 (fun b => @decide (∃ b2 R S, b2 ≠ b0 ∧ NoWay N (opX op b0 a0) F b2 (endX op F b0 a0) R S ∧ R b = true) (Classical.propDecidable _))
    (fun a => @decide (a ≠ a0 ∧ ∃ b2 R S, b2 ≠ b0 ∧ NoWay N (opX op b0 a0) F b2 (endX op F b0 a0) R S ∧ S a = true) (Classical.propDecidable _)) ?_ ?_ ?_ ?_ ?_ ?_
  · intro b hb hne ho hF
    obtain ⟨R, S, h⟩ := H b hb hne ho hF
    exact hd.2 ⟨b, R, S, hne, h, h.rf⟩
  · exact hf.2 fun h => notb0 b0 hb0 h rfl
  · intro b a hb ha hR ho hne
    have hR := hd.1 hR
    have hbn := notb0 b hb hR
    obtain ⟨b2, R, S, h1, h2, h3⟩ := hR
    exact hd.2 ⟨hne, b2, R, S, h1, h2, h2.c1 b a hb ha h3 (opX_iff.2 ⟨ho, hbn, hne⟩)⟩
  · intro b a hb ha hT hne ho hF
    obtain ⟨ha1, b2, R, S, h1, h2, h3⟩ := hd.1 hT
    refine hd.2 ⟨b2, R, S, h1, h2, ?_⟩
    by_cases e : b = b2
    · rw [e]; exact h2.rf
    · exact h2.c3 b a hb ha h3 e (opX_iff.2 ⟨ho, hne, ha1⟩) hF
  · intro a ha hT ho
    obtain ⟨ha1, b2, R, S, h1, h2, h3⟩ := hd.1 hT
    have hE := h2.c2 a ha h3
    have hn := f.nn b0 a hb0 ha
    rcases Int.lt_or_le 0 (F b0 a) with hp | hp
    · rw [endX_iff.2 ⟨ha1, ho, hp⟩] at hE; cases hE
    · omega
  · exact hf.2 fun h => h.1 rfl

/-- All before place i is as in the first table. -/
structure Fst (N : Nat) (sup dem : Nat → Int) (i : Nat) (F : Nat → Nat → Int) : Prop where
  top : ∀ j, j < i → j < N * N → ∀ G, Flow N sup dem G → (∀ k, k < j → G (k / N) (k % N) = F (k / N) (k % N)) → G (j / N) (j % N) ≤ F (j / N) (j % N)

theorem Fst.zero (N : Nat) (sup dem : Nat → Int) (F : Nat → Nat → Int) : Fst N sup dem 0 F := ⟨fun j hj => absurd hj (Nat.not_lt_zero _)⟩
theorem Fst.keep {N : Nat} {sup dem : Nat → Int} {i : Nat} {F F' : Nat → Nat → Int} (h : Fst N sup dem i F) (he : ∀ k, k < i → F' (k / N) (k % N) = F (k / N) (k % N)) : Fst N sup dem i F' :=
  ⟨fun j hj hN G g hag => by rw [he j hj]; exact h.top j hj hN G g fun k hk => by rw [hag k hk, he k (by omega)]⟩
theorem Fst.next {N : Nat} {sup dem : Nat → Int} {i : Nat} {F : Nat → Nat → Int} (h : Fst N sup dem i F) (ht : ∀ G, Flow N sup dem G → (∀ k, k < i → G (k / N) (k % N) = F (k / N) (k % N)) → G (i / N) (i % N) ≤ F (i / N) (i % N)) : Fst N sup dem (i + 1) F :=
  ⟨fun j hj hN G g hag => by
    by_cases e : j = i
    · subst e; exact ht G g hag
    · exact h.top j (by omega) hN G g hag⟩
theorem Fst.first {N : Nat} {sup dem : Nat → Int} {F : Nat → Nat → Int} (h : Fst N sup dem (N * N) F) (f : Flow N sup dem F) : First N sup dem F := ⟨f, fun G g i hi hag => h.top i hi hi G g hag⟩

theorem pl_div {N b a : Nat} (ha : a < N) : (N * b + a) / N = b := by rw [Nat.mul_add_div (by omega), Nat.div_eq_of_lt ha]; rfl
theorem pl_mod {N b a : Nat} (ha : a < N) : (N * b + a) % N = a := by rw [Nat.mul_add_mod, Nat.mod_eq_of_lt ha]
theorem pl_lt {N b a : Nat} (ha : a < N) (hb : b < N) : N * b + a < N * N := by
  have h1 : N * (b + 1) ≤ N * N := Nat.mul_le_mul_left N hb
  rw [Nat.mul_succ] at h1
  omega
theorem pl_of {N k : Nat} (hN : 0 < N) (hk : k < N * N) : k / N < N ∧ k % N < N ∧ N * (k / N) + k % N = k := ⟨(Nat.div_lt_iff_lt_mul hN).mpr hk, Nat.mod_lt _ hN, Nat.div_add_mod k N⟩

/-- Which places are before place i. -/
def bef (N i : Nat) : Nat → Nat → Bool := fun b a => decide (N * b + a < i)

/-- What is open while place i is raised: the sets within sets at i and behind. -/
def opI (N i : Nat) : Nat → Nat → Bool := fun b a => subB a b && !(subB a b && bef N i b a)
theorem opI_iff {N i b a : Nat} : opI N i b a = true ↔ subB a b = true ∧ i ≤ N * b + a := by
  unfold opI bef
  cases h : subB a b <;> simp

theorem opI_no {N i b a : Nat} (h : opI N i b a = false) : subB a b = false ∨ N * b + a < i := by
  cases hs : subB a b
  · exact .inl rfl
  · refine .inr ?_
    rcases Nat.lt_or_ge (N * b + a) i with h2 | h2
    · exact h2
    · rw [opI_iff.2 ⟨hs, h2⟩] at h; cases h

/-- The program's raising of one place, its table otherwise as before where nothing is open. -/
theorem Fst.raised {N : Nat} {sup dem : Nat → Int} {b a : Nat} {F F' : Nat → Nat → Int} (h : Fst N sup dem (N * b + a) F) (hb : b < N) (ha : a < N) (f : Flow N sup dem F) (f' : Flow N sup dem F')
    (hoff : ∀ x y, x < N → y < N → opI N (N * b + a) x y = false → F' x y = F x y)
    (hmax : ∀ G, Flow N sup dem G → (∀ x y, x < N → y < N → opI N (N * b + a) x y = false → G x y = F' x y) → G b a ≤ F' b a) : Fst N sup dem (N * b + a + 1) F' := by
  have hN : 0 < N := by omega
  have hlt := pl_lt ha hb
  have hk : Fst N sup dem (N * b + a) F' := h.keep fun k hk => by
    obtain ⟨k1, k2, k3⟩ := pl_of hN (Nat.lt_trans hk hlt)
    refine hoff _ _ k1 k2 ?_
    cases e : opI N (N * b + a) (k / N) (k % N)
    · rfl
    · have := (opI_iff.1 e).2; omega
  refine hk.next fun G g hag => ?_
  rw [pl_div ha, pl_mod ha]
  refine hmax G g fun x y hx hy ho => ?_
  rcases opI_no ho with e | e
  · rw [g.sub x y hx hy e, f'.sub x y hx hy e]
  · have := hag _ e
    rw [pl_div hy, pl_mod hy] at this; exact this

/-- A place to which nothing can go. -/
theorem Fst.shut {N : Nat} {sup dem : Nat → Int} {b a : Nat} {F : Nat → Nat → Int} (h : Fst N sup dem (N * b + a) F) (hb : b < N) (ha : a < N) (f : Flow N sup dem F) (hs : subB a b = false) : Fst N sup dem (N * b + a + 1) F :=
  h.next fun G g _ => by rw [pl_div ha, pl_mod ha, g.sub b a hb ha hs, f.sub b a hb ha hs]; exact Int.le_refl _

/-- What the reference has settled: the places before i are those of the first table, the others are 0. -/
structure Stl (N : Nat) (sup dem : Nat → Int) (i : Nat) (P : Nat → Nat → Int) : Prop where
  fst : Fst N sup dem i P
  ex : ∃ G, Flow N sup dem G ∧ ∀ k, k < i → G (k / N) (k % N) = P (k / N) (k % N)
  zero : ∀ b a, b < N → a < N → subB a b = false ∨ i ≤ N * b + a → P b a = 0

/-- What is left, and due, behind what is settled. -/
def lfS (N : Nat) (sup : Nat → Int) (P : Nat → Nat → Int) : Nat → Int := fun b => sup b - sm N (fun a => P b a)
def duS (N : Nat) (dem : Nat → Int) (P : Nat → Nat → Int) : Nat → Int := fun a => dem a - sm N (fun b => P b a)
def less (f : Nat → Int) (b : Nat) (n : Int) : Nat → Int := fun k => if k = b then f k - n else f k

theorem Stl.start {N : Nat} {sup dem : Nat → Int} {P : Nat → Nat → Int} (h : ∃ G, Flow N sup dem G) (hP : ∀ b a, b < N → a < N → P b a = 0) : Stl N sup dem 0 P := by
  obtain ⟨G, g⟩ := h
  exact ⟨Fst.zero _ _ _ _, ⟨G, g, fun k hk => absurd hk (Nat.not_lt_zero _)⟩, fun b a hb ha _ => hP b a hb ha⟩

theorem Stl.le {N : Nat} {sup dem : Nat → Int} {i : Nat} {P : Nat → Nat → Int} (h : Stl N sup dem i P) (hN : 0 < N) {G : Nat → Nat → Int} (g : Flow N sup dem G) (hag : ∀ k, k < i → G (k / N) (k % N) = P (k / N) (k % N)) :
    (∀ b a, b < N → a < N → P b a ≤ G b a) ∧ (∀ b a, b < N → a < N → N * b + a < i → P b a = G b a) := by
  have e : ∀ b a, b < N → a < N → N * b + a < i → P b a = G b a := fun b a hb ha hl => by
    have := hag _ hl; rw [pl_div ha, pl_mod ha] at this; exact this.symm
  refine ⟨fun b a hb ha => ?_, e⟩
  rcases Nat.lt_or_ge (N * b + a) i with hl | hl
  · rw [e b a hb ha hl]; exact Int.le_refl _
  · rw [h.zero b a hb ha (.inr hl)]; exact g.nn b a hb ha

/-- So much can go at place i exactly if the rest then can. -/
theorem Stl.can {N : Nat} {sup dem : Nat → Int} {b a : Nat} {P : Nat → Nat → Int} (h : Stl N sup dem (N * b + a) P) (hb : b < N) (ha : a < N) (hs : subB a b = true) (n : Int) (hn : 0 ≤ n) :
    (∃ G, Flow N (less (lfS N sup P) b n) (less (duS N dem P) a n) G) ↔ ∃ G, Flow N sup dem G ∧ (∀ k, k < N * b + a → G (k / N) (k % N) = P (k / N) (k % N)) ∧ n ≤ G b a := by
  have hN : 0 < N := by omega
  have hlt := pl_lt ha hb
  constructor
  · rintro ⟨G, g⟩
    obtain ⟨P1, hP1⟩ : ∃ P1, P1 = upd P b a (P b a + n) := ⟨_, rfl⟩
    have hz := h.zero b a hb ha (.inr (Nat.le_refl _))
    have pn : ∀ x y, x < N → y < N → 0 ≤ P x y := fun x y hx hy => by
      obtain ⟨G0, g0, ag0⟩ := h.ex
      rcases Nat.lt_or_ge (N * x + y) (N * b + a) with q | q
      · rw [(h.le hN g0 ag0).2 x y hx hy q]; exact g0.nn x y hx hy
      · rw [h.zero x y hx hy (.inr q)]; exact Int.le_refl _
    have p1 : ∀ x y, x < N → y < N → P x y ≤ P1 x y := fun x y hx hy => by
      rw [hP1]
      by_cases c : x = b ∧ y = a
      · obtain ⟨rfl, rfl⟩ := c; rw [upd_same]; omega
      · rw [upd_off _ _ _ _ _ _ c]; exact Int.le_refl _
    have fl : Flow N sup dem (fun x y => P1 x y + G x y) := by
      refine ⟨fun x y hx hy => ?_, fun x y hx hy q => ?_, fun x hx => ?_, fun y hy => ?_⟩
      · have := pn x y hx hy; have := p1 x y hx hy; have := g.nn x y hx hy; omega
      · have c : ¬ (x = b ∧ y = a) := fun c => by rw [c.1, c.2, hs] at q; cases q
        rw [g.sub x y hx hy q, hP1, upd_off _ _ _ _ _ _ c, h.zero x y hx hy (.inl q)]; rfl
      · rw [sm_add, g.row x hx, hP1, upd_row _ _ _ _ _ ha]; unfold less lfS; split <;> omega
      · rw [sm_add N (fun x => P1 x y) (fun x => G x y), g.col y hy, hP1, upd_col _ _ _ _ _ hb]; unfold less duS; split <;> omega
    have ag : ∀ k, k < N * b + a → P1 (k / N) (k % N) + G (k / N) (k % N) = P (k / N) (k % N) := by
      intro k
      induction k using Nat.strongRecOn with
      | _ k ih =>
        intro hk
        obtain ⟨k1, k2, k3⟩ := pl_of hN (Nat.lt_trans hk hlt)
        have t := h.fst.top k hk (Nat.lt_trans hk hlt) _ fl fun j hj => ih j hj (by omega)
        have c : ¬ (k / N = b ∧ k % N = a) := fun c => by rw [c.1, c.2] at k3; omega
        have e : P1 (k / N) (k % N) = P (k / N) (k % N) := by rw [hP1, upd_off _ _ _ _ _ _ c]
        have gg := g.nn _ _ k1 k2
        simp only [e] at t ⊢
        omega
    refine ⟨_, fl, ag, ?_⟩
    have := g.nn b a hb ha
    show n ≤ P1 b a + G b a
    rw [hP1, upd_same, hz]; omega
  · rintro ⟨G, g, hag, hle⟩
    obtain ⟨l1, l2⟩ := h.le hN g hag
    have hz := h.zero b a hb ha (.inr (Nat.le_refl _))
    obtain ⟨P1, hP1⟩ : ∃ P1, P1 = upd P b a (P b a + n) := ⟨_, rfl⟩
    refine ⟨fun x y => G x y - P1 x y, fun x y hx hy => ?_, fun x y hx hy q => ?_, fun x hx => ?_, fun y hy => ?_⟩
    · rw [hP1]
      by_cases c : x = b ∧ y = a
      · obtain ⟨rfl, rfl⟩ := c; rw [upd_same]; omega
      · rw [upd_off _ _ _ _ _ _ c]; have := l1 x y hx hy; omega
    · have c : ¬ (x = b ∧ y = a) := fun c => by rw [c.1, c.2, hs] at q; cases q
      rw [g.sub x y hx hy q, hP1, upd_off _ _ _ _ _ _ c, h.zero x y hx hy (.inl q)]; rfl
    · rw [sm_sub, g.row x hx, hP1, upd_row _ _ _ _ _ ha]; unfold less lfS; split <;> omega
    · rw [sm_sub N (fun x => G x y) (fun x => P1 x y), g.col y hy, hP1, upd_col _ _ _ _ _ hb]; unfold less duS; split <;> omega

/-- No more than this can go. -/
theorem Stl.bound {N : Nat} {sup dem : Nat → Int} {b a : Nat} {P : Nat → Nat → Int} (h : Stl N sup dem (N * b + a) P) (hb : b < N) (ha : a < N) {G : Nat → Nat → Int} (g : Flow N sup dem G) (hag : ∀ k, k < N * b + a → G (k / N) (k % N) = P (k / N) (k % N)) :
    G b a ≤ lfS N sup P b ∧ G b a ≤ duS N dem P a := by
  obtain ⟨l1, l2⟩ := h.le (by omega) g hag
  have hz := h.zero b a hb ha (.inr (Nat.le_refl _))
  have r := sm_pick (f := fun y => G b y - P b y) (fun y hy => by have := l1 b y hb hy; omega) a ha
  have c := sm_pick (f := fun x => G x a - P x a) (fun x hx => by have := l1 x a hx ha; omega) b hb
  rw [sm_sub N (fun y => G b y) (fun y => P b y), g.row b hb] at r
  rw [sm_sub N (fun x => G x a) (fun x => P x a), g.col a ha] at c
  unfold lfS duS
  omega

/-- What is left is never less than 0. -/
theorem Stl.nn {N : Nat} {sup dem : Nat → Int} {i : Nat} {P : Nat → Nat → Int} (h : Stl N sup dem i P) (hN : 0 < N) : (∀ b, b < N → 0 ≤ lfS N sup P b) ∧ (∀ a, a < N → 0 ≤ duS N dem P a) ∧ sm N (lfS N sup P) = sm N (duS N dem P) ∧ (∀ b a, b < N → a < N → 0 ≤ P b a) := by
  obtain ⟨G, g, hag⟩ := h.ex
  obtain ⟨l1, l2⟩ := h.le hN g hag
  refine ⟨fun b hb => ?_, fun a ha => ?_, ?_, fun b a hb ha => ?_⟩
  · have := sm_le (n := N) (f := fun a => P b a) (g := fun a => G b a) fun a ha => l1 b a hb ha
    rw [g.row b hb] at this; unfold lfS; omega
  · have := sm_le (n := N) (f := fun b => P b a) (g := fun b => G b a) fun b hb => l1 b a hb ha
    rw [g.col a ha] at this; unfold duS; omega
  · unfold lfS duS
    rw [sm_sub N sup, sm_sub N dem, sm_swap N N (fun b a => P b a)]
    have e1 : sm N sup = sm N (fun b => sm N (fun a => G b a)) := sm_congr fun b hb => (g.row b hb).symm
    have e2 : sm N dem = sm N (fun a => sm N (fun b => G b a)) := sm_congr fun a ha => (g.col a ha).symm
    rw [e1, e2, sm_swap]
  · rcases Nat.lt_or_ge (N * b + a) i with hl | hl
    · rw [l2 b a hb ha hl]; exact g.nn b a hb ha
    · rw [h.zero b a hb ha (.inr hl)]; exact Int.le_refl _

theorem less_sum {N : Nat} {f : Nat → Int} {b : Nat} {n : Int} (hb : b < N) : sm N (less f b n) = sm N f - n := by
  have := sm_upd1 N f b (-n) hb
  rw [show sm N f - n = sm N f + -n by omega, ← this]
  rfl

/-- The greatest amount is settled. -/
theorem Stl.settle {N : Nat} {sup dem : Nat → Int} {b a : Nat} {P : Nat → Nat → Int} (h : Stl N sup dem (N * b + a) P) (hb : b < N) (ha : a < N) (hs : subB a b = true) (n : Int) (hn : 0 ≤ n)
    (h1 : ∃ G, Flow N (less (lfS N sup P) b n) (less (duS N dem P) a n) G) (h2 : ∀ m, n < m → m ≤ lfS N sup P b → m ≤ duS N dem P a → ¬ ∃ G, Flow N (less (lfS N sup P) b m) (less (duS N dem P) a m) G) :
    Stl N sup dem (N * b + a + 1) (upd P b a n) ∧ lfS N sup (upd P b a n) = less (lfS N sup P) b n ∧ duS N dem (upd P b a n) = less (duS N dem P) a n := by
  have hN : 0 < N := by omega
  have hlt := pl_lt ha hb
  have hz := h.zero b a hb ha (.inr (Nat.le_refl _))
  have eqo : ∀ k, k < N * b + a → upd P b a n (k / N) (k % N) = P (k / N) (k % N) := fun k hk => by
    obtain ⟨k1, k2, k3⟩ := pl_of hN (Nat.lt_trans hk hlt)
    exact upd_off _ _ _ _ _ _ fun c => by rw [c.1, c.2] at k3; omega
  have most : ∀ G, Flow N sup dem G → (∀ k, k < N * b + a → G (k / N) (k % N) = P (k / N) (k % N)) → G b a ≤ n := fun G g hag => by
    rcases Int.lt_or_le n (G b a) with q | q
    · obtain ⟨x1, x2⟩ := h.bound hb ha g hag
      exact absurd ((h.can hb ha hs (G b a) (by omega)).2 ⟨G, g, hag, Int.le_refl _⟩) (h2 _ q x1 x2)
    · exact q
  have hu : upd P b a n = upd P b a (P b a + n) := by rw [hz, Int.zero_add]
  refine ⟨⟨(h.fst.keep eqo).next fun G g hag => ?_, ?_, fun x y hx hy q => ?_⟩, ?_, ?_⟩
  · rw [pl_div ha, pl_mod ha, upd_same]
    exact most G g fun k hk => by rw [hag k hk, eqo k hk]
  · obtain ⟨G, g, hag, hle⟩ := (h.can hb ha hs n hn).1 h1
    have := most G g hag
    refine ⟨G, g, fun k hk => ?_⟩
    by_cases e : k = N * b + a
    · subst e; rw [pl_div ha, pl_mod ha, upd_same]; omega
    · rw [hag k (by omega), eqo k (by omega)]
  · have c : ¬ (x = b ∧ y = a) := fun c => by
      rcases q with q | q
      · rw [c.1, c.2, hs] at q; cases q
      · rw [c.1, c.2] at q; omega
    rw [upd_off _ _ _ _ _ _ c]
    exact h.zero x y hx hy (q.imp id (by omega))
  · funext k
    unfold lfS less
    rw [hu, upd_row _ _ _ _ _ ha]; dsimp only; split <;> omega
  · funext k
    unfold duS less
    rw [hu, upd_col _ _ _ _ _ hb]; dsimp only; split <;> omega

/-- A place to which nothing can go. -/
theorem Stl.shut {N : Nat} {sup dem : Nat → Int} {b a : Nat} {P : Nat → Nat → Int} (h : Stl N sup dem (N * b + a) P) (hb : b < N) (ha : a < N) (hs : subB a b = false) : Stl N sup dem (N * b + a + 1) P := by
  have hz := h.zero b a hb ha (.inl hs)
  refine ⟨h.fst.next fun G g _ => by rw [pl_div ha, pl_mod ha, g.sub b a hb ha hs, hz]; exact Int.le_refl _, ?_, fun x y hx hy q => ?_⟩
  · obtain ⟨G, g, hag⟩ := h.ex
    refine ⟨G, g, fun k hk => ?_⟩
    by_cases e : k = N * b + a
    · subst e; rw [pl_div ha, pl_mod ha, g.sub b a hb ha hs, hz]
    · exact hag k (by omega)
  · rcases q with q | q
    · exact h.zero x y hx hy (.inl q)
    · exact h.zero x y hx hy (.inr (by omega))

theorem Stl.row {N : Nat} {sup dem : Nat → Int} {b : Nat} {P : Nat → Nat → Int} (h : Stl N sup dem (N * b + N) P) : Stl N sup dem (N * (b + 1) + 0) P := by rw [Nat.mul_succ]; exact h

/-- All is settled. -/
theorem Stl.first {N : Nat} {sup dem : Nat → Int} {P : Nat → Nat → Int} (h : Stl N sup dem (N * N) P) (hN : 0 < N) : First N sup dem P := by
  obtain ⟨G, g, hag⟩ := h.ex
  have e : ∀ b a, b < N → a < N → G b a = P b a := fun b a hb ha => by
    have := hag _ (pl_lt ha hb); rw [pl_div ha, pl_mod ha] at this; exact this
  refine h.fst.first ⟨fun b a hb ha => by rw [← e b a hb ha]; exact g.nn b a hb ha, fun b a hb ha q => by rw [← e b a hb ha]; exact g.sub b a hb ha q, fun b hb => ?_, fun a ha => ?_⟩
  · rw [← g.row b hb]; exact sm_congr fun a ha => (e b a hb ha).symm
  · rw [← g.col a ha]; exact sm_congr fun b hb => (e b a hb ha).symm

/-- If more can go, less can. -/
theorem Stl.mono {N : Nat} {sup dem : Nat → Int} {b a : Nat} {P : Nat → Nat → Int} (h : Stl N sup dem (N * b + a) P) (hb : b < N) (ha : a < N) (hs : subB a b = true) (n m : Int) (hn : 0 ≤ n) (hm : n ≤ m)
    (h1 : ∃ G, Flow N (less (lfS N sup P) b m) (less (duS N dem P) a m) G) : ∃ G, Flow N (less (lfS N sup P) b n) (less (duS N dem P) a n) G := by
  obtain ⟨G, g, hag, hle⟩ := (h.can hb ha hs m (by omega)).1 h1
  exact (h.can hb ha hs n hn).2 ⟨G, g, hag, by omega⟩

theorem Stl.can0 {N : Nat} {sup dem : Nat → Int} {b a : Nat} {P : Nat → Nat → Int} (h : Stl N sup dem (N * b + a) P) (hb : b < N) (ha : a < N) (hs : subB a b = true) : ∃ G, Flow N (less (lfS N sup P) b 0) (less (duS N dem P) a 0) G := by
  obtain ⟨G, g, hag⟩ := h.ex
  exact (h.can hb ha hs 0 (Int.le_refl _)).2 ⟨G, g, hag, g.nn b a hb ha⟩

end Go.Proofs.Ytjmfjgoehicgcaa

/- Whether one mass is made of another one: the reference. -/
set_option linter.unusedVariables false
set_option linter.unusedSimpArgs false
namespace Go.Proofs.Ytjmfjgoehicgcaa
open Go.RowKit

/-- What one mass's sets have to give, and what the other one's are to get. -/
def supS (xs ys : List Int) : Nat → Int := fun b => nth ys b * sumL xs
def demS (xs ys : List Int) : Nat → Int := fun a => nth xs a * sumL ys

/-- Whether there is a table of what goes where. -/
noncomputable def flB (N : Nat) (sup dem : Nat → Int) : Bool := @decide (∃ G, Flow N sup dem G) (Classical.propDecidable _)
theorem flB_iff {N : Nat} {sup dem : Nat → Int} : flB N sup dem = true ↔ ∃ G, Flow N sup dem G := @decide_eq_true_iff _ (Classical.propDecidable _)
theorem flB_no {N : Nat} {sup dem : Nat → Int} : flB N sup dem = false ↔ ¬ ∃ G, Flow N sup dem G := @decide_eq_false_iff_not _ (Classical.propDecidable _)

theorem Flow.cong {N : Nat} {sup dem sup' dem' : Nat → Int} {F : Nat → Nat → Int} (h : Flow N sup dem F) (h1 : ∀ b, b < N → sup b = sup' b) (h2 : ∀ a, a < N → dem a = dem' a) : Flow N sup' dem' F :=
  ⟨h.nn, h.sub, fun b hb => by rw [← h1 b hb]; exact h.row b hb, fun a ha => by rw [← h2 a ha]; exact h.col a ha⟩
theorem flB_cong {N : Nat} {sup dem sup' dem' : Nat → Int} (h1 : ∀ b, b < N → sup b = sup' b) (h2 : ∀ a, a < N → dem a = dem' a) : flB N sup dem = flB N sup' dem' := by
  rw [Bool.eq_iff_iff, flB_iff, flB_iff]
  exact ⟨fun ⟨G, g⟩ => ⟨G, g.cong h1 h2⟩, fun ⟨G, g⟩ => ⟨G, g.cong (fun b hb => (h1 b hb).symm) (fun a ha => (h2 a ha).symm)⟩⟩

/-- Whether a mass is a specialization of another one. -/
noncomputable def spB (s : Int) (xs : List Int) (t : Int) (ys : List Int) : Bool := bothB s xs t ys && flB xs.length (supS xs ys) (demS xs ys)

/-- What a flow at its beginning is. -/
theorem PFlow.start {N : Nat} {sup dem lf du : Nat → Int} {F : Nat → Nat → Int} (hF : ∀ b a, b < N → a < N → F b a = 0) (h1 : ∀ b, b < N → lf b = sup b) (h2 : ∀ a, a < N → du a = dem a) (n1 : ∀ b, b < N → 0 ≤ sup b) (n2 : ∀ a, a < N → 0 ≤ dem a) : PFlow N sup dem F lf du :=
  ⟨fun b a hb ha => by rw [hF b a hb ha]; exact Int.le_refl _, fun b a hb ha _ => hF b a hb ha, fun b hb => by rw [sm_congr (g := fun _ => 0) (fun a ha => hF b a hb ha), sm_zero, h1 b hb]; omega, fun a ha => by rw [sm_congr (g := fun _ => 0) (fun b hb => hF b a hb ha), sm_zero, h2 a ha]; omega, fun b hb => by rw [h1 b hb]; exact n1 b hb, fun a ha => by rw [h2 a ha]; exact n2 a ha⟩

/-- Facts on two masses of one question. -/
structure TwoM (xs ys : List Int) (N : Nat) : Prop where
  n1 : 1 ≤ N
  n16 : N ≤ 16
  xl : xs.length = N
  yl : ys.length = N
  ax : allB 0 1000000 xs = true
  ay : allB 0 1000000 ys = true
  sx : 0 ≤ sumL xs ∧ sumL xs ≤ 1000000
  sy : 0 ≤ sumL ys ∧ sumL ys ≤ 1000000

theorem two_of {s t : Int} {xs ys : List Int} (h : bothB s xs t ys = true) : TwoM xs ys xs.length := by
  obtain ⟨k1, k2, k3, k4⟩ := bothB_ok h
  have := pow2_bd s k1.s1 k1.s4
  have := k1.len
  exact ⟨by omega, k1.l16, rfl, k4.symm, k1.all, k2.all, ⟨by have := k1.sum1; omega, k1.sum2⟩, ⟨by have := k2.sum1; omega, k2.sum2⟩⟩

theorem TwoM.sup {xs ys : List Int} {N : Nat} (h : TwoM xs ys N) : (∀ b, b < N → 0 ≤ supS xs ys b ∧ supS xs ys b ≤ 1000000000000) ∧ (∀ a, a < N → 0 ≤ demS xs ys a ∧ demS xs ys a ≤ 1000000000000) ∧ sm N (supS xs ys) = sm N (demS xs ys) := by
  obtain ⟨x1, x2⟩ := h.sx
  obtain ⟨y1, y2⟩ := h.sy
  refine ⟨fun b hb => ?_, fun a ha => ?_, ?_⟩
  · have := allB_nth h.ay b (by rw [h.yl]; exact hb)
    exact ⟨Int.mul_nonneg this.1 x1, by have := Int.mul_le_mul this.2 x2 x1 (by omega); unfold supS; omega⟩
  · have := allB_nth h.ax a (by rw [h.xl]; exact ha)
    exact ⟨Int.mul_nonneg this.1 y1, by have := Int.mul_le_mul this.2 y2 y1 (by omega); unfold demS; omega⟩
  · have e1 : sm N (supS xs ys) = sumL xs * sm N (nth ys) := by rw [← sm_mul]; exact sm_congr fun k _ => Int.mul_comm _ _
    have e2 : sm N (demS xs ys) = sumL ys * sm N (nth xs) := by rw [← sm_mul]; exact sm_congr fun k _ => Int.mul_comm _ _
    have e3 : sumL ys = sm N (nth ys) := by rw [sumL_sm, h.yl]
    have e4 : sumL xs = sm N (nth xs) := by rw [sumL_sm, h.xl]
    rw [e1, e2, ← e3, ← e4, Int.mul_comm]

theorem TwoM.start {xs ys : List Int} {N : Nat} (h : TwoM xs ys N) : PFlow N (supS xs ys) (demS xs ys) (tab N (zeros (N * N))) (nth (mulL ys (sumL xs) N)) (nth (mulL xs (sumL ys) N)) := by
  obtain ⟨a1, a2, a3⟩ := h.sup
  exact PFlow.start (fun b a hb ha => by rw [tab_at hb ha]; exact zeros_nth0 _ _) (fun b hb => mulL_nth _ _ _ _ hb) (fun a ha => mulL_nth _ _ _ _ ha) (fun b hb => (a1 b hb).1) (fun a ha => (a2 a ha).1)

theorem FM.mono {B B' : Nat} {w : World} {N nn fb lb db cf cl cd : Nat} {Fl lf du : List Int} (h : FM B w N nn fb lb db cf cl cd Fl lf du) (hB : B' ≤ B) : FM B' w N nn fb lb db cf cl cd Fl lf du := ⟨h.hn, h.fl, h.ll, h.dl, h.of.mono hB, h.ol.mono hB, h.od.mono hB, h.n1, h.n2, h.n3⟩

theorem done_is {N : Nat} {sup dem : Nat → Int} {F : Nat → Nat → Int} {du : List Int} (h1 : (∀ a, a < N → nth du a ≤ 0) → Flow N sup dem F) (h2 : (∃ a, a < N ∧ 0 < nth du a) → ¬ ∃ G, Flow N sup dem G) : doneB N du = flB N sup dem := by
  cases e : flB N sup dem
  · cases d : doneB N du
    · rfl
    · exact absurd ⟨F, h1 (doneB_iff.1 d)⟩ (flB_no.1 e)
  · refine doneB_iff.2 fun a ha => ?_
    rcases Int.lt_or_le 0 (nth du a) with q | q
    · exact absurd (flB_iff.1 e) (h2 ⟨a, ha, q⟩)
    · exact q

set_option maxHeartbeats 4000000 in
set_option maxRecDepth 100000 in
theorem sIsSpec_any (s t : Int) (p q : Option Addr) (c d : Nat) (xs ys : List Int) (w : World) (hx : Reads w p xs) (hy : Reads w q ys) (hxm : xs.length ≤ 1048576) (hym : ys.length ≤ 1048576) :
    Calls Try.prog 12 #[.agg #[.int .i64 s, .slice p xs.length c], .agg #[.int .i64 t, .slice q ys.length d]] w fun e w' => e = .returned (.bool (spB s xs t ys)) ∧ Below w.heap.size w w' := by
  obtain ⟨W, hW, hbW, hsz, c0, c1, c2, c3⟩ := box2 w s t p q xs.length ys.length c d
  have HW := Lib.hid hW
  clear hW
  have HB := Lib.hid (l3Both_any s t p q c d xs ys W (hx.below hbW) (hy.below hbW) hxm hym)
  have HX := Lib.hid hx
  have HY := Lib.hid hy
  clear hx hy
  cases hb : bothB s xs t ys
  · have hr : Hid (spB s xs t ys = false) := Lib.hid (by rw [spB, hb]; rfl)
    rw [hb] at HB
    clear hb
    go_enter Try.func12, Try.ntmps12
    go_wp2_with fail
    rw [← HW.out]
    refine HB.out.mono ?_
    rintro e w1 ⟨rfl, b1⟩
    go_wp2
    go_ret
    exact ⟨ret_bool hr.out.symm, hbW.thenB b1⟩
  · have ht := two_of hb
    have hr : Hid (spB s xs t ys = flB xs.length (supS xs ys) (demS xs ys)) := Lib.hid (by rw [spB, hb]; rfl)
    rw [hb] at HB
    have HT := Lib.hid ht
    clear hb ht
    go_enter Try.func12, Try.ntmps12
    go_wp2_with fail
    rw [← HW.out]
    refine HB.out.mono ?_
    rintro e w1 ⟨rfl, b1⟩
    replace c0 := cellKeep b1 c0
    replace c1 := cellKeep b1 c1
    replace c2 := cellKeep b1 c2
    replace c3 := cellKeep b1 c3
    replace hbW := hbW.thenB b1
    clear b1 HB HW
    have hyl : ys.length = xs.length := HT.out.yl
    have HNEW := l8New_any xs.length s t p q c d xs ys w1 (HX.out.below hbW) (HY.out.below hbW) HT.out.n1 HT.out.n16 rfl hyl HT.out.ax HT.out.ay HT.out.sx HT.out.sy
    have HN := Lib.hid HNEW
    rw [hyl] at c3
    clear HNEW hyl
    go_wp2_with fail
    refine HN.out.mono ?_
    rintro e w2 ⟨fb, lb, db, cl, cd, rfl, hfm, b2⟩
    clear HN c0 c1 c2 c3
    have hz0 := hbW.size
    replace hbW := hbW.thenB b2
    have hrun := l8Run_any w1.heap.size xs.length (xs.length * xs.length) fb lb db (xs.length * xs.length) cl cd _ _ _ w2 HT.out.n1 HT.out.n16 hfm (supS xs ys) (demS xs ys) HT.out.start HT.out.sup.2.2 (fun b hb => by have := (HT.out.sup.1 b hb).2; omega) (fun b hb => by have := (HT.out.sup.2.1 b hb).2; omega)
    have HR := Lib.hid hrun
    have hlt := hfm.lts
    have hz1 := hbW.size
    have hz2 := b2.size
    clear hrun hfm b2
    go_wp2_with fail
    refine HR.out.mono ?_
    rintro e w3 ⟨Fl, lf, du, rfl, hfm, hpf, hd1, hd2, hex⟩
    have hbel : Below w.heap.size w w3 := hbW.trans (hex.below (by omega) (by omega) (by omega) (by omega))
    have hdn := Lib.hid (done_is hd1 hd2)
    have HD := Lib.hid (l8Done_any xs.length w3 HT.out.n16 (.slice (some ⟨fb, 0, none⟩) (xs.length * xs.length) (xs.length * xs.length)) (.slice (some ⟨lb, 0, none⟩) xs.length cl) rfl rfl (some ⟨db, 0, none⟩) cd du hfm.od.reads hfm.dl)
    clear HR hpf hd1 hd2 hex hfm
    go_wp2_with fail
    refine HD.out.mono ?_
    rintro e w4 ⟨rfl, b4⟩
    rw [hdn.out]
    go_wp2
    go_ret
    exact ⟨ret_bool hr.out.symm, hbel.thenB b4⟩

end Go.Proofs.Ytjmfjgoehicgcaa

/- Sums of the parts within a set, and of those that hold it. -/
set_option linter.unusedVariables false
set_option linter.unusedSimpArgs false
namespace Go.Proofs.Ytjmfjgoehicgcaa
open Go.RowKit

def inSet (a b : Nat) : Bool := subB b a


theorem l4Common_any (s : Int) (p : Option Addr) (c : Nat) (xs : List Int) (a : Nat) (w : World) (hx : Reads w p xs) (hxm : xs.length ≤ 16) (ha : a < 16) (hr : allB 0 1000000 xs = true) :
    Calls Try.prog 81 #[.agg #[.int .i64 s, .slice p xs.length c], .int .i64 a] w fun e w' => e = .returned (.int .i64 (sumTo (subB a) xs xs.length)) ∧ Below w.heap.size w w' := by
  have HR := Lib.hid hr
  clear hr
  have hb0 : Below w.heap.size w (w.alloc (.cells #[.int .i64 s, .slice p xs.length c] 27)) := (Below.refl _ _).alloc (Nat.le_refl _) _
  have hx1 := hx.below hb0
  clear hx
  go_enter Try.func81, Try.ntmps81
  go_wp2
  go_loop [5, 6] (fun d i => ∃ (k : Nat), k ≤ xs.length ∧ i = .int .i64 k ∧ d = .int .i64 (sumTo (subB a) xs k)) (fun _ i => xs.length - (intOf i).toNat)
  case atStart => exact ⟨0, Nat.zero_le _, rfl, rfl⟩
  case round =>
    obtain ⟨k, hk, rfl, rfl⟩ := hrel
    by_cases hlt : k < xs.length
    · obtain ⟨b, off, rfl, hbl, hc⟩ := hx1 k hlt
      have hs := Lib.hid (sumTo_succ (subB a) xs k)
      have hn := allB_nth HR.out k hlt
      obtain ⟨hn1, hn2⟩ := hn
      have hsum := sumTo_bd (subB a) xs HR.out (by omega) k hk
      obtain ⟨hs1, hs2⟩ := hsum
      have ht := sub_test a k ha (by omega)
      clear hx1
      cases hm : subB a k
      · rw [hm] at ht
        have HM := Lib.hid hm
        clear hm
        go_wp2
        exact ⟨⟨k + 1, by omega, by go_num, by rw [hs.out, HM.out]; rfl⟩, by simp [intOf]; omega⟩
      · rw [hm] at ht
        have HM := Lib.hid hm
        clear hm
        go_wp2
        exact ⟨⟨k + 1, by omega, by go_num, by rw [hs.out, HM.out]; rfl⟩, by simp [intOf]; omega⟩
    · have h1 : k = xs.length := by omega
      subst h1
      clear hx1
      go_wp2
      go_ret
      exact ⟨rfl, hb0⟩


theorem impliedIn_any (a b : Nat) (q : Addr) (w : World) (ha : a < 16) (hb : b < 16) (hc : w.cell? q = some (.int .i64 a)) :
    Calls Try.prog 115 #[.int .i64 b, .pointer (some q)] w fun e w' => e = .returned (.bool (inSet a b)) ∧ w = w' := by
  have ht : _ = inSet a b := sub_test b a hb ha
  go_enter Try.func115, Try.ntmps115
  go_wp2
  go_ret
  exact ⟨ret_bool rfl, rfl⟩


theorem impliedPart_any (s : Int) (p : Option Addr) (c : Nat) (xs : List Int) (a : Nat) (w : World) (hx : Reads w p xs) (hxm : xs.length ≤ 16) (ha : a < 16) (hr : allB 0 1000000 xs = true) :
    Calls Try.prog 83 #[.agg #[.int .i64 s, .slice p xs.length c], .int .i64 a] w fun e w' => e = .returned (.int .i64 (sumTo (inSet a) xs xs.length)) ∧ Below w.heap.size w w' := by
  have HR := Lib.hid hr
  clear hr
  have hb1 : Below w.heap.size w (w.alloc (.cells #[.int .i64 s, .slice p xs.length c] 27)) := (Below.refl _ _).alloc (Nat.le_refl _) _
  have hb0 : Below w.heap.size w ((w.alloc (.cells #[.int .i64 s, .slice p xs.length c] 27)).alloc (.cells #[.int .i64 a] 3)) := hb1.alloc (by simp) _
  have hx1 := hx.below hb0
  have hcell : ((w.alloc (.cells #[.int .i64 s, .slice p xs.length c] 27)).alloc (.cells #[.int .i64 a] 3)).cell? ⟨w.heap.size + 1, 0, none⟩ = some (.int .i64 a) := by
    rw [World.cell?_alloc_at _ _ _ _ (by simp)]; rfl
  have hmf : ∀ (fn : Fn) (first cap : Array Value) (w : World), (Instr.makeFunc fn first cap).run Try.prog w = .ok (.func fn first cap) w := fun _ _ _ _ => rfl
  clear hx
  go_enter Try.func83, Try.ntmps83
  go_wp2_with fail
  refine (sumOver_any 115 (fun _ _ => by kernel_rfl) ⟨w.heap.size + 1, 0, none⟩ (inSet a) _ _ _ _ _ hx1 hxm HR.out (Lib.hid fun b wr hb hbw => (impliedIn_any a b _ wr ha (by omega) ((hbw.cell (p := ⟨w.heap.size + 1, 0, none⟩) (by simp)).trans hcell)))).mono ?_
  rintro e w1 ⟨rfl, hb2⟩
  go_wp2
  go_ret
  exact ⟨rfl, hb0.trans (hb2.mono hb0.size)⟩


theorem commonIn_any (a b : Nat) (q : Addr) (w : World) (ha : a < 16) (hb : b < 16) (hc : w.cell? q = some (.int .i64 a)) :
    Calls Try.prog 114 #[.int .i64 b, .pointer (some q)] w fun e w' => e = .returned (.bool (subB a b)) ∧ w = w' := by
  have ht := sub_test a b ha hb
  go_enter Try.func114, Try.ntmps114
  go_wp2
  go_ret
  exact ⟨ret_bool rfl, rfl⟩

end Go.Proofs.Ytjmfjgoehicgcaa

/- What masses have in common: both packages. -/
set_option linter.unusedVariables false
set_option linter.unusedSimpArgs false
namespace Go.Proofs.Ytjmfjgoehicgcaa
open Go.RowKit

/-- Each set is at most as common by the first mass as by the second, before set k. -/
def mcTo (xs ys : List Int) (k : Nat) : Bool := (List.range k).all fun a => decide (sumTo (subB a) xs xs.length * sumL ys ≤ sumTo (subB a) ys ys.length * sumL xs)

theorem mcTo_succ (xs ys : List Int) (k : Nat) : mcTo xs ys (k + 1) = (mcTo xs ys k && decide (sumTo (subB k) xs xs.length * sumL ys ≤ sumTo (subB k) ys ys.length * sumL xs)) := by
  simp [mcTo, List.range_succ]

theorem mcTo_false (xs ys : List Int) (k n : Nat) (h : k < n) (hf : ¬ sumTo (subB k) xs xs.length * sumL ys ≤ sumTo (subB k) ys ys.length * sumL xs) : mcTo xs ys n = false := by
  rw [Bool.eq_false_iff]
  intro hh
  have := List.all_eq_true.1 hh k (by simp; exact h)
  simp at this
  exact hf this

/-- How much has a set in common. -/
def coS (a : Nat) (xs : List Int) : Int := sumTo (subB a) xs xs.length

def cpS (s : Int) (xs : List Int) (a : Int) : Int := if msB s xs a = true then coS a.toNat xs else -1

theorem cpNo {s : Int} {xs : List Int} {a : Int} (h : msB s xs a = false) : cpS s xs a = -1 := by simp [cpS, h]

theorem cpYes {s : Int} {xs : List Int} {a : Nat} (h : msB s xs a = true) : cpS s xs a = sumTo (subB a) xs xs.length := by simp [cpS, h, coS]

set_option maxHeartbeats 1000000 in
theorem iCommonPart_any (s : Int) (p : Option Addr) (c : Nat) (xs : List Int) (a : Int) (w : World) (hx : Reads w p xs) (hxm : xs.length ≤ 1048576) :
    Calls Try.prog 77 #[.agg #[.int .i64 s, .slice p xs.length c], .int .i64 a] w fun e w' => e = .returned (.int .i64 (cpS s xs a)) ∧ Below w.heap.size w w' := by
  obtain ⟨W, hW⟩ : ∃ W : World, W = ((w.alloc (.cells #[.int .i64 s, .slice p xs.length c] 27)).alloc (.cells #[.int .i64 a] 3)) := ⟨_, rfl⟩
  have bW : Below w.heap.size w W := by subst hW; exact (belowAlloc _ _).thenB (belowAlloc _ _)
  have hsz : W.heap.size = w.heap.size + 2 := by subst hW; simp
  have b0 : VarInv W (w.heap.size) (s) (.slice p xs.length c) := by
    subst hW
    have h := VarInv.made w (s) (.slice p xs.length c) 27
    exact (h).later (belowAlloc _ _)
  have b1 : W.cell? ⟨w.heap.size + 1, 0, none⟩ = some (.int .i64 a) := by
    subst hW
    have h := newCell ((w.alloc (.cells #[.int .i64 s, .slice p xs.length c] 27))) (.int .i64 a) 3
    rw [show (w.alloc (.cells #[.int .i64 s, .slice p xs.length c] 27)).heap.size = w.heap.size + 1 by simp] at h
    exact h
  have HWW := Lib.hid hW
  have HSZ := Lib.hid hsz
  clear hW hsz
  cases h1 : massB s xs
  · have e2 : msB s xs a = false := by simp [msB, h1]
    have hr := Lib.hid (cpNo e2)
    go_enter Try.func77, Try.ntmps77
    go_wp2_with fail
    rw [← HWW.out]
    refine (isMass_any _ _ _ _ _ (hx.below bW) hxm).mono ?_
    rintro e w1 ⟨rfl, hb⟩
    replace b0 := b0.later hb
    have b0_0 := b0.c0
    have b0_1 := b0.c1
    replace b1 := cellKeep hb b1
    replace bW := bW.thenB hb
    have z1 := hb.size
    clear hb
    go_wp2
    go_ret
    exact ⟨ret_int hr.out.symm, bW⟩
  · have hk := massB_ok h1
    have k1 := hk.s1
    have k4 := hk.s4
    cases h2 : setB s a
    · have e2 : msB s xs a = false := by simp [msB, h2]
      have hr := Lib.hid (cpNo e2)
      go_enter Try.func77, Try.ntmps77
      go_wp2_with fail
      rw [← HWW.out]
      refine (isMass_any _ _ _ _ _ (hx.below bW) hxm).mono ?_
      rintro e w1 ⟨rfl, hb⟩
      replace b0 := b0.later hb
      have b0_0 := b0.c0
      have b0_1 := b0.c1
      replace b1 := cellKeep hb b1
      replace bW := bW.thenB hb
      have z1 := hb.size
      clear hb
      go_wp2_with fail
      refine (isSetOf_any _ _ _ k1 k4).mono ?_
      rintro e w' ⟨rfl, rfl⟩
      go_wp2
      go_ret
      exact ⟨ret_int hr.out.symm, bW⟩
    · obtain ⟨na, rfl, ha16, _⟩ := setB_nat k1 k4 h2
      have e2 : msB s xs na = true := by simp [msB, h1, h2]
      have hr := Lib.hid (cpYes e2)
      have hx16 := hk.l16
      have hal := hk.all
      have hmf : ∀ (fn : Fn) (first cap : Array Value) (w : World), (Instr.makeFunc fn first cap).run Try.prog w = .ok (.func fn first cap) w := fun _ _ _ _ => rfl
      go_enter Try.func77, Try.ntmps77
      go_wp2_with fail
      rw [← HWW.out]
      refine (isMass_any _ _ _ _ _ (hx.below bW) hxm).mono ?_
      rintro e w1 ⟨rfl, hb⟩
      replace b0 := b0.later hb
      have b0_0 := b0.c0
      have b0_1 := b0.c1
      replace b1 := cellKeep hb b1
      replace bW := bW.thenB hb
      have z1 := hb.size
      clear hb
      go_wp2_with fail
      refine (isSetOf_any _ _ _ k1 k4).mono ?_
      rintro e w' ⟨rfl, rfl⟩
      go_wp2_with fail
      refine (sumOver_any 114 (fun _ _ => by kernel_rfl) ⟨w.heap.size + 1, 0, none⟩ (subB na) _ _ _ _ _ (hx.below bW) hx16 hal (Lib.hid fun b wr hb hbw => (commonIn_any na b _ wr ha16 (by omega) ((hbw.cell (p := ⟨w.heap.size + 1, 0, none⟩) (by show w.heap.size + 1 < _; have := HSZ.out; omega)).trans b1)))).mono ?_
      rintro e w2 ⟨rfl, hb⟩
      clear b0_0 b0_1
      replace b0 := b0.later hb
      have b0_0 := b0.c0
      have b0_1 := b0.c1
      replace b1 := cellKeep hb b1
      replace bW := bW.thenB hb
      have z2 := hb.size
      clear hb
      go_wp2
      go_ret
      exact ⟨ret_int hr.out.symm, bW⟩

theorem iCommonPart_n (s : Int) (p : Option Addr) (c : Nat) (xs : List Int) (a : Nat) (w : World) (hx : Reads w p xs) (hxm : xs.length ≤ 1048576) (h : Hid (msB s xs a = true)) :
    Calls Try.prog 77 #[.agg #[.int .i64 s, .slice p xs.length c], .int .i64 a] w fun e w' => e = .returned (.int .i64 (sumTo (subB a) xs xs.length)) ∧ Below w.heap.size w w' := by
  rw [← cpYes h.out]
  exact iCommonPart_any s p c xs a w hx hxm

theorem bothSet {s t : Int} {xs ys : List Int} (h : bothB s xs t ys = true) (k : Nat) (hk : k < xs.length) : Hid (msB s xs k = true) ∧ Hid (msB t ys k = true) := by
  obtain ⟨k1, k2, k3, k4⟩ := bothB_ok h
  simp only [bothB, Bool.and_eq_true, decide_eq_true_eq] at h
  have e1 := k1.len
  have e2 := k2.len
  refine ⟨Lib.hid ?_, Lib.hid ?_⟩
  · simp [msB, h.1, setB]; omega
  · simp [msB, h.2.1, setB]; omega

/-- Each set is at most as common by the first mass as by the second. -/
def mcB (s : Int) (xs : List Int) (t : Int) (ys : List Int) : Bool := bothB s xs t ys && mcTo xs ys xs.length

set_option maxHeartbeats 2000000 in
theorem sMoreCommon_any (s : Int) (p : Option Addr) (c : Nat) (xs : List Int) (t : Int) (q : Option Addr) (d : Nat) (ys : List Int) (w : World) (hx : Reads w p xs) (hy : Reads w q ys) (hxm : xs.length ≤ 1048576) (hym : ys.length ≤ 1048576) :
    Calls Try.prog 29 #[.agg #[.int .i64 s, .slice p xs.length c], .agg #[.int .i64 t, .slice q ys.length d]] w fun e w' => e = .returned (.bool (mcB s xs t ys)) ∧ Below w.heap.size w w' := by
  obtain ⟨W, hW, hbW, hsz, c0, c1, c2, c3⟩ := box2 w s t p q xs.length ys.length c d
  have hxW := hx.below hbW
  have hyW := hy.below hbW
  have HW := Lib.hid hW
  have hl0 : w.heap.size < W.heap.size := by omega
  have hl1 : w.heap.size + 1 < W.heap.size := by omega
  clear hW hx hy hsz
  cases h1 : bothB s xs t ys
  · have hr : Hid (mcB s xs t ys = false) := Lib.hid (by simp [mcB, h1])
    go_enter Try.func29, Try.ntmps29
    go_wp2
    rw [← HW.out]
    refine wp_loop_rounds 1 ?_
    rw [rounds_succ]
    go_wp2_with fail
    refine (l3Both_any _ _ _ _ _ _ _ _ _ hxW hyW hxm hym).mono ?_
    rintro e w1 ⟨rfl, hb1⟩
    have hc1 := bcell hb1
    have hxw := hxW.below hb1
    have hyw := hyW.below hb1
    go_wp2_with fail
    refine (l3Both_any _ _ _ _ _ _ _ _ _ hxw hyw hxm hym).mono ?_
    rintro e w2 ⟨rfl, hb2⟩
    go_wp2
    go_ret
    exact ⟨ret_bool (by rw [hr.out]), hbW.trans ((hb1.trans (hb2.mono hb1.size)).mono hbW.size)⟩
  · have hr : Hid (mcB s xs t ys = mcTo xs ys xs.length) := Lib.hid (by simp [mcB, h1])
    obtain ⟨k1, k2, k3, k4⟩ := bothB_ok h1
    have K4 := Lib.hid k4
    clear k3 k4
    have HM := Lib.hid k1
    have HN := Lib.hid k2
    have hl16 := k1.l16
    clear k1 k2
    go_enter Try.func29, Try.ntmps29
    go_wp2
    rw [← HW.out]
    go_loopw [5] (fun i wr => ∃ k : Nat, k ≤ xs.length ∧ i = .int .i64 k ∧ mcTo xs ys k = true ∧ Below W.heap.size W wr) (fun i _ => xs.length - (intOf i).toNat)
    case atStart => exact ⟨0, Nat.zero_le _, rfl, rfl, Below.refl _ _⟩
    case round =>
      obtain ⟨k, hk, rfl, hmp, hb⟩ := hrel
      have hs := hb.size
      have HP := Lib.hid hmp
      have hcb := bcell hb
      have hxr := hxW.below hb
      have hyr := hyW.below hb
      clear hmp
      go_wp2_with fail
      refine (l3Both_any _ _ _ _ _ _ _ _ _ hxr hyr hxm hym).mono ?_
      rintro e w1 ⟨rfl, hb1⟩
      have hbw := hb.trans (hb1.mono hs)
      have hxr := hxW.below hbw
      have hyr := hyW.below hbw
      have hs1 := hbw.size
      have hcw := bcell hbw
      clear hcb
      by_cases hlt : k < xs.length
      · have hsz2 : w.heap.size + 1 < w1.heap.size := by omega
        have hsz3 : w.heap.size < w1.heap.size := by omega
        have d0 := fun x : LaterW w1.heap.size w1 => x.cell hsz3 ((hcw.1 _ 0 hl0).trans c0)
        have d1 := fun x : LaterW w1.heap.size w1 => x.cell hsz3 ((hcw.1 _ 1 hl0).trans c1)
        have d2 := fun x : LaterW w1.heap.size w1 => x.cell hsz2 ((hcw.1 _ 0 hl1).trans c2)
        have d3 := fun x : LaterW w1.heap.size w1 => x.cell hsz2 ((hcw.1 _ 1 hl1).trans c3)
        have ⟨e1, e2⟩ := sumTo_bd (subB k) xs HM.out.all (by omega) xs.length (Nat.le_refl _)
        have ⟨e3, e4⟩ := sumTo_bd (subB k) ys HN.out.all (by omega) ys.length (Nat.le_refl _)
        have ⟨f1, f2⟩ := And.intro HM.out.sum1 HM.out.sum2
        have ⟨f3, f4⟩ := And.intro HN.out.sum1 HN.out.sum2
        have hax := HM.out.all
        have hay := HN.out.all
        have hly : ys.length ≤ 16 := by rw [← K4.out]; exact hl16
        have hw1 : wrap64 (sumTo (subB k) ys ys.length * sumL xs) = sumTo (subB k) ys ys.length * sumL xs := mul_wrap _ _ 16000000 1000000 e3 (by omega) (by omega) f2 (by omega)
        have hw2 : wrap64 (sumTo (subB k) xs xs.length * sumL ys) = sumTo (subB k) xs xs.length * sumL ys := mul_wrap _ _ 16000000 1000000 e1 (by omega) (by omega) f4 (by omega)
        clear e1 e2 e3 e4 f1 f2 f3 f4 hb hb1 hxW hyW
        by_cases hle : sumTo (subB k) xs xs.length * sumL ys ≤ sumTo (subB k) ys ys.length * sumL xs
        · have hd : decide (sumTo (subB k) ys ys.length * sumL xs < sumTo (subB k) xs xs.length * sumL ys) = false := by simpa using hle
          have HN2 : Hid (mcTo xs ys (k + 1) = true) := Lib.hid (by rw [mcTo_succ, HP.out]; simp [hle])
          clear hle
          go_wp2
          refine wp_region_later (by kernel_rfl) (by kernel_rfl) ?_
          repeat (go_big_quiet_step ((first | (go_at_call 81; exact LaterW.call (l4Common_any _ _ _ _ _ _ (LaterW.reads _ (by assumption)) (by assumption) (by omega) (by assumption))) | (go_at_call 80; exact LaterW.call (l3Whole_any _ _ _ _ _ (LaterW.reads _ (by assumption)) (by omega) (by assumption))))))
          refine wpQuiet_nil ?_
          intro _ hw'
          obtain ⟨x, rfl⟩ := hw'
          have hbx := hbw.trans (x.below.mono hs1)
          clear d0 d1 d2 d3
          go_wp2
          exact ⟨⟨k + 1, by omega, by go_num, HN2.out, hbx⟩, by simp [intOf]; omega⟩
        · have hd : decide (sumTo (subB k) ys ys.length * sumL xs < sumTo (subB k) xs xs.length * sumL ys) = true := by simpa using hle
          have HF := Lib.hid (mcTo_false xs ys k xs.length hlt hle)
          clear hle
          go_wp2
          refine wp_region_later (by kernel_rfl) (by kernel_rfl) ?_
          repeat (go_big_quiet_step ((first | (go_at_call 81; exact LaterW.call (l4Common_any _ _ _ _ _ _ (LaterW.reads _ (by assumption)) (by assumption) (by omega) (by assumption))) | (go_at_call 80; exact LaterW.call (l3Whole_any _ _ _ _ _ (LaterW.reads _ (by assumption)) (by omega) (by assumption))))))
          refine wpQuiet_nil ?_
          intro _ hw'
          obtain ⟨x, rfl⟩ := hw'
          have hbx := hbw.trans (x.below.mono hs1)
          clear d0 d1 d2 d3
          go_wp2
          go_ret
          exact ⟨ret_bool (by rw [hr.out, HF.out]), hbW.trans (hbx.mono hbW.size)⟩
      · have h2 : k = xs.length := by omega
        subst h2
        go_wp2_with fail
        refine (l3Both_any _ _ _ _ _ _ _ _ _ hxr hyr hxm hym).mono ?_
        rintro e w2 ⟨rfl, hb2⟩
        go_wp2
        go_ret
        exact ⟨ret_bool (by rw [hr.out, HP.out]), hbW.trans ((hbw.trans (hb2.mono hs1)).mono hbW.size)⟩


set_option maxHeartbeats 2000000 in
theorem iMoreCommon_any (s : Int) (p : Option Addr) (c : Nat) (xs : List Int) (t : Int) (q : Option Addr) (d : Nat) (ys : List Int) (w : World) (hx : Reads w p xs) (hy : Reads w q ys) (hxm : xs.length ≤ 1048576) (hym : ys.length ≤ 1048576) :
    Calls Try.prog 27 #[.agg #[.int .i64 s, .slice p xs.length c], .agg #[.int .i64 t, .slice q ys.length d]] w fun e w' => e = .returned (.bool (mcB s xs t ys)) ∧ Below w.heap.size w w' := by
  obtain ⟨W, hW, hbW, hsz, c0, c1, c2, c3⟩ := box2 w s t p q xs.length ys.length c d
  have hxW := hx.below hbW
  have hyW := hy.below hbW
  have HW := Lib.hid hW
  have hl0 : w.heap.size < W.heap.size := by omega
  have hl1 : w.heap.size + 1 < W.heap.size := by omega
  clear hW hx hy hsz
  cases h1 : bothB s xs t ys
  · have hr : Hid (mcB s xs t ys = false) := Lib.hid (by simp [mcB, h1])
    go_enter Try.func27, Try.ntmps27
    go_wp2_with fail
    rw [← HW.out]
    refine (ofOneQuestion_any _ _ _ _ _ _ _ _ _ hxW hyW hxm hym).mono ?_
    rintro e w1 ⟨rfl, hb1⟩
    go_wp2
    go_ret
    exact ⟨ret_bool hr.out.symm, hbW.trans (hb1.mono hbW.size)⟩
  · have hr : Hid (mcB s xs t ys = mcTo xs ys xs.length) := Lib.hid (by simp [mcB, h1])
    obtain ⟨k1, k2, k3, k4⟩ := bothB_ok h1
    have K4 := Lib.hid k4
    clear k3 k4
    go_enter Try.func27, Try.ntmps27
    go_wp2_with fail
    rw [← HW.out]
    refine (ofOneQuestion_any _ _ _ _ _ _ _ _ _ hxW hyW hxm hym).mono ?_
    rintro e w1 ⟨rfl, hb1⟩
    have hc1 := bcell hb1
    have hxw := hxW.below hb1
    have hyw := hyW.below hb1
    have HM := Lib.hid k1
    have HN := Lib.hid k2
    have hl16 := k1.l16
    have HB := Lib.hid h1
    have hs1 := hb1.size
    have hbW1 := hbW.trans (hb1.mono hbW.size)
    have HS := Lib.hid hl1
    have c0w := (hc1.1 _ 0 hl0).trans c0
    have c1w := (hc1.1 _ 1 hl0).trans c1
    have c2w := (hc1.1 _ 0 hl1).trans c2
    have c3w := (hc1.1 _ 1 hl1).trans c3
    have HC := Lib.hid (And.intro c0w (And.intro c1w (And.intro c2w c3w)))
    clear k1 k2
    go_wp2
    clear h1
    go_loopw [13] (fun i wr => ∃ k : Nat, k ≤ xs.length ∧ i = .int .i64 k ∧ mcTo xs ys k = true ∧ Below w1.heap.size w1 wr) (fun i _ => xs.length - (intOf i).toNat)
    case atStart => exact ⟨0, Nat.zero_le _, rfl, rfl, Below.refl _ _⟩
    case round =>
      obtain ⟨k, hk, rfl, hmp, hb⟩ := hrel
      by_cases hlt : k < xs.length
      · have hs := hb.size
        have hsz2 : w.heap.size + 1 < wr.heap.size := by have := HS.out; have := hs1; omega
        have hsz3 : w.heap.size < wr.heap.size := by omega
        have hcb := bcell hb
        have d0 := fun x : LaterW wr.heap.size wr => x.cell hsz3 ((hcb.1 _ 0 (by have := HS.out; have := hs1; omega)).trans HC.out.1)
        have d1 := fun x : LaterW wr.heap.size wr => x.cell hsz3 ((hcb.1 _ 1 (by have := HS.out; have := hs1; omega)).trans HC.out.2.1)
        have d2 := fun x : LaterW wr.heap.size wr => x.cell hsz2 ((hcb.1 _ 0 (by have := HS.out; have := hs1; omega)).trans HC.out.2.2.1)
        have d3 := fun x : LaterW wr.heap.size wr => x.cell hsz2 ((hcb.1 _ 1 (by have := HS.out; have := hs1; omega)).trans HC.out.2.2.2)
        have hxr := hxw.below hb
        have hyr := hyw.below hb
        clear hcb hxw hyw
        obtain ⟨hsx, hsy⟩ := bothSet HB.out k hlt
        have ⟨e1, e2⟩ := sumTo_bd (subB k) xs HM.out.all (by omega) xs.length (Nat.le_refl _)
        have ⟨e3, e4⟩ := sumTo_bd (subB k) ys HN.out.all (by omega) ys.length (Nat.le_refl _)
        have ⟨f1, f2⟩ := And.intro HM.out.sum1 HM.out.sum2
        have ⟨f3, f4⟩ := And.intro HN.out.sum1 HN.out.sum2
        have hax := HM.out.all
        have hay := HN.out.all
        have hly : ys.length ≤ 16 := by rw [← K4.out]; exact hl16
        have hw1 : wrap64 (sumTo (subB k) ys ys.length * sumL xs) = sumTo (subB k) ys ys.length * sumL xs := mul_wrap _ _ 16000000 1000000 e3 (by omega) (by omega) f2 (by omega)
        have hw2 : wrap64 (sumTo (subB k) xs xs.length * sumL ys) = sumTo (subB k) xs xs.length * sumL ys := mul_wrap _ _ 16000000 1000000 e1 (by omega) (by omega) f4 (by omega)
        have HP := Lib.hid hmp
        clear e1 e2 e3 e4 f1 f2 f3 f4 hmp
        by_cases hle : sumTo (subB k) xs xs.length * sumL ys ≤ sumTo (subB k) ys ys.length * sumL xs
        · have hd : decide (sumTo (subB k) ys ys.length * sumL xs < sumTo (subB k) xs xs.length * sumL ys) = false := by simpa using hle
          have HN2 : Hid (mcTo xs ys (k + 1) = true) := Lib.hid (by rw [mcTo_succ, HP.out]; simp [hle])
          clear hle
          go_wp2
          refine wp_region_later (by kernel_rfl) (by kernel_rfl) ?_
          repeat (go_big_quiet_step ((first | (go_at_call 77; exact LaterW.call (iCommonPart_n _ _ _ _ _ _ (LaterW.reads _ (by assumption)) (by omega) (by assumption))) | (go_at_call 78; exact LaterW.call (wholeOf_any _ _ _ _ _ (LaterW.reads _ (by assumption)) (by omega) (by assumption))))))
          refine wpQuiet_nil ?_
          intro _ hw'
          obtain ⟨x, rfl⟩ := hw'
          have hbx := hb.trans (x.below.mono hs)
          clear d0 d1 d2 d3
          go_wp2
          exact ⟨⟨k + 1, by omega, by go_num, HN2.out, hbx⟩, by simp [intOf]; omega⟩
        · have hd : decide (sumTo (subB k) ys ys.length * sumL xs < sumTo (subB k) xs xs.length * sumL ys) = true := by simpa using hle
          have HF := Lib.hid (mcTo_false xs ys k xs.length hlt hle)
          clear hle
          go_wp2
          refine wp_region_later (by kernel_rfl) (by kernel_rfl) ?_
          repeat (go_big_quiet_step ((first | (go_at_call 77; exact LaterW.call (iCommonPart_n _ _ _ _ _ _ (LaterW.reads _ (by assumption)) (by omega) (by assumption))) | (go_at_call 78; exact LaterW.call (wholeOf_any _ _ _ _ _ (LaterW.reads _ (by assumption)) (by omega) (by assumption))))))
          refine wpQuiet_nil ?_
          intro _ hw'
          obtain ⟨x, rfl⟩ := hw'
          have hbx := hb.trans (x.below.mono hs)
          clear d0 d1 d2 d3
          go_wp2
          go_ret
          exact ⟨ret_bool (by rw [hr.out, HF.out]), hbW1.trans (hbx.mono hbW1.size)⟩
      · have h1 : k = xs.length := by omega
        subst h1
        have HP := Lib.hid hmp
        clear hmp
        go_wp2
        go_ret
        exact ⟨ret_bool (by rw [hr.out, HP.out]), hbW1.trans (hb.mono hbW1.size)⟩

end Go.Proofs.Ytjmfjgoehicgcaa
