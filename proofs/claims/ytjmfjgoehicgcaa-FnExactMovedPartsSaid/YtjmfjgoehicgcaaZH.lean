/- Plain facts: the first table is reached by raising one gift behind the other, in either of two ways. -/
import Derived.Test.YtjmfjgoehicgcaaZC
set_option linter.unusedVariables false
set_option linter.unusedSimpArgs false
namespace Go.Proofs.Ytjmfjgoehicgcaa
open Go.RowKit

/-- What is open if a giver and a getter are left out. -/
def opX (op : Nat → Nat → Bool) (b0 a0 : Nat) : Nat → Nat → Bool := fun b a => op b a && (!(b == b0) && !(a == a0))
theorem opX_iff {op : Nat → Nat → Bool} {b0 a0 b a : Nat} : opX op b0 a0 b a = true ↔ op b a = true ∧ b ≠ b0 ∧ a ≠ a0 := by simp [opX]

/-- At which getters a giver's gift can be lowered. -/
def endX (op : Nat → Nat → Bool) (F : Nat → Nat → Int) (b0 a0 : Nat) : Nat → Bool := fun c => !(c == a0) && (op b0 c && decide (0 < F b0 c))
theorem endX_iff {op : Nat → Nat → Bool} {F : Nat → Nat → Int} {b0 a0 c : Nat} : endX op F b0 a0 c = true ↔ c ≠ a0 ∧ op b0 c = true ∧ 0 < F b0 c := by simp [endX]

/-- Where no other giver finds a way round, the gift is as great as it can be. -/
theorem raise_done {N : Nat} {sup dem : Nat → Int} {F G : Nat → Nat → Int} (f : Flow N sup dem F) (g : Flow N sup dem G) (op : Nat → Nat → Bool) (hop : ∀ b a, b < N → a < N → op b a = false → G b a = F b a) (b0 a0 : Nat) (hb0 : b0 < N) (ha0 : a0 < N)
    (H : ∀ b2, b2 < N → b2 ≠ b0 → op b2 a0 = true → 0 < F b2 a0 → ∃ R S, NoWay N (opX op b0 a0) F b2 (endX op F b0 a0) R S) : G b0 a0 ≤ F b0 a0 := by
  have hd : ∀ {p : Prop}, (@decide p (Classical.propDecidable p) = true ↔ p) := fun {p} => @decide_eq_true_iff p (Classical.propDecidable p)
  have hf : ∀ {p : Prop}, (@decide p (Classical.propDecidable p) = false ↔ ¬ p) := fun {p} => @decide_eq_false_iff_not p (Classical.propDecidable p)
  have notb0 : ∀ b, b < N → (∃ b2 R S, b2 ≠ b0 ∧ NoWay N (opX op b0 a0) F b2 (endX op F b0 a0) R S ∧ R b = true) → b ≠ b0 := by
    rintro b hb ⟨b2, R, S, h1, h2, h3⟩ rfl
    rcases h2.c4 b hb h3 with e | ⟨a, _, e⟩
    · exact h1 e.symm
    · exact (opX_iff.1 e).2.1 rfl
  refine raise_max f g op hop b0 a0 hb0 ha0 (fun b => @decide (∃ b2 R S, b2 ≠ b0 ∧ NoWay N (opX op b0 a0) F b2 (endX op F b0 a0) R S ∧ R b = true) (Classical.propDecidable _))
    (fun a => @decide (a ≠ a0 ∧ ∃ b2 R S, b2 ≠ b0 ∧ NoWay N (opX op b0 a0) F b2 (endX op F b0 a0) R S ∧ S a = true) (Classical.propDecidable _)) ?_ ?_ ?_ ?_ ?_ ?_
  · intro b hb hne ho hF
    obtain ⟨R, S, h⟩ := H b hb hne ho hF
    exact hd.2 ⟨b, R, S, hne, h, h.rf⟩
  · exact hf.2 fun h => notb0 b0 hb0 h rfl
  · intro b a hb ha hR ho hne
    have hR := hd.1 hR
    have hbn := notb0 b hb hR
    obtain ⟨b2, R, S, h1, h2, h3⟩ := hR
    exact hd.2 ⟨hne, b2, R, S, h1, h2, h2.c1 b a hb ha h3 (opX_iff.2 ⟨ho, hbn, hne⟩)⟩
  · intro b a hb ha hT hne ho hF
    obtain ⟨ha1, b2, R, S, h1, h2, h3⟩ := hd.1 hT
    refine hd.2 ⟨b2, R, S, h1, h2, ?_⟩
    by_cases e : b = b2
    · rw [e]; exact h2.rf
    · exact h2.c3 b a hb ha h3 e (opX_iff.2 ⟨ho, hne, ha1⟩) hF
  · intro a ha hT ho
    obtain ⟨ha1, b2, R, S, h1, h2, h3⟩ := hd.1 hT
    have hE := h2.c2 a ha h3
    have hn := f.nn b0 a hb0 ha
    rcases Int.lt_or_le 0 (F b0 a) with hp | hp
    · rw [endX_iff.2 ⟨ha1, ho, hp⟩] at hE; cases hE
    · omega
  · exact hf.2 fun h => h.1 rfl

/-- All before place i is as in the first table. -/
structure Fst (N : Nat) (sup dem : Nat → Int) (i : Nat) (F : Nat → Nat → Int) : Prop where
  top : ∀ j, j < i → j < N * N → ∀ G, Flow N sup dem G → (∀ k, k < j → G (k / N) (k % N) = F (k / N) (k % N)) → G (j / N) (j % N) ≤ F (j / N) (j % N)

theorem Fst.zero (N : Nat) (sup dem : Nat → Int) (F : Nat → Nat → Int) : Fst N sup dem 0 F := ⟨fun j hj => absurd hj (Nat.not_lt_zero _)⟩
theorem Fst.keep {N : Nat} {sup dem : Nat → Int} {i : Nat} {F F' : Nat → Nat → Int} (h : Fst N sup dem i F) (he : ∀ k, k < i → F' (k / N) (k % N) = F (k / N) (k % N)) : Fst N sup dem i F' :=
  ⟨fun j hj hN G g hag => by rw [he j hj]; exact h.top j hj hN G g fun k hk => by rw [hag k hk, he k (by omega)]⟩
theorem Fst.next {N : Nat} {sup dem : Nat → Int} {i : Nat} {F : Nat → Nat → Int} (h : Fst N sup dem i F) (ht : ∀ G, Flow N sup dem G → (∀ k, k < i → G (k / N) (k % N) = F (k / N) (k % N)) → G (i / N) (i % N) ≤ F (i / N) (i % N)) : Fst N sup dem (i + 1) F :=
  ⟨fun j hj hN G g hag => by
    by_cases e : j = i
    · subst e; exact ht G g hag
    · exact h.top j (by omega) hN G g hag⟩
theorem Fst.first {N : Nat} {sup dem : Nat → Int} {F : Nat → Nat → Int} (h : Fst N sup dem (N * N) F) (f : Flow N sup dem F) : First N sup dem F := ⟨f, fun G g i hi hag => h.top i hi hi G g hag⟩

theorem pl_div {N b a : Nat} (ha : a < N) : (N * b + a) / N = b := by rw [Nat.mul_add_div (by omega), Nat.div_eq_of_lt ha]; rfl
theorem pl_mod {N b a : Nat} (ha : a < N) : (N * b + a) % N = a := by rw [Nat.mul_add_mod, Nat.mod_eq_of_lt ha]
theorem pl_lt {N b a : Nat} (ha : a < N) (hb : b < N) : N * b + a < N * N := by
  have h1 : N * (b + 1) ≤ N * N := Nat.mul_le_mul_left N hb
  rw [Nat.mul_succ] at h1
  omega
theorem pl_of {N k : Nat} (hN : 0 < N) (hk : k < N * N) : k / N < N ∧ k % N < N ∧ N * (k / N) + k % N = k := ⟨(Nat.div_lt_iff_lt_mul hN).mpr hk, Nat.mod_lt _ hN, Nat.div_add_mod k N⟩

/-- Which places are before place i. -/
def bef (N i : Nat) : Nat → Nat → Bool := fun b a => decide (N * b + a < i)

/-- What is open while place i is raised: the sets within sets at i and behind. -/
def opI (N i : Nat) : Nat → Nat → Bool := fun b a => subB a b && !(subB a b && bef N i b a)
theorem opI_iff {N i b a : Nat} : opI N i b a = true ↔ subB a b = true ∧ i ≤ N * b + a := by
  unfold opI bef
  cases h : subB a b <;> simp

theorem opI_no {N i b a : Nat} (h : opI N i b a = false) : subB a b = false ∨ N * b + a < i := by
  cases hs : subB a b
  · exact .inl rfl
  · refine .inr ?_
    rcases Nat.lt_or_ge (N * b + a) i with h2 | h2
    · exact h2
    · rw [opI_iff.2 ⟨hs, h2⟩] at h; cases h

/-- The program's raising of one place, its table otherwise as before where nothing is open. -/
theorem Fst.raised {N : Nat} {sup dem : Nat → Int} {b a : Nat} {F F' : Nat → Nat → Int} (h : Fst N sup dem (N * b + a) F) (hb : b < N) (ha : a < N) (f : Flow N sup dem F) (f' : Flow N sup dem F')
    (hoff : ∀ x y, x < N → y < N → opI N (N * b + a) x y = false → F' x y = F x y)
    (hmax : ∀ G, Flow N sup dem G → (∀ x y, x < N → y < N → opI N (N * b + a) x y = false → G x y = F' x y) → G b a ≤ F' b a) : Fst N sup dem (N * b + a + 1) F' := by
  have hN : 0 < N := by omega
  have hlt := pl_lt ha hb
  have hk : Fst N sup dem (N * b + a) F' := h.keep fun k hk => by
    obtain ⟨k1, k2, k3⟩ := pl_of hN (Nat.lt_trans hk hlt)
    refine hoff _ _ k1 k2 ?_
    cases e : opI N (N * b + a) (k / N) (k % N)
    · rfl
    · have := (opI_iff.1 e).2; omega
  refine hk.next fun G g hag => ?_
  rw [pl_div ha, pl_mod ha]
  refine hmax G g fun x y hx hy ho => ?_
  rcases opI_no ho with e | e
  · rw [g.sub x y hx hy e, f'.sub x y hx hy e]
  · have := hag _ e
    rw [pl_div hy, pl_mod hy] at this; exact this

/-- A place to which nothing can go. -/
theorem Fst.shut {N : Nat} {sup dem : Nat → Int} {b a : Nat} {F : Nat → Nat → Int} (h : Fst N sup dem (N * b + a) F) (hb : b < N) (ha : a < N) (f : Flow N sup dem F) (hs : subB a b = false) : Fst N sup dem (N * b + a + 1) F :=
  h.next fun G g _ => by rw [pl_div ha, pl_mod ha, g.sub b a hb ha hs, f.sub b a hb ha hs]; exact Int.le_refl _

/-- What the reference has settled: the places before i are those of the first table, the others are 0. -/
structure Stl (N : Nat) (sup dem : Nat → Int) (i : Nat) (P : Nat → Nat → Int) : Prop where
  fst : Fst N sup dem i P
  ex : ∃ G, Flow N sup dem G ∧ ∀ k, k < i → G (k / N) (k % N) = P (k / N) (k % N)
  zero : ∀ b a, b < N → a < N → subB a b = false ∨ i ≤ N * b + a → P b a = 0

/-- What is left, and due, behind what is settled. -/
def lfS (N : Nat) (sup : Nat → Int) (P : Nat → Nat → Int) : Nat → Int := fun b => sup b - sm N (fun a => P b a)
def duS (N : Nat) (dem : Nat → Int) (P : Nat → Nat → Int) : Nat → Int := fun a => dem a - sm N (fun b => P b a)
def less (f : Nat → Int) (b : Nat) (n : Int) : Nat → Int := fun k => if k = b then f k - n else f k

theorem Stl.start {N : Nat} {sup dem : Nat → Int} {P : Nat → Nat → Int} (h : ∃ G, Flow N sup dem G) (hP : ∀ b a, b < N → a < N → P b a = 0) : Stl N sup dem 0 P := by
  obtain ⟨G, g⟩ := h
  exact ⟨Fst.zero _ _ _ _, ⟨G, g, fun k hk => absurd hk (Nat.not_lt_zero _)⟩, fun b a hb ha _ => hP b a hb ha⟩

theorem Stl.le {N : Nat} {sup dem : Nat → Int} {i : Nat} {P : Nat → Nat → Int} (h : Stl N sup dem i P) (hN : 0 < N) {G : Nat → Nat → Int} (g : Flow N sup dem G) (hag : ∀ k, k < i → G (k / N) (k % N) = P (k / N) (k % N)) :
    (∀ b a, b < N → a < N → P b a ≤ G b a) ∧ (∀ b a, b < N → a < N → N * b + a < i → P b a = G b a) := by
  have e : ∀ b a, b < N → a < N → N * b + a < i → P b a = G b a := fun b a hb ha hl => by
    have := hag _ hl; rw [pl_div ha, pl_mod ha] at this; exact this.symm
  refine ⟨fun b a hb ha => ?_, e⟩
  rcases Nat.lt_or_ge (N * b + a) i with hl | hl
  · rw [e b a hb ha hl]; exact Int.le_refl _
  · rw [h.zero b a hb ha (.inr hl)]; exact g.nn b a hb ha

/-- So much can go at place i exactly if the rest then can. -/
theorem Stl.can {N : Nat} {sup dem : Nat → Int} {b a : Nat} {P : Nat → Nat → Int} (h : Stl N sup dem (N * b + a) P) (hb : b < N) (ha : a < N) (hs : subB a b = true) (n : Int) (hn : 0 ≤ n) :
    (∃ G, Flow N (less (lfS N sup P) b n) (less (duS N dem P) a n) G) ↔ ∃ G, Flow N sup dem G ∧ (∀ k, k < N * b + a → G (k / N) (k % N) = P (k / N) (k % N)) ∧ n ≤ G b a := by
  have hN : 0 < N := by omega
  have hlt := pl_lt ha hb
  constructor
  · rintro ⟨G, g⟩
    obtain ⟨P1, hP1⟩ : ∃ P1, P1 = upd P b a (P b a + n) := ⟨_, rfl⟩
    have hz := h.zero b a hb ha (.inr (Nat.le_refl _))
    have pn : ∀ x y, x < N → y < N → 0 ≤ P x y := fun x y hx hy => by
      obtain ⟨G0, g0, ag0⟩ := h.ex
      rcases Nat.lt_or_ge (N * x + y) (N * b + a) with q | q
      · rw [(h.le hN g0 ag0).2 x y hx hy q]; exact g0.nn x y hx hy
      · rw [h.zero x y hx hy (.inr q)]; exact Int.le_refl _
    have p1 : ∀ x y, x < N → y < N → P x y ≤ P1 x y := fun x y hx hy => by
      rw [hP1]
      by_cases c : x = b ∧ y = a
      · obtain ⟨rfl, rfl⟩ := c; rw [upd_same]; omega
      · rw [upd_off _ _ _ _ _ _ c]; exact Int.le_refl _
    have fl : Flow N sup dem (fun x y => P1 x y + G x y) := by
      refine ⟨fun x y hx hy => ?_, fun x y hx hy q => ?_, fun x hx => ?_, fun y hy => ?_⟩
      · have := pn x y hx hy; have := p1 x y hx hy; have := g.nn x y hx hy; omega
      · have c : ¬ (x = b ∧ y = a) := fun c => by rw [c.1, c.2, hs] at q; cases q
        rw [g.sub x y hx hy q, hP1, upd_off _ _ _ _ _ _ c, h.zero x y hx hy (.inl q)]; rfl
      · rw [sm_add, g.row x hx, hP1, upd_row _ _ _ _ _ ha]; unfold less lfS; split <;> omega
      · rw [sm_add N (fun x => P1 x y) (fun x => G x y), g.col y hy, hP1, upd_col _ _ _ _ _ hb]; unfold less duS; split <;> omega
    have ag : ∀ k, k < N * b + a → P1 (k / N) (k % N) + G (k / N) (k % N) = P (k / N) (k % N) := by
      intro k
      induction k using Nat.strongRecOn with
      | _ k ih =>
        intro hk
        obtain ⟨k1, k2, k3⟩ := pl_of hN (Nat.lt_trans hk hlt)
        have t := h.fst.top k hk (Nat.lt_trans hk hlt) _ fl fun j hj => ih j hj (by omega)
        have c : ¬ (k / N = b ∧ k % N = a) := fun c => by rw [c.1, c.2] at k3; omega
        have e : P1 (k / N) (k % N) = P (k / N) (k % N) := by rw [hP1, upd_off _ _ _ _ _ _ c]
        have gg := g.nn _ _ k1 k2
        simp only [e] at t ⊢
        omega
    refine ⟨_, fl, ag, ?_⟩
    have := g.nn b a hb ha
    show n ≤ P1 b a + G b a
    rw [hP1, upd_same, hz]; omega
  · rintro ⟨G, g, hag, hle⟩
    obtain ⟨l1, l2⟩ := h.le hN g hag
    have hz := h.zero b a hb ha (.inr (Nat.le_refl _))
    obtain ⟨P1, hP1⟩ : ∃ P1, P1 = upd P b a (P b a + n) := ⟨_, rfl⟩
    refine ⟨fun x y => G x y - P1 x y, fun x y hx hy => ?_, fun x y hx hy q => ?_, fun x hx => ?_, fun y hy => ?_⟩
    · rw [hP1]
      by_cases c : x = b ∧ y = a
      · obtain ⟨rfl, rfl⟩ := c; rw [upd_same]; omega
      · rw [upd_off _ _ _ _ _ _ c]; have := l1 x y hx hy; omega
    · have c : ¬ (x = b ∧ y = a) := fun c => by rw [c.1, c.2, hs] at q; cases q
      rw [g.sub x y hx hy q, hP1, upd_off _ _ _ _ _ _ c, h.zero x y hx hy (.inl q)]; rfl
    · rw [sm_sub, g.row x hx, hP1, upd_row _ _ _ _ _ ha]; unfold less lfS; split <;> omega
    · rw [sm_sub N (fun x => G x y) (fun x => P1 x y), g.col y hy, hP1, upd_col _ _ _ _ _ hb]; unfold less duS; split <;> omega

/-- No more than this can go. -/
theorem Stl.bound {N : Nat} {sup dem : Nat → Int} {b a : Nat} {P : Nat → Nat → Int} (h : Stl N sup dem (N * b + a) P) (hb : b < N) (ha : a < N) {G : Nat → Nat → Int} (g : Flow N sup dem G) (hag : ∀ k, k < N * b + a → G (k / N) (k % N) = P (k / N) (k % N)) :
    G b a ≤ lfS N sup P b ∧ G b a ≤ duS N dem P a := by
  obtain ⟨l1, l2⟩ := h.le (by omega) g hag
  have hz := h.zero b a hb ha (.inr (Nat.le_refl _))
  have r := sm_pick (f := fun y => G b y - P b y) (fun y hy => by have := l1 b y hb hy; omega) a ha
  have c := sm_pick (f := fun x => G x a - P x a) (fun x hx => by have := l1 x a hx ha; omega) b hb
  rw [sm_sub N (fun y => G b y) (fun y => P b y), g.row b hb] at r
  rw [sm_sub N (fun x => G x a) (fun x => P x a), g.col a ha] at c
  unfold lfS duS
  omega

/-- What is left is never less than 0. -/
theorem Stl.nn {N : Nat} {sup dem : Nat → Int} {i : Nat} {P : Nat → Nat → Int} (h : Stl N sup dem i P) (hN : 0 < N) : (∀ b, b < N → 0 ≤ lfS N sup P b) ∧ (∀ a, a < N → 0 ≤ duS N dem P a) ∧ sm N (lfS N sup P) = sm N (duS N dem P) ∧ (∀ b a, b < N → a < N → 0 ≤ P b a) := by
  obtain ⟨G, g, hag⟩ := h.ex
  obtain ⟨l1, l2⟩ := h.le hN g hag
  refine ⟨fun b hb => ?_, fun a ha => ?_, ?_, fun b a hb ha => ?_⟩
  · have := sm_le (n := N) (f := fun a => P b a) (g := fun a => G b a) fun a ha => l1 b a hb ha
    rw [g.row b hb] at this; unfold lfS; omega
  · have := sm_le (n := N) (f := fun b => P b a) (g := fun b => G b a) fun b hb => l1 b a hb ha
    rw [g.col a ha] at this; unfold duS; omega
  · unfold lfS duS
    rw [sm_sub N sup, sm_sub N dem, sm_swap N N (fun b a => P b a)]
    have e1 : sm N sup = sm N (fun b => sm N (fun a => G b a)) := sm_congr fun b hb => (g.row b hb).symm
    have e2 : sm N dem = sm N (fun a => sm N (fun b => G b a)) := sm_congr fun a ha => (g.col a ha).symm
    rw [e1, e2, sm_swap]
  · rcases Nat.lt_or_ge (N * b + a) i with hl | hl
    · rw [l2 b a hb ha hl]; exact g.nn b a hb ha
    · rw [h.zero b a hb ha (.inr hl)]; exact Int.le_refl _

theorem less_sum {N : Nat} {f : Nat → Int} {b : Nat} {n : Int} (hb : b < N) : sm N (less f b n) = sm N f - n := by
  have := sm_upd1 N f b (-n) hb
  rw [show sm N f - n = sm N f + -n by omega, ← this]
  rfl

/-- The greatest amount is settled. -/
theorem Stl.settle {N : Nat} {sup dem : Nat → Int} {b a : Nat} {P : Nat → Nat → Int} (h : Stl N sup dem (N * b + a) P) (hb : b < N) (ha : a < N) (hs : subB a b = true) (n : Int) (hn : 0 ≤ n)
    (h1 : ∃ G, Flow N (less (lfS N sup P) b n) (less (duS N dem P) a n) G) (h2 : ∀ m, n < m → m ≤ lfS N sup P b → m ≤ duS N dem P a → ¬ ∃ G, Flow N (less (lfS N sup P) b m) (less (duS N dem P) a m) G) :
    Stl N sup dem (N * b + a + 1) (upd P b a n) ∧ lfS N sup (upd P b a n) = less (lfS N sup P) b n ∧ duS N dem (upd P b a n) = less (duS N dem P) a n := by
  have hN : 0 < N := by omega
  have hlt := pl_lt ha hb
  have hz := h.zero b a hb ha (.inr (Nat.le_refl _))
  have eqo : ∀ k, k < N * b + a → upd P b a n (k / N) (k % N) = P (k / N) (k % N) := fun k hk => by
    obtain ⟨k1, k2, k3⟩ := pl_of hN (Nat.lt_trans hk hlt)
    exact upd_off _ _ _ _ _ _ fun c => by rw [c.1, c.2] at k3; omega
  have most : ∀ G, Flow N sup dem G → (∀ k, k < N * b + a → G (k / N) (k % N) = P (k / N) (k % N)) → G b a ≤ n := fun G g hag => by
    rcases Int.lt_or_le n (G b a) with q | q
    · obtain ⟨x1, x2⟩ := h.bound hb ha g hag
      exact absurd ((h.can hb ha hs (G b a) (by omega)).2 ⟨G, g, hag, Int.le_refl _⟩) (h2 _ q x1 x2)
    · exact q
  have hu : upd P b a n = upd P b a (P b a + n) := by rw [hz, Int.zero_add]
  refine ⟨⟨(h.fst.keep eqo).next fun G g hag => ?_, ?_, fun x y hx hy q => ?_⟩, ?_, ?_⟩
  · rw [pl_div ha, pl_mod ha, upd_same]
    exact most G g fun k hk => by rw [hag k hk, eqo k hk]
  · obtain ⟨G, g, hag, hle⟩ := (h.can hb ha hs n hn).1 h1
    have := most G g hag
    refine ⟨G, g, fun k hk => ?_⟩
    by_cases e : k = N * b + a
    · subst e; rw [pl_div ha, pl_mod ha, upd_same]; omega
    · rw [hag k (by omega), eqo k (by omega)]
  · have c : ¬ (x = b ∧ y = a) := fun c => by
      rcases q with q | q
      · rw [c.1, c.2, hs] at q; cases q
      · rw [c.1, c.2] at q; omega
    rw [upd_off _ _ _ _ _ _ c]
    exact h.zero x y hx hy (q.imp id (by omega))
  · funext k
    unfold lfS less
    rw [hu, upd_row _ _ _ _ _ ha]; dsimp only; split <;> omega
  · funext k
    unfold duS less
    rw [hu, upd_col _ _ _ _ _ hb]; dsimp only; split <;> omega

/-- A place to which nothing can go. -/
theorem Stl.shut {N : Nat} {sup dem : Nat → Int} {b a : Nat} {P : Nat → Nat → Int} (h : Stl N sup dem (N * b + a) P) (hb : b < N) (ha : a < N) (hs : subB a b = false) : Stl N sup dem (N * b + a + 1) P := by
  have hz := h.zero b a hb ha (.inl hs)
  refine ⟨h.fst.next fun G g _ => by rw [pl_div ha, pl_mod ha, g.sub b a hb ha hs, hz]; exact Int.le_refl _, ?_, fun x y hx hy q => ?_⟩
  · obtain ⟨G, g, hag⟩ := h.ex
    refine ⟨G, g, fun k hk => ?_⟩
    by_cases e : k = N * b + a
    · subst e; rw [pl_div ha, pl_mod ha, g.sub b a hb ha hs, hz]
    · exact hag k (by omega)
  · rcases q with q | q
    · exact h.zero x y hx hy (.inl q)
    · exact h.zero x y hx hy (.inr (by omega))

theorem Stl.row {N : Nat} {sup dem : Nat → Int} {b : Nat} {P : Nat → Nat → Int} (h : Stl N sup dem (N * b + N) P) : Stl N sup dem (N * (b + 1) + 0) P := by rw [Nat.mul_succ]; exact h

/-- All is settled. -/
theorem Stl.first {N : Nat} {sup dem : Nat → Int} {P : Nat → Nat → Int} (h : Stl N sup dem (N * N) P) (hN : 0 < N) : First N sup dem P := by
  obtain ⟨G, g, hag⟩ := h.ex
  have e : ∀ b a, b < N → a < N → G b a = P b a := fun b a hb ha => by
    have := hag _ (pl_lt ha hb); rw [pl_div ha, pl_mod ha] at this; exact this
  refine h.fst.first ⟨fun b a hb ha => by rw [← e b a hb ha]; exact g.nn b a hb ha, fun b a hb ha q => by rw [← e b a hb ha]; exact g.sub b a hb ha q, fun b hb => ?_, fun a ha => ?_⟩
  · rw [← g.row b hb]; exact sm_congr fun a ha => (e b a hb ha).symm
  · rw [← g.col a ha]; exact sm_congr fun b hb => (e b a hb ha).symm

/-- If more can go, less can. -/
theorem Stl.mono {N : Nat} {sup dem : Nat → Int} {b a : Nat} {P : Nat → Nat → Int} (h : Stl N sup dem (N * b + a) P) (hb : b < N) (ha : a < N) (hs : subB a b = true) (n m : Int) (hn : 0 ≤ n) (hm : n ≤ m)
    (h1 : ∃ G, Flow N (less (lfS N sup P) b m) (less (duS N dem P) a m) G) : ∃ G, Flow N (less (lfS N sup P) b n) (less (duS N dem P) a n) G := by
  obtain ⟨G, g, hag, hle⟩ := (h.can hb ha hs m (by omega)).1 h1
  exact (h.can hb ha hs n hn).2 ⟨G, g, hag, by omega⟩

theorem Stl.can0 {N : Nat} {sup dem : Nat → Int} {b a : Nat} {P : Nat → Nat → Int} (h : Stl N sup dem (N * b + a) P) (hb : b < N) (ha : a < N) (hs : subB a b = true) : ∃ G, Flow N (less (lfS N sup P) b 0) (less (duS N dem P) a 0) G := by
  obtain ⟨G, g, hag⟩ := h.ex
  exact (h.can hb ha hs 0 (Int.le_refl _)).2 ⟨G, g, hag, g.nn b a hb ha⟩

end Go.Proofs.Ytjmfjgoehicgcaa
