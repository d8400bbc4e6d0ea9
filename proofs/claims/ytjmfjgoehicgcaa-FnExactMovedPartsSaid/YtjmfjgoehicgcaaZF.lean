/- Plain facts on tables that tell how parts go to smaller sets. -/
import Derived.Test.YtjmfjgoehicgcaaZ1
set_option linter.unusedVariables false
set_option linter.unusedSimpArgs false
namespace Go.Proofs.Ytjmfjgoehicgcaa
open Go.RowKit

/-- A table by which all that the sets of one mass have goes to the sets within them, as another mass has it. -/
structure Flow (N : Nat) (sup dem : Nat → Int) (F : Nat → Nat → Int) : Prop where
  nn : ∀ b a, b < N → a < N → 0 ≤ F b a
  sub : ∀ b a, b < N → a < N → subB a b = false → F b a = 0
  row : ∀ b, b < N → sm N (fun a => F b a) = sup b
  col : ∀ a, a < N → sm N (fun b => F b a) = dem a

/-- The same while something is left of some, and due to others. -/
structure PFlow (N : Nat) (sup dem : Nat → Int) (F : Nat → Nat → Int) (left due : Nat → Int) : Prop where
  nn : ∀ b a, b < N → a < N → 0 ≤ F b a
  sub : ∀ b a, b < N → a < N → subB a b = false → F b a = 0
  row : ∀ b, b < N → sm N (fun a => F b a) + left b = sup b
  col : ∀ a, a < N → sm N (fun b => F b a) + due a = dem a
  ln : ∀ b, b < N → 0 ≤ left b
  dn : ∀ a, a < N → 0 ≤ due a

def onl (P : Nat → Bool) (f : Nat → Int) (k : Nat) : Int := if P k = true then f k else 0

theorem onl_le {N : Nat} {P : Nat → Bool} {f : Nat → Int} (h : ∀ k, k < N → 0 ≤ f k) : sm N (onl P f) ≤ sm N f :=
  sm_le fun k hk => by unfold onl; have := h k hk; split <;> omega

theorem onl_all {N : Nat} {P : Nat → Bool} {f : Nat → Int} (h : ∀ k, k < N → P k = false → f k = 0) : sm N (onl P f) = sm N f :=
  sm_congr fun k hk => by
    unfold onl
    cases e : P k
    · rw [if_neg (by simp), h k hk e]
    · rw [if_pos rfl]

theorem onl_split (N : Nat) (P : Nat → Bool) (f : Nat → Int) : sm N f = sm N (onl P f) + sm N (onl (fun k => !P k) f) := by
  rw [← sm_add]
  apply sm_congr
  intro k _
  unfold onl
  by_cases h : P k = true
  · rw [if_pos h, if_neg (by simp [h])]; omega
  · rw [if_neg h, if_pos (by simp [h])]; omega

theorem onl_true (N : Nat) (f : Nat → Int) : sm N (onl (fun _ => true) f) = sm N f := sm_congr fun k _ => by simp [onl]

theorem onl_swap (N : Nat) (R T : Nat → Bool) (F : Nat → Nat → Int) : sm N (onl R fun b => sm N (onl T fun a => F b a)) = sm N (onl T fun a => sm N (onl R fun b => F b a)) := by
  have e1 : ∀ b, onl R (fun b => sm N (onl T fun a => F b a)) b = sm N (fun a => if R b = true then onl T (fun a => F b a) a else 0) := fun b => by
    unfold onl; split
    · rfl
    · exact (sm_zero N).symm
  have e2 : ∀ a, onl T (fun a => sm N (onl R fun b => F b a)) a = sm N (fun b => if R b = true then onl T (fun a => F b a) a else 0) := fun a => by
    unfold onl
    cases hT : T a
    · rw [if_neg (by simp), sm_congr (g := fun _ => 0) (fun b _ => by cases R b <;> simp), sm_zero]
    · rw [if_pos rfl]; apply sm_congr; intro b _; cases R b <;> simp
  rw [sm_congr (fun b _ => e1 b), sm_congr (n := N) (f := onl T fun a => sm N (onl R fun b => F b a)) (fun a _ => e2 a), sm_swap]

/-- Where something is left of a set, and nothing is due to all that it reaches, there is no table. -/
theorem cut_none {N : Nat} {sup dem : Nat → Int} {F : Nat → Nat → Int} {left due : Nat → Int} (h : PFlow N sup dem F left due) (R T : Nat → Bool) (b0 : Nat) (hb : b0 < N) (hR : R b0 = true) (hl : 0 < left b0)
    (h1 : ∀ b a, b < N → a < N → R b = true → subB a b = true → T a = true) (h2 : ∀ b a, b < N → a < N → T a = true → 0 < F b a → R b = true) (h3 : ∀ a, a < N → T a = true → due a = 0) : ¬ ∃ G, Flow N sup dem G := by
  rintro ⟨G, g⟩
  have key : ∀ H : Nat → Nat → Int, (∀ b a, b < N → a < N → subB a b = false → H b a = 0) → sm N (onl R fun b => sm N (fun a => H b a)) = sm N (onl T fun a => sm N (onl R fun b => H b a)) := by
    intro H hs
    rw [← onl_swap]
    apply sm_congr
    intro b hb
    unfold onl
    cases hRb : R b
    · simp
    · rw [if_pos rfl, if_pos rfl]
      refine (onl_all fun a ha hT => ?_).symm
      cases hsb : subB a b
      · exact hs b a hb ha hsb
      · rw [h1 b a hb ha hRb hsb] at hT; cases hT
  have e1 : sm N (onl R sup) = sm N (onl R left) + sm N (onl T dem) := by
    have : sm N (onl R sup) = sm N (onl R left) + sm N (onl R fun b => sm N (fun a => F b a)) := by
      rw [← sm_add]; apply sm_congr; intro b hb; unfold onl; have := h.row b hb; dsimp only; split <;> omega
    rw [this, key F h.sub]
    congr 1
    apply sm_congr
    intro a ha
    unfold onl
    cases hT : T a
    · simp
    · rw [if_pos rfl, if_pos rfl]
      have hc := h.col a ha
      rw [h3 a ha hT, Int.add_zero] at hc
      rw [← hc]
      refine onl_all (P := R) (f := fun b => F b a) fun b hb hRb => ?_
      have := h.nn b a hb ha
      rcases Int.lt_or_le 0 (F b a) with hp | hp
      · rw [h2 b a hb ha hT hp] at hRb; cases hRb
      · omega
  have e2 : sm N (onl R sup) ≤ sm N (onl T dem) := by
    have : sm N (onl R sup) = sm N (onl R fun b => sm N (fun a => G b a)) := by
      apply sm_congr; intro b hb; unfold onl; dsimp only; rw [g.row b hb]
    rw [this, key G g.sub]
    refine sm_le fun a ha => ?_
    unfold onl
    cases hT : T a
    · simp
    · rw [if_pos rfl, if_pos rfl, ← g.col a ha]
      exact onl_le (P := R) (f := fun b => G b a) fun b hb => g.nn b a hb ha
  have e3 := sm_pick (f := onl R left) (fun k hk => by unfold onl; have := h.ln k hk; split <;> omega) b0 hb
  rw [show onl R left b0 = left b0 by simp [onl, hR]] at e3
  omega

theorem PFlow.flow {N : Nat} {sup dem : Nat → Int} {F : Nat → Nat → Int} {left due : Nat → Int} (h : PFlow N sup dem F left due) (hl : ∀ b, b < N → left b = 0) (hd : ∀ a, a < N → due a = 0) : Flow N sup dem F :=
  ⟨h.nn, h.sub, fun b hb => by have := h.row b hb; rw [hl b hb] at this; omega, fun a ha => by have := h.col a ha; rw [hd a ha] at this; omega⟩

/-- What is left and what is due are one in all. -/
theorem PFlow.sums {N : Nat} {sup dem : Nat → Int} {F : Nat → Nat → Int} {left due : Nat → Int} (h : PFlow N sup dem F left due) (hs : sm N sup = sm N dem) : sm N left = sm N due := by
  have a1 : sm N sup = sm N (fun b => sm N (fun a => F b a)) + sm N left := by rw [← sm_add]; exact sm_congr fun b hb => (h.row b hb).symm
  have a2 : sm N dem = sm N (fun a => sm N (fun b => F b a)) + sm N due := by rw [← sm_add]; exact sm_congr fun a ha => (h.col a ha).symm
  rw [sm_swap] at a1
  omega

theorem PFlow.done {N : Nat} {sup dem : Nat → Int} {F : Nat → Nat → Int} {left due : Nat → Int} (h : PFlow N sup dem F left due) (hs : sm N sup = sm N dem) (hl : ∀ b, b < N → left b ≤ 0) : Flow N sup dem F := by
  have h0 : ∀ b, b < N → left b = 0 := fun b hb => by have := h.ln b hb; have := hl b hb; omega
  refine h.flow h0 ?_
  have e := h.sums hs
  rw [sm_congr (g := fun _ => 0) h0, sm_zero] at e
  exact fun a ha => sm_eq_zero h.dn (by omega) a ha

theorem PFlow.done2 {N : Nat} {sup dem : Nat → Int} {F : Nat → Nat → Int} {left due : Nat → Int} (h : PFlow N sup dem F left due) (hs : sm N sup = sm N dem) (hd : ∀ b, b < N → due b ≤ 0) : Flow N sup dem F := by
  have h0 : ∀ b, b < N → due b = 0 := fun b hb => by have := h.dn b hb; have := hd b hb; omega
  refine h.flow ?_ h0
  have e := h.sums hs
  rw [sm_congr (f := due) (g := fun _ => 0) h0, sm_zero] at e
  exact fun a ha => sm_eq_zero h.ln (by omega) a ha

theorem PFlow.some {N : Nat} {sup dem : Nat → Int} {F : Nat → Nat → Int} {left due : Nat → Int} (h : PFlow N sup dem F left due) (hs : sm N sup = sm N dem) (a0 : Nat) (ha : a0 < N) (hd : 0 < due a0) : ∃ b0, b0 < N ∧ 0 < left b0 := by
  apply Classical.byContradiction
  intro hn
  have h0 : ∀ b, b < N → left b = 0 := fun b hb => by
    have := h.ln b hb
    rcases Int.lt_or_le 0 (left b) with hp | hp
    · exact absurd ⟨b, hb, hp⟩ hn
    · omega
  have e := h.sums hs
  rw [sm_congr (g := fun _ => 0) h0, sm_zero] at e
  have := sm_eq_zero h.dn (by omega) a0 ha
  omega

/-- Nothing more can go one way, if no way round leads back to it. -/
theorem raise_max {N : Nat} {sup dem : Nat → Int} {F G : Nat → Nat → Int} (f : Flow N sup dem F) (g : Flow N sup dem G) (op : Nat → Nat → Bool) (hop : ∀ b a, b < N → a < N → op b a = false → G b a = F b a)
    (b0 a0 : Nat) (hb0 : b0 < N) (ha0 : a0 < N) (R T : Nat → Bool)
    (h1 : ∀ b, b < N → b ≠ b0 → op b a0 = true → 0 < F b a0 → R b = true) (h2 : R b0 = false) (h3 : ∀ b a, b < N → a < N → R b = true → op b a = true → a ≠ a0 → T a = true)
    (h4 : ∀ b a, b < N → a < N → T a = true → b ≠ b0 → op b a = true → 0 < F b a → R b = true) (h5 : ∀ a, a < N → T a = true → op b0 a = true → F b0 a = 0) (h6 : T a0 = false) : G b0 a0 ≤ F b0 a0 := by
  obtain ⟨D, hD⟩ : ∃ D : Nat → Nat → Int, D = fun b a => G b a - F b a := ⟨_, rfl⟩
  have dr : ∀ b, b < N → sm N (fun a => D b a) = 0 := fun b hb => by rw [hD]; simp only []; rw [sm_sub, f.row b hb, g.row b hb]; omega
  have dc : ∀ a, a < N → sm N (fun b => D b a) = 0 := fun a ha => by rw [hD]; simp only []; rw [sm_sub, f.col a ha, g.col a ha]; omega
  have dz : ∀ b a, b < N → a < N → op b a = false → D b a = 0 := fun b a hb ha h => by rw [hD]; simp only []; rw [hop b a hb ha h]; omega
  have dn : ∀ b a, b < N → a < N → F b a ≤ 0 → 0 ≤ D b a := fun b a hb ha h => by rw [hD]; simp only []; have := g.nn b a hb ha; have := f.nn b a hb ha; omega
  -- what the sets reached have more
  have e0 : sm N (onl R fun b => sm N (fun a => D b a)) = 0 := by
    rw [sm_congr (g := fun _ => 0) (fun b hb => by unfold onl; dsimp only; rw [dr b hb]; split <;> rfl), sm_zero]
  have e1 : sm N (onl R fun b => sm N (fun a => D b a)) = sm N (fun a => sm N (onl R fun b => D b a)) := by
    have := onl_swap N R (fun _ => true) D
    rw [onl_true] at this
    rw [← this]
    apply sm_congr
    intro b _
    unfold onl
    dsimp only
    by_cases h : R b = true
    · rw [if_pos h, if_pos h]; exact (onl_true N fun a => D b a).symm
    · rw [if_neg h, if_neg h]
  have e2 : ∀ a, a < N → a ≠ a0 → sm N (onl R fun b => D b a) ≤ 0 := by
    intro a ha hne
    cases hT : T a
    · rw [sm_congr (g := fun _ => 0) (fun b hb => by
        unfold onl
        by_cases hR : R b = true
        · rw [if_pos hR]
          refine dz b a hb ha ?_
          cases ho : op b a
          · rfl
          · rw [h3 b a hb ha hR ho hne] at hT; cases hT
        · rw [if_neg hR]), sm_zero]; exact Int.le_refl _
    · have q : sm N (fun b => D b a) = sm N (onl R fun b => D b a) + sm N (onl (fun b => !R b) fun b => D b a) := onl_split N R fun b => D b a
      have n0 : 0 ≤ sm N (onl (fun b => !R b) fun b => D b a) := sm_nonneg fun b hb => by
        unfold onl
        by_cases hR : R b = true
        · rw [if_neg (by simp [hR])]; exact Int.le_refl _
        · rw [if_pos (by simp [hR])]
          cases ho : op b a
          · show 0 ≤ D b a; rw [dz b a hb ha ho]; exact Int.le_refl _
          · refine dn b a hb ha ?_
            by_cases hbe : b = b0
            · subst hbe; rw [h5 a ha hT ho]; exact Int.le_refl _
            · rcases Int.lt_or_le 0 (F b a) with hp | hp
              · exact absurd (h4 b a hb ha hT hbe ho hp) hR
              · exact hp
      rw [dc a ha] at q
      omega
  have e3 : sm N (onl R fun b => D b a0) ≤ - D b0 a0 := by
    have q : sm N (fun b => D b a0) = sm N (onl R fun b => D b a0) + sm N (onl (fun b => !R b) fun b => D b a0) := onl_split N R fun b => D b a0
    have n0 : D b0 a0 ≤ sm N (onl (fun b => !R b) fun b => D b a0) := by
      have e : sm N (fun b => if b = b0 then D b0 a0 else 0) = D b0 a0 := by rw [sm_one, if_pos hb0]
      rw [← e]
      refine sm_le fun b hb => ?_
      unfold onl
      by_cases hbe : b = b0
      · subst hbe; rw [if_pos rfl, if_pos (by simp [h2])]; exact Int.le_refl _
      · rw [if_neg hbe]
        by_cases hR : R b = true
        · rw [if_neg (by simp [hR])]; exact Int.le_refl _
        · rw [if_pos (by simp [hR])]
          cases ho : op b a0
          · show 0 ≤ D b a0; rw [dz b a0 hb ha0 ho]; exact Int.le_refl _
          · refine dn b a0 hb ha0 ?_
            rcases Int.lt_or_le 0 (F b a0) with hp | hp
            · exact absurd (h1 b hb hbe ho hp) hR
            · exact hp
    rw [dc a0 ha0] at q
    omega
  have e4 : sm N (fun a => sm N (onl R fun b => D b a)) ≤ sm N (fun b => if b = a0 then - D b0 a0 else 0) := sm_le fun a ha => by
    by_cases hne : a = a0
    · subst hne; rw [if_pos rfl]; exact e3
    · rw [if_neg hne]; exact e2 a ha hne
  rw [sm_one, if_pos ha0] at e4
  have hD0 : D b0 a0 = G b0 a0 - F b0 a0 := by rw [hD]
  omega

/-- The first of all tables, row behind row. -/
structure First (N : Nat) (sup dem : Nat → Int) (F : Nat → Nat → Int) : Prop where
  flow : Flow N sup dem F
  top : ∀ G, Flow N sup dem G → ∀ i, i < N * N → (∀ j, j < i → G (j / N) (j % N) = F (j / N) (j % N)) → G (i / N) (i % N) ≤ F (i / N) (i % N)

theorem First.unique {N : Nat} {sup dem : Nat → Int} {F G : Nat → Nat → Int} (f : First N sup dem F) (g : First N sup dem G) : ∀ i, i < N * N → G (i / N) (i % N) = F (i / N) (i % N) := by
  intro i
  induction i using Nat.strongRecOn with
  | _ i ih =>
    intro hi
    have a := f.top G g.flow i hi fun j hj => ih j hj (by omega)
    have b := g.top F f.flow i hi fun j hj => (ih j hj (by omega)).symm
    omega

end Go.Proofs.Ytjmfjgoehicgcaa
