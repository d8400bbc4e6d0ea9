/- Plain facts on tables that tell how parts go to smaller sets. -/
import Derived.Test.YtjmfjgoehicgcaaMgK1
set_option linter.unusedVariables false
set_option linter.unusedSimpArgs false
namespace Go.Proofs.Ytjmfjgoehicgcaa
open Go.RowKit

/-- A table by which all that the sets of one mass have goes to the sets within them, as another mass has it. -/
structure Flow (N : Nat) (sup dem : Nat → Int) (F : Nat → Nat → Int) : Prop where
  nn : ∀ b a, b < N → a < N → 0 ≤ F b a
  sub : ∀ b a, b < N → a < N → subB a b = false → F b a = 0
  row : ∀ b, b < N → sm N (fun a => F b a) = sup b
  col : ∀ a, a < N → sm N (fun b => F b a) = dem a

/-- The same while something is left of some, and due to others. -/
structure PFlow (N : Nat) (sup dem : Nat → Int) (F : Nat → Nat → Int) (left due : Nat → Int) : Prop where
  nn : ∀ b a, b < N → a < N → 0 ≤ F b a
  sub : ∀ b a, b < N → a < N → subB a b = false → F b a = 0
  row : ∀ b, b < N → sm N (fun a => F b a) + left b = sup b
  col : ∀ a, a < N → sm N (fun b => F b a) + due a = dem a
  ln : ∀ b, b < N → 0 ≤ left b
  dn : ∀ a, a < N → 0 ≤ due a

def onl (P : Nat → Bool) (f : Nat → Int) (k : Nat) : Int := if P k = true then f k else 0

theorem onl_le {N : Nat} {P : Nat → Bool} {f : Nat → Int} (h : ∀ k, k < N → 0 ≤ f k) : sm N (onl P f) ≤ sm N f :=
  sm_le fun k hk => by unfold onl; have := h k hk; split <;> omega

theorem onl_all {N : Nat} {P : Nat → Bool} {f : Nat → Int} (h : ∀ k, k < N → P k = false → f k = 0) : sm N (onl P f) = sm N f :=
  sm_congr fun k hk => by
    unfold onl
    cases e : P k
    · rw [if_neg (by simp), h k hk e]
    · rw [if_pos rfl]

theorem onl_split (N : Nat) (P : Nat → Bool) (f : Nat → Int) : sm N f = sm N (onl P f) + sm N (onl (fun k => !P k) f) := by
  rw [← sm_add]
  apply sm_congr
  intro k _
  unfold onl
  by_cases h : P k = true
  · rw [if_pos h, if_neg (by simp [h])]; omega
  · rw [if_neg h, if_pos (by simp [h])]; omega

theorem onl_true (N : Nat) (f : Nat → Int) : sm N (onl (fun _ => true) f) = sm N f := sm_congr fun k _ => by simp [onl]

theorem onl_swap (N : Nat) (R T : Nat → Bool) (F : Nat → Nat → Int) : sm N (onl R fun b => sm N (onl T fun a => F b a)) = sm N (onl T fun a => sm N (onl R fun b => F b a)) := by
  have e1 : ∀ b, onl R (fun b => sm N (onl T fun a => F b a)) b = sm N (fun a => if R b = true then onl T (fun a => F b a) a else 0) := fun b => by
    unfold onl; split
    · rfl
    · exact (sm_zero N).symm
  have e2 : ∀ a, onl T (fun a => sm N (onl R fun b => F b a)) a = sm N (fun b => if R b = true then onl T (fun a => F b a) a else 0) := fun a => by
    unfold onl
    cases hT : T a
    · rw [if_neg (by simp), sm_congr (g := fun _ => 0) (fun b _ => by cases R b <;> simp), sm_zero]
    · rw [if_pos rfl]; apply sm_congr; intro b _; cases R b <;> simp
  rw [sm_congr (fun b _ => e1 b), sm_congr (n := N) (f := onl T fun a => sm N (onl R fun b => F b a)) (fun a _ => e2 a), sm_swap]

/-- Where something is left of a set, and nothing is due to all that it reaches, there is no table. -/
theorem cut_none {N : Nat} {sup dem : Nat → Int} {F : Nat → Nat → Int} {left due : Nat → Int} (h : PFlow N sup dem F left due) (R T : Nat → Bool) (b0 : Nat) (hb : b0 < N) (hR : R b0 = true) (hl : 0 < left b0)
    (h1 : ∀ b a, b < N → a < N → R b = true → subB a b = true → T a = true) (h2 : ∀ b a, b < N → a < N → T a = true → 0 < F b a → R b = true) (h3 : ∀ a, a < N → T a = true → due a = 0) : ¬ ∃ G, Flow N sup dem G := by
  rintro ⟨G, g⟩
  have key : ∀ H : Nat → Nat → Int, (∀ b a, b < N → a < N → subB a b = false → H b a = 0) → sm N (onl R fun b => sm N (fun a => H b a)) = sm N (onl T fun a => sm N (onl R fun b => H b a)) := by
    intro H hs
    rw [← onl_swap]
    apply sm_congr
    intro b hb
    unfold onl
    cases hRb : R b
    · simp
    · rw [if_pos rfl, if_pos rfl]
      refine (onl_all fun a ha hT => ?_).symm
      cases hsb : subB a b
      · exact hs b a hb ha hsb
      · rw [h1 b a hb ha hRb hsb] at hT; cases hT
  have e1 : sm N (onl R sup) = sm N (onl R left) + sm N (onl T dem) := by
    have : sm N (onl R sup) = sm N (onl R left) + sm N (onl R fun b => sm N (fun a => F b a)) := by
      rw [← sm_add]; apply sm_congr; intro b hb; unfold onl; have := h.row b hb; dsimp only; split <;> omega
    rw [this, key F h.sub]
    congr 1
    apply sm_congr
    intro a ha
    unfold onl
    cases hT : T a
    · simp
    · rw [if_pos rfl, if_pos rfl]
      have hc := h.col a ha
      rw [h3 a ha hT, Int.add_zero] at hc
      rw [← hc]
      refine onl_all (P := R) (f := fun b => F b a) fun b hb hRb => ?_
      have := h.nn b a hb ha
      rcases Int.lt_or_le 0 (F b a) with hp | hp
      · rw [h2 b a hb ha hT hp] at hRb; cases hRb
      · omega
  have e2 : sm N (onl R sup) ≤ sm N (onl T dem) := by
    have : sm N (onl R sup) = sm N (onl R fun b => sm N (fun a => G b a)) := by
      apply sm_congr; intro b hb; unfold onl; dsimp only; rw [g.row b hb]
    rw [this, key G g.sub]
    refine sm_le fun a ha => ?_
    unfold onl
    cases hT : T a
    · simp
    · rw [if_pos rfl, if_pos rfl, ← g.col a ha]
      exact onl_le (P := R) (f := fun b => G b a) fun b hb => g.nn b a hb ha
  have e3 := sm_pick (f := onl R left) (fun k hk => by unfold onl; have := h.ln k hk; split <;> omega) b0 hb
  rw [show onl R left b0 = left b0 by simp [onl, hR]] at e3
  omega

theorem PFlow.flow {N : Nat} {sup dem : Nat → Int} {F : Nat → Nat → Int} {left due : Nat → Int} (h : PFlow N sup dem F left due) (hl : ∀ b, b < N → left b = 0) (hd : ∀ a, a < N → due a = 0) : Flow N sup dem F :=
  ⟨h.nn, h.sub, fun b hb => by have := h.row b hb; rw [hl b hb] at this; omega, fun a ha => by have := h.col a ha; rw [hd a ha] at this; omega⟩

/-- What is left and what is due are one in all. -/
theorem PFlow.sums {N : Nat} {sup dem : Nat → Int} {F : Nat → Nat → Int} {left due : Nat → Int} (h : PFlow N sup dem F left due) (hs : sm N sup = sm N dem) : sm N left = sm N due := by
  have a1 : sm N sup = sm N (fun b => sm N (fun a => F b a)) + sm N left := by rw [← sm_add]; exact sm_congr fun b hb => (h.row b hb).symm
  have a2 : sm N dem = sm N (fun a => sm N (fun b => F b a)) + sm N due := by rw [← sm_add]; exact sm_congr fun a ha => (h.col a ha).symm
  rw [sm_swap] at a1
  omega

theorem PFlow.done {N : Nat} {sup dem : Nat → Int} {F : Nat → Nat → Int} {left due : Nat → Int} (h : PFlow N sup dem F left due) (hs : sm N sup = sm N dem) (hl : ∀ b, b < N → left b ≤ 0) : Flow N sup dem F := by
  have h0 : ∀ b, b < N → left b = 0 := fun b hb => by have := h.ln b hb; have := hl b hb; omega
  refine h.flow h0 ?_
  have e := h.sums hs
  rw [sm_congr (g := fun _ => 0) h0, sm_zero] at e
  exact fun a ha => sm_eq_zero h.dn (by omega) a ha

theorem PFlow.done2 {N : Nat} {sup dem : Nat → Int} {F : Nat → Nat → Int} {left due : Nat → Int} (h : PFlow N sup dem F left due) (hs : sm N sup = sm N dem) (hd : ∀ b, b < N → due b ≤ 0) : Flow N sup dem F := by
  have h0 : ∀ b, b < N → due b = 0 := fun b hb => by have := h.dn b hb; have := hd b hb; omega
  refine h.flow ?_ h0
  have e := h.sums hs
  rw [sm_congr (f := due) (g := fun _ => 0) h0, sm_zero] at e
  exact fun a ha => sm_eq_zero h.ln (by omega) a ha

theorem PFlow.some {N : Nat} {sup dem : Nat → Int} {F : Nat → Nat → Int} {left due : Nat → Int} (h : PFlow N sup dem F left due) (hs : sm N sup = sm N dem) (a0 : Nat) (ha : a0 < N) (hd : 0 < due a0) : ∃ b0, b0 < N ∧ 0 < left b0 := by
  apply Classical.byContradiction
  intro hn
  have h0 : ∀ b, b < N → left b = 0 := fun b hb => by
    have := h.ln b hb
    rcases Int.lt_or_le 0 (left b) with hp | hp
    · exact absurd ⟨b, hb, hp⟩ hn
    · omega
  have e := h.sums hs
  rw [sm_congr (g := fun _ => 0) h0, sm_zero] at e
  have := sm_eq_zero h.dn (by omega) a0 ha
  omega

/-- Nothing more can go one way, if no way round leads back to it. -/
theorem raise_max {N : Nat} {sup dem : Nat → Int} {F G : Nat → Nat → Int} (f : Flow N sup dem F) (g : Flow N sup dem G) (op : Nat → Nat → Bool) (hop : ∀ b a, b < N → a < N → op b a = false → G b a = F b a)
    (b0 a0 : Nat) (hb0 : b0 < N) (ha0 : a0 < N) (R T : Nat → Bool)
    (h1 : ∀ b, b < N → b ≠ b0 → op b a0 = true → 0 < F b a0 → R b = true) (h2 : R b0 = false) (h3 : ∀ b a, b < N → a < N → R b = true → op b a = true → a ≠ a0 → T a = true)
    (h4 : ∀ b a, b < N → a < N → T a = true → b ≠ b0 → op b a = true → 0 < F b a → R b = true) (h5 : ∀ a, a < N → T a = true → op b0 a = true → F b0 a = 0) (h6 : T a0 = false) : G b0 a0 ≤ F b0 a0 := by
  obtain ⟨D, hD⟩ : ∃ D : Nat → Nat → Int, D = fun b a => G b a - F b a := ⟨_, rfl⟩
  have dr : ∀ b, b < N → sm N (fun a => D b a) = 0 := fun b hb => by rw [hD]; simp only []; rw [sm_sub, f.row b hb, g.row b hb]; omega
  have dc : ∀ a, a < N → sm N (fun b => D b a) = 0 := fun a ha => by rw [hD]; simp only []; rw [sm_sub, f.col a ha, g.col a ha]; omega
  have dz : ∀ b a, b < N → a < N → op b a = false → D b a = 0 := fun b a hb ha h => by rw [hD]; simp only []; rw [hop b a hb ha h]; omega
  have dn : ∀ b a, b < N → a < N → F b a ≤ 0 → 0 ≤ D b a := fun b a hb ha h => by rw [hD]; simp only []; have := g.nn b a hb ha; have := f.nn b a hb ha; omega
  -- what the sets reached have more
  have e0 : sm N (onl R fun b => sm N (fun a => D b a)) = 0 := by
    rw [sm_congr (g := fun _ => 0) (fun b hb => by unfold onl; dsimp only; rw [dr b hb]; split <;> rfl), sm_zero]
  have e1 : sm N (onl R fun b => sm N (fun a => D b a)) = sm N (fun a => sm N (onl R fun b => D b a)) := by
    have := onl_swap N R (fun _ => true) D
    rw [onl_true] at this
    rw [← this]
    apply sm_congr
    intro b _
    unfold onl
    dsimp only
    by_cases h : R b = true
    · rw [if_pos h, if_pos h]; exact (onl_true N fun a => D b a).symm
    · rw [if_neg h, if_neg h]
  have e2 : ∀ a, a < N → a ≠ a0 → sm N (onl R fun b => D b a) ≤ 0 := by
    intro a ha hne
    cases hT : T a
    · rw [sm_congr (g := fun _ => 0) (fun b hb => by
        unfold onl
        by_cases hR : R b = true
        · rw [if_pos hR]
          refine dz b a hb ha ?_
          cases ho : op b a
          · rfl
          · rw [h3 b a hb ha hR ho hne] at hT; cases hT
        · rw [if_neg hR]), sm_zero]; exact Int.le_refl _
    · have q : sm N (fun b => D b a) = sm N (onl R fun b => D b a) + sm N (onl (fun b => !R b) fun b => D b a) := onl_split N R fun b => D b a
      have n0 : 0 ≤ sm N (onl (fun b => !R b) fun b => D b a) := sm_nonneg fun b hb => by
        unfold onl
        by_cases hR : R b = true
        · rw [if_neg (by simp [hR])]; exact Int.le_refl _
        · rw [if_pos (by simp [hR])]
          cases ho : op b a
          · show 0 ≤ D b a; rw [dz b a hb ha ho]; exact Int.le_refl _
          · refine dn b a hb ha ?_
            by_cases hbe : b = b0
            · subst hbe; rw [h5 a ha hT ho]; exact Int.le_refl _
            · rcases Int.lt_or_le 0 (F b a) with hp | hp
              · exact absurd (h4 b a hb ha hT hbe ho hp) hR
              · exact hp
      rw [dc a ha] at q
      omega
  have e3 : sm N (onl R fun b => D b a0) ≤ - D b0 a0 := by
    have q : sm N (fun b => D b a0) = sm N (onl R fun b => D b a0) + sm N (onl (fun b => !R b) fun b => D b a0) := onl_split N R fun b => D b a0
    have n0 : D b0 a0 ≤ sm N (onl (fun b => !R b) fun b => D b a0) := by
      have e : sm N (fun b => if b = b0 then D b0 a0 else 0) = D b0 a0 := by rw [sm_one, if_pos hb0]
      rw [← e]
      refine sm_le fun b hb => ?_
      unfold onl
      by_cases hbe : b = b0
      · subst hbe; rw [if_pos rfl, if_pos (by simp [h2])]; exact Int.le_refl _
      · rw [if_neg hbe]
        by_cases hR : R b = true
        · rw [if_neg (by simp [hR])]; exact Int.le_refl _
        · rw [if_pos (by simp [hR])]
          cases ho : op b a0
          · show 0 ≤ D b a0; rw [dz b a0 hb ha0 ho]; exact Int.le_refl _
          · refine dn b a0 hb ha0 ?_
            rcases Int.lt_or_le 0 (F b a0) with hp | hp
            · exact absurd (h1 b hb hbe ho hp) hR
            · exact hp
    rw [dc a0 ha0] at q
    omega
  have e4 : sm N (fun a => sm N (onl R fun b => D b a)) ≤ sm N (fun b => if b = a0 then - D b0 a0 else 0) := sm_le fun a ha => by
    by_cases hne : a = a0
    · subst hne; rw [if_pos rfl]; exact e3
    · rw [if_neg hne]; exact e2 a ha hne
  rw [sm_one, if_pos ha0] at e4
  have hD0 : D b0 a0 = G b0 a0 - F b0 a0 := by rw [hD]
  omega

/-- The first of all tables, row behind row. -/
structure First (N : Nat) (sup dem : Nat → Int) (F : Nat → Nat → Int) : Prop where
  flow : Flow N sup dem F
  top : ∀ G, Flow N sup dem G → ∀ i, i < N * N → (∀ j, j < i → G (j / N) (j % N) = F (j / N) (j % N)) → G (i / N) (i % N) ≤ F (i / N) (i % N)

theorem First.unique {N : Nat} {sup dem : Nat → Int} {F G : Nat → Nat → Int} (f : First N sup dem F) (g : First N sup dem G) : ∀ i, i < N * N → G (i / N) (i % N) = F (i / N) (i % N) := by
  intro i
  induction i using Nat.strongRecOn with
  | _ i ih =>
    intro hi
    have a := f.top G g.flow i hi fun j hj => ih j hj (by omega)
    have b := g.top F f.flow i hi fun j hj => (ih j hj (by omega)).symm
    omega

end Go.Proofs.Ytjmfjgoehicgcaa

/- Plain facts on ways by which a table is changed. -/
set_option linter.unusedVariables false
set_option linter.unusedSimpArgs false
namespace Go.Proofs.Ytjmfjgoehicgcaa
open Go.RowKit

/-- A table with one entry changed. -/
def upd (F : Nat → Nat → Int) (b a : Nat) (v : Int) : Nat → Nat → Int := fun x y => if x = b ∧ y = a then v else F x y

theorem upd_same (F : Nat → Nat → Int) (b a : Nat) (v : Int) : upd F b a v b a = v := by simp [upd]
theorem upd_off (F : Nat → Nat → Int) (b a : Nat) (v : Int) (x y : Nat) (h : ¬ (x = b ∧ y = a)) : upd F b a v x y = F x y := if_neg h

theorem sm_upd1 (N : Nat) (f : Nat → Int) (i : Nat) (d : Int) (hi : i < N) : sm N (fun k => if k = i then f k + d else f k) = sm N f + d := by
  rw [sm_congr (g := fun k => f k + (if k = i then d else 0)) (fun k _ => by by_cases h : k = i <;> simp [h]), sm_add, sm_one, if_pos hi]

theorem upd_row (N : Nat) (F : Nat → Nat → Int) (b a : Nat) (d : Int) (ha : a < N) (x : Nat) : sm N (fun y => upd F b a (F b a + d) x y) = sm N (fun y => F x y) + (if x = b then d else 0) := by
  by_cases h : x = b
  · subst h
    rw [if_pos rfl, ← sm_upd1 N (fun y => F x y) a d ha]
    apply sm_congr
    intro y _
    by_cases e : y = a
    · subst e; rw [upd_same, if_pos rfl]
    · rw [upd_off _ _ _ _ _ _ (fun c => e c.2), if_neg e]
  · rw [if_neg h, Int.add_zero]
    apply sm_congr
    intro y _
    rw [upd_off _ _ _ _ _ _ (fun c => h c.1)]

theorem upd_col (N : Nat) (F : Nat → Nat → Int) (b a : Nat) (d : Int) (hb : b < N) (y : Nat) : sm N (fun x => upd F b a (F b a + d) x y) = sm N (fun x => F x y) + (if y = a then d else 0) := by
  by_cases h : y = a
  · subst h
    rw [if_pos rfl, ← sm_upd1 N (fun x => F x y) b d hb]
    apply sm_congr
    intro x _
    by_cases e : x = b
    · subst e; rw [upd_same, if_pos rfl]
    · rw [upd_off _ _ _ _ _ _ (fun c => e c.1), if_neg e]
  · rw [if_neg h, Int.add_zero]
    apply sm_congr
    intro x _
    rw [upd_off _ _ _ _ _ _ (fun c => h c.2)]

/-- What was reached, and from where: each by one that was reached before. -/
structure Reached (N : Nat) (op : Nat → Nat → Bool) (F : Nat → Nat → Int) (root : Nat → Bool) (giv get : Nat → Int) (tg tc : Nat → Nat) : Prop where
  cg : ∀ a, a < N → 0 ≤ giv a → giv a < N ∧ op (giv a).toNat a = true ∧ tg (giv a).toNat < tc a ∧ (root (giv a).toNat = false → 0 ≤ get (giv a).toNat)
  cb : ∀ b, b < N → root b = false → 0 ≤ get b → get b < N ∧ 0 ≤ giv (get b).toNat ∧ op b (get b).toNat = true ∧ 0 < F b (get b).toNat ∧ tc (get b).toNat < tg b

/-- A way back to the root, along which so much can go. -/
inductive Way (F : Nat → Nat → Int) (root : Nat → Bool) (giv get : Nat → Int) (m : Int) : Nat → Prop
  | last {a : Nat} : 0 ≤ giv a → root (giv a).toNat = true → Way F root giv get m a
  | step {a : Nat} : 0 ≤ giv a → root (giv a).toNat = false → m ≤ F (giv a).toNat (get (giv a).toNat).toNat → Way F root giv get m (get (giv a).toNat).toNat → Way F root giv get m a

theorem Way.back {F : Nat → Nat → Int} {root : Nat → Bool} {giv get : Nat → Int} {m : Int} {a : Nat} (h : Way F root giv get m a) (hr : root (giv a).toNat = false) :
    m ≤ F (giv a).toNat (get (giv a).toNat).toNat ∧ Way F root giv get m (get (giv a).toNat).toNat := by
  cases h with
  | last h1 h2 => rw [h2] at hr; cases hr
  | step h1 h2 h3 h4 => exact ⟨h3, h4⟩

/-- While a way is looked along: how much can go. -/
structure Most (N : Nat) (F : Nat → Nat → Int) (root : Nat → Bool) (giv get : Nat → Int) (e : Nat) (m0 : Int) (a : Nat) (m : Int) : Prop where
  an : a < N
  ar : 0 ≤ giv a
  lo : 1 ≤ m
  hi : m ≤ m0
  way : ∀ k, k ≤ m → Way F root giv get k a → Way F root giv get k e

theorem Most.first {N : Nat} {F : Nat → Nat → Int} {root : Nat → Bool} {giv get : Nat → Int} {e : Nat} {m0 : Int} (he : e < N) (hg : 0 ≤ giv e) (hm : 1 ≤ m0) : Most N F root giv get e m0 e m0 :=
  ⟨he, hg, hm, Int.le_refl _, fun _ _ h => h⟩

theorem Most.step {N : Nat} {op : Nat → Nat → Bool} {F : Nat → Nat → Int} {root : Nat → Bool} {giv get : Nat → Int} {tg tc : Nat → Nat} (r : Reached N op F root giv get tg tc) {e : Nat} {m0 : Int} {a : Nat} {m : Int} (h : Most N F root giv get e m0 a m)
    (hr : root (giv a).toNat = false) (m' : Int) (hm : m' = m ∧ m ≤ F (giv a).toNat (get (giv a).toNat).toNat ∨ m' = F (giv a).toNat (get (giv a).toNat).toNat ∧ F (giv a).toNat (get (giv a).toNat).toNat ≤ m) :
    Most N F root giv get e m0 (get (giv a).toNat).toNat m' ∧ tc (get (giv a).toNat).toNat < tc a := by
  obtain ⟨g1, g2, g3, g4⟩ := r.cg a h.an h.ar
  have g5 := g4 hr
  have g0 := h.ar
  have ga := h.an
  obtain ⟨k1, k2, k3, k4, k5⟩ := r.cb _ (by omega) hr g5
  have h1 := h.lo
  have h2 := h.hi
  refine ⟨⟨by omega, k2, by omega, by omega, fun k hk hw => h.way k (by omega) (.step h.ar hr (by omega) hw)⟩, by omega⟩

theorem Most.done {N : Nat} {F : Nat → Nat → Int} {root : Nat → Bool} {giv get : Nat → Int} {e : Nat} {m0 : Int} {a : Nat} {m : Int} (h : Most N F root giv get e m0 a m) (hr : root (giv a).toNat = true) : Way F root giv get m e :=
  h.way m (Int.le_refl _) (.last h.ar hr)

/-- While a table is changed along a way: what is to go to a comes next. -/
structure PushSt (N : Nat) (op : Nat → Nat → Bool) (F0 : Nat → Nat → Int) (root : Nat → Bool) (giv get : Nat → Int) (tg tc : Nat → Nat) (e : Nat) (m : Int) (a : Nat) (F : Nat → Nat → Int) : Prop where
  an : a < N
  ar : 0 ≤ giv a
  way : Way F0 root giv get m a
  nn : ∀ x y, x < N → y < N → 0 ≤ F x y
  row : ∀ x, x < N → sm N (fun y => F x y) = sm N (fun y => F0 x y)
  col : ∀ y, y < N → sm N (fun x => F x y) = sm N (fun x => F0 x y) + (if y = e then m else 0) - (if y = a then m else 0)
  same : ∀ x y, x < N → y < N → tg x < tc a → F x y = F0 x y
  off : ∀ x y, x < N → y < N → op x y = false → F x y = F0 x y

theorem PushSt.first {N : Nat} {op : Nat → Nat → Bool} {F0 : Nat → Nat → Int} {root : Nat → Bool} {giv get : Nat → Int} {tg tc : Nat → Nat} {e : Nat} {m : Int} (he : e < N) (hg : 0 ≤ giv e) (hw : Way F0 root giv get m e) (hn : ∀ x y, x < N → y < N → 0 ≤ F0 x y) :
    PushSt N op F0 root giv get tg tc e m e F0 :=
  ⟨he, hg, hw, hn, fun _ _ => rfl, fun y _ => by omega, fun _ _ _ _ _ => rfl, fun _ _ _ _ _ => rfl⟩

/-- A table changed along a way, behind what goes to a. -/
structure PushEnd (N : Nat) (op : Nat → Nat → Bool) (F0 : Nat → Nat → Int) (e : Nat) (m : Int) (b : Nat) (F : Nat → Nat → Int) : Prop where
  bn : b < N
  nn : ∀ x y, x < N → y < N → 0 ≤ F x y
  row : ∀ x, x < N → sm N (fun y => F x y) = sm N (fun y => F0 x y) + (if x = b then m else 0)
  col : ∀ y, y < N → sm N (fun x => F x y) = sm N (fun x => F0 x y) + (if y = e then m else 0)
  off : ∀ x y, x < N → y < N → op x y = false → F x y = F0 x y

theorem PushSt.add {N : Nat} {op : Nat → Nat → Bool} {F0 : Nat → Nat → Int} {root : Nat → Bool} {giv get : Nat → Int} {tg tc : Nat → Nat} {e : Nat} {m : Int} {a : Nat} {F : Nat → Nat → Int} (r : Reached N op F0 root giv get tg tc) (hm : 0 ≤ m)
    (h : PushSt N op F0 root giv get tg tc e m a F) : PushEnd N op F0 e m (giv a).toNat (upd F (giv a).toNat a (F (giv a).toNat a + m)) := by
  obtain ⟨g1, g2, g3, g4⟩ := r.cg a h.an h.ar
  have g0 := h.ar
  have bn : (giv a).toNat < N := by omega
  refine ⟨bn, fun x y hx hy => ?_, fun x hx => ?_, fun y hy => ?_, fun x y hx hy ho => ?_⟩
  · by_cases c : x = (giv a).toNat ∧ y = a
    · obtain ⟨rfl, rfl⟩ := c
      rw [upd_same]; have := h.nn _ _ hx hy; omega
    · rw [upd_off _ _ _ _ _ _ c]; exact h.nn x y hx hy
  · rw [upd_row _ _ _ _ _ h.an, h.row x hx]
  · rw [upd_col _ _ _ _ _ bn, h.col y hy]; omega
  · by_cases c : x = (giv a).toNat ∧ y = a
    · obtain ⟨rfl, rfl⟩ := c
      rw [g2] at ho; cases ho
    · rw [upd_off _ _ _ _ _ _ c]; exact h.off x y hx hy ho

theorem PushSt.next {N : Nat} {op : Nat → Nat → Bool} {F0 : Nat → Nat → Int} {root : Nat → Bool} {giv get : Nat → Int} {tg tc : Nat → Nat} {e : Nat} {m : Int} {a : Nat} {F : Nat → Nat → Int} (r : Reached N op F0 root giv get tg tc) (hm : 0 ≤ m)
    (h : PushSt N op F0 root giv get tg tc e m a F) (hr : root (giv a).toNat = false) (b c : Nat) (hb : b = (giv a).toNat) (hc : c = (get (giv a).toNat).toNat) :
    c < N ∧ b < N ∧ c ≠ a ∧ upd F b a (F b a + m) b c = F0 b c ∧ m ≤ F0 b c ∧ tc c < tc a ∧ PushSt N op F0 root giv get tg tc e m c (upd (upd F b a (F b a + m)) b c (upd F b a (F b a + m) b c - m)) := by
  obtain ⟨g1, g2, g3, g4⟩ := r.cg a h.an h.ar
  have g0 := h.ar
  have g5 := g4 hr
  rw [← hb] at g2 g3 g4 g5 hr hc
  obtain ⟨k1, k2, k3, k4, k5⟩ := r.cb b (by omega) hr g5
  have hw := h.way.back (by rw [← hb]; exact hr)
  rw [← hb, ← hc] at hw
  rw [← hc] at k2 k3 k4 k5
  have p := h.add r hm
  rw [← hb] at p
  have cn : c < N := by omega
  have bn : b < N := by omega
  have hca : c ≠ a := fun x => by subst x; omega
  have hF : upd F b a (F b a + m) b c = F0 b c := by
    rw [upd_off _ _ _ _ _ _ (fun x => hca x.2)]; exact h.same b c bn cn g3
  refine ⟨cn, bn, hca, hF, hw.1, by omega, ?_⟩
  obtain ⟨F1, hF1⟩ : ∃ F1, F1 = upd F b a (F b a + m) := ⟨_, rfl⟩
  rw [← hF1] at hF p ⊢
  rw [show F1 b c - m = F1 b c + -m by omega]
  refine ⟨cn, k2, hw.2, fun x y hx hy => ?_, fun x hx => ?_, fun y hy => ?_, fun x y hx hy ht => ?_, fun x y hx hy ho => ?_⟩
  · by_cases q : x = b ∧ y = c
    · obtain ⟨rfl, rfl⟩ := q
      rw [upd_same, hF]; have := hw.1; omega
    · rw [upd_off _ _ _ _ _ _ q]; exact p.nn x y hx hy
  · rw [upd_row _ _ _ _ _ cn, p.row x hx]; split <;> omega
  · rw [upd_col _ _ _ _ _ bn, p.col y hy]; split <;> split <;> omega
  · have hxb : x ≠ b := fun q => by subst q; omega
    rw [upd_off _ _ _ _ _ _ (fun q => hxb q.1), hF1, upd_off _ _ _ _ _ _ (fun q => hxb q.1)]
    exact h.same x y hx hy (by omega)
  · by_cases q : x = b ∧ y = c
    · obtain ⟨rfl, rfl⟩ := q
      rw [k3] at ho; cases ho
    · rw [upd_off _ _ _ _ _ _ q]; exact p.off x y hx hy ho

/-- So much is sent from one set to another one. -/
theorem PFlow.sent {N : Nat} {sup dem : Nat → Int} {F F' : Nat → Nat → Int} {left due : Nat → Int} {op : Nat → Nat → Bool} (hop : ∀ b a, subB a b = false → op b a = false) {e : Nat} {m : Int} {b : Nat} (h : PFlow N sup dem F left due) (p : PushEnd N op F e m b F')
    (he : e < N) (h1 : m ≤ left b) (h2 : m ≤ due e) : PFlow N sup dem F' (fun k => if k = b then left k - m else left k) (fun k => if k = e then due k - m else due k) := by
  refine ⟨p.nn, fun x y hx hy hs => by rw [p.off x y hx hy (hop x y hs)]; exact h.sub x y hx hy hs, fun x hx => ?_, fun y hy => ?_, fun x hx => ?_, fun y hy => ?_⟩
  · rw [p.row x hx]; have := h.row x hx; split <;> omega
  · rw [p.col y hy]; have := h.col y hy; split <;> omega
  · have := h.ln x hx; split
    · subst_vars; omega
    · exact this
  · have := h.dn y hy; split
    · subst_vars; omega
    · exact this

/-- So much goes round: from one giver back, over a way to an end, and there as much less, so that the gift of b to a is raised. -/
theorem Flow.raised {N : Nat} {sup dem : Nat → Int} {F F' : Nat → Nat → Int} {op : Nat → Nat → Bool} (hop : ∀ b a, subB a b = false → op b a = false) {e : Nat} {m : Int} {g : Nat} (h : Flow N sup dem F) (p : PushEnd N op F e m g F') (b a : Nat) (hb : b < N) (ha : a < N) (he : e < N)
    (hgb : g ≠ b) (hea : e ≠ a) (o1 : op g a = false) (o2 : op b e = false) (o3 : op b a = false) (s1 : subB a g = true) (s2 : subB e b = true) (s3 : subB a b = true) (hm : 0 ≤ m) (m1 : m ≤ F g a) (m2 : m ≤ F b e) :
    F' g a = F g a ∧ F' b e = F b e ∧ F' b a = F b a ∧ Flow N sup dem (upd (upd (upd F' g a (F' g a - m)) b e (F' b e - m)) b a (F' b a + m)) := by
  have gn := p.bn
  have q1 := p.off g a gn ha o1
  have q2 := p.off b e hb he o2
  have q3 := p.off b a hb ha o3
  refine ⟨q1, q2, q3, ?_⟩
  obtain ⟨A, hA⟩ : ∃ A, A = upd F' g a (F' g a + -m) := ⟨_, rfl⟩
  have a1 : A b e = F' b e := by rw [hA, upd_off _ _ _ _ _ _ (fun x => hgb x.1.symm)]
  have a2 : A b a = F' b a := by rw [hA, upd_off _ _ _ _ _ _ (fun x => hgb x.1.symm)]
  obtain ⟨B, hB⟩ : ∃ B, B = upd A b e (A b e + -m) := ⟨_, rfl⟩
  have b1 : B b a = F' b a := by rw [hB, upd_off _ _ _ _ _ _ (fun x => hea x.2.symm), a2]
  rw [show F' g a - m = F' g a + -m by omega, ← hA, show F' b e - m = A b e + -m by rw [a1]; omega, ← hB, ← b1]
  refine ⟨fun x y hx hy => ?_, fun x y hx hy hs => ?_, fun x hx => ?_, fun y hy => ?_⟩
  · by_cases c1 : x = b ∧ y = a
    · obtain ⟨rfl, rfl⟩ := c1; rw [upd_same, b1, q3]; have := h.nn x y hx hy; omega
    · rw [upd_off _ _ _ _ _ _ c1, hB]
      by_cases c2 : x = b ∧ y = e
      · obtain ⟨rfl, rfl⟩ := c2; rw [upd_same, a1, q2]; omega
      · rw [upd_off _ _ _ _ _ _ c2, hA]
        by_cases c3 : x = g ∧ y = a
        · obtain ⟨rfl, rfl⟩ := c3; rw [upd_same, q1]; omega
        · rw [upd_off _ _ _ _ _ _ c3]; exact p.nn x y hx hy
  · have c1 : ¬ (x = b ∧ y = a) := fun c => by rw [c.1, c.2, s3] at hs; cases hs
    have c2 : ¬ (x = b ∧ y = e) := fun c => by rw [c.1, c.2, s2] at hs; cases hs
    have c3 : ¬ (x = g ∧ y = a) := fun c => by rw [c.1, c.2, s1] at hs; cases hs
    rw [upd_off _ _ _ _ _ _ c1, hB, upd_off _ _ _ _ _ _ c2, hA, upd_off _ _ _ _ _ _ c3, p.off x y hx hy (hop x y hs)]
    exact h.sub x y hx hy hs
  · rw [upd_row _ _ _ _ _ ha, hB, upd_row _ _ _ _ _ he, hA, upd_row _ _ _ _ _ ha, p.row x hx, h.row x hx]
    split <;> split <;> omega
  · rw [upd_col _ _ _ _ _ hb, hB, upd_col _ _ _ _ _ hb, hA, upd_col _ _ _ _ _ gn, p.col y hy, h.col y hy]
    split <;> split <;> omega

end Go.Proofs.Ytjmfjgoehicgcaa

/- Plain facts on a search for a way. -/
set_option linter.unusedVariables false
set_option linter.unusedSimpArgs false
namespace Go.Proofs.Ytjmfjgoehicgcaa
open Go.RowKit

def upv (f : Nat → Int) (b : Nat) (v : Int) : Nat → Int := fun x => if x = b then v else f x
theorem upv_same (f : Nat → Int) (b : Nat) (v : Int) : upv f b v b = v := by simp [upv]
theorem upv_off (f : Nat → Int) (b : Nat) (v : Int) (x : Nat) (h : x ≠ b) : upv f b v x = f x := if_neg h
def upn (f : Nat → Nat) (b : Nat) (v : Nat) : Nat → Nat := fun x => if x = b then v else f x
theorem upn_same (f : Nat → Nat) (b : Nat) (v : Nat) : upn f b v b = v := by simp [upn]
theorem upn_off (f : Nat → Nat) (b : Nat) (v : Nat) (x : Nat) (h : x ≠ b) : upn f b v x = f x := if_neg h

/-- How many givers are not reached. -/
def cntN (N : Nat) (get : Nat → Int) : Int := sm N (fun b => if get b < 0 then 1 else 0)
theorem cntN_nn (N : Nat) (get : Nat → Int) : 0 ≤ cntN N get := sm_nonneg fun k _ => by split <;> omega
theorem cntN_set (N : Nat) (get : Nat → Int) (b : Nat) (v : Int) (hb : b < N) (h0 : get b < 0) (hv : 0 ≤ v) : cntN N (upv get b v) = cntN N get - 1 := by
  unfold cntN
  rw [show sm N (fun x => if get x < 0 then 1 else 0) - 1 = sm N (fun x => if get x < 0 then 1 else 0) + -1 by omega, ← sm_upd1 N (fun x => if get x < 0 then 1 else 0) b (-1) hb]
  apply sm_congr
  intro k _
  by_cases e : k = b
  · subst e; rw [upv_same, if_neg (by omega), if_pos rfl, if_pos h0]; rfl
  · rw [upv_off _ _ _ _ e, if_neg e]

/-- What a search has found; a giver has been done with where 'P' says so. -/
structure Srch (N : Nat) (op : Nat → Nat → Bool) (F : Nat → Nat → Int) (fr : Nat) (giv get : Nat → Int) (tg tc : Nat → Nat) (T : Nat) (P : Nat → Bool) (Q : List Nat) : Prop where
  frN : fr < N
  R : Reached N op F (fun b => b == fr) giv get tg tc
  tb : ∀ b, b < N → (b = fr ∨ 0 ≤ get b) → tg b < T
  ta : ∀ a, a < N → 0 ≤ giv a → tc a < T
  gb : ∀ a, a < N → 0 ≤ giv a → (giv a).toNat = fr ∨ 0 ≤ get (giv a).toNat
  g0 : get fr < 0
  qn : ∀ b, b ∈ Q → b < N ∧ (b = fr ∨ 0 ≤ get b)
  c1 : ∀ b a, b < N → a < N → P b = true → op b a = true → 0 ≤ giv a

/-- All that is reached from a getter is reached. -/
def DoneC (N : Nat) (op : Nat → Nat → Bool) (F : Nat → Nat → Int) (fr : Nat) (E : Nat → Bool) (get : Nat → Int) (a n : Nat) : Prop :=
  E a = false ∧ ∀ b, b < n → b ≠ fr → op b a = true → 0 < F b a → 0 ≤ get b

structure Ou (N : Nat) (op : Nat → Nat → Bool) (F : Nat → Nat → Int) (fr : Nat) (E : Nat → Bool) (giv get : Nat → Int) (tg tc : Nat → Nat) (T : Nat) (P : Nat → Bool) (Q : List Nat) : Prop extends Srch N op F fr giv get tg tc T P Q where
  c2 : ∀ a, a < N → 0 ≤ giv a → DoneC N op F fr E get a N
  vis : ∀ b, b < N → (b = fr ∨ 0 ≤ get b) → P b = true ∨ b ∈ Q

structure Inn (N : Nat) (op : Nat → Nat → Bool) (F : Nat → Nat → Int) (fr : Nat) (E : Nat → Bool) (giv get : Nat → Int) (tg tc : Nat → Nat) (T : Nat) (P : Nat → Bool) (Q : List Nat) (b j : Nat) : Prop extends Srch N op F fr giv get tg tc T P Q where
  c2 : ∀ a, a < N → 0 ≤ giv a → DoneC N op F fr E get a N
  bn : b < N
  bv : b = fr ∨ 0 ≤ get b
  b1 : ∀ a, a < j → a < N → op b a = true → 0 ≤ giv a
  vis : ∀ x, x < N → (x = fr ∨ 0 ≤ get x) → P x = true ∨ x ∈ Q ∨ x = b

structure Imm (N : Nat) (op : Nat → Nat → Bool) (F : Nat → Nat → Int) (fr : Nat) (E : Nat → Bool) (giv get : Nat → Int) (tg tc : Nat → Nat) (T : Nat) (P : Nat → Bool) (Q : List Nat) (b a k : Nat) : Prop extends Srch N op F fr giv get tg tc T P Q where
  c2 : ∀ x, x < N → 0 ≤ giv x → x ≠ a → DoneC N op F fr E get x N
  an : a < N
  ag : 0 ≤ giv a
  c3 : DoneC N op F fr E get a k
  bn : b < N
  bv : b = fr ∨ 0 ≤ get b
  b1 : ∀ x, x < a → x < N → op b x = true → 0 ≤ giv x
  vis : ∀ x, x < N → (x = fr ∨ 0 ≤ get x) → P x = true ∨ x ∈ Q ∨ x = b

section
variable {N : Nat} {op : Nat → Nat → Bool} {F : Nat → Nat → Int} {fr : Nat} {E : Nat → Bool} {giv get : Nat → Int} {tg tc : Nat → Nat} {T : Nat} {P : Nat → Bool} {Q : List Nat} {b a j k : Nat}

theorem Ou.start (hf : fr < N) (h1 : ∀ a, a < N → giv a < 0) (h2 : ∀ a, a < N → get a < 0) : Ou N op F fr E giv get (fun _ => 0) (fun _ => 0) 1 (fun _ => false) [fr] := by
  refine ⟨⟨hf, ⟨fun a ha h => by have := h1 a ha; omega, fun b hb _ h => by have := h2 b hb; omega⟩, fun _ _ _ => by omega, fun a ha h => by have := h1 a ha; omega, fun a ha h => by have := h1 a ha; omega, h2 fr hf, ?_, fun _ _ _ _ h => by cases h⟩, fun a ha h => by have := h1 a ha; omega, ?_⟩
  · intro b hb; rw [List.mem_singleton] at hb; subst hb; exact ⟨hf, .inl rfl⟩
  · intro b hb h
    rcases h with rfl | h
    · exact .inr (List.mem_singleton.2 rfl)
    · have := h2 b hb; omega

theorem Ou.pop (h : Ou N op F fr E giv get tg tc T P (b :: Q)) : Inn N op F fr E giv get tg tc T P Q b 0 :=
  ⟨⟨h.frN, h.R, h.tb, h.ta, h.gb, h.g0, fun x hx => h.qn x (List.mem_cons_of_mem _ hx), h.c1⟩, h.c2, (h.qn b (List.mem_cons_self ..)).1, (h.qn b (List.mem_cons_self ..)).2, fun a ha => absurd ha (Nat.not_lt_zero _), fun x hx hv => by
    rcases h.vis x hx hv with h1 | h1
    · exact .inl h1
    · rcases List.mem_cons.1 h1 with h2 | h2
      · exact .inr (.inr h2)
      · exact .inr (.inl h2)⟩

theorem Inn.skip (h : Inn N op F fr E giv get tg tc T P Q b j) (hs : 0 ≤ giv j ∨ op b j = false) : Inn N op F fr E giv get tg tc T P Q b (j + 1) :=
  ⟨h.toSrch, h.c2, h.bn, h.bv, fun a ha haN ho => by
    by_cases e : a = j
    · subst e
      rcases hs with hs | hs
      · exact hs
      · rw [hs] at ho; cases ho
    · exact h.b1 a (by omega) haN ho, h.vis⟩

/-- A getter is marked. -/
theorem Inn.reach (h : Inn N op F fr E giv get tg tc T P Q b j) (hj : j < N) (hg : giv j < 0) (ho : op b j = true) : Srch N op F fr (upv giv j b) get tg (upn tc j T) (T + 1) P Q := by
  have R := h.R
  refine ⟨h.frN, ⟨fun a ha hv => ?_, fun x hx hr hv => ?_⟩, fun x hx hv => by have := h.tb x hx hv; omega, fun a ha hv => ?_, fun a ha hv => ?_, h.g0, h.qn, fun x a hx ha hP hop => ?_⟩
  · by_cases e : a = j
    · subst e
      rw [upv_same, upn_same, Int.toNat_natCast]
      refine ⟨by have := h.bn; omega, ho, h.tb b h.bn h.bv, fun hr => ?_⟩
      rcases h.bv with hb | hb
      · subst hb; simp at hr
      · exact hb
    · rw [upv_off _ _ _ _ e, upn_off _ _ _ _ e]; rw [upv_off _ _ _ _ e] at hv; exact R.cg a ha hv
  · obtain ⟨k1, k2, k3, k4, k5⟩ := R.cb x hx hr hv
    have hne : (get x).toNat ≠ j := fun e => by rw [e] at k2; omega
    rw [upv_off _ _ _ _ hne, upn_off _ _ _ _ hne]
    exact ⟨k1, k2, k3, k4, k5⟩
  · by_cases e : a = j
    · subst e; rw [upn_same]; omega
    · rw [upn_off _ _ _ _ e]; rw [upv_off _ _ _ _ e] at hv; have := h.ta a ha hv; omega
  · by_cases e : a = j
    · subst e; rw [upv_same, Int.toNat_natCast]; exact h.bv
    · rw [upv_off _ _ _ _ e]; rw [upv_off _ _ _ _ e] at hv; exact h.gb a ha hv
  · by_cases e : a = j
    · subst e; rw [upv_same]; omega
    · rw [upv_off _ _ _ _ e]; exact h.c1 x a hx ha hP hop

theorem Inn.mark (h : Inn N op F fr E giv get tg tc T P Q b j) (hj : j < N) (hg : giv j < 0) (ho : op b j = true) (hE : E j = false) : Imm N op F fr E (upv giv j b) get tg (upn tc j T) (T + 1) P Q b j 0 := by
  refine ⟨h.reach hj hg ho, fun x hx hv hne => ?_, hj, by rw [upv_same]; omega, ⟨hE, fun x hx => absurd hx (Nat.not_lt_zero _)⟩, h.bn, h.bv, fun x hx hxN hop => ?_, h.vis⟩
  · rw [upv_off _ _ _ _ hne] at hv; exact h.c2 x hx hv
  · rw [upv_off _ _ _ _ (by omega)]; exact h.b1 x hx hxN hop

theorem Imm.skip (h : Imm N op F fr E giv get tg tc T P Q b a k) (hs : ¬ (k ≠ fr ∧ get k < 0 ∧ op k a = true ∧ 0 < F k a)) : Imm N op F fr E giv get tg tc T P Q b a (k + 1) :=
  ⟨h.toSrch, h.c2, h.an, h.ag, ⟨h.c3.1, fun x hx hne ho hF => by
    by_cases e : x = k
    · subst e
      rcases Int.lt_or_le (get x) 0 with q | q
      · exact absurd ⟨hne, q, ho, hF⟩ hs
      · exact q
    · exact h.c3.2 x (by omega) hne ho hF⟩, h.bn, h.bv, h.b1, h.vis⟩

theorem DoneC.more {get' : Nat → Int} {x n : Nat} (h : DoneC N op F fr E get x n) (hm : ∀ y, 0 ≤ get y → 0 ≤ get' y) : DoneC N op F fr E get' x n := ⟨h.1, fun y h1 h2 h3 h4 => hm y (h.2 y h1 h2 h3 h4)⟩

theorem Imm.push (h : Imm N op F fr E giv get tg tc T P Q b a k) (hk : k < N) (h1 : k ≠ fr) (h2 : get k < 0) (h3 : op k a = true) (h4 : 0 < F k a) :
    Imm N op F fr E giv (upv get k a) (upn tg k T) tc (T + 1) P (Q ++ [k]) b a (k + 1) ∧ cntN N (upv get k a) = cntN N get - 1 := by
  have R := h.R
  have mono : ∀ y, 0 ≤ get y → 0 ≤ upv get k a y := fun y hy => by
    by_cases e : y = k
    · subst e; omega
    · rw [upv_off _ _ _ _ e]; exact hy
  have own : ∀ y, (y = fr ∨ 0 ≤ upv get k a y) → y ≠ k → (y = fr ∨ 0 ≤ get y) := fun y hy hne => by rw [upv_off _ _ _ _ hne] at hy; exact hy
  refine ⟨⟨⟨h.frN, ⟨fun x hx hv => ?_, fun x hx hr hv => ?_⟩, fun x hx hv => ?_, fun x hx hv => by have := h.ta x hx hv; omega, fun x hx hv => ?_, ?_, fun x hx => ?_, h.c1⟩, fun x hx hv hne => (h.c2 x hx hv hne).more mono, h.an, h.ag, ⟨h.c3.1, fun x hx hne ho hF => ?_⟩, h.bn, ?_, h.b1, fun x hx hv => ?_⟩, cntN_set N get k a hk h2 (by omega)⟩
  · obtain ⟨g1, g2, g3, g4⟩ := R.cg x hx hv
    have hne : (giv x).toNat ≠ k := fun e => by
      rcases h.gb x hx hv with q | q
      · rw [e] at q; exact h1 q
      · rw [e] at q; omega
    rw [upn_off _ _ _ _ hne, upv_off _ _ _ _ hne]
    exact ⟨g1, g2, g3, g4⟩
  · by_cases e : x = k
    · subst e
      rw [upv_same, upn_same, Int.toNat_natCast]
      exact ⟨by have := h.an; omega, h.ag, h3, h4, h.ta a h.an h.ag⟩
    · rw [upv_off _ _ _ _ e] at hv ⊢
      rw [upn_off _ _ _ _ e]
      exact R.cb x hx hr hv
  · by_cases e : x = k
    · subst e; rw [upn_same]; omega
    · rw [upn_off _ _ _ _ e]; have := h.tb x hx (own x hv e); omega
  · rcases h.gb x hx hv with q | q
    · exact .inl q
    · exact .inr (mono _ q)
  · rw [upv_off _ _ _ _ (fun e => h1 e.symm)]; exact h.g0
  · rcases List.mem_append.1 hx with q | q
    · obtain ⟨q1, q2⟩ := h.qn x q
      exact ⟨q1, q2.imp id (mono x)⟩
    · rw [List.mem_singleton] at q; subst q
      exact ⟨hk, .inr (by rw [upv_same]; omega)⟩
  · by_cases e : x = k
    · subst e; rw [upv_same]; omega
    · exact mono x (h.c3.2 x (by omega) hne ho hF)
  · exact h.bv.imp id (mono b)
  · by_cases e : x = k
    · subst e; exact .inr (.inl (List.mem_append.2 (.inr (List.mem_singleton.2 rfl))))
    · rcases h.vis x hx (own x hv e) with q | q | q
      · exact .inl q
      · exact .inr (.inl (List.mem_append.2 (.inl q)))
      · exact .inr (.inr q)

theorem Imm.done (h : Imm N op F fr E giv get tg tc T P Q b a N) : Inn N op F fr E giv get tg tc T P Q b (a + 1) :=
  ⟨h.toSrch, fun x hx hv => by
    by_cases e : x = a
    · subst e; exact h.c3
    · exact h.c2 x hx hv e, h.bn, h.bv, fun x hx hxN ho => by
    by_cases e : x = a
    · subst e; exact h.ag
    · exact h.b1 x (by omega) hxN ho, h.vis⟩

theorem Inn.done (h : Inn N op F fr E giv get tg tc T P Q b N) : Ou N op F fr E giv get tg tc T (fun x => P x || x == b) Q := by
  refine ⟨⟨h.frN, h.R, h.tb, h.ta, h.gb, h.g0, h.qn, fun x a hx ha hP ho => ?_⟩, h.c2, fun x hx hv => ?_⟩
  · rcases Bool.or_eq_true _ _ ▸ hP with q | q
    · exact h.c1 x a hx ha q ho
    · have : x = b := by simpa using q
      subst this; exact h.b1 a ha ha ho
  · rcases h.vis x hx hv with q | q | q
    · exact .inl (by simp [q])
    · exact .inr q
    · exact .inl (by simp [q])

/-- Nothing more is reached, and no end. -/
structure NoWay (N : Nat) (op : Nat → Nat → Bool) (F : Nat → Nat → Int) (fr : Nat) (E : Nat → Bool) (R S : Nat → Bool) : Prop where
  rf : R fr = true
  c1 : ∀ b a, b < N → a < N → R b = true → op b a = true → S a = true
  c2 : ∀ a, a < N → S a = true → E a = false
  c3 : ∀ b a, b < N → a < N → S a = true → b ≠ fr → op b a = true → 0 < F b a → R b = true
  c4 : ∀ b, b < N → R b = true → b = fr ∨ ∃ a, a < N ∧ op b a = true

theorem Ou.none (h : Ou N op F fr E giv get tg tc T P []) : NoWay N op F fr E (fun b => b == fr || decide (0 ≤ get b)) (fun a => decide (0 ≤ giv a)) := by
  have pv : ∀ b, b < N → (b = fr ∨ 0 ≤ get b) → P b = true := fun b hb hv => by
    rcases h.vis b hb hv with q | q
    · exact q
    · simp at q
  refine ⟨by simp, fun b a hb ha hR ho => ?_, fun a ha hS => ?_, fun b a hb ha hS hne ho hF => ?_, fun b hb hR => ?_⟩
  · exact decide_eq_true (h.c1 b a hb ha (pv b hb (by simpa using hR)) ho)
  · exact (h.c2 a ha (of_decide_eq_true hS)).1
  · have := (h.c2 a ha (of_decide_eq_true hS)).2 b hb hne ho hF
    simp [this]
  · by_cases e : b = fr
    · exact .inl e
    · have hv : 0 ≤ get b := by simpa [e] using hR
      obtain ⟨k1, k2, k3, k4, k5⟩ := h.R.cb b hb (by simp [e]) hv
      exact .inr ⟨(get b).toNat, by omega, k3⟩

/-- A way has been found. -/
structure Found (N : Nat) (op : Nat → Nat → Bool) (F : Nat → Nat → Int) (fr : Nat) (E : Nat → Bool) (giv get : Nat → Int) (tg tc : Nat → Nat) (n : Nat) : Prop where
  R : Reached N op F (fun b => b == fr) giv get tg tc
  nN : n < N
  ng : 0 ≤ giv n
  nE : E n = true
  no : ∃ b, b < N ∧ op b n = true

theorem Inn.found (h : Inn N op F fr E giv get tg tc T P Q b j) (hj : j < N) (hg : giv j < 0) (ho : op b j = true) (hE : E j = true) : Found N op F fr E (upv giv j b) get tg (upn tc j T) j :=
  ⟨(h.reach hj hg ho).R, hj, by rw [upv_same]; omega, hE, ⟨b, h.bn, ho⟩⟩
end

end Go.Proofs.Ytjmfjgoehicgcaa

/- Plain facts on the reference's search for ways. -/
set_option linter.unusedVariables false
set_option linter.unusedSimpArgs false
namespace Go.Proofs.Ytjmfjgoehicgcaa
open Go.RowKit

def subO (b a : Nat) : Bool := subB a b

/-- What the reference's search has reached. -/
structure Rch (N : Nat) (F : Nat → Nat → Int) (lf pf pt : Nat → Int) (tg tc : Nat → Nat) (T : Nat) : Prop where
  R : Reached N subO F (fun b => decide (0 < lf b)) (fun a => pt a - 1) (fun b => pf b - 1) tg tc
  root : ∀ b, b < N → (pf b = 100 ↔ 0 < lf b)
  pb : ∀ b, b < N → 0 ≤ pf b ∧ pf b ≤ 100
  tb2 : ∀ a, a < N → 0 ≤ pt a ∧ pt a ≤ 100
  tb : ∀ b, b < N → 0 < pf b → tg b < T
  ta : ∀ a, a < N → 0 < pt a → tc a < T

/-- How many places are not reached. -/
def cnt2 (N : Nat) (pf pt : Nat → Int) : Int := cntN N (fun b => pf b - 1) + cntN N (fun a => pt a - 1)
theorem cnt2_nn (N : Nat) (pf pt : Nat → Int) : 0 ≤ cnt2 N pf pt := by
  have := cntN_nn N (fun b => pf b - 1); have := cntN_nn N (fun a => pt a - 1); unfold cnt2; omega

theorem upv_sub (f : Nat → Int) (b : Nat) (v : Int) : (fun x => upv f b v x - 1) = upv (fun x => f x - 1) b (v - 1) := by
  funext x; by_cases e : x = b
  · subst e; rw [upv_same, upv_same]
  · rw [upv_off _ _ _ _ e, upv_off _ _ _ _ e]

theorem Rch.start {N : Nat} {F : Nat → Nat → Int} {lf pf pt : Nat → Int} (h1 : ∀ b, b < N → pf b = if 0 < lf b then 100 else 0) (h2 : ∀ a, a < N → pt a = 0) : Rch N F lf pf pt (fun _ => 0) (fun _ => 0) 1 := by
  refine ⟨⟨fun a ha h => by have := h2 a ha; omega, fun b hb hr h => ?_⟩, fun b hb => ?_, fun b hb => ?_, fun a ha => by have := h2 a ha; omega, fun _ _ _ => by omega, fun _ _ _ => by omega⟩
  · have hr2 := of_decide_eq_false hr
    have := h1 b hb
    rw [if_neg hr2] at this; omega
  · rw [h1 b hb]; split <;> simp_all
  · rw [h1 b hb]; split <;> omega

/-- A getter is marked. -/
theorem Rch.markA {N : Nat} {F : Nat → Nat → Int} {lf pf pt : Nat → Int} {tg tc : Nat → Nat} {T : Nat} (h : Rch N F lf pf pt tg tc T) (hN : N ≤ 16) (b a : Nat) (hb : b < N) (ha : a < N) (hs : subB a b = true) (h1 : 0 < pf b) (h2 : pt a = 0) :
    Rch N F lf pf (upv pt a ((b : Int) + 1)) tg (upn tc a T) (T + 1) ∧ cnt2 N pf (upv pt a ((b : Int) + 1)) = cnt2 N pf pt - 1 := by
  have R := h.R
  refine ⟨⟨⟨fun x hx hv => ?_, fun x hx hr hv => ?_⟩, h.root, h.pb, fun x hx => ?_, fun x hx hv => by have := h.tb x hx hv; omega, fun x hx hv => ?_⟩, ?_⟩
  · skip
    by_cases e : x = a
    · subst e
      rw [upv_same, upn_same, show (b : Int) + 1 - 1 = b by omega, Int.toNat_natCast]
      exact ⟨by omega, hs, h.tb b hb h1, fun _ => by omega⟩
    · rw [upv_off _ _ _ _ e] at hv ⊢; rw [upn_off _ _ _ _ e]; exact R.cg x hx hv
  · obtain ⟨k1, k2, k3, k4, k5⟩ := R.cb x hx hr hv
    have hne : (pf x - 1).toNat ≠ a := fun e => by rw [e, h2] at k2; omega
    rw [upv_off _ _ _ _ hne, upn_off _ _ _ _ hne]
    exact ⟨k1, k2, k3, k4, k5⟩
  · by_cases e : x = a
    · subst e; rw [upv_same]; omega
    · rw [upv_off _ _ _ _ e]; exact h.tb2 x hx
  · by_cases e : x = a
    · subst e; rw [upn_same]; omega
    · rw [upn_off _ _ _ _ e]; rw [upv_off _ _ _ _ e] at hv; have := h.ta x hx hv; omega
  · unfold cnt2
    rw [upv_sub, cntN_set _ _ _ _ ha (by omega) (by omega)]; omega

/-- A giver is marked. -/
theorem Rch.markB {N : Nat} {F : Nat → Nat → Int} {lf pf pt : Nat → Int} {tg tc : Nat → Nat} {T : Nat} (h : Rch N F lf pf pt tg tc T) (hN : N ≤ 16) (b a : Nat) (hb : b < N) (ha : a < N) (hs : subB a b = true) (h1 : 0 < pt a) (h2 : pf b = 0) (h3 : 0 < F b a) :
    Rch N F lf (upv pf b ((a : Int) + 1)) pt (upn tg b T) tc (T + 1) ∧ cnt2 N (upv pf b ((a : Int) + 1)) pt = cnt2 N pf pt - 1 := by
  have R := h.R
  have hnr : ¬ 0 < lf b := fun e => by have := (h.root b hb).2 e; omega
  refine ⟨⟨⟨fun x hx hv => ?_, fun x hx hr hv => ?_⟩, fun x hx => ?_, fun x hx => ?_, h.tb2, fun x hx hv => ?_, fun x hx hv => by have := h.ta x hx hv; omega⟩, ?_⟩
  · obtain ⟨g1, g2, g3, g4⟩ := R.cg x hx hv
    have hne : (pt x - 1).toNat ≠ b := fun e => by
      have g5 := g4 (by rw [e]; exact decide_eq_false hnr)
      rw [e, h2] at g5; omega
    rw [upn_off _ _ _ _ hne, upv_off _ _ _ _ hne]
    exact ⟨g1, g2, g3, g4⟩
  · skip
    by_cases e : x = b
    · subst e
      rw [upv_same, upn_same, show (a : Int) + 1 - 1 = a by omega, Int.toNat_natCast]
      exact ⟨by omega, by omega, hs, h3, h.ta a ha h1⟩
    · rw [upv_off _ _ _ _ e] at hv ⊢
      rw [upn_off _ _ _ _ e]
      exact R.cb x hx hr hv
  · by_cases e : x = b
    · subst e; rw [upv_same]; constructor
      · intro h; omega
      · intro h; exact absurd h hnr
    · rw [upv_off _ _ _ _ e]; exact h.root x hx
  · by_cases e : x = b
    · subst e; rw [upv_same]; omega
    · rw [upv_off _ _ _ _ e]; exact h.pb x hx
  · by_cases e : x = b
    · subst e; rw [upn_same]; omega
    · rw [upn_off _ _ _ _ e]; rw [upv_off _ _ _ _ e] at hv; have := h.tb x hx hv; omega
  · unfold cnt2
    rw [upv_sub, cntN_set _ _ _ _ hb (by omega) (by omega)]; omega

/-- Nothing more is reached by way of these two. -/
def Clo (F : Nat → Nat → Int) (pf pt : Nat → Int) (b a : Nat) : Prop := (subB a b = true → 0 < pf b → 0 < pt a) ∧ (0 < pt a → 0 < F b a → 0 < pf b)

/-- A sweep over all pairs: where nothing has changed in it, what it has seen is closed; c0 is how many were not reached when it began. -/
structure Swp (N : Nat) (F : Nat → Nat → Int) (lf pf pt : Nat → Int) (c0 : Int) (ch : Bool) (b a : Nat) : Prop where
  rch : ∃ tg tc T, Rch N F lf pf pt tg tc T
  no : ch = false → ∀ x y, x < N → y < N → x < b ∨ x = b ∧ y < a → Clo F pf pt x y
  le : cnt2 N pf pt ≤ c0
  yes : ch = true → cnt2 N pf pt < c0

section
variable {N : Nat} {F : Nat → Nat → Int} {lf pf pt : Nat → Int} {c0 : Int} {ch : Bool} {b a : Nat}

theorem Swp.first {tg tc : Nat → Nat} {T : Nat} (h : Rch N F lf pf pt tg tc T) : Swp N F lf pf pt (cnt2 N pf pt) false 0 0 := ⟨⟨tg, tc, T, h⟩, fun _ x y _ _ h => by omega, Int.le_refl _, fun h => by cases h⟩

theorem Swp.row (h : Swp N F lf pf pt c0 ch b N) : Swp N F lf pf pt c0 ch (b + 1) 0 :=
  ⟨h.rch, fun hc x y hx hy hv => h.no hc x y hx hy (by omega), h.le, h.yes⟩

/-- One pair: the two tests one behind the other. -/
theorem Swp.skip (h : Swp N F lf pf pt c0 ch b a) (hq : Clo F pf pt b a) : Swp N F lf pf pt c0 ch b (a + 1) :=
  ⟨h.rch, fun hc x y hx hy hv => by
    by_cases e : x = b ∧ y = a
    · obtain ⟨rfl, rfl⟩ := e; exact hq
    · exact h.no hc x y hx hy (by omega), h.le, h.yes⟩

theorem Swp.some (h : Swp N F lf pf pt c0 true b a) : Swp N F lf pf pt c0 true b (a + 1) := ⟨h.rch, fun hc => absurd hc (by simp), h.le, h.yes⟩

theorem Swp.markA (h : Swp N F lf pf pt c0 ch b a) (hN : N ≤ 16) (hb : b < N) (ha : a < N) (hs : subB a b = true) (h1 : 0 < pf b) (h2 : pt a = 0) : Swp N F lf pf (upv pt a ((b : Int) + 1)) c0 true b a := by
  obtain ⟨tg, tc, T, R⟩ := h.rch
  obtain ⟨R2, hc⟩ := R.markA hN b a hb ha hs h1 h2
  have := h.le
  exact ⟨⟨_, _, _, R2⟩, fun h => by (cases h), by omega, fun _ => by omega⟩

theorem Swp.markB (h : Swp N F lf pf pt c0 ch b a) (hN : N ≤ 16) (hb : b < N) (ha : a < N) (hs : subB a b = true) (h1 : 0 < pt a) (h2 : pf b = 0) (h3 : 0 < F b a) : Swp N F lf (upv pf b ((a : Int) + 1)) pt c0 true b a := by
  obtain ⟨tg, tc, T, R⟩ := h.rch
  obtain ⟨R2, hc⟩ := R.markB hN b a hb ha hs h1 h2 h3
  have := h.le
  exact ⟨⟨_, _, _, R2⟩, fun h => by (cases h), by omega, fun _ => by omega⟩
end

/-- All that is reached: nothing more is. -/
structure Rchd (N : Nat) (F : Nat → Nat → Int) (lf pf pt : Nat → Int) : Prop where
  rch : ∃ tg tc T, Rch N F lf pf pt tg tc T
  clo : ∀ x y, x < N → y < N → Clo F pf pt x y

theorem Swp.done {N : Nat} {F : Nat → Nat → Int} {lf pf pt : Nat → Int} {c0 : Int} (h : Swp N F lf pf pt c0 false N 0) : Rchd N F lf pf pt := ⟨h.rch, fun x y hx hy => h.no rfl x y hx hy (.inl hx)⟩

/-- Where no place is reached to which something is due, all has gone, or there is no table. -/
theorem run_end {N : Nat} {sup dem : Nat → Int} {F : Nat → Nat → Int} {lf du pf pt : Nat → Int} (h : PFlow N sup dem F lf du) (hs : sm N sup = sm N dem) (r : Rchd N F lf pf pt) (he : ∀ a, a < N → pt a = 0 ∨ du a = 0) :
    ((∀ a, a < N → du a ≤ 0) → Flow N sup dem F) ∧ ((∃ a, a < N ∧ 0 < du a) → ¬ ∃ G, Flow N sup dem G) := by
  obtain ⟨tg, tc, T, R⟩ := r.rch
  refine ⟨fun hd => h.done2 hs hd, fun ⟨a0, ha0, hd0⟩ => ?_⟩
  obtain ⟨b0, hb0, hl0⟩ := h.some hs a0 ha0 hd0
  refine cut_none h (fun b => decide (0 < pf b)) (fun a => decide (0 < pt a)) b0 hb0 (decide_eq_true (by have := (R.root b0 hb0).2 hl0; omega)) hl0 (fun b a hb ha h1 h2 => decide_eq_true ((r.clo b a hb ha).1 h2 (of_decide_eq_true h1))) (fun b a hb ha h1 h2 => decide_eq_true ((r.clo b a hb ha).2 (of_decide_eq_true h1) h2)) (fun a ha h1 => ?_)
  rcases he a ha with h2 | h2
  · have := of_decide_eq_true h1; omega
  · exact h2

/-- What is due in all. -/
theorem PFlow.less {N : Nat} {du : Nat → Int} {e : Nat} {m : Int} (he : e < N) : sm N (fun k => if k = e then du k - m else du k) = sm N du - m := by
  have := sm_upd1 N du e (-m) he
  rw [show sm N du - m = sm N du + -m by omega, ← this]
  rfl

end Go.Proofs.Ytjmfjgoehicgcaa
