/- Plain facts on a search for a way. -/
import Derived.Test.YtjmfjgoehicgcaaZB
set_option linter.unusedVariables false
set_option linter.unusedSimpArgs false
namespace Go.Proofs.Ytjmfjgoehicgcaa
open Go.RowKit

def upv (f : Nat → Int) (b : Nat) (v : Int) : Nat → Int := fun x => if x = b then v else f x
theorem upv_same (f : Nat → Int) (b : Nat) (v : Int) : upv f b v b = v := by simp [upv]
theorem upv_off (f : Nat → Int) (b : Nat) (v : Int) (x : Nat) (h : x ≠ b) : upv f b v x = f x := if_neg h
def upn (f : Nat → Nat) (b : Nat) (v : Nat) : Nat → Nat := fun x => if x = b then v else f x
theorem upn_same (f : Nat → Nat) (b : Nat) (v : Nat) : upn f b v b = v := by simp [upn]
theorem upn_off (f : Nat → Nat) (b : Nat) (v : Nat) (x : Nat) (h : x ≠ b) : upn f b v x = f x := if_neg h

/-- How many givers are not reached. -/
def cntN (N : Nat) (get : Nat → Int) : Int := sm N (fun b => if get b < 0 then 1 else 0)
theorem cntN_nn (N : Nat) (get : Nat → Int) : 0 ≤ cntN N get := sm_nonneg fun k _ => by split <;> omega
theorem cntN_set (N : Nat) (get : Nat → Int) (b : Nat) (v : Int) (hb : b < N) (h0 : get b < 0) (hv : 0 ≤ v) : cntN N (upv get b v) = cntN N get - 1 := by
  unfold cntN
  rw [show sm N (fun x => if get x < 0 then 1 else 0) - 1 = sm N (fun x => if get x < 0 then 1 else 0) + -1 by omega, ← sm_upd1 N (fun x => if get x < 0 then 1 else 0) b (-1) hb]
  apply sm_congr
  intro k _
  by_cases e : k = b
  · subst e; rw [upv_same, if_neg (by omega), if_pos rfl, if_pos h0]; rfl
  · rw [upv_off _ _ _ _ e, if_neg e]

/-- What a search has found; a giver has been done with where 'P' says so. -/
structure Srch (N : Nat) (op : Nat → Nat → Bool) (F : Nat → Nat → Int) (fr : Nat) (giv get : Nat → Int) (tg tc : Nat → Nat) (T : Nat) (P : Nat → Bool) (Q : List Nat) : Prop where
  frN : fr < N
  R : Reached N op F (fun b => b == fr) giv get tg tc
  tb : ∀ b, b < N → (b = fr ∨ 0 ≤ get b) → tg b < T
  ta : ∀ a, a < N → 0 ≤ giv a → tc a < T
  gb : ∀ a, a < N → 0 ≤ giv a → (giv a).toNat = fr ∨ 0 ≤ get (giv a).toNat
  g0 : get fr < 0
  qn : ∀ b, b ∈ Q → b < N ∧ (b = fr ∨ 0 ≤ get b)
  c1 : ∀ b a, b < N → a < N → P b = true → op b a = true → 0 ≤ giv a

/-- All that is reached from a getter is reached. -/
def DoneC (N : Nat) (op : Nat → Nat → Bool) (F : Nat → Nat → Int) (fr : Nat) (E : Nat → Bool) (get : Nat → Int) (a n : Nat) : Prop :=
  E a = false ∧ ∀ b, b < n → b ≠ fr → op b a = true → 0 < F b a → 0 ≤ get b

structure Ou (N : Nat) (op : Nat → Nat → Bool) (F : Nat → Nat → Int) (fr : Nat) (E : Nat → Bool) (giv get : Nat → Int) (tg tc : Nat → Nat) (T : Nat) (P : Nat → Bool) (Q : List Nat) : Prop extends Srch N op F fr giv get tg tc T P Q where
  c2 : ∀ a, a < N → 0 ≤ giv a → DoneC N op F fr E get a N
  vis : ∀ b, b < N → (b = fr ∨ 0 ≤ get b) → P b = true ∨ b ∈ Q

structure Inn (N : Nat) (op : Nat → Nat → Bool) (F : Nat → Nat → Int) (fr : Nat) (E : Nat → Bool) (giv get : Nat → Int) (tg tc : Nat → Nat) (T : Nat) (P : Nat → Bool) (Q : List Nat) (b j : Nat) : Prop extends Srch N op F fr giv get tg tc T P Q where
  c2 : ∀ a, a < N → 0 ≤ giv a → DoneC N op F fr E get a N
  bn : b < N
  bv : b = fr ∨ 0 ≤ get b
  b1 : ∀ a, a < j → a < N → op b a = true → 0 ≤ giv a
  vis : ∀ x, x < N → (x = fr ∨ 0 ≤ get x) → P x = true ∨ x ∈ Q ∨ x = b

structure Imm (N : Nat) (op : Nat → Nat → Bool) (F : Nat → Nat → Int) (fr : Nat) (E : Nat → Bool) (giv get : Nat → Int) (tg tc : Nat → Nat) (T : Nat) (P : Nat → Bool) (Q : List Nat) (b a k : Nat) : Prop extends Srch N op F fr giv get tg tc T P Q where
  c2 : ∀ x, x < N → 0 ≤ giv x → x ≠ a → DoneC N op F fr E get x N
  an : a < N
  ag : 0 ≤ giv a
  c3 : DoneC N op F fr E get a k
  bn : b < N
  bv : b = fr ∨ 0 ≤ get b
  b1 : ∀ x, x < a → x < N → op b x = true → 0 ≤ giv x
  vis : ∀ x, x < N → (x = fr ∨ 0 ≤ get x) → P x = true ∨ x ∈ Q ∨ x = b

section
variable {N : Nat} {op : Nat → Nat → Bool} {F : Nat → Nat → Int} {fr : Nat} {E : Nat → Bool} {giv get : Nat → Int} {tg tc : Nat → Nat} {T : Nat} {P : Nat → Bool} {Q : List Nat} {b a j k : Nat}

theorem Ou.start (hf : fr < N) (h1 : ∀ a, a < N → giv a < 0) (h2 : ∀ a, a < N → get a < 0) : Ou N op F fr E giv get (fun _ => 0) (fun _ => 0) 1 (fun _ => false) [fr] := by
  refine ⟨⟨hf, ⟨fun a ha h => by have := h1 a ha; omega, fun b hb _ h => by have := h2 b hb; omega⟩, fun _ _ _ => by omega, fun a ha h => by have := h1 a ha; omega, fun a ha h => by have := h1 a ha; omega, h2 fr hf, ?_, fun _ _ _ _ h => by cases h⟩, fun a ha h => by have := h1 a ha; omega, ?_⟩
  · intro b hb; rw [List.mem_singleton] at hb; subst hb; exact ⟨hf, .inl rfl⟩
  · intro b hb h
    rcases h with rfl | h
    · exact .inr (List.mem_singleton.2 rfl)
    · have := h2 b hb; omega

theorem Ou.pop (h : Ou N op F fr E giv get tg tc T P (b :: Q)) : Inn N op F fr E giv get tg tc T P Q b 0 :=
  ⟨⟨h.frN, h.R, h.tb, h.ta, h.gb, h.g0, fun x hx => h.qn x (List.mem_cons_of_mem _ hx), h.c1⟩, h.c2, (h.qn b (List.mem_cons_self ..)).1, (h.qn b (List.mem_cons_self ..)).2, fun a ha => absurd ha (Nat.not_lt_zero _), fun x hx hv => by
    rcases h.vis x hx hv with h1 | h1
    · exact .inl h1
    · rcases List.mem_cons.1 h1 with h2 | h2
      · exact .inr (.inr h2)
      · exact .inr (.inl h2)⟩

theorem Inn.skip (h : Inn N op F fr E giv get tg tc T P Q b j) (hs : 0 ≤ giv j ∨ op b j = false) : Inn N op F fr E giv get tg tc T P Q b (j + 1) :=
  ⟨h.toSrch, h.c2, h.bn, h.bv, fun a ha haN ho => by
    by_cases e : a = j
    · subst e
      rcases hs with hs | hs
      · exact hs
      · rw [hs] at ho; cases ho
    · exact h.b1 a (by omega) haN ho, h.vis⟩

/-- A getter is marked. -/
theorem Inn.reach (h : Inn N op F fr E giv get tg tc T P Q b j) (hj : j < N) (hg : giv j < 0) (ho : op b j = true) : Srch N op F fr (upv giv j b) get tg (upn tc j T) (T + 1) P Q := by
  have R := h.R
  refine ⟨h.frN, ⟨fun a ha hv => ?_, fun x hx hr hv => ?_⟩, fun x hx hv => by have := h.tb x hx hv; omega, fun a ha hv => ?_, fun a ha hv => ?_, h.g0, h.qn, fun x a hx ha hP hop => ?_⟩
  · by_cases e : a = j
    · subst e
      rw [upv_same, upn_same, Int.toNat_natCast]
      refine ⟨by have := h.bn; omega, ho, h.tb b h.bn h.bv, fun hr => ?_⟩
      rcases h.bv with hb | hb
      · subst hb; simp at hr
      · exact hb
    · rw [upv_off _ _ _ _ e, upn_off _ _ _ _ e]; rw [upv_off _ _ _ _ e] at hv; exact R.cg a ha hv
  · obtain ⟨k1, k2, k3, k4, k5⟩ := R.cb x hx hr hv
    have hne : (get x).toNat ≠ j := fun e => by rw [e] at k2; omega
    rw [upv_off _ _ _ _ hne, upn_off _ _ _ _ hne]
    exact ⟨k1, k2, k3, k4, k5⟩
  · by_cases e : a = j
    · subst e; rw [upn_same]; omega
    · rw [upn_off _ _ _ _ e]; rw [upv_off _ _ _ _ e] at hv; have := h.ta a ha hv; omega
  · by_cases e : a = j
    · subst e; rw [upv_same, Int.toNat_natCast]; exact h.bv
    · rw [upv_off _ _ _ _ e]; rw [upv_off _ _ _ _ e] at hv; exact h.gb a ha hv
  · by_cases e : a = j
    · subst e; rw [upv_same]; omega
    · rw [upv_off _ _ _ _ e]; exact h.c1 x a hx ha hP hop

theorem Inn.mark (h : Inn N op F fr E giv get tg tc T P Q b j) (hj : j < N) (hg : giv j < 0) (ho : op b j = true) (hE : E j = false) : Imm N op F fr E (upv giv j b) get tg (upn tc j T) (T + 1) P Q b j 0 := by
  refine ⟨h.reach hj hg ho, fun x hx hv hne => ?_, hj, by rw [upv_same]; omega, ⟨hE, fun x hx => absurd hx (Nat.not_lt_zero _)⟩, h.bn, h.bv, fun x hx hxN hop => ?_, h.vis⟩
  · rw [upv_off _ _ _ _ hne] at hv; exact h.c2 x hx hv
  · rw [upv_off _ _ _ _ (by omega)]; exact h.b1 x hx hxN hop

theorem Imm.skip (h : Imm N op F fr E giv get tg tc T P Q b a k) (hs : ¬ (k ≠ fr ∧ get k < 0 ∧ op k a = true ∧ 0 < F k a)) : Imm N op F fr E giv get tg tc T P Q b a (k + 1) :=
  ⟨h.toSrch, h.c2, h.an, h.ag, ⟨h.c3.1, fun x hx hne ho hF => by
    by_cases e : x = k
    · subst e
      rcases Int.lt_or_le (get x) 0 with q | q
      · exact absurd ⟨hne, q, ho, hF⟩ hs
      · exact q
    · exact h.c3.2 x (by omega) hne ho hF⟩, h.bn, h.bv, h.b1, h.vis⟩

theorem DoneC.more {get' : Nat → Int} {x n : Nat} (h : DoneC N op F fr E get x n) (hm : ∀ y, 0 ≤ get y → 0 ≤ get' y) : DoneC N op F fr E get' x n := ⟨h.1, fun y h1 h2 h3 h4 => hm y (h.2 y h1 h2 h3 h4)⟩

theorem Imm.push (h : Imm N op F fr E giv get tg tc T P Q b a k) (hk : k < N) (h1 : k ≠ fr) (h2 : get k < 0) (h3 : op k a = true) (h4 : 0 < F k a) :
    Imm N op F fr E giv (upv get k a) (upn tg k T) tc (T + 1) P (Q ++ [k]) b a (k + 1) ∧ cntN N (upv get k a) = cntN N get - 1 := by
  have R := h.R
  have mono : ∀ y, 0 ≤ get y → 0 ≤ upv get k a y := fun y hy => by
    by_cases e : y = k
    · subst e; omega
    · rw [upv_off _ _ _ _ e]; exact hy
  have own : ∀ y, (y = fr ∨ 0 ≤ upv get k a y) → y ≠ k → (y = fr ∨ 0 ≤ get y) := fun y hy hne => by rw [upv_off _ _ _ _ hne] at hy; exact hy
  refine ⟨⟨⟨h.frN, ⟨fun x hx hv => ?_, fun x hx hr hv => ?_⟩, fun x hx hv => ?_, fun x hx hv => by have := h.ta x hx hv; omega, fun x hx hv => ?_, ?_, fun x hx => ?_, h.c1⟩, fun x hx hv hne => (h.c2 x hx hv hne).more mono, h.an, h.ag, ⟨h.c3.1, fun x hx hne ho hF => ?_⟩, h.bn, ?_, h.b1, fun x hx hv => ?_⟩, cntN_set N get k a hk h2 (by omega)⟩
  · obtain ⟨g1, g2, g3, g4⟩ := R.cg x hx hv
    have hne : (giv x).toNat ≠ k := fun e => by
      rcases h.gb x hx hv with q | q
      · rw [e] at q; exact h1 q
      · rw [e] at q; omega
    rw [upn_off _ _ _ _ hne, upv_off _ _ _ _ hne]
    exact ⟨g1, g2, g3, g4⟩
  · by_cases e : x = k
    · subst e
      rw [upv_same, upn_same, Int.toNat_natCast]
      exact ⟨by have := h.an; omega, h.ag, h3, h4, h.ta a h.an h.ag⟩
    · rw [upv_off _ _ _ _ e] at hv ⊢
      rw [upn_off _ _ _ _ e]
      exact R.cb x hx hr hv
  · by_cases e : x = k
    · subst e; rw [upn_same]; omega
    · rw [upn_off _ _ _ _ e]; have := h.tb x hx (own x hv e); omega
  · rcases h.gb x hx hv with q | q
    · exact .inl q
    · exact .inr (mono _ q)
  · rw [upv_off _ _ _ _ (fun e => h1 e.symm)]; exact h.g0
  · rcases List.mem_append.1 hx with q | q
    · obtain ⟨q1, q2⟩ := h.qn x q
      exact ⟨q1, q2.imp id (mono x)⟩
    · rw [List.mem_singleton] at q; subst q
      exact ⟨hk, .inr (by rw [upv_same]; omega)⟩
  · by_cases e : x = k
    · subst e; rw [upv_same]; omega
    · exact mono x (h.c3.2 x (by omega) hne ho hF)
  · exact h.bv.imp id (mono b)
  · by_cases e : x = k
    · subst e; exact .inr (.inl (List.mem_append.2 (.inr (List.mem_singleton.2 rfl))))
    · rcases h.vis x hx (own x hv e) with q | q | q
      · exact .inl q
      · exact .inr (.inl (List.mem_append.2 (.inl q)))
      · exact .inr (.inr q)

theorem Imm.done (h : Imm N op F fr E giv get tg tc T P Q b a N) : Inn N op F fr E giv get tg tc T P Q b (a + 1) :=
  ⟨h.toSrch, fun x hx hv => by
    by_cases e : x = a
    · subst e; exact h.c3
    · exact h.c2 x hx hv e, h.bn, h.bv, fun x hx hxN ho => by
    by_cases e : x = a
    · subst e; exact h.ag
    · exact h.b1 x (by omega) hxN ho, h.vis⟩

theorem Inn.done (h : Inn N op F fr E giv get tg tc T P Q b N) : Ou N op F fr E giv get tg tc T (fun x => P x || x == b) Q := by
  refine ⟨⟨h.frN, h.R, h.tb, h.ta, h.gb, h.g0, h.qn, fun x a hx ha hP ho => ?_⟩, h.c2, fun x hx hv => ?_⟩
  · rcases Bool.or_eq_true _ _ ▸ hP with q | q
    · exact h.c1 x a hx ha q ho
    · have : x = b := by simpa using q
      subst this; exact h.b1 a ha ha ho
  · rcases h.vis x hx hv with q | q | q
    · exact .inl (by simp [q])
    · exact .inr q
    · exact .inl (by simp [q])

/-- Nothing more is reached, and no end. -/
structure NoWay (N : Nat) (op : Nat → Nat → Bool) (F : Nat → Nat → Int) (fr : Nat) (E : Nat → Bool) (R S : Nat → Bool) : Prop where
  rf : R fr = true
  c1 : ∀ b a, b < N → a < N → R b = true → op b a = true → S a = true
  c2 : ∀ a, a < N → S a = true → E a = false
  c3 : ∀ b a, b < N → a < N → S a = true → b ≠ fr → op b a = true → 0 < F b a → R b = true
  c4 : ∀ b, b < N → R b = true → b = fr ∨ ∃ a, a < N ∧ op b a = true

theorem Ou.none (h : Ou N op F fr E giv get tg tc T P []) : NoWay N op F fr E (fun b => b == fr || decide (0 ≤ get b)) (fun a => decide (0 ≤ giv a)) := by
  have pv : ∀ b, b < N → (b = fr ∨ 0 ≤ get b) → P b = true := fun b hb hv => by
    rcases h.vis b hb hv with q | q
    · exact q
    · simp at q
  refine ⟨by simp, fun b a hb ha hR ho => ?_, fun a ha hS => ?_, fun b a hb ha hS hne ho hF => ?_, fun b hb hR => ?_⟩
  · exact decide_eq_true (h.c1 b a hb ha (pv b hb (by simpa using hR)) ho)
  · exact (h.c2 a ha (of_decide_eq_true hS)).1
  · have := (h.c2 a ha (of_decide_eq_true hS)).2 b hb hne ho hF
    simp [this]
  · by_cases e : b = fr
    · exact .inl e
    · have hv : 0 ≤ get b := by simpa [e] using hR
      obtain ⟨k1, k2, k3, k4, k5⟩ := h.R.cb b hb (by simp [e]) hv
      exact .inr ⟨(get b).toNat, by omega, k3⟩

/-- A way has been found. -/
structure Found (N : Nat) (op : Nat → Nat → Bool) (F : Nat → Nat → Int) (fr : Nat) (E : Nat → Bool) (giv get : Nat → Int) (tg tc : Nat → Nat) (n : Nat) : Prop where
  R : Reached N op F (fun b => b == fr) giv get tg tc
  nN : n < N
  ng : 0 ≤ giv n
  nE : E n = true
  no : ∃ b, b < N ∧ op b n = true

theorem Inn.found (h : Inn N op F fr E giv get tg tc T P Q b j) (hj : j < N) (hg : giv j < 0) (ho : op b j = true) (hE : E j = true) : Found N op F fr E (upv giv j b) get tg (upn tc j T) j :=
  ⟨(h.reach hj hg ho).R, hj, by rw [upv_same]; omega, hE, ⟨b, h.bn, ho⟩⟩
end

end Go.Proofs.Ytjmfjgoehicgcaa
