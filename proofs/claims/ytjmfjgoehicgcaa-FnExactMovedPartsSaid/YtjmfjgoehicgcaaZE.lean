/- Plain facts on the reference's search for ways. -/
import Derived.Test.YtjmfjgoehicgcaaZC
set_option linter.unusedVariables false
set_option linter.unusedSimpArgs false
namespace Go.Proofs.Ytjmfjgoehicgcaa
open Go.RowKit

def subO (b a : Nat) : Bool := subB a b

/-- What the reference's search has reached. -/
structure Rch (N : Nat) (F : Nat → Nat → Int) (lf pf pt : Nat → Int) (tg tc : Nat → Nat) (T : Nat) : Prop where
  R : Reached N subO F (fun b => decide (0 < lf b)) (fun a => pt a - 1) (fun b => pf b - 1) tg tc
  root : ∀ b, b < N → (pf b = 100 ↔ 0 < lf b)
  pb : ∀ b, b < N → 0 ≤ pf b ∧ pf b ≤ 100
  tb2 : ∀ a, a < N → 0 ≤ pt a ∧ pt a ≤ 100
  tb : ∀ b, b < N → 0 < pf b → tg b < T
  ta : ∀ a, a < N → 0 < pt a → tc a < T

/-- How many places are not reached. -/
def cnt2 (N : Nat) (pf pt : Nat → Int) : Int := cntN N (fun b => pf b - 1) + cntN N (fun a => pt a - 1)
theorem cnt2_nn (N : Nat) (pf pt : Nat → Int) : 0 ≤ cnt2 N pf pt := by
  have := cntN_nn N (fun b => pf b - 1); have := cntN_nn N (fun a => pt a - 1); unfold cnt2; omega

theorem upv_sub (f : Nat → Int) (b : Nat) (v : Int) : (fun x => upv f b v x - 1) = upv (fun x => f x - 1) b (v - 1) := by
  funext x; by_cases e : x = b
  · subst e; rw [upv_same, upv_same]
  · rw [upv_off _ _ _ _ e, upv_off _ _ _ _ e]

theorem Rch.start {N : Nat} {F : Nat → Nat → Int} {lf pf pt : Nat → Int} (h1 : ∀ b, b < N → pf b = if 0 < lf b then 100 else 0) (h2 : ∀ a, a < N → pt a = 0) : Rch N F lf pf pt (fun _ => 0) (fun _ => 0) 1 := by
  refine ⟨⟨fun a ha h => by have := h2 a ha; omega, fun b hb hr h => ?_⟩, fun b hb => ?_, fun b hb => ?_, fun a ha => by have := h2 a ha; omega, fun _ _ _ => by omega, fun _ _ _ => by omega⟩
  · have hr2 := of_decide_eq_false hr
    have := h1 b hb
    rw [if_neg hr2] at this; omega
  · rw [h1 b hb]; split <;> simp_all
  · rw [h1 b hb]; split <;> omega

/-- A getter is marked. -/
theorem Rch.markA {N : Nat} {F : Nat → Nat → Int} {lf pf pt : Nat → Int} {tg tc : Nat → Nat} {T : Nat} (h : Rch N F lf pf pt tg tc T) (hN : N ≤ 16) (b a : Nat) (hb : b < N) (ha : a < N) (hs : subB a b = true) (h1 : 0 < pf b) (h2 : pt a = 0) :
    Rch N F lf pf (upv pt a ((b : Int) + 1)) tg (upn tc a T) (T + 1) ∧ cnt2 N pf (upv pt a ((b : Int) + 1)) = cnt2 N pf pt - 1 := by
  have R := h.R
  refine ⟨⟨⟨fun x hx hv => ?_, fun x hx hr hv => ?_⟩, h.root, h.pb, fun x hx => ?_, fun x hx hv => by have := h.tb x hx hv; omega, fun x hx hv => ?_⟩, ?_⟩
  · skip
    by_cases e : x = a
    · subst e
      rw [upv_same, upn_same, show (b : Int) + 1 - 1 = b by omega, Int.toNat_natCast]
      exact ⟨by omega, hs, h.tb b hb h1, fun _ => by omega⟩
    · rw [upv_off _ _ _ _ e] at hv ⊢; rw [upn_off _ _ _ _ e]; exact R.cg x hx hv
  · obtain ⟨k1, k2, k3, k4, k5⟩ := R.cb x hx hr hv
    have hne : (pf x - 1).toNat ≠ a := fun e => by rw [e, h2] at k2; omega
    rw [upv_off _ _ _ _ hne, upn_off _ _ _ _ hne]
    exact ⟨k1, k2, k3, k4, k5⟩
  · by_cases e : x = a
    · subst e; rw [upv_same]; omega
    · rw [upv_off _ _ _ _ e]; exact h.tb2 x hx
  · by_cases e : x = a
    · subst e; rw [upn_same]; omega
    · rw [upn_off _ _ _ _ e]; rw [upv_off _ _ _ _ e] at hv; have := h.ta x hx hv; omega
  · unfold cnt2
    rw [upv_sub, cntN_set _ _ _ _ ha (by omega) (by omega)]; omega

/-- A giver is marked. -/
theorem Rch.markB {N : Nat} {F : Nat → Nat → Int} {lf pf pt : Nat → Int} {tg tc : Nat → Nat} {T : Nat} (h : Rch N F lf pf pt tg tc T) (hN : N ≤ 16) (b a : Nat) (hb : b < N) (ha : a < N) (hs : subB a b = true) (h1 : 0 < pt a) (h2 : pf b = 0) (h3 : 0 < F b a) :
    Rch N F lf (upv pf b ((a : Int) + 1)) pt (upn tg b T) tc (T + 1) ∧ cnt2 N (upv pf b ((a : Int) + 1)) pt = cnt2 N pf pt - 1 := by
  have R := h.R
  have hnr : ¬ 0 < lf b := fun e => by have := (h.root b hb).2 e; omega
  refine ⟨⟨⟨fun x hx hv => ?_, fun x hx hr hv => ?_⟩, fun x hx => ?_, fun x hx => ?_, h.tb2, fun x hx hv => ?_, fun x hx hv => by have := h.ta x hx hv; omega⟩, ?_⟩
  · obtain ⟨g1, g2, g3, g4⟩ := R.cg x hx hv
    have hne : (pt x - 1).toNat ≠ b := fun e => by
      have g5 := g4 (by rw [e]; exact decide_eq_false hnr)
      rw [e, h2] at g5; omega
    rw [upn_off _ _ _ _ hne, upv_off _ _ _ _ hne]
    exact ⟨g1, g2, g3, g4⟩
  · skip
    by_cases e : x = b
    · subst e
      rw [upv_same, upn_same, show (a : Int) + 1 - 1 = a by omega, Int.toNat_natCast]
      exact ⟨by omega, by omega, hs, h3, h.ta a ha h1⟩
    · rw [upv_off _ _ _ _ e] at hv ⊢
      rw [upn_off _ _ _ _ e]
      exact R.cb x hx hr hv
  · by_cases e : x = b
    · subst e; rw [upv_same]; constructor
      · intro h; omega
      · intro h; exact absurd h hnr
    · rw [upv_off _ _ _ _ e]; exact h.root x hx
  · by_cases e : x = b
    · subst e; rw [upv_same]; omega
    · rw [upv_off _ _ _ _ e]; exact h.pb x hx
  · by_cases e : x = b
    · subst e; rw [upn_same]; omega
    · rw [upn_off _ _ _ _ e]; rw [upv_off _ _ _ _ e] at hv; have := h.tb x hx hv; omega
  · unfold cnt2
    rw [upv_sub, cntN_set _ _ _ _ hb (by omega) (by omega)]; omega

/-- Nothing more is reached by way of these two. -/
def Clo (F : Nat → Nat → Int) (pf pt : Nat → Int) (b a : Nat) : Prop := (subB a b = true → 0 < pf b → 0 < pt a) ∧ (0 < pt a → 0 < F b a → 0 < pf b)

/-- A sweep over all pairs: where nothing has changed in it, what it has seen is closed; c0 is how many were not reached when it began. -/
structure Swp (N : Nat) (F : Nat → Nat → Int) (lf pf pt : Nat → Int) (c0 : Int) (ch : Bool) (b a : Nat) : Prop where
  rch : ∃ tg tc T, Rch N F lf pf pt tg tc T
  no : ch = false → ∀ x y, x < N → y < N → x < b ∨ x = b ∧ y < a → Clo F pf pt x y
  le : cnt2 N pf pt ≤ c0
  yes : ch = true → cnt2 N pf pt < c0

section
variable {N : Nat} {F : Nat → Nat → Int} {lf pf pt : Nat → Int} {c0 : Int} {ch : Bool} {b a : Nat}

theorem Swp.first {tg tc : Nat → Nat} {T : Nat} (h : Rch N F lf pf pt tg tc T) : Swp N F lf pf pt (cnt2 N pf pt) false 0 0 := ⟨⟨tg, tc, T, h⟩, fun _ x y _ _ h => by omega, Int.le_refl _, fun h => by cases h⟩

theorem Swp.row (h : Swp N F lf pf pt c0 ch b N) : Swp N F lf pf pt c0 ch (b + 1) 0 :=
  ⟨h.rch, fun hc x y hx hy hv => h.no hc x y hx hy (by omega), h.le, h.yes⟩

/-- One pair: the two tests one behind the other. -/
theorem Swp.skip (h : Swp N F lf pf pt c0 ch b a) (hq : Clo F pf pt b a) : Swp N F lf pf pt c0 ch b (a + 1) :=
  ⟨h.rch, fun hc x y hx hy hv => by
    by_cases e : x = b ∧ y = a
    · obtain ⟨rfl, rfl⟩ := e; exact hq
    · exact h.no hc x y hx hy (by omega), h.le, h.yes⟩

theorem Swp.some (h : Swp N F lf pf pt c0 true b a) : Swp N F lf pf pt c0 true b (a + 1) := ⟨h.rch, fun hc => absurd hc (by simp), h.le, h.yes⟩

theorem Swp.markA (h : Swp N F lf pf pt c0 ch b a) (hN : N ≤ 16) (hb : b < N) (ha : a < N) (hs : subB a b = true) (h1 : 0 < pf b) (h2 : pt a = 0) : Swp N F lf pf (upv pt a ((b : Int) + 1)) c0 true b a := by
  obtain ⟨tg, tc, T, R⟩ := h.rch
  obtain ⟨R2, hc⟩ := R.markA hN b a hb ha hs h1 h2
  have := h.le
  exact ⟨⟨_, _, _, R2⟩, fun h => by (cases h), by omega, fun _ => by omega⟩

theorem Swp.markB (h : Swp N F lf pf pt c0 ch b a) (hN : N ≤ 16) (hb : b < N) (ha : a < N) (hs : subB a b = true) (h1 : 0 < pt a) (h2 : pf b = 0) (h3 : 0 < F b a) : Swp N F lf (upv pf b ((a : Int) + 1)) pt c0 true b a := by
  obtain ⟨tg, tc, T, R⟩ := h.rch
  obtain ⟨R2, hc⟩ := R.markB hN b a hb ha hs h1 h2 h3
  have := h.le
  exact ⟨⟨_, _, _, R2⟩, fun h => by (cases h), by omega, fun _ => by omega⟩
end

/-- All that is reached: nothing more is. -/
structure Rchd (N : Nat) (F : Nat → Nat → Int) (lf pf pt : Nat → Int) : Prop where
  rch : ∃ tg tc T, Rch N F lf pf pt tg tc T
  clo : ∀ x y, x < N → y < N → Clo F pf pt x y

theorem Swp.done {N : Nat} {F : Nat → Nat → Int} {lf pf pt : Nat → Int} {c0 : Int} (h : Swp N F lf pf pt c0 false N 0) : Rchd N F lf pf pt := ⟨h.rch, fun x y hx hy => h.no rfl x y hx hy (.inl hx)⟩

/-- Where no place is reached to which something is due, all has gone, or there is no table. -/
theorem run_end {N : Nat} {sup dem : Nat → Int} {F : Nat → Nat → Int} {lf du pf pt : Nat → Int} (h : PFlow N sup dem F lf du) (hs : sm N sup = sm N dem) (r : Rchd N F lf pf pt) (he : ∀ a, a < N → pt a = 0 ∨ du a = 0) :
    ((∀ a, a < N → du a ≤ 0) → Flow N sup dem F) ∧ ((∃ a, a < N ∧ 0 < du a) → ¬ ∃ G, Flow N sup dem G) := by
  obtain ⟨tg, tc, T, R⟩ := r.rch
  refine ⟨fun hd => h.done2 hs hd, fun ⟨a0, ha0, hd0⟩ => ?_⟩
  obtain ⟨b0, hb0, hl0⟩ := h.some hs a0 ha0 hd0
  refine cut_none h (fun b => decide (0 < pf b)) (fun a => decide (0 < pt a)) b0 hb0 (decide_eq_true (by have := (R.root b0 hb0).2 hl0; omega)) hl0 (fun b a hb ha h1 h2 => decide_eq_true ((r.clo b a hb ha).1 h2 (of_decide_eq_true h1))) (fun b a hb ha h1 h2 => decide_eq_true ((r.clo b a hb ha).2 (of_decide_eq_true h1) h2)) (fun a ha h1 => ?_)
  rcases he a ha with h2 | h2
  · have := of_decide_eq_true h1; omega
  · exact h2

/-- What is due in all. -/
theorem PFlow.less {N : Nat} {du : Nat → Int} {e : Nat} {m : Int} (he : e < N) : sm N (fun k => if k = e then du k - m else du k) = sm N du - m := by
  have := sm_upd1 N du e (-m) he
  rw [show sm N du - m = sm N du + -m by omega, ← this]
  rfl

end Go.Proofs.Ytjmfjgoehicgcaa
