/- Plain facts on ways by which a table is changed. -/
import Derived.Test.YtjmfjgoehicgcaaZF
set_option linter.unusedVariables false
set_option linter.unusedSimpArgs false
namespace Go.Proofs.Ytjmfjgoehicgcaa
open Go.RowKit

/-- A table with one entry changed. -/
def upd (F : Nat → Nat → Int) (b a : Nat) (v : Int) : Nat → Nat → Int := fun x y => if x = b ∧ y = a then v else F x y

theorem upd_same (F : Nat → Nat → Int) (b a : Nat) (v : Int) : upd F b a v b a = v := by simp [upd]
theorem upd_off (F : Nat → Nat → Int) (b a : Nat) (v : Int) (x y : Nat) (h : ¬ (x = b ∧ y = a)) : upd F b a v x y = F x y := if_neg h

theorem sm_upd1 (N : Nat) (f : Nat → Int) (i : Nat) (d : Int) (hi : i < N) : sm N (fun k => if k = i then f k + d else f k) = sm N f + d := by
  rw [sm_congr (g := fun k => f k + (if k = i then d else 0)) (fun k _ => by by_cases h : k = i <;> simp [h]), sm_add, sm_one, if_pos hi]

theorem upd_row (N : Nat) (F : Nat → Nat → Int) (b a : Nat) (d : Int) (ha : a < N) (x : Nat) : sm N (fun y => upd F b a (F b a + d) x y) = sm N (fun y => F x y) + (if x = b then d else 0) := by
  by_cases h : x = b
  · subst h
    rw [if_pos rfl, ← sm_upd1 N (fun y => F x y) a d ha]
    apply sm_congr
    intro y _
    by_cases e : y = a
    · subst e; rw [upd_same, if_pos rfl]
    · rw [upd_off _ _ _ _ _ _ (fun c => e c.2), if_neg e]
  · rw [if_neg h, Int.add_zero]
    apply sm_congr
    intro y _
    rw [upd_off _ _ _ _ _ _ (fun c => h c.1)]

theorem upd_col (N : Nat) (F : Nat → Nat → Int) (b a : Nat) (d : Int) (hb : b < N) (y : Nat) : sm N (fun x => upd F b a (F b a + d) x y) = sm N (fun x => F x y) + (if y = a then d else 0) := by
  by_cases h : y = a
  · subst h
    rw [if_pos rfl, ← sm_upd1 N (fun x => F x y) b d hb]
    apply sm_congr
    intro x _
    by_cases e : x = b
    · subst e; rw [upd_same, if_pos rfl]
    · rw [upd_off _ _ _ _ _ _ (fun c => e c.1), if_neg e]
  · rw [if_neg h, Int.add_zero]
    apply sm_congr
    intro x _
    rw [upd_off _ _ _ _ _ _ (fun c => h c.2)]

/-- What was reached, and from where: each by one that was reached before. -/
structure Reached (N : Nat) (op : Nat → Nat → Bool) (F : Nat → Nat → Int) (root : Nat → Bool) (giv get : Nat → Int) (tg tc : Nat → Nat) : Prop where
  cg : ∀ a, a < N → 0 ≤ giv a → giv a < N ∧ op (giv a).toNat a = true ∧ tg (giv a).toNat < tc a ∧ (root (giv a).toNat = false → 0 ≤ get (giv a).toNat)
  cb : ∀ b, b < N → root b = false → 0 ≤ get b → get b < N ∧ 0 ≤ giv (get b).toNat ∧ op b (get b).toNat = true ∧ 0 < F b (get b).toNat ∧ tc (get b).toNat < tg b

/-- A way back to the root, along which so much can go. -/
inductive Way (F : Nat → Nat → Int) (root : Nat → Bool) (giv get : Nat → Int) (m : Int) : Nat → Prop
  | last {a : Nat} : 0 ≤ giv a → root (giv a).toNat = true → Way F root giv get m a
  | step {a : Nat} : 0 ≤ giv a → root (giv a).toNat = false → m ≤ F (giv a).toNat (get (giv a).toNat).toNat → Way F root giv get m (get (giv a).toNat).toNat → Way F root giv get m a

theorem Way.back {F : Nat → Nat → Int} {root : Nat → Bool} {giv get : Nat → Int} {m : Int} {a : Nat} (h : Way F root giv get m a) (hr : root (giv a).toNat = false) :
    m ≤ F (giv a).toNat (get (giv a).toNat).toNat ∧ Way F root giv get m (get (giv a).toNat).toNat := by
  cases h with
  | last h1 h2 => rw [h2] at hr; cases hr
  | step h1 h2 h3 h4 => exact ⟨h3, h4⟩

/-- While a way is looked along: how much can go. -/
structure Most (N : Nat) (F : Nat → Nat → Int) (root : Nat → Bool) (giv get : Nat → Int) (e : Nat) (m0 : Int) (a : Nat) (m : Int) : Prop where
  an : a < N
  ar : 0 ≤ giv a
  lo : 1 ≤ m
  hi : m ≤ m0
  way : ∀ k, k ≤ m → Way F root giv get k a → Way F root giv get k e

theorem Most.first {N : Nat} {F : Nat → Nat → Int} {root : Nat → Bool} {giv get : Nat → Int} {e : Nat} {m0 : Int} (he : e < N) (hg : 0 ≤ giv e) (hm : 1 ≤ m0) : Most N F root giv get e m0 e m0 :=
  ⟨he, hg, hm, Int.le_refl _, fun _ _ h => h⟩

theorem Most.step {N : Nat} {op : Nat → Nat → Bool} {F : Nat → Nat → Int} {root : Nat → Bool} {giv get : Nat → Int} {tg tc : Nat → Nat} (r : Reached N op F root giv get tg tc) {e : Nat} {m0 : Int} {a : Nat} {m : Int} (h : Most N F root giv get e m0 a m)
    (hr : root (giv a).toNat = false) (m' : Int) (hm : m' = m ∧ m ≤ F (giv a).toNat (get (giv a).toNat).toNat ∨ m' = F (giv a).toNat (get (giv a).toNat).toNat ∧ F (giv a).toNat (get (giv a).toNat).toNat ≤ m) :
    Most N F root giv get e m0 (get (giv a).toNat).toNat m' ∧ tc (get (giv a).toNat).toNat < tc a := by
  obtain ⟨g1, g2, g3, g4⟩ := r.cg a h.an h.ar
  have g5 := g4 hr
  have g0 := h.ar
  have ga := h.an
  obtain ⟨k1, k2, k3, k4, k5⟩ := r.cb _ (by omega) hr g5
  have h1 := h.lo
  have h2 := h.hi
  refine ⟨⟨by omega, k2, by omega, by omega, fun k hk hw => h.way k (by omega) (.step h.ar hr (by omega) hw)⟩, by omega⟩

theorem Most.done {N : Nat} {F : Nat → Nat → Int} {root : Nat → Bool} {giv get : Nat → Int} {e : Nat} {m0 : Int} {a : Nat} {m : Int} (h : Most N F root giv get e m0 a m) (hr : root (giv a).toNat = true) : Way F root giv get m e :=
  h.way m (Int.le_refl _) (.last h.ar hr)

/-- While a table is changed along a way: what is to go to a comes next. -/
structure PushSt (N : Nat) (op : Nat → Nat → Bool) (F0 : Nat → Nat → Int) (root : Nat → Bool) (giv get : Nat → Int) (tg tc : Nat → Nat) (e : Nat) (m : Int) (a : Nat) (F : Nat → Nat → Int) : Prop where
  an : a < N
  ar : 0 ≤ giv a
  way : Way F0 root giv get m a
  nn : ∀ x y, x < N → y < N → 0 ≤ F x y
  row : ∀ x, x < N → sm N (fun y => F x y) = sm N (fun y => F0 x y)
  col : ∀ y, y < N → sm N (fun x => F x y) = sm N (fun x => F0 x y) + (if y = e then m else 0) - (if y = a then m else 0)
  same : ∀ x y, x < N → y < N → tg x < tc a → F x y = F0 x y
  off : ∀ x y, x < N → y < N → op x y = false → F x y = F0 x y

theorem PushSt.first {N : Nat} {op : Nat → Nat → Bool} {F0 : Nat → Nat → Int} {root : Nat → Bool} {giv get : Nat → Int} {tg tc : Nat → Nat} {e : Nat} {m : Int} (he : e < N) (hg : 0 ≤ giv e) (hw : Way F0 root giv get m e) (hn : ∀ x y, x < N → y < N → 0 ≤ F0 x y) :
    PushSt N op F0 root giv get tg tc e m e F0 :=
  ⟨he, hg, hw, hn, fun _ _ => rfl, fun y _ => by omega, fun _ _ _ _ _ => rfl, fun _ _ _ _ _ => rfl⟩

/-- A table changed along a way, behind what goes to a. -/
structure PushEnd (N : Nat) (op : Nat → Nat → Bool) (F0 : Nat → Nat → Int) (e : Nat) (m : Int) (b : Nat) (F : Nat → Nat → Int) : Prop where
  bn : b < N
  nn : ∀ x y, x < N → y < N → 0 ≤ F x y
  row : ∀ x, x < N → sm N (fun y => F x y) = sm N (fun y => F0 x y) + (if x = b then m else 0)
  col : ∀ y, y < N → sm N (fun x => F x y) = sm N (fun x => F0 x y) + (if y = e then m else 0)
  off : ∀ x y, x < N → y < N → op x y = false → F x y = F0 x y

theorem PushSt.add {N : Nat} {op : Nat → Nat → Bool} {F0 : Nat → Nat → Int} {root : Nat → Bool} {giv get : Nat → Int} {tg tc : Nat → Nat} {e : Nat} {m : Int} {a : Nat} {F : Nat → Nat → Int} (r : Reached N op F0 root giv get tg tc) (hm : 0 ≤ m)
    (h : PushSt N op F0 root giv get tg tc e m a F) : PushEnd N op F0 e m (giv a).toNat (upd F (giv a).toNat a (F (giv a).toNat a + m)) := by
  obtain ⟨g1, g2, g3, g4⟩ := r.cg a h.an h.ar
  have g0 := h.ar
  have bn : (giv a).toNat < N := by omega
  refine ⟨bn, fun x y hx hy => ?_, fun x hx => ?_, fun y hy => ?_, fun x y hx hy ho => ?_⟩
  · by_cases c : x = (giv a).toNat ∧ y = a
    · obtain ⟨rfl, rfl⟩ := c
      rw [upd_same]; have := h.nn _ _ hx hy; omega
    · rw [upd_off _ _ _ _ _ _ c]; exact h.nn x y hx hy
  · rw [upd_row _ _ _ _ _ h.an, h.row x hx]
  · rw [upd_col _ _ _ _ _ bn, h.col y hy]; omega
  · by_cases c : x = (giv a).toNat ∧ y = a
    · obtain ⟨rfl, rfl⟩ := c
      rw [g2] at ho; cases ho
    · rw [upd_off _ _ _ _ _ _ c]; exact h.off x y hx hy ho

theorem PushSt.next {N : Nat} {op : Nat → Nat → Bool} {F0 : Nat → Nat → Int} {root : Nat → Bool} {giv get : Nat → Int} {tg tc : Nat → Nat} {e : Nat} {m : Int} {a : Nat} {F : Nat → Nat → Int} (r : Reached N op F0 root giv get tg tc) (hm : 0 ≤ m)
    (h : PushSt N op F0 root giv get tg tc e m a F) (hr : root (giv a).toNat = false) (b c : Nat) (hb : b = (giv a).toNat) (hc : c = (get (giv a).toNat).toNat) :
    c < N ∧ b < N ∧ c ≠ a ∧ upd F b a (F b a + m) b c = F0 b c ∧ m ≤ F0 b c ∧ tc c < tc a ∧ PushSt N op F0 root giv get tg tc e m c (upd (upd F b a (F b a + m)) b c (upd F b a (F b a + m) b c - m)) := by
  obtain ⟨g1, g2, g3, g4⟩ := r.cg a h.an h.ar
  have g0 := h.ar
  have g5 := g4 hr
  rw [← hb] at g2 g3 g4 g5 hr hc
  obtain ⟨k1, k2, k3, k4, k5⟩ := r.cb b (by omega) hr g5
  have hw := h.way.back (by rw [← hb]; exact hr)
  rw [← hb, ← hc] at hw
  rw [← hc] at k2 k3 k4 k5
  have p := h.add r hm
  rw [← hb] at p
  have cn : c < N := by omega
  have bn : b < N := by omega
  have hca : c ≠ a := fun x => by subst x; omega
  have hF : upd F b a (F b a + m) b c = F0 b c := by
    rw [upd_off _ _ _ _ _ _ (fun x => hca x.2)]; exact h.same b c bn cn g3
  refine ⟨cn, bn, hca, hF, hw.1, by omega, ?_⟩
  obtain ⟨F1, hF1⟩ : ∃ F1, F1 = upd F b a (F b a + m) := ⟨_, rfl⟩
  rw [← hF1] at hF p ⊢
  rw [show F1 b c - m = F1 b c + -m by omega]
  refine ⟨cn, k2, hw.2, fun x y hx hy => ?_, fun x hx => ?_, fun y hy => ?_, fun x y hx hy ht => ?_, fun x y hx hy ho => ?_⟩
  · by_cases q : x = b ∧ y = c
    · obtain ⟨rfl, rfl⟩ := q
      rw [upd_same, hF]; have := hw.1; omega
    · rw [upd_off _ _ _ _ _ _ q]; exact p.nn x y hx hy
  · rw [upd_row _ _ _ _ _ cn, p.row x hx]; split <;> omega
  · rw [upd_col _ _ _ _ _ bn, p.col y hy]; split <;> split <;> omega
  · have hxb : x ≠ b := fun q => by subst q; omega
    rw [upd_off _ _ _ _ _ _ (fun q => hxb q.1), hF1, upd_off _ _ _ _ _ _ (fun q => hxb q.1)]
    exact h.same x y hx hy (by omega)
  · by_cases q : x = b ∧ y = c
    · obtain ⟨rfl, rfl⟩ := q
      rw [k3] at ho; cases ho
    · rw [upd_off _ _ _ _ _ _ q]; exact p.off x y hx hy ho

/-- So much is sent from one set to another one. -/
theorem PFlow.sent {N : Nat} {sup dem : Nat → Int} {F F' : Nat → Nat → Int} {left due : Nat → Int} {op : Nat → Nat → Bool} (hop : ∀ b a, subB a b = false → op b a = false) {e : Nat} {m : Int} {b : Nat} (h : PFlow N sup dem F left due) (p : PushEnd N op F e m b F')
    (he : e < N) (h1 : m ≤ left b) (h2 : m ≤ due e) : PFlow N sup dem F' (fun k => if k = b then left k - m else left k) (fun k => if k = e then due k - m else due k) := by
  refine ⟨p.nn, fun x y hx hy hs => by rw [p.off x y hx hy (hop x y hs)]; exact h.sub x y hx hy hs, fun x hx => ?_, fun y hy => ?_, fun x hx => ?_, fun y hy => ?_⟩
  · rw [p.row x hx]; have := h.row x hx; split <;> omega
  · rw [p.col y hy]; have := h.col y hy; split <;> omega
  · have := h.ln x hx; split
    · subst_vars; omega
    · exact this
  · have := h.dn y hy; split
    · subst_vars; omega
    · exact this

/-- So much goes round: from one giver back, over a way to an end, and there as much less, so that the gift of b to a is raised. -/
theorem Flow.raised {N : Nat} {sup dem : Nat → Int} {F F' : Nat → Nat → Int} {op : Nat → Nat → Bool} (hop : ∀ b a, subB a b = false → op b a = false) {e : Nat} {m : Int} {g : Nat} (h : Flow N sup dem F) (p : PushEnd N op F e m g F') (b a : Nat) (hb : b < N) (ha : a < N) (he : e < N)
    (hgb : g ≠ b) (hea : e ≠ a) (o1 : op g a = false) (o2 : op b e = false) (o3 : op b a = false) (s1 : subB a g = true) (s2 : subB e b = true) (s3 : subB a b = true) (hm : 0 ≤ m) (m1 : m ≤ F g a) (m2 : m ≤ F b e) :
    F' g a = F g a ∧ F' b e = F b e ∧ F' b a = F b a ∧ Flow N sup dem (upd (upd (upd F' g a (F' g a - m)) b e (F' b e - m)) b a (F' b a + m)) := by
  have gn := p.bn
  have q1 := p.off g a gn ha o1
  have q2 := p.off b e hb he o2
  have q3 := p.off b a hb ha o3
  refine ⟨q1, q2, q3, ?_⟩
  obtain ⟨A, hA⟩ : ∃ A, A = upd F' g a (F' g a + -m) := ⟨_, rfl⟩
  have a1 : A b e = F' b e := by rw [hA, upd_off _ _ _ _ _ _ (fun x => hgb x.1.symm)]
  have a2 : A b a = F' b a := by rw [hA, upd_off _ _ _ _ _ _ (fun x => hgb x.1.symm)]
  obtain ⟨B, hB⟩ : ∃ B, B = upd A b e (A b e + -m) := ⟨_, rfl⟩
  have b1 : B b a = F' b a := by rw [hB, upd_off _ _ _ _ _ _ (fun x => hea x.2.symm), a2]
  rw [show F' g a - m = F' g a + -m by omega, ← hA, show F' b e - m = A b e + -m by rw [a1]; omega, ← hB, ← b1]
  refine ⟨fun x y hx hy => ?_, fun x y hx hy hs => ?_, fun x hx => ?_, fun y hy => ?_⟩
  · by_cases c1 : x = b ∧ y = a
    · obtain ⟨rfl, rfl⟩ := c1; rw [upd_same, b1, q3]; have := h.nn x y hx hy; omega
    · rw [upd_off _ _ _ _ _ _ c1, hB]
      by_cases c2 : x = b ∧ y = e
      · obtain ⟨rfl, rfl⟩ := c2; rw [upd_same, a1, q2]; omega
      · rw [upd_off _ _ _ _ _ _ c2, hA]
        by_cases c3 : x = g ∧ y = a
        · obtain ⟨rfl, rfl⟩ := c3; rw [upd_same, q1]; omega
        · rw [upd_off _ _ _ _ _ _ c3]; exact p.nn x y hx hy
  · have c1 : ¬ (x = b ∧ y = a) := fun c => by rw [c.1, c.2, s3] at hs; cases hs
    have c2 : ¬ (x = b ∧ y = e) := fun c => by rw [c.1, c.2, s2] at hs; cases hs
    have c3 : ¬ (x = g ∧ y = a) := fun c => by rw [c.1, c.2, s1] at hs; cases hs
    rw [upd_off _ _ _ _ _ _ c1, hB, upd_off _ _ _ _ _ _ c2, hA, upd_off _ _ _ _ _ _ c3, p.off x y hx hy (hop x y hs)]
    exact h.sub x y hx hy hs
  · rw [upd_row _ _ _ _ _ ha, hB, upd_row _ _ _ _ _ he, hA, upd_row _ _ _ _ _ ha, p.row x hx, h.row x hx]
    split <;> split <;> omega
  · rw [upd_col _ _ _ _ _ hb, hB, upd_col _ _ _ _ _ hb, hA, upd_col _ _ _ _ _ gn, p.col y hy, h.col y hy]
    split <;> split <;> omega

end Go.Proofs.Ytjmfjgoehicgcaa
