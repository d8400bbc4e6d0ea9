/- A way that goes round: its closures: the program. -/
import Derived.Test.YtjmfjgoehicgcaaIE
set_option linter.unusedVariables false
set_option linter.unusedSimpArgs false
namespace Go.Proofs.Ytjmfjgoehicgcaa
open Go.RowKit

theorem MV.congX {L : Lay} {w : World} {F : Nat → Nat → Int} {X X' : Nat → Nat → Bool} {lf du : Nat → Int} (h : MV L w F X lf du) (hx : ∀ b a, b < L.N → a < L.N → X b a = X' b a) : MV L w F X' lf du :=
  ⟨h.ok, h.c0, h.c1, h.c2, h.c3, h.fl, h.fx, h.fr, fun b a hb ha => by rw [← hx b a hb ha]; exact h.xr b a hb ha, h.lc, h.dc, h.zr, h.zx, h.zl, h.zd⟩

/-- What is fixed when a giver and a getter are left out. -/
def shutX (X : Nat → Nat → Bool) (b0 a0 : Nat) : Nat → Nat → Bool := fun b a => X b a || (b == b0 || a == a0)
theorem opB_shut (X : Nat → Nat → Bool) (b0 a0 : Nat) : opB (shutX X b0 a0) = opX (opB X) b0 a0 := by
  funext b a
  simp only [opB, shutX, opX]
  cases subB a b <;> cases X b a <;> simp

theorem belowN (w : World) (n : Nat) : Below w.heap.size w (w.drewN n) := ⟨rfl, rfl, rfl, Nat.le_refl _, fun _ _ => rfl⟩

/-- Where the gift can be lowered: the closure. -/
theorem raiseEnd_any (L : Lay) (w : World) (F : Nat → Nat → Int) (X : Nat → Nat → Bool) (lf du : Nat → Int) (h : MV L w F X lf du) (qa qv qb : Addr) (b0 a0 : Nat) (hb0 : b0 < L.N) (ha0 : a0 < L.N) (h1 : w.cell? qa = some (.int .i64 a0)) (h2 : w.cell? qv = some (.pointer (some ⟨L.MB, 0, none⟩))) (h3 : w.cell? qb = some (.int .i64 b0)) (c : Nat) (hc : c < L.N) :
    Calls Try.prog 118 #[.int .i64 c, .pointer (some qa), .pointer (some qv), .pointer (some qb)] w fun e w' => e = .returned (.bool (endX (opB X) F b0 a0 c)) ∧ Below w.heap.size w w' := by
  have n16 := h.ok.n16
  have hop := fun n => isOpen_any L (w.drewN n) F X lf du (h.drewN n) b0 c hb0 hc
  have c0 := h.c0
  have c1 := h.fl b0 hb0
  have c2 := h.fr b0 c hb0 hc
  obtain ⟨V, hV⟩ : ∃ V, V = F b0 c := ⟨_, rfl⟩
  rw [← hV] at c2
  have HV := Lib.hid hV
  have hb0z : (b0 : Int) < (L.N : Int) := by omega
  have hcz : (c : Int) < (L.N : Int) := by omega
  by_cases e : c = a0
  · have hr : Hid (endX (opB X) F b0 a0 c = false) := Lib.hid (by simp [endX, e])
    have hne : ((c : Int) != (a0 : Int)) = decide (0 = 1) := by simp [e]
    clear e hop hV h
    go_enter Try.func118, Try.ntmps118
    go_wp2_with fail
    go_quiet (fail)
    all_goals go_wp2
    all_goals go_ret
    all_goals exact ⟨ret_bool hr.out.symm, belowN _ _⟩
  · have hne : ((c : Int) != (a0 : Int)) = decide (0 = 0) := by simp; omega
    cases ho : opB X b0 c
    · have hr : Hid (endX (opB X) F b0 a0 c = false) := Lib.hid (by simp [endX, ho])
      rw [ho] at hop
      have HOP := Lib.hid hop
      clear e hop hV h ho
      go_enter Try.func118, Try.ntmps118
      go_wp2_with fail
      go_quiet ((go_at_call 87; exact Calls.quiet_of_same ((HOP.out _).mono fun _ _ h => ⟨h.1, h.2.symm⟩)))
      all_goals go_wp2
      all_goals go_ret
      all_goals exact ⟨ret_bool hr.out.symm, belowN _ _⟩
    · have hr : Hid (endX (opB X) F b0 a0 c = decide (0 < V)) := Lib.hid (by simp [endX, ho, e, hV])
      rw [ho] at hop
      have HOP := Lib.hid hop
      clear e hop hV h ho
      go_enter Try.func118, Try.ntmps118
      go_wp2_with fail
      go_quiet ((go_at_call 87; exact Calls.quiet_of_same ((HOP.out _).mono fun _ _ h => ⟨h.1, h.2.symm⟩)))
      all_goals go_wp2
      all_goals go_ret
      all_goals exact ⟨ret_bool hr.out.symm, belowN _ _⟩

/-- Whether a place is an end: the closure on the list. -/
theorem openAt_any (w : World) (q : Addr) (g N cap : Nat) (E : Nat → Bool) (hq : w.cell? q = some (.slice (some ⟨g, 0, none⟩) N cap)) (hg : ∀ a, a < N → w.cell? ⟨g, a, none⟩ = some (.bool (E a))) (a : Nat) (ha : a < N) :
    Calls Try.prog 137 #[.int .i64 a, .pointer (some q)] w fun e w' => e = .returned (.bool (E a)) ∧ w = w' := by
  have c1 := hg a ha
  have haz : (a : Int) < (N : Int) := by omega
  obtain ⟨V, hV⟩ : ∃ V, V = E a := ⟨_, rfl⟩
  rw [← hV] at c1
  have HV := Lib.hid hV
  clear hV hg
  go_enter Try.func137, Try.ntmps137
  go_wp2
  go_ret
  exact ⟨ret_bool HV.out, rfl⟩

/-- Pairs of numbers, as cells. -/
def pv (ps : List (Nat × Nat)) : List Value := ps.flatMap fun p => [.int .i64 p.1, .int .i64 p.2]
theorem pv_len (ps : List (Nat × Nat)) : (pv ps).length = ps.length * 2 := by
  induction ps with
  | nil => rfl
  | cons p ps ih => simp only [pv, List.flatMap_cons, List.length_append, List.length_cons, List.length_nil] at ih ⊢; omega
theorem pv_snoc (ps : List (Nat × Nat)) (b a : Nat) : pv (ps ++ [(b, a)]) = pv ps ++ [.int .i64 b, .int .i64 a] := by simp [pv]
theorem pv_at (ps : List (Nat × Nat)) : ∀ (j : Nat) (p : Nat × Nat), ps[j]? = some p → (pv ps)[2 * j]? = some (.int .i64 p.1) ∧ (pv ps)[2 * j + 1]? = some (.int .i64 p.2) := by
  induction ps with
  | nil => intro j p h; simp at h
  | cons q ps ih =>
    intro j p h
    cases j with
    | zero => simp at h; subst h; exact ⟨rfl, rfl⟩
    | succ j =>
      obtain ⟨i1, i2⟩ := ih j p (by simpa using h)
      have e : pv (q :: ps) = .int .i64 q.1 :: .int .i64 q.2 :: pv ps := rfl
      rw [e, show 2 * (j + 1) = 2 * j + 1 + 1 by omega]
      exact ⟨by simpa using i1, by simpa using i2⟩

theorem Try.info2 : (Try.prog.info? 121).map (fun i => (i.zero, i.size, i.bytes)) = some (some (.agg #[.int .i64 0, .int .i64 0]), 2, 16) := by kernel_rfl

end Go.Proofs.Ytjmfjgoehicgcaa
