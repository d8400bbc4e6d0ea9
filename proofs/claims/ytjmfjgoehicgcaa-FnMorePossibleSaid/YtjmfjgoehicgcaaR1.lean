/- Lists of answers and orders of answers: both packages. -/
import Derived.Test.YtjmfjgoehicgcaaK7
set_option linter.unusedVariables false
set_option linter.unusedSimpArgs false
namespace Go.Proofs.Ytjmfjgoehicgcaa
open Go.RowKit

/-- The set of the first k answers of a list. -/
def maskTo (ts : List Int) (k : Nat) : Nat := (List.range k).foldl (fun o x => o ||| bit (nth ts x).toNat) 0

theorem maskTo_succ (ts : List Int) (k : Nat) : maskTo ts (k + 1) = maskTo ts k ||| bit (nth ts k).toNat := by simp [maskTo, List.range_succ]

/-- No answer of a list is there twice. -/
def ndTo (ts : List Int) (k : Nat) : Bool := (List.range k).all fun i => !(maskTo ts i).testBit (nth ts i).toNat

theorem ndTo_succ (ts : List Int) (k : Nat) : ndTo ts (k + 1) = (ndTo ts k && !(maskTo ts k).testBit (nth ts k).toNat) := by simp [ndTo, List.range_succ]

theorem ndTo_false (ts : List Int) (k n : Nat) (hk : k < n) (h : (maskTo ts k).testBit (nth ts k).toNat = true) : ndTo ts n = false := by
  cases e : ndTo ts n
  · rfl
  · unfold ndTo at e
    rw [List.all_eq_true] at e
    have := e k (List.mem_range.mpr hk)
    rw [h] at this
    cases this

theorem nd1 : ∀ a : Fin 1, ndTo [(a.val : Int)] 1 = decide (maskTo [(a.val : Int)] 1 = 1) := by decide +kernel
theorem nd2 : ∀ a b : Fin 2, ndTo [(a.val : Int), b.val] 2 = decide (maskTo [(a.val : Int), b.val] 2 = 3) := by decide +kernel
theorem nd3 : ∀ a b c : Fin 3, ndTo [(a.val : Int), b.val, c.val] 3 = decide (maskTo [(a.val : Int), b.val, c.val] 3 = 7) := by decide +kernel
theorem nd4 : ∀ a b c d : Fin 4, ndTo [(a.val : Int), b.val, c.val, d.val] 4 = decide (maskTo [(a.val : Int), b.val, c.val, d.val] 4 = 15) := by decide +kernel

theorem fin_of {n : Nat} {x : Int} (h0 : 0 ≤ x) (h1 : x < n) : ∃ a : Fin n, x = a.val := ⟨⟨x.toNat, by omega⟩, by simp; omega⟩

/-- A list of so many answers of a question with as many, as one of few lists. -/
theorem few {s : Int} {ts : List Int} (h1 : 1 ≤ s) (h4 : s ≤ 4) (h : allB 0 (s - 1) ts = true) (hl : (ts.length : Int) = s) :
    (s = 1 ∧ ∃ a : Fin 1, ts = [(a.val : Int)]) ∨ (s = 2 ∧ ∃ a b : Fin 2, ts = [(a.val : Int), b.val]) ∨ (s = 3 ∧ ∃ a b c : Fin 3, ts = [(a.val : Int), b.val, c.val]) ∨ (s = 4 ∧ ∃ a b c d : Fin 4, ts = [(a.val : Int), b.val, c.val, d.val]) := by
  have hn := fun k hk => allB_nth h k hk
  match ts, hl with
  | [], hl => simp at hl; omega
  | [a], hl =>
    have e : s = 1 := by simp at hl; omega
    have a0 := hn 0 (by simp)
    simp [nth] at a0
    obtain ⟨a', ha⟩ := fin_of (n := 1) a0.1 (by omega)
    exact .inl ⟨e, a', by rw [ha]⟩
  | [a, b], hl =>
    have e : s = 2 := by simp at hl; omega
    have a0 := hn 0 (by simp)
    have a1 := hn 1 (by simp)
    simp [nth] at a0 a1
    obtain ⟨a', ha⟩ := fin_of (n := 2) a0.1 (by omega)
    obtain ⟨b', hb⟩ := fin_of (n := 2) a1.1 (by omega)
    exact .inr (.inl ⟨e, a', b', by rw [ha, hb]⟩)
  | [a, b, c], hl =>
    have e : s = 3 := by simp at hl; omega
    have a0 := hn 0 (by simp)
    have a1 := hn 1 (by simp)
    have a2 := hn 2 (by simp)
    simp [nth] at a0 a1 a2
    obtain ⟨a', ha⟩ := fin_of (n := 3) a0.1 (by omega)
    obtain ⟨b', hb⟩ := fin_of (n := 3) a1.1 (by omega)
    obtain ⟨c', hc⟩ := fin_of (n := 3) a2.1 (by omega)
    exact .inr (.inr (.inl ⟨e, a', b', c', by rw [ha, hb, hc]⟩))
  | [a, b, c, d], hl =>
    have e : s = 4 := by simp at hl; omega
    have a0 := hn 0 (by simp)
    have a1 := hn 1 (by simp)
    have a2 := hn 2 (by simp)
    have a3 := hn 3 (by simp)
    simp [nth] at a0 a1 a2 a3
    obtain ⟨a', ha⟩ := fin_of (n := 4) a0.1 (by omega)
    obtain ⟨b', hb⟩ := fin_of (n := 4) a1.1 (by omega)
    obtain ⟨c', hc⟩ := fin_of (n := 4) a2.1 (by omega)
    obtain ⟨d', hd⟩ := fin_of (n := 4) a3.1 (by omega)
    exact .inr (.inr (.inr ⟨e, a', b', c', d', by rw [ha, hb, hc, hd]⟩))
  | _ :: _ :: _ :: _ :: _ :: _, hl => simp at hl; omega

theorem ord_nd {s : Int} {ts : List Int} (h1 : 1 ≤ s) (h4 : s ≤ 4) (h : allB 0 (s - 1) ts = true) (hl : (ts.length : Int) = s) : ndTo ts ts.length = decide ((maskTo ts ts.length : Int) = pow2 s - 1) := by
  rcases few h1 h4 h hl with ⟨rfl, a, rfl⟩ | ⟨rfl, a, b, rfl⟩ | ⟨rfl, a, b, c, rfl⟩ | ⟨rfl, a, b, c, d, rfl⟩
  · show ndTo _ 1 = decide ((maskTo _ 1 : Int) = _)
    rw [nd1 a, decide_eq_decide, show pow2 1 = 2 by decide]
    omega
  · show ndTo _ 2 = decide ((maskTo _ 2 : Int) = _)
    rw [nd2 a b, decide_eq_decide, show pow2 2 = 4 by decide]
    omega
  · show ndTo _ 3 = decide ((maskTo _ 3 : Int) = _)
    rw [nd3 a b c, decide_eq_decide, show pow2 3 = 8 by decide]
    omega
  · show ndTo _ 4 = decide ((maskTo _ 4 : Int) = _)
    rw [nd4 a b c d, decide_eq_decide, show pow2 4 = 16 by decide]
    omega

/-- A list has each answer of a question once. -/
def ordB (s : Int) (ts : List Int) : Bool := allB 0 (s - 1) ts && (decide ((ts.length : Int) = s) && ndTo ts ts.length)

theorem ordB_all {s : Int} {ts : List Int} (h : allB 0 (s - 1) ts = false) : ordB s ts = false := by simp [ordB, h]

theorem ordB_dup {s : Int} {ts : List Int} (h : ndTo ts ts.length = false) : ordB s ts = false := by simp [ordB, h]

theorem maskTo_lt {s : Int} {ts : List Int} (h4 : s ≤ 4) (h : allB 0 (s - 1) ts = true) (k : Nat) (hk : k ≤ ts.length) : maskTo ts k < 16 := by
  induction k with
  | zero => simp [maskTo]
  | succ k ih =>
    rw [maskTo_succ]
    have := allB_nth h k (by omega)
    exact or_lt' _ _ (ih (by omega)) (by omega)

/-- The first k elements lie within bounds. -/
def allTo (low high : Int) (ts : List Int) (k : Nat) : Prop := ∀ j, j < k → low ≤ nth ts j ∧ nth ts j ≤ high

theorem allTo_succ {low high : Int} {ts : List Int} {k : Nat} (h : allTo low high ts k) (h1 : low ≤ nth ts k) (h2 : nth ts k ≤ high) : allTo low high ts (k + 1) := by
  intro j hj
  by_cases e : j = k
  · subst e; exact ⟨h1, h2⟩
  · exact h j (by omega)

theorem allTo_all {low high : Int} {ts : List Int} (h : allTo low high ts ts.length) : allB low high ts = true := allB_iff.mpr h

theorem maskTo_lt2 {s : Int} {ts : List Int} (h4 : s ≤ 4) (k : Nat) (h : allTo 0 (s - 1) ts k) : maskTo ts k < 16 := by
  induction k with
  | zero => simp [maskTo]
  | succ k ih =>
    rw [maskTo_succ]
    have := h k (by omega)
    exact or_lt' _ _ (ih fun j hj => h j (by omega)) (by omega)

theorem not_inB {n low high : Int} (h : inB n low high = false) : ¬ (low ≤ n ∧ n ≤ high) := by simpa [inB] using h

theorem yes_inB {n low high : Int} (h : inB n low high = true) : low ≤ n ∧ n ≤ high := by simpa [inB] using h

theorem int_nat4 {x s : Int} (h0 : 0 ≤ x) (h1 : x < s) (h4 : s ≤ 4) : ∃ n : Nat, x = n ∧ n < 4 := ⟨x.toNat, by omega, by omega⟩

theorem fullSetR_any (s : Int) (w : World) (h1 : 1 ≤ s) (h4 : s ≤ 4) :
    Calls Try.prog 85 #[.int .i64 s] w fun e w' => e = .returned (.int .i64 (pow2 s - 1)) ∧ w = w' := by
  have h := pow2_wrap s h1 h4
  have hb := pow2_bd s h1 h4
  have h0 : ¬ s < 0 := by omega
  go_enter Try.func85, Try.ntmps85
  go_wp2
  go_ret
  exact ⟨rfl, rfl⟩

end Go.Proofs.Ytjmfjgoehicgcaa
