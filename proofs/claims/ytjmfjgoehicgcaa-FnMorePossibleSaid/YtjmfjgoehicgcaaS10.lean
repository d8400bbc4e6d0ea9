/- The chance in which each set is shared evenly: both packages. -/
import Derived.Test.YtjmfjgoehicgcaaH1
import Derived.Test.YtjmfjgoehicgcaaO8
set_option linter.unusedVariables false
set_option linter.unusedSimpArgs false
namespace Go.Proofs.Ytjmfjgoehicgcaa
open Go.RowKit

set_option maxHeartbeats 4000000 in
theorem OnesCount64_any (a : Nat) (w : World) (ha : a < 16) :
    Calls Try.prog 122 #[.int .u64 a] w fun e w' => e = .returned (.int .i64 (pop a : Nat)) ∧ w = w' := by
  have h : a = 0 ∨ a = 1 ∨ a = 2 ∨ a = 3 ∨ a = 4 ∨ a = 5 ∨ a = 6 ∨ a = 7 ∨ a = 8 ∨ a = 9 ∨ a = 10 ∨ a = 11 ∨ a = 12 ∨ a = 13 ∨ a = 14 ∨ a = 15 := by omega
  rcases h with rfl | rfl | rfl | rfl | rfl | rfl | rfl | rfl | rfl | rfl | rfl | rfl | rfl | rfl | rfl | rfl
  all_goals
    clear ha
    go_enter Try.func122, Try.ntmps122
    go_wp2
    go_ret
    exact ⟨ret_int (by decide +kernel), rfl⟩

theorem OnesCount_any (a : Nat) (w : World) (ha : a < 16) :
    Calls Try.prog 89 #[.int .u64 a] w fun e w' => e = .returned (.int .i64 (pop a : Nat)) ∧ w = w' := by
  go_enter Try.func89, Try.ntmps89
  go_wp2_with fail
  refine (OnesCount64_any a _ ha).mono ?_
  rintro e w' ⟨rfl, rfl⟩
  go_wp2
  go_ret
  exact ⟨rfl, rfl⟩

/-- Twelve times what a set gets of the part of another one. -/
def evA (a b : Nat) (x : Int) : Int := 12 * x * (pop (a &&& b) : Nat) / (pop b : Nat)

def evTo (a : Nat) (xs : List Int) (k : Nat) : Int := (List.range k).foldl (fun s b => s + evA a b (nth xs b)) 0

theorem evTo_succ (a : Nat) (xs : List Int) (k : Nat) : evTo a xs (k + 1) = evTo a xs k + evA a k (nth xs k) := by simp [evTo, List.range_succ]

theorem evA_zero (a : Nat) (x : Int) : evA a 0 x = 0 := by simp [evA, pop]

theorem evTo_one (a : Nat) (xs : List Int) : evTo a xs 1 = 0 := by rw [evTo_succ, evA_zero]; rfl

theorem pop_pos (b : Nat) (hb : b < 16) (h0 : b ≠ 0) : 1 ≤ pop b := by
  have h := (count_bits ⟨b, hb⟩).2.2.2
  dsimp only at h
  rcases Nat.eq_zero_or_pos (pop b) with h1 | h1
  · exact absurd (h h1) h0
  · exact h1

/-- What the walks need of one step. -/
theorem ev_step (a b : Nat) (x : Int) (ha : a < 16) (hb : b < 16) (h0 : 0 ≤ x) (h1 : x ≤ 1000000) :
    (0 ≤ x * (pop (a &&& b) : Nat) ∧ x * (pop (a &&& b) : Nat) ≤ 4000000) ∧ (0 ≤ 12 * x * (pop (a &&& b) : Nat) ∧ 12 * x * (pop (a &&& b) : Nat) ≤ 48000000) ∧ x * (pop (a &&& b) : Nat) * 12 = 12 * x * (pop (a &&& b) : Nat) ∧ 0 ≤ evA a b x ∧ evA a b x ≤ 48000000 := by
  have hp := pop_le (a &&& b) (Nat.lt_of_le_of_lt Nat.and_le_left ha)
  obtain ⟨n, hn⟩ : ∃ n : Nat, n = pop (a &&& b) := ⟨_, rfl⟩
  have e1 : 0 ≤ x * (n : Int) := Int.mul_nonneg h0 (by omega)
  have e2 : x * (n : Int) ≤ 1000000 * 4 := Int.mul_le_mul h1 (by omega) (by omega) (by omega)
  have e3 : 12 * x * (n : Int) = 12 * (x * n) := Int.mul_assoc _ _ _
  have e4 : 0 ≤ 12 * x * (n : Int) / (pop b : Nat) := Int.ediv_nonneg (by omega) (by omega)
  have e5 : 12 * x * (n : Int) / (pop b : Nat) ≤ 12 * x * (n : Int) := Int.ediv_le_self _ (by omega)
  unfold evA
  rw [← hn]
  refine ⟨⟨e1, by omega⟩, ⟨by omega, by omega⟩, by omega, e4, by omega⟩

theorem evTo_bd (a : Nat) (xs : List Int) (ha : a < 16) (hl : xs.length ≤ 16) (h : allB 0 1000000 xs = true) (k : Nat) (hk : k ≤ xs.length) : 0 ≤ evTo a xs k ∧ evTo a xs k ≤ 48000000 * k := by
  induction k with
  | zero => simp [evTo]
  | succ k ih =>
    have h1 := ih (by omega)
    obtain ⟨h2, h3⟩ := allB_nth h k (by omega)
    have h4 := ev_step a k (nth xs k) ha (by omega) h2 h3
    rw [evTo_succ]
    omega


theorem cellStoreS {w : World} {m o b k : Nat} {v x : Value} (h : w.cell? ⟨b, o, none⟩ = some v) (hne : m ≠ b) : (w.setCell ⟨m, k, none⟩ x).cell? ⟨b, o, none⟩ = some v := by
  rw [World.cell?_setCell_other _ _ _ _ (fun e => hne (by cases e; rfl))]; exact h

theorem bit_wrapK (k : Nat) (h : k < 4) : IntKind.i64.wrap (2 ^ k) = ((bit k : Nat) : Int) := by
  have h2 : k = 0 ∨ k = 1 ∨ k = 2 ∨ k = 3 := by omega
  rcases h2 with rfl | rfl | rfl | rfl <;> decide

/-- What the single answers get. -/
def shTo (xs zs : List Int) (k : Nat) : List Int := (List.range k).foldl (fun zs x => zs.set (bit x) (evTo (bit x) xs xs.length)) zs

theorem shTo_succ (xs zs : List Int) (k : Nat) : shTo xs zs (k + 1) = (shTo xs zs k).set (bit k) (evTo (bit k) xs xs.length) := by simp [shTo, List.range_succ]

theorem shTo_len (xs zs : List Int) (k : Nat) : (shTo xs zs k).length = zs.length := by
  induction k with
  | zero => rfl
  | succ k ih => rw [shTo_succ, List.length_set, ih]

theorem bit_lt16 (y : Nat) (h : y < 4) : bit y < 16 := by
  have := Nat.pow_le_pow_right (n := 2) (by omega) (show y ≤ 3 by omega)
  unfold bit; omega

theorem shTo_all (xs zs : List Int) (hl : xs.length ≤ 16) (hx : allB 0 1000000 xs = true) (hz : allB 0 0 zs = true) (k : Nat) (hk : k ≤ 4) : allB 0 768000000 (shTo xs zs k) = true := by
  induction k with
  | zero => exact allB_wider hz (by omega) (by omega)
  | succ k ih =>
    rw [shTo_succ]
    have h1 := evTo_bd (bit k) xs (bit_lt16 k (by omega)) hl hx xs.length (Nat.le_refl _)
    have ih := ih (by omega)
    rw [allB_iff] at ih ⊢
    intro j hj
    rw [List.length_set] at hj
    have := ih j hj
    rw [nth_eq _ _ (by simpa using hj), List.getElem_set]
    rw [nth_eq _ _ hj] at this
    split <;> omega

def shP (s : Int) (xs : List Int) : List Int := shTo xs (zeros xs.length) s.toNat

theorem shP_len (s : Int) (xs : List Int) : (shP s xs).length = xs.length := by rw [shP, shTo_len, zeros_len]

theorem shP_wide {s : Int} {xs : List Int} (h : MassOk s xs) : allB 0 4611686018427387904 (shP s xs) = true :=
  allB_wider (shTo_all xs _ h.l16 h.all (zeros_all _) _ (by have := h.s4; omega)) (by omega) (by omega)

theorem shR_len (s : Int) (xs : List Int) (h : xs.length ≤ 1048576) : (gL (massB s xs) s (shP s xs)).length ≤ 1048576 := by
  have := gL_len (massB s xs) s (shP s xs)
  rw [shP_len] at this
  omega

theorem bit_in {s : Int} {xs : List Int} (h : MassOk s xs) (k : Nat) (hk : (k : Int) < s) : bit k < xs.length := by
  have h1 : (xs.length : Int) = 2 ^ s.toNat := h.len
  have h2 : 2 ^ k < 2 ^ s.toNat := Nat.pow_lt_pow_right (by omega) (by omega)
  have h3 : ((2 ^ s.toNat : Nat) : Int) = (2 : Int) ^ s.toNat := by simp
  unfold bit
  omega

end Go.Proofs.Ytjmfjgoehicgcaa
