/- Fractions of both packages: validity, and a quotient in lowest terms. -/
import Derived.Test.YtjmfjgoehicgcaaMgM3
set_option linter.unusedVariables false
set_option linter.unusedSimpArgs false
namespace Go.Proofs.Ytjmfjgoehicgcaa
open Go.RowKit

/-- A valid fraction in lowest terms. -/
def fracB (n d : Int) : Bool := inB n (-1000000000) 1000000000 && (inB d 1 1000000000 && decide (Nat.gcd n.natAbs d.natAbs = 1))

theorem isPart_any (x : Int) (w : World) :
    Calls Try.prog 106 #[.int .i64 x] w fun e w' => e = .returned (.bool (inB x (-1000000000) 1000000000)) ∧ w = w' := by
  by_cases h1 : -1000000000 ≤ x <;> by_cases h2 : x ≤ 1000000000
  all_goals
    go_enter Try.func106, Try.ntmps106
    go_wp2
    go_ret
    exact ⟨ret_bool (by simp [inB, h1, h2]), rfl⟩

theorem l2Part_any (x : Int) (w : World) :
    Calls Try.prog 139 #[.int .i64 x] w fun e w' => e = .returned (.bool (inB x (-1000000000) 1000000000)) ∧ w = w' := by
  go_enter Try.func139, Try.ntmps139
  go_wp2_with (go_at_call 93; refine (l1In_any _ _ _ _).mono ?_; rintro e w' ⟨rfl, rfl⟩)
  go_ret
  exact ⟨rfl, rfl⟩

theorem reads2 (w : World) (a b : Int) (t : TypeId) : Reads (w.alloc (.cells #[.int .i64 a, .int .i64 b] t)) (some ⟨w.heap.size, 0, none⟩) [a, b] := by
  intro k hk
  refine ⟨w.heap.size, 0, rfl, by simp, ?_⟩
  rw [World.cell?_alloc_at _ _ _ _ (by simp)]
  have : k = 0 ∨ k = 1 := by simp at hk; omega
  rcases this with rfl | rfl <;> rfl

theorem gcdL_two (a b : Int) : gcdL [a, b] = Nat.gcd a.natAbs b.natAbs := by simp [gcdL]

theorem allB_two {low high a b : Int} (h1 : low ≤ a) (h2 : a ≤ high) (h3 : low ≤ b) (h4 : b ≤ high) : allB low high [a, b] = true := by
  simp [allB, inB]; omega

theorem divisor2_any (a b : Int) (w : World) (t : TypeId) (k c : Nat) (hk : k = w.heap.size) (h1 : -4611686018427387904 ≤ a) (h2 : a ≤ 4611686018427387904) (h3 : -4611686018427387904 ≤ b) (h4 : b ≤ 4611686018427387904) :
    Calls Try.prog 99 #[.slice (some ⟨k, 0, none⟩) 2 c] (w.alloc (.cells #[.int .i64 a, .int .i64 b] t)) fun e w' => e = .returned (.int .i64 (Nat.gcd a.natAbs b.natAbs : Nat)) ∧ Below w.heap.size w w' := by
  subst hk
  exact (divisorOf_any (some ⟨w.heap.size, 0, none⟩) c [a, b] _ (reads2 w a b t) (by simp) (allB_two h1 h2 h3 h4)).mono fun e w' ⟨he, n, hw⟩ => ⟨by rw [he, gcdL_two], by rw [hw]; exact below_drewN ((Below.refl _ _).alloc (Nat.le_refl _) _) _⟩

theorem isFraction_any (n d : Int) (w : World) :
    Calls Try.prog 68 #[.agg #[.int .i64 n, .int .i64 d]] w fun e w' => e = .returned (.bool (fracB n d)) ∧ Below w.heap.size w w' := by
  have hb0 : Below w.heap.size w (w.alloc (.cells #[.int .i64 n, .int .i64 d] 32)) := (Below.refl _ _).alloc (Nat.le_refl _) _
  by_cases h1 : inB n (-1000000000) 1000000000 = true
  · have h1' : -1000000000 ≤ n ∧ n ≤ 1000000000 := by simpa [inB] using h1
    obtain ⟨k1, k2⟩ := h1'
    by_cases h2 : 1 ≤ d
    · by_cases h3 : d ≤ 1000000000
      · have hr : Hid (fracB n d = decide (Nat.gcd n.natAbs d.natAbs = 1)) := Lib.hid (by simp [fracB, h1]; simp [inB, h2, h3])
        go_enter Try.func68, Try.ntmps68
        go_wp2_with fail
        refine (isPart_any _ _).mono ?_
        rintro e w' ⟨rfl, rfl⟩
        go_wp2_with fail
        refine (divisor2_any n d _ _ _ _ (by simp) (by omega) (by omega) (by omega) (by omega)).mono ?_
        rintro e w1 ⟨rfl, hb1⟩
        go_wp2
        go_ret
        exact ⟨ret_bool (by rw [hr.out]; exact cast_one _), hb0.trans (hb1.mono hb0.size)⟩
      · have hr : Hid (fracB n d = false) := Lib.hid (by simp [fracB, inB, h3])
        go_enter Try.func68, Try.ntmps68
        go_wp2_with fail
        refine (isPart_any _ _).mono ?_
        rintro e w' ⟨rfl, rfl⟩
        go_wp2
        go_ret
        exact ⟨ret_bool hr.out.symm, hb0⟩
    · have hr : Hid (fracB n d = false) := Lib.hid (by simp [fracB, inB, h2])
      go_enter Try.func68, Try.ntmps68
      go_wp2_with fail
      refine (isPart_any _ _).mono ?_
      rintro e w' ⟨rfl, rfl⟩
      go_wp2
      go_ret
      exact ⟨ret_bool hr.out.symm, hb0⟩
  · have h1' : inB n (-1000000000) 1000000000 = false := by simpa using h1
    have hr : Hid (fracB n d = false) := Lib.hid (by simp [fracB, h1'])
    clear h1
    go_enter Try.func68, Try.ntmps68
    go_wp2_with fail
    refine (isPart_any _ _).mono ?_
    rintro e w' ⟨rfl, rfl⟩
    go_wp2
    go_ret
    exact ⟨ret_bool hr.out.symm, hb0⟩

theorem FractionValid_any (n d : Int) (w : World) :
    Calls Try.prog 130 #[.agg #[.int .i64 n, .int .i64 d]] w fun e w' => e = .returned (.bool (fracB n d)) ∧ Below w.heap.size w w' := by
  have hb0 : Below w.heap.size w (w.alloc (.cells #[.int .i64 n, .int .i64 d] 32)) := (Below.refl _ _).alloc (Nat.le_refl _) _
  cases h1 : inB n (-1000000000) 1000000000
  · have hr : Hid (fracB n d = false) := Lib.hid (by simp [fracB, h1])
    go_enter Try.func130, Try.ntmps130
    go_wp2_with fail
    refine (l2Part_any _ _).mono ?_
    rintro e w' ⟨rfl, rfl⟩
    go_wp2
    go_ret
    exact ⟨ret_bool hr.out.symm, hb0⟩
  · have h1' : -1000000000 ≤ n ∧ n ≤ 1000000000 := by simpa [inB] using h1
    obtain ⟨k1, k2⟩ := h1'
    cases h2 : inB d 1 1000000000
    · have hr : Hid (fracB n d = false) := Lib.hid (by simp [fracB, h2])
      go_enter Try.func130, Try.ntmps130
      go_wp2_with fail
      refine (l2Part_any _ _).mono ?_
      rintro e w' ⟨rfl, rfl⟩
      go_wp2_with fail
      refine (l1In_any _ _ _ _).mono ?_
      rintro e w' ⟨rfl, rfl⟩
      go_wp2
      go_ret
      exact ⟨ret_bool hr.out.symm, hb0⟩
    · have h2' : 1 ≤ d ∧ d ≤ 1000000000 := by simpa [inB] using h2
      obtain ⟨k3, k4⟩ := h2'
      have hr : Hid (fracB n d = decide (Nat.gcd n.natAbs d.natAbs = 1)) := Lib.hid (by simp [fracB, h1, h2])
      go_enter Try.func130, Try.ntmps130
      go_wp2_with fail
      refine (l2Part_any _ _).mono ?_
      rintro e w' ⟨rfl, rfl⟩
      go_wp2_with fail
      refine (l1In_any _ _ _ _).mono ?_
      rintro e w' ⟨rfl, rfl⟩
      go_wp2_with fail
      refine (l2Divisor_any _ _ _ (by omega) (by omega) (by omega) (by omega)).mono ?_
      rintro e w' ⟨rfl, rfl⟩
      go_wp2
      go_ret
      exact ⟨ret_bool (by rw [hr.out]; exact cast_one _), hb0⟩

/-- The divisor with the denominator's sign. -/
def lowG (num den : Int) : Int := if den < 0 then -(Nat.gcd num.natAbs den.natAbs : Nat) else (Nat.gcd num.natAbs den.natAbs : Nat)
def lowOk (num den : Int) : Bool := fracB (num.tdiv (lowG num den)) (den.tdiv (lowG num den))
def lowN (num den : Int) : Int := if lowOk num den = true then num.tdiv (lowG num den) else 0
def lowD (num den : Int) : Int := if lowOk num den = true then den.tdiv (lowG num den) else 0

theorem gcd_bd (a b : Int) (h1 : -4611686018427387904 ≤ a) (h2 : a ≤ 4611686018427387904) (h3 : -4611686018427387904 ≤ b) (h4 : b ≤ 4611686018427387904) (h0 : b ≠ 0) :
    1 ≤ ((Nat.gcd a.natAbs b.natAbs : Nat) : Int) ∧ ((Nat.gcd a.natAbs b.natAbs : Nat) : Int) ≤ 4611686018427387904 := by
  have hb : 0 < b.natAbs := by omega
  have := Nat.gcd_pos_of_pos_right a.natAbs hb
  have := Nat.gcd_le_right a.natAbs hb
  omega

theorem tdiv_bd (a g : Int) (h1 : -4611686018427387904 ≤ a) (h2 : a ≤ 4611686018427387904) : -4611686018427387904 ≤ a.tdiv g ∧ a.tdiv g ≤ 4611686018427387904 := by
  have h : (a.tdiv g).natAbs ≤ a.natAbs := by rw [Int.natAbs_tdiv]; exact Nat.div_le_self _ _
  omega

theorem lowest_any (num den : Int) (w : World) (h1 : -4611686018427387904 ≤ num) (h2 : num ≤ 4611686018427387904) (h3 : -4611686018427387904 ≤ den) (h4 : den ≤ 4611686018427387904) (h0 : den ≠ 0) :
    Calls Try.prog 69 #[.int .i64 num, .int .i64 den] w fun e w' => e = .returned (.tuple #[.agg #[.int .i64 (lowN num den), .int .i64 (lowD num den)], .bool (lowOk num den)]) ∧ Below w.heap.size w w' := by
  have hb0 : Below w.heap.size w (w.alloc (.cells #[.int .i64 0, .int .i64 0] 32)) := (Below.refl _ _).alloc (Nat.le_refl _) _
  obtain ⟨g1, g2⟩ := gcd_bd num den h1 h2 h3 h4 h0
  by_cases hneg : den < 0
  · 
    have hgr : -((Nat.gcd num.natAbs den.natAbs : Nat) : Int) = lowG num den := by simp [lowG, hneg]
    have hz : (lowG num den == 0) = false := by rw [beq_eq_false_iff_ne, ← hgr]; omega
    have hz2 : ¬ lowG num den = 0 := by rw [← hgr]; omega
    have q1 : -4611686018427387904 ≤ lowG num den ∧ lowG num den ≤ 4611686018427387904 := by rw [← hgr]; omega
    obtain ⟨q1, q2⟩ := q1
    obtain ⟨k1, k2⟩ := tdiv_bd num (lowG num den) h1 h2
    obtain ⟨k3, k4⟩ := tdiv_bd den (lowG num den) h3 h4
    clear h0 g1 g2
    cases hok : lowOk num den
    · have hN : Hid (lowN num den = 0) := Lib.hid (by simp [lowN, hok])
      have hD : Hid (lowD num den = 0) := Lib.hid (by simp [lowD, hok])
      have hF : fracB (num.tdiv (lowG num den)) (den.tdiv (lowG num den)) = false := hok
      clear hok
      go_enter Try.func69, Try.ntmps69
      go_wp2_with fail
      refine (divisor2_any num den _ _ _ _ (by simp) h1 h2 h3 h4).mono ?_
      rintro e w1 ⟨rfl, hb1⟩
      go_wp2_with fail
      go_region
      go_wp2_with fail
      refine (isFraction_any _ _ _).mono ?_
      rintro e w2 ⟨rfl, hb2⟩
      obtain ⟨z0, z1, f0, f1, l1, bw1⟩ := twoKept hb1
      have hb2' := undrew hb2
      obtain ⟨n0, n1, _, _, l2, bw2⟩ := twoKept hb2'
      have z0' := cellKeep bw2 z0
      have z1' := cellKeep bw2 z1
      have f0' := frozKeep bw2 l1 f0
      have f1' := frozKeep bw2 l1 f1
      have bw := bw1.thenB bw2
      clear z0 z1 f0 f1 hb2 hb2' hb1 bw1 bw2
      go_wp2
      refine bodyPost_ret (v := .tuple #[.agg #[.int .i64 (0), .int .i64 (0)], .bool false]) (by simp [results, Try.results69, go_sem, z0', z1', f0', f1', n0, n1]) rfl ⟨by rw [hN.out, hD.out], ?_⟩
      exact (bw.setCell (Nat.le_refl _) _).setCell (Nat.le_refl _) _
    · have hN : Hid (lowN num den = num.tdiv (lowG num den)) := Lib.hid (by simp [lowN, hok])
      have hD : Hid (lowD num den = den.tdiv (lowG num den)) := Lib.hid (by simp [lowD, hok])
      have hF : fracB (num.tdiv (lowG num den)) (den.tdiv (lowG num den)) = true := hok
      clear hok
      go_enter Try.func69, Try.ntmps69
      go_wp2_with fail
      refine (divisor2_any num den _ _ _ _ (by simp) h1 h2 h3 h4).mono ?_
      rintro e w1 ⟨rfl, hb1⟩
      go_wp2_with fail
      go_region
      go_wp2_with fail
      refine (isFraction_any _ _ _).mono ?_
      rintro e w2 ⟨rfl, hb2⟩
      obtain ⟨z0, z1, f0, f1, l1, bw1⟩ := twoKept hb1
      have hb2' := undrew hb2
      obtain ⟨n0, n1, _, _, l2, bw2⟩ := twoKept hb2'
      have z0' := cellKeep bw2 z0
      have z1' := cellKeep bw2 z1
      have f0' := frozKeep bw2 l1 f0
      have f1' := frozKeep bw2 l1 f1
      have bw := bw1.thenB bw2
      clear z0 z1 f0 f1 hb2 hb2' hb1 bw1 bw2
      go_wp2
      refine bodyPost_ret (v := .tuple #[.agg #[.int .i64 (num.tdiv (lowG num den)), .int .i64 (den.tdiv (lowG num den))], .bool true]) (by simp [results, Try.results69, go_sem, z0', z1', f0', f1', n0, n1]) rfl ⟨by rw [hN.out, hD.out], ?_⟩
      exact (bw.setCell (Nat.le_refl _) _).setCell (Nat.le_refl _) _
  · 
    have hgr : ((Nat.gcd num.natAbs den.natAbs : Nat) : Int) = lowG num den := by simp [lowG, hneg]
    have hz : (lowG num den == 0) = false := by rw [beq_eq_false_iff_ne, ← hgr]; omega
    have hz2 : ¬ lowG num den = 0 := by rw [← hgr]; omega
    have q1 : -4611686018427387904 ≤ lowG num den ∧ lowG num den ≤ 4611686018427387904 := by rw [← hgr]; omega
    obtain ⟨q1, q2⟩ := q1
    obtain ⟨k1, k2⟩ := tdiv_bd num (lowG num den) h1 h2
    obtain ⟨k3, k4⟩ := tdiv_bd den (lowG num den) h3 h4
    clear h0 g1 g2
    cases hok : lowOk num den
    · have hN : Hid (lowN num den = 0) := Lib.hid (by simp [lowN, hok])
      have hD : Hid (lowD num den = 0) := Lib.hid (by simp [lowD, hok])
      have hF : fracB (num.tdiv (lowG num den)) (den.tdiv (lowG num den)) = false := hok
      clear hok
      go_enter Try.func69, Try.ntmps69
      go_wp2_with fail
      refine (divisor2_any num den _ _ _ _ (by simp) h1 h2 h3 h4).mono ?_
      rintro e w1 ⟨rfl, hb1⟩
      go_wp2_with fail
      go_region
      go_wp2_with fail
      refine (isFraction_any _ _ _).mono ?_
      rintro e w2 ⟨rfl, hb2⟩
      obtain ⟨z0, z1, f0, f1, l1, bw1⟩ := twoKept hb1
      have hb2' := undrew hb2
      obtain ⟨n0, n1, _, _, l2, bw2⟩ := twoKept hb2'
      have z0' := cellKeep bw2 z0
      have z1' := cellKeep bw2 z1
      have f0' := frozKeep bw2 l1 f0
      have f1' := frozKeep bw2 l1 f1
      have bw := bw1.thenB bw2
      clear z0 z1 f0 f1 hb2 hb2' hb1 bw1 bw2
      go_wp2
      refine bodyPost_ret (v := .tuple #[.agg #[.int .i64 (0), .int .i64 (0)], .bool false]) (by simp [results, Try.results69, go_sem, z0', z1', f0', f1', n0, n1]) rfl ⟨by rw [hN.out, hD.out], ?_⟩
      exact (bw.setCell (Nat.le_refl _) _).setCell (Nat.le_refl _) _
    · have hN : Hid (lowN num den = num.tdiv (lowG num den)) := Lib.hid (by simp [lowN, hok])
      have hD : Hid (lowD num den = den.tdiv (lowG num den)) := Lib.hid (by simp [lowD, hok])
      have hF : fracB (num.tdiv (lowG num den)) (den.tdiv (lowG num den)) = true := hok
      clear hok
      go_enter Try.func69, Try.ntmps69
      go_wp2_with fail
      refine (divisor2_any num den _ _ _ _ (by simp) h1 h2 h3 h4).mono ?_
      rintro e w1 ⟨rfl, hb1⟩
      go_wp2_with fail
      go_region
      go_wp2_with fail
      refine (isFraction_any _ _ _).mono ?_
      rintro e w2 ⟨rfl, hb2⟩
      obtain ⟨z0, z1, f0, f1, l1, bw1⟩ := twoKept hb1
      have hb2' := undrew hb2
      obtain ⟨n0, n1, _, _, l2, bw2⟩ := twoKept hb2'
      have z0' := cellKeep bw2 z0
      have z1' := cellKeep bw2 z1
      have f0' := frozKeep bw2 l1 f0
      have f1' := frozKeep bw2 l1 f1
      have bw := bw1.thenB bw2
      clear z0 z1 f0 f1 hb2 hb2' hb1 bw1 bw2
      go_wp2
      refine bodyPost_ret (v := .tuple #[.agg #[.int .i64 (num.tdiv (lowG num den)), .int .i64 (den.tdiv (lowG num den))], .bool true]) (by simp [results, Try.results69, go_sem, z0', z1', f0', f1', n0, n1]) rfl ⟨by rw [hN.out, hD.out], ?_⟩
      exact (bw.setCell (Nat.le_refl _) _).setCell (Nat.le_refl _) _

theorem l2Made_any (num den : Int) (w : World) (h1 : -4611686018427387904 ≤ num) (h2 : num ≤ 4611686018427387904) (h3 : -4611686018427387904 ≤ den) (h4 : den ≤ 4611686018427387904) (h0 : den ≠ 0) :
    Calls Try.prog 128 #[.int .i64 num, .int .i64 den] w fun e w' => e = .returned (.tuple #[.agg #[.int .i64 (lowN num den), .int .i64 (lowD num den)], .bool (lowOk num den)]) ∧ Below w.heap.size w w' := by
  have hb0 : Below w.heap.size w (w.alloc (.cells #[.int .i64 0, .int .i64 0] 32)) := (Below.refl _ _).alloc (Nat.le_refl _) _
  obtain ⟨g1, g2⟩ := gcd_bd num den h1 h2 h3 h4 h0
  by_cases hneg : den < 0
  · 
    have hgr : -((Nat.gcd num.natAbs den.natAbs : Nat) : Int) = lowG num den := by simp [lowG, hneg]
    have hz : (lowG num den == 0) = false := by rw [beq_eq_false_iff_ne, ← hgr]; omega
    have hz2 : ¬ lowG num den = 0 := by rw [← hgr]; omega
    have q1 : -4611686018427387904 ≤ lowG num den ∧ lowG num den ≤ 4611686018427387904 := by rw [← hgr]; omega
    obtain ⟨q1, q2⟩ := q1
    obtain ⟨k1, k2⟩ := tdiv_bd num (lowG num den) h1 h2
    obtain ⟨k3, k4⟩ := tdiv_bd den (lowG num den) h3 h4
    clear h0 g1 g2
    cases hok : lowOk num den
    · have hN : Hid (lowN num den = 0) := Lib.hid (by simp [lowN, hok])
      have hD : Hid (lowD num den = 0) := Lib.hid (by simp [lowD, hok])
      have hF : fracB (num.tdiv (lowG num den)) (den.tdiv (lowG num den)) = false := hok
      clear hok
      go_enter Try.func128, Try.ntmps128
      go_wp2_with fail
      refine (l2Divisor_any _ _ _ h1 h2 h3 h4).mono ?_
      rintro e w' ⟨rfl, rfl⟩
      have hb1 : Below (w.alloc (.cells #[.int .i64 0, .int .i64 0] 32)).heap.size (w.alloc (.cells #[.int .i64 0, .int .i64 0] 32)) (w.alloc (.cells #[.int .i64 0, .int .i64 0] 32)) := Below.refl _ _
      go_wp2_with fail
      go_region
      go_wp2_with fail
      refine (FractionValid_any _ _ _).mono ?_
      rintro e w2 ⟨rfl, hb2⟩
      obtain ⟨z0, z1, f0, f1, l1, bw1⟩ := twoKept hb1
      have hb2' := undrew hb2
      obtain ⟨n0, n1, _, _, l2, bw2⟩ := twoKept hb2'
      rw [show (w.alloc (.cells #[.int .i64 0, .int .i64 0] 32)).heap.size = w.heap.size + 1 by simp] at n0 n1
      have z0' := cellKeep bw2 z0
      have z1' := cellKeep bw2 z1
      have f0' := frozKeep bw2 l1 f0
      have f1' := frozKeep bw2 l1 f1
      have bw := bw1.thenB bw2
      clear z0 z1 f0 f1 hb2 hb2' hb1 bw1 bw2
      go_wp2
      refine bodyPost_ret (v := .tuple #[.agg #[.int .i64 (0), .int .i64 (0)], .bool false]) (by simp [results, Try.results128, go_sem, z0', z1', f0', f1', n0, n1]) rfl ⟨by rw [hN.out, hD.out], ?_⟩
      exact (bw.setCell (Nat.le_refl _) _).setCell (Nat.le_refl _) _
    · have hN : Hid (lowN num den = num.tdiv (lowG num den)) := Lib.hid (by simp [lowN, hok])
      have hD : Hid (lowD num den = den.tdiv (lowG num den)) := Lib.hid (by simp [lowD, hok])
      have hF : fracB (num.tdiv (lowG num den)) (den.tdiv (lowG num den)) = true := hok
      clear hok
      go_enter Try.func128, Try.ntmps128
      go_wp2_with fail
      refine (l2Divisor_any _ _ _ h1 h2 h3 h4).mono ?_
      rintro e w' ⟨rfl, rfl⟩
      have hb1 : Below (w.alloc (.cells #[.int .i64 0, .int .i64 0] 32)).heap.size (w.alloc (.cells #[.int .i64 0, .int .i64 0] 32)) (w.alloc (.cells #[.int .i64 0, .int .i64 0] 32)) := Below.refl _ _
      go_wp2_with fail
      go_region
      go_wp2_with fail
      refine (FractionValid_any _ _ _).mono ?_
      rintro e w2 ⟨rfl, hb2⟩
      obtain ⟨z0, z1, f0, f1, l1, bw1⟩ := twoKept hb1
      have hb2' := undrew hb2
      obtain ⟨n0, n1, _, _, l2, bw2⟩ := twoKept hb2'
      rw [show (w.alloc (.cells #[.int .i64 0, .int .i64 0] 32)).heap.size = w.heap.size + 1 by simp] at n0 n1
      have z0' := cellKeep bw2 z0
      have z1' := cellKeep bw2 z1
      have f0' := frozKeep bw2 l1 f0
      have f1' := frozKeep bw2 l1 f1
      have bw := bw1.thenB bw2
      clear z0 z1 f0 f1 hb2 hb2' hb1 bw1 bw2
      go_wp2
      refine bodyPost_ret (v := .tuple #[.agg #[.int .i64 (num.tdiv (lowG num den)), .int .i64 (den.tdiv (lowG num den))], .bool true]) (by simp [results, Try.results128, go_sem, z0', z1', f0', f1', n0, n1]) rfl ⟨by rw [hN.out, hD.out], ?_⟩
      exact (bw.setCell (Nat.le_refl _) _).setCell (Nat.le_refl _) _
  · 
    have hgr : ((Nat.gcd num.natAbs den.natAbs : Nat) : Int) = lowG num den := by simp [lowG, hneg]
    have hz : (lowG num den == 0) = false := by rw [beq_eq_false_iff_ne, ← hgr]; omega
    have hz2 : ¬ lowG num den = 0 := by rw [← hgr]; omega
    have q1 : -4611686018427387904 ≤ lowG num den ∧ lowG num den ≤ 4611686018427387904 := by rw [← hgr]; omega
    obtain ⟨q1, q2⟩ := q1
    obtain ⟨k1, k2⟩ := tdiv_bd num (lowG num den) h1 h2
    obtain ⟨k3, k4⟩ := tdiv_bd den (lowG num den) h3 h4
    clear h0 g1 g2
    cases hok : lowOk num den
    · have hN : Hid (lowN num den = 0) := Lib.hid (by simp [lowN, hok])
      have hD : Hid (lowD num den = 0) := Lib.hid (by simp [lowD, hok])
      have hF : fracB (num.tdiv (lowG num den)) (den.tdiv (lowG num den)) = false := hok
      clear hok
      go_enter Try.func128, Try.ntmps128
      go_wp2_with fail
      refine (l2Divisor_any _ _ _ h1 h2 h3 h4).mono ?_
      rintro e w' ⟨rfl, rfl⟩
      have hb1 : Below (w.alloc (.cells #[.int .i64 0, .int .i64 0] 32)).heap.size (w.alloc (.cells #[.int .i64 0, .int .i64 0] 32)) (w.alloc (.cells #[.int .i64 0, .int .i64 0] 32)) := Below.refl _ _
      go_wp2_with fail
      go_region
      go_wp2_with fail
      refine (FractionValid_any _ _ _).mono ?_
      rintro e w2 ⟨rfl, hb2⟩
      obtain ⟨z0, z1, f0, f1, l1, bw1⟩ := twoKept hb1
      have hb2' := undrew hb2
      obtain ⟨n0, n1, _, _, l2, bw2⟩ := twoKept hb2'
      rw [show (w.alloc (.cells #[.int .i64 0, .int .i64 0] 32)).heap.size = w.heap.size + 1 by simp] at n0 n1
      have z0' := cellKeep bw2 z0
      have z1' := cellKeep bw2 z1
      have f0' := frozKeep bw2 l1 f0
      have f1' := frozKeep bw2 l1 f1
      have bw := bw1.thenB bw2
      clear z0 z1 f0 f1 hb2 hb2' hb1 bw1 bw2
      go_wp2
      refine bodyPost_ret (v := .tuple #[.agg #[.int .i64 (0), .int .i64 (0)], .bool false]) (by simp [results, Try.results128, go_sem, z0', z1', f0', f1', n0, n1]) rfl ⟨by rw [hN.out, hD.out], ?_⟩
      exact (bw.setCell (Nat.le_refl _) _).setCell (Nat.le_refl _) _
    · have hN : Hid (lowN num den = num.tdiv (lowG num den)) := Lib.hid (by simp [lowN, hok])
      have hD : Hid (lowD num den = den.tdiv (lowG num den)) := Lib.hid (by simp [lowD, hok])
      have hF : fracB (num.tdiv (lowG num den)) (den.tdiv (lowG num den)) = true := hok
      clear hok
      go_enter Try.func128, Try.ntmps128
      go_wp2_with fail
      refine (l2Divisor_any _ _ _ h1 h2 h3 h4).mono ?_
      rintro e w' ⟨rfl, rfl⟩
      have hb1 : Below (w.alloc (.cells #[.int .i64 0, .int .i64 0] 32)).heap.size (w.alloc (.cells #[.int .i64 0, .int .i64 0] 32)) (w.alloc (.cells #[.int .i64 0, .int .i64 0] 32)) := Below.refl _ _
      go_wp2_with fail
      go_region
      go_wp2_with fail
      refine (FractionValid_any _ _ _).mono ?_
      rintro e w2 ⟨rfl, hb2⟩
      obtain ⟨z0, z1, f0, f1, l1, bw1⟩ := twoKept hb1
      have hb2' := undrew hb2
      obtain ⟨n0, n1, _, _, l2, bw2⟩ := twoKept hb2'
      rw [show (w.alloc (.cells #[.int .i64 0, .int .i64 0] 32)).heap.size = w.heap.size + 1 by simp] at n0 n1
      have z0' := cellKeep bw2 z0
      have z1' := cellKeep bw2 z1
      have f0' := frozKeep bw2 l1 f0
      have f1' := frozKeep bw2 l1 f1
      have bw := bw1.thenB bw2
      clear z0 z1 f0 f1 hb2 hb2' hb1 bw1 bw2
      go_wp2
      refine bodyPost_ret (v := .tuple #[.agg #[.int .i64 (num.tdiv (lowG num den)), .int .i64 (den.tdiv (lowG num den))], .bool true]) (by simp [results, Try.results128, go_sem, z0', z1', f0', f1', n0, n1]) rfl ⟨by rw [hN.out, hD.out], ?_⟩
      exact (bw.setCell (Nat.le_refl _) _).setCell (Nat.le_refl _) _

end Go.Proofs.Ytjmfjgoehicgcaa
