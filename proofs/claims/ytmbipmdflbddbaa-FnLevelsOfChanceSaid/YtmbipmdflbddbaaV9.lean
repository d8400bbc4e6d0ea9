/- Normal masses, and the least chance of a set among cases of another one: both packages. -/
import Derived.Test.YtmbipmdflbddbaaV7
import Derived.Test.YtmbipmdflbddbaaP5
set_option linter.unusedVariables false
set_option linter.unusedSimpArgs false
namespace Go.Proofs.Ytmbipmdflbddbaa
open Go.RowKit

/-- A valid mass with nothing for the empty set. -/
def normB (s : Int) (xs : List Int) : Bool := massB s xs && nth xs 0 == 0

set_option maxHeartbeats 1000000 in
theorem isNormal_any (s : Int) (p : Option Addr) (c : Nat) (xs : List Int) (w : World) (hx : Reads w p xs) (hxm : xs.length ≤ 1048576) :
    Calls Try.prog 62 #[.agg #[.int .i64 s, .slice p xs.length c]] w fun e w' => e = .returned (.bool (normB s xs)) ∧ Below w.heap.size w w' := by
  obtain ⟨W, hW⟩ : ∃ W : World, W = (w.alloc (.cells #[.int .i64 s, .slice p xs.length c] 24)) := ⟨_, rfl⟩
  have bW : Below w.heap.size w W := by subst hW; exact (belowAlloc _ _)
  have hsz : W.heap.size = w.heap.size + 1 := by subst hW; simp
  have b0 : VarInv W (w.heap.size) (s) (.slice p xs.length c) := by
    subst hW
    have h := VarInv.made w (s) (.slice p xs.length c) 24
    exact h
  have HWW := Lib.hid hW
  have HSZ := Lib.hid hsz
  clear hW hsz
  cases h1 : massB s xs
  · have hr : Hid (normB s xs = false) := Lib.hid (by simp [normB, h1])
    go_enter Try.func62, Try.ntmps62
    go_wp2_with fail
    rw [← HWW.out]
    refine (isMass_any _ _ _ _ _ (hx.below bW) hxm).mono ?_
    rintro e w1 ⟨rfl, hb⟩
    replace b0 := b0.later hb
    have b0_0 := b0.c0
    have b0_1 := b0.c1
    replace bW := bW.thenB hb
    have z1 := hb.size
    clear hb
    go_wp2
    go_ret
    exact ⟨ret_bool hr.out.symm, bW⟩
  · have hr : Hid (normB s xs = (nth xs 0 == 0)) := Lib.hid (by simp [normB, h1])
    have hlen : 0 < xs.length := by have := (massB_ok h1).len; have := pow2_bd s (massB_ok h1).s1 (massB_ok h1).s4; omega
    go_enter Try.func62, Try.ntmps62
    go_wp2_with fail
    rw [← HWW.out]
    refine (isMass_any _ _ _ _ _ (hx.below bW) hxm).mono ?_
    rintro e w1 ⟨rfl, hb⟩
    replace b0 := b0.later hb
    have b0_0 := b0.c0
    have b0_1 := b0.c1
    replace bW := bW.thenB hb
    have z1 := hb.size
    clear hb
    have hx2 := hx.below bW
    obtain ⟨blk, off, rfl, hbl, hc⟩ := hx2 0 hlen
    simp only [Nat.add_zero] at hc hbl
    clear hx2
    go_wp2
    go_ret
    exact ⟨ret_bool hr.out.symm, bW⟩

set_option maxHeartbeats 1000000 in
theorem IsNormal_any (s : Int) (p : Option Addr) (c : Nat) (xs : List Int) (w : World) (hx : Reads w p xs) (hxm : xs.length ≤ 1048576) :
    Calls Try.prog 65 #[.agg #[.int .i64 s, .slice p xs.length c]] w fun e w' => e = .returned (.bool (normB s xs)) ∧ Below w.heap.size w w' := by
  obtain ⟨W, hW⟩ : ∃ W : World, W = (w.alloc (.cells #[.int .i64 s, .slice p xs.length c] 24)) := ⟨_, rfl⟩
  have bW : Below w.heap.size w W := by subst hW; exact (belowAlloc _ _)
  have hsz : W.heap.size = w.heap.size + 1 := by subst hW; simp
  have b0 : VarInv W (w.heap.size) (s) (.slice p xs.length c) := by
    subst hW
    have h := VarInv.made w (s) (.slice p xs.length c) 24
    exact h
  have HWW := Lib.hid hW
  have HSZ := Lib.hid hsz
  clear hW hsz
  cases h1 : massB s xs
  · have hr : Hid (normB s xs = false) := Lib.hid (by simp [normB, h1])
    go_enter Try.func65, Try.ntmps65
    go_wp2_with fail
    rw [← HWW.out]
    refine (MassValid_any _ _ _ _ _ (hx.below bW) hxm).mono ?_
    rintro e w1 ⟨rfl, hb⟩
    replace b0 := b0.later hb
    have b0_0 := b0.c0
    have b0_1 := b0.c1
    replace bW := bW.thenB hb
    have z1 := hb.size
    clear hb
    go_wp2
    go_ret
    exact ⟨ret_bool hr.out.symm, bW⟩
  · have hr : Hid (normB s xs = (nth xs 0 == 0)) := Lib.hid (by simp [normB, h1])
    have hlen : 0 < xs.length := by have := (massB_ok h1).len; have := pow2_bd s (massB_ok h1).s1 (massB_ok h1).s4; omega
    go_enter Try.func65, Try.ntmps65
    go_wp2_with fail
    rw [← HWW.out]
    refine (MassValid_any _ _ _ _ _ (hx.below bW) hxm).mono ?_
    rintro e w1 ⟨rfl, hb⟩
    replace b0 := b0.later hb
    have b0_0 := b0.c0
    have b0_1 := b0.c1
    replace bW := bW.thenB hb
    have z1 := hb.size
    clear hb
    have hx2 := hx.below bW
    obtain ⟨blk, off, rfl, hbl, hc⟩ := hx2 0 hlen
    simp only [Nat.add_zero] at hc hbl
    clear hx2
    go_wp2
    go_ret
    exact ⟨ret_bool hr.out.symm, bW⟩

/-- How much is implied. -/
def imS (a : Nat) (xs : List Int) : Int := sumTo (inSet a) xs xs.length

theorem imS_bd (a : Nat) {s : Int} {xs : List Int} (h : MassOk s xs) : 0 ≤ imS a xs ∧ imS a xs ≤ 16000000 := by
  have := sumTo_bd (inSet a) xs h.all (by omega) xs.length (Nat.le_refl _)
  have := h.l16
  unfold imS; omega

theorem iImpl_any (s : Int) (p : Option Addr) (c : Nat) (xs : List Int) (a : Nat) (w : World) (hx : Reads w p xs) (hxm : xs.length ≤ 16) (ha : a < 16) (hr : allB 0 1000000 xs = true) :
    Calls Try.prog 89 #[.agg #[.int .i64 s, .slice p xs.length c], .int .i64 a] w fun e w' => e = .returned (.int .i64 (imS a xs)) ∧ Below w.heap.size w w' := impliedPart_any s p c xs a w hx hxm ha hr

theorem within_bits : ∀ a b k : Fin 16, inSet a.val k.val = true → inSet (a.val &&& b.val) k.val = true ∨ meetB (dif a.val b.val) k.val = true := by decide +kernel

/-- What is implied is implied by the common part, or possible with the rest. -/
theorem low_pos (a b : Nat) (ha : a < 16) (hb : b < 16) (xs : List Int) (h : allB 0 1000000 xs = true) (hx : xs.length ≤ 16) : ∀ k, k ≤ xs.length → sumTo (inSet a) xs k ≤ sumTo (inSet (a &&& b)) xs k + sumTo (meetB (dif a b)) xs k := by
  intro k hk
  induction k with
  | zero => simp [sumTo]
  | succ k ih =>
    have h1 := ih (by omega)
    have h2 := allB_nth h k (by omega)
    have h3 := within_bits ⟨a, ha⟩ ⟨b, hb⟩ ⟨k, by omega⟩
    rw [sumTo_succ, sumTo_succ, sumTo_succ]
    cases hm : inSet a k
    · cases h4 : inSet (a &&& b) k <;> cases h5 : meetB (dif a b) k <;> simp <;> omega
    · rcases h3 hm with h4 | h4
      · cases h5 : meetB (dif a b) k <;> simp [show inSet (a &&& b) k = true from h4] <;> omega
      · cases h5 : inSet (a &&& b) k <;> simp [show meetB (dif a b) k = true from h4] <;> omega

def lgG (s : Int) (xs : List Int) (b a : Int) : Bool := normB s xs && (setB s a && (setB s b && !(imS a.toNat xs == 0)))

end Go.Proofs.Ytmbipmdflbddbaa
