/- What is possible, believed, or least, given a set: both packages. -/
import Derived.Test.YtkpnenbkfphldaaC7
import Derived.Test.YtkpnenbkfphldaaF2
set_option linter.unusedVariables false
set_option linter.unusedSimpArgs false
namespace Go.Proofs.Ytkpnenbkfphldaa
open Go.RowKit

theorem VarInv.two {w : World} {m : Nat} {s : Int} {v : Value} (h : VarInv w m s v) (a : Int) (b : Value) : VarInv ((w.setCell ⟨m, 0, none⟩ (.int .i64 a)).setCell ⟨m, 1, none⟩ b) m a b :=
  ⟨by rw [World.cell?_setCell_other _ _ _ _ (by simp)]; exact World.cell?_setCell_same _ _ _ h.c0, World.cell?_setCell_same _ _ _ (by rw [World.cell?_setCell_other _ _ _ _ (by simp)]; exact h.c1), by rw [World.frozen?_setCell, World.frozen?_setCell]; exact h.f0, by rw [World.frozen?_setCell, World.frozen?_setCell]; exact h.f1⟩

theorem VarInv.other2 {w : World} {m : Nat} {s : Int} {v : Value} (h : VarInv w m s v) (k : Nat) (hk : k ≠ m) (x y : Value) : VarInv ((w.setCell ⟨k, 0, none⟩ x).setCell ⟨k, 1, none⟩ y) m s v :=
  (h.other ⟨k, 0, none⟩ hk x).other ⟨k, 1, none⟩ hk y

/-- What a function returns that makes a fraction under a test. -/
def fN (g : Bool) (num den : Int) : Int := if g = true then lowN num den else 0

def fD (g : Bool) (num den : Int) : Int := if g = true then lowD num den else 0

def fOk (g : Bool) (num den : Int) : Bool := g && lowOk num den

theorem fNo {g : Bool} {num den : Int} (h : g = false) : fN g num den = 0 ∧ fD g num den = 0 ∧ fOk g num den = false := by subst h; exact ⟨rfl, rfl, rfl⟩

theorem fYes {g : Bool} {num den : Int} (h : g = true) : fN g num den = lowN num den ∧ fD g num den = lowD num den ∧ fOk g num den = lowOk num den := by subst h; exact ⟨rfl, rfl, rfl⟩

theorem wrapIn (x : Int) (h1 : -4611686018427387904 ≤ x) (h2 : x ≤ 4611686018427387904) : IntKind.i64.wrap x = x := by
  rw [IntKind.wrap_i64]
  omega

/-- How possible a set is. -/
def possS (a : Nat) (xs : List Int) : Int := sumTo (meetB a) xs xs.length

def implS (a : Nat) (xs : List Int) : Int := sumTo (fun b => subB b a) xs xs.length

theorem possS_bd (a : Nat) {s : Int} {xs : List Int} (h : MassOk s xs) : 0 ≤ possS a xs ∧ possS a xs ≤ 16000000 := by
  have := sumTo_bd (meetB a) xs h.all (by omega) xs.length (Nat.le_refl _)
  have := h.l16
  unfold possS; omega

theorem implS_bd (a : Nat) {s : Int} {xs : List Int} (h : MassOk s xs) : 0 ≤ implS a xs ∧ implS a xs ≤ 16000000 := by
  have := sumTo_bd (fun b => subB b a) xs h.all (by omega) xs.length (Nat.le_refl _)
  have := h.l16
  unfold implS; omega

/-- The answers of the first set that the second has not. -/
def dif (a b : Nat) : Nat := a - (a &&& b)

theorem dif_bits : ∀ a b : Fin 16, bits BinOp.andNot IntKind.i64 (a.val : Int) (b.val : Int) = ((dif a.val b.val : Nat) : Int) := by decide +kernel

theorem dif_nat (a b : Nat) (ha : a < 16) (hb : b < 16) : bits BinOp.andNot IntKind.i64 (a : Int) (b : Int) = ((dif a b : Nat) : Int) := dif_bits ⟨a, ha⟩ ⟨b, hb⟩

theorem dif_lt (a b : Nat) (ha : a < 16) : dif a b < 16 := by unfold dif; omega

theorem and_lt16 (a b : Nat) (ha : a < 16) : a &&& b < 16 := Nat.lt_of_le_of_lt Nat.and_le_left ha

theorem iPoss_any (s : Int) (p : Option Addr) (c : Nat) (xs : List Int) (a : Nat) (w : World) (hx : Reads w p xs) (hxm : xs.length ≤ 16) (ha : a < 16) (hr : allB 0 1000000 xs = true) :
    Calls Try.prog 67 #[.agg #[.int .i64 s, .slice p xs.length c], .int .i64 a] w fun e w' => e = .returned (.int .i64 (possS a xs)) ∧ Below w.heap.size w w' := possiblePart_any s p c xs a w hx hxm ha hr

theorem sPoss_any (s : Int) (p : Option Addr) (c : Nat) (xs : List Int) (a : Nat) (w : World) (hx : Reads w p xs) (hxm : xs.length ≤ 16) (ha : a < 16) (hr : allB 0 1000000 xs = true) :
    Calls Try.prog 71 #[.agg #[.int .i64 s, .slice p xs.length c], .int .i64 a] w fun e w' => e = .returned (.int .i64 (possS a xs)) ∧ Below w.heap.size w w' := l4Possible_any s p c xs a w hx hxm ha hr

def pgG (s : Int) (xs : List Int) (b a : Int) : Bool := msB s xs a && (msB s xs b && !(possS a.toNat xs == 0))

set_option maxHeartbeats 2000000 in
theorem iPossibleGiven_any (s : Int) (p : Option Addr) (c : Nat) (xs : List Int) (b a : Int) (w : World) (hx : Reads w p xs) (hxm : xs.length ≤ 1048576) :
    Calls Try.prog 18 #[.agg #[.int .i64 s, .slice p xs.length c], .int .i64 b, .int .i64 a] w fun e w' => e = .returned (.tuple #[.agg #[.int .i64 (fN (pgG s xs b a) (possS (a.toNat &&& b.toNat) xs) (possS a.toNat xs)), .int .i64 (fD (pgG s xs b a) (possS (a.toNat &&& b.toNat) xs) (possS a.toNat xs))], .bool (fOk (pgG s xs b a) (possS (a.toNat &&& b.toNat) xs) (possS a.toNat xs))]) ∧ Below w.heap.size w w' := by
  obtain ⟨W, hW⟩ : ∃ W : World, W = ((w.alloc (.cells #[.int .i64 s, .slice p xs.length c] 25)).alloc (.cells #[.int .i64 0, .int .i64 0] 29)) := ⟨_, rfl⟩
  have bW : Below w.heap.size w W := by subst hW; exact ((belowAlloc _ _).thenB (belowAlloc _ _))
  have hsz : W.heap.size = w.heap.size + 2 := by subst hW; simp
  have b0 : VarInv W (w.heap.size) (s) (.slice p xs.length c) := by
    subst hW
    have h := VarInv.made w (s) (.slice p xs.length c) 25
    exact (h.later (belowAlloc _ _))
  have bR : VarInv W (w.heap.size + 1) (0) (.int .i64 0) := by
    subst hW
    have h := VarInv.made (w.alloc (.cells #[.int .i64 s, .slice p xs.length c] 25)) (0) (.int .i64 0) 29
    rw [show (w.alloc (.cells #[.int .i64 s, .slice p xs.length c] 25)).heap.size = w.heap.size + 1 by simp] at h
    exact h
  have HWW := Lib.hid hW
  have HSZ := Lib.hid hsz
  clear hW hsz
  cases h1 : massB s xs
  · skip
    obtain ⟨eN, eD, eO⟩ := fNo (num := possS (a.toNat &&& b.toNat) xs) (den := possS a.toNat xs) (g := pgG s xs b a) (by simp [pgG, msB, h1])
    have eN := Lib.hid eN
    have eD := Lib.hid eD
    have eO := Lib.hid eO
    go_enter Try.func18, Try.ntmps18
    go_wp2_with fail
    rw [← HWW.out]
    refine (isMass_any _ _ _ _ _ (hx.below bW) hxm).mono ?_
    rintro e w1 ⟨rfl, hb⟩
    replace b0 := b0.later hb
    have b0_0 := b0.c0
    have b0_1 := b0.c1
    replace bR := bR.later hb
    have bR_0 := bR.c0
    have bR_1 := bR.c1
    replace bW := bW.thenB hb
    have z1 := hb.size
    clear hb
    have s0 := bR.c0
    have s1 := bR.c1
    have s2 := bR.f0
    have s3 := bR.f1
    go_wp2
    refine bodyPost_ret (v := .tuple #[.agg #[.int .i64 (0), .int .i64 (0)], .bool (false)]) (by simp [results, Try.results18, go_sem, s0, s1, s2, s3]) rfl ⟨by rw [eN.out, eD.out, eO.out], ?_⟩
    exact ((bW).setCell (by show _ ≤ w.heap.size + 1; omega) _).setCell (by show _ ≤ w.heap.size + 1; omega) _
  · have hk := massB_ok h1
    have k1 := hk.s1
    have k4 := hk.s4
    cases h2 : setB s a
    · skip
      obtain ⟨eN, eD, eO⟩ := fNo (num := possS (a.toNat &&& b.toNat) xs) (den := possS a.toNat xs) (g := pgG s xs b a) (by simp [pgG, msB, h2])
      have eN := Lib.hid eN
      have eD := Lib.hid eD
      have eO := Lib.hid eO
      go_enter Try.func18, Try.ntmps18
      go_wp2_with fail
      rw [← HWW.out]
      refine (isMass_any _ _ _ _ _ (hx.below bW) hxm).mono ?_
      rintro e w1 ⟨rfl, hb⟩
      replace b0 := b0.later hb
      have b0_0 := b0.c0
      have b0_1 := b0.c1
      replace bR := bR.later hb
      have bR_0 := bR.c0
      have bR_1 := bR.c1
      replace bW := bW.thenB hb
      have z1 := hb.size
      clear hb
      go_wp2_with fail
      refine (isSetOf_any _ _ _ k1 k4).mono ?_
      rintro e w' ⟨rfl, rfl⟩
      have s0 := bR.c0
      have s1 := bR.c1
      have s2 := bR.f0
      have s3 := bR.f1
      go_wp2
      refine bodyPost_ret (v := .tuple #[.agg #[.int .i64 (0), .int .i64 (0)], .bool (false)]) (by simp [results, Try.results18, go_sem, s0, s1, s2, s3]) rfl ⟨by rw [eN.out, eD.out, eO.out], ?_⟩
      exact ((bW).setCell (by show _ ≤ w.heap.size + 1; omega) _).setCell (by show _ ≤ w.heap.size + 1; omega) _
    · cases h3 : setB s b
      · skip
        obtain ⟨eN, eD, eO⟩ := fNo (num := possS (a.toNat &&& b.toNat) xs) (den := possS a.toNat xs) (g := pgG s xs b a) (by simp [pgG, msB, h3])
        have eN := Lib.hid eN
        have eD := Lib.hid eD
        have eO := Lib.hid eO
        go_enter Try.func18, Try.ntmps18
        go_wp2_with fail
        rw [← HWW.out]
        refine (isMass_any _ _ _ _ _ (hx.below bW) hxm).mono ?_
        rintro e w1 ⟨rfl, hb⟩
        replace b0 := b0.later hb
        have b0_0 := b0.c0
        have b0_1 := b0.c1
        replace bR := bR.later hb
        have bR_0 := bR.c0
        have bR_1 := bR.c1
        replace bW := bW.thenB hb
        have z1 := hb.size
        clear hb
        go_wp2_with fail
        refine (isSetOf_any _ _ _ k1 k4).mono ?_
        rintro e w' ⟨rfl, rfl⟩
        go_wp2_with fail
        refine (isSetOf_any _ _ _ k1 k4).mono ?_
        rintro e w' ⟨rfl, rfl⟩
        have s0 := bR.c0
        have s1 := bR.c1
        have s2 := bR.f0
        have s3 := bR.f1
        go_wp2
        refine bodyPost_ret (v := .tuple #[.agg #[.int .i64 (0), .int .i64 (0)], .bool (false)]) (by simp [results, Try.results18, go_sem, s0, s1, s2, s3]) rfl ⟨by rw [eN.out, eD.out, eO.out], ?_⟩
        exact ((bW).setCell (by show _ ≤ w.heap.size + 1; omega) _).setCell (by show _ ≤ w.heap.size + 1; omega) _
      · obtain ⟨na, rfl, ha16, _⟩ := setB_nat k1 k4 h2
        obtain ⟨nb, rfl, hb16, _⟩ := setB_nat k1 k4 h3
        have e2 : msB s xs na = true := by simp [msB, h1, h2]
        have e3 : msB s xs nb = true := by simp [msB, h1, h3]
        simp only [Int.toNat_natCast]
        have hx16 := hk.l16
        have hal := hk.all
        have hand := and_nat na nb ha16 hb16
        have hdif := dif_nat na nb ha16 hb16
        have ha2 := and_lt16 na nb ha16
        have ha3 := dif_lt na nb ha16
        obtain ⟨u1, u2⟩ := possS_bd na hk
        obtain ⟨u3, u4⟩ := possS_bd (na &&& nb) hk
        obtain ⟨u5, u6⟩ := possS_bd (dif na nb) hk
        obtain ⟨u7, u8⟩ := implS_bd na hk
        obtain ⟨u9, v1⟩ := implS_bd (na &&& nb) hk
        cases hz : (possS na xs == 0)
        · have hz0 : ¬ possS na xs = 0 := beq_eq_false_iff_ne.1 hz
          obtain ⟨eN, eD, eO⟩ := fYes (num := possS (na &&& nb) xs) (den := possS na xs) (g := pgG s xs nb na) (by simp [pgG, e2, e3, hz])
          have eN := Lib.hid eN
          have eD := Lib.hid eD
          have eO := Lib.hid eO
          go_enter Try.func18, Try.ntmps18
          go_wp2_with fail
          rw [← HWW.out]
          refine (isMass_any _ _ _ _ _ (hx.below bW) hxm).mono ?_
          rintro e w1 ⟨rfl, hb⟩
          replace b0 := b0.later hb
          have b0_0 := b0.c0
          have b0_1 := b0.c1
          replace bR := bR.later hb
          have bR_0 := bR.c0
          have bR_1 := bR.c1
          replace bW := bW.thenB hb
          have z1 := hb.size
          clear hb
          go_wp2_with fail
          refine (isSetOf_any _ _ _ k1 k4).mono ?_
          rintro e w' ⟨rfl, rfl⟩
          go_wp2_with fail
          refine (isSetOf_any _ _ _ k1 k4).mono ?_
          rintro e w' ⟨rfl, rfl⟩
          go_wp2_with fail
          refine (iPoss_any _ _ _ _ (na) _ (hx.below bW) hx16 (by omega) hal).mono ?_
          rintro e w2 ⟨rfl, hb⟩
          clear b0_0 b0_1 bR_0 bR_1
          replace b0 := b0.later hb
          have b0_0 := b0.c0
          have b0_1 := b0.c1
          replace bR := bR.later hb
          have bR_0 := bR.c0
          have bR_1 := bR.c1
          replace bW := bW.thenB hb
          have z2 := hb.size
          clear hb
          go_wp2_with fail
          have tk2_0 : True := trivial
          have tk3_1 : True := trivial
          have tk4_2 : True := trivial
          go_region_held3 (fun w' => w'.cell? ⟨w.heap.size, 0, none⟩ = some (.int .i64 s) ∧ w'.cell? ⟨w.heap.size, 1, none⟩ = some (.slice p xs.length c))
            (first | exact ⟨b0_0, b0_1⟩ | exact ⟨cellStore2 b0_0 (by omega), cellStore2 b0_1 (by omega)⟩)
            (first
              | (go_at_call 67; have _t := tk2_0; (with_reducible refine (iPoss_any _ _ _ _ (na &&& nb) _ (by first | exact hx.below bW | exact ReadsK.drew (hx.below bW)) hx16 (by omega) hal).mono ?_); rintro e w3 ⟨rfl, hb⟩; (replace hb := undrew hb); clear b0_0 b0_1 bR_0 bR_1; (replace b0 := b0.later hb); (have b0_0 := b0.c0); (have b0_1 := b0.c1); (replace bR := bR.later hb); (have bR_0 := bR.c0); (have bR_1 := bR.c1); (replace bW := bW.thenB hb); (have z3 := hb.size); clear hb; clear tk2_0 _t)
              | (go_at_call 67; have _t := tk3_1; (with_reducible refine (iPoss_any _ _ _ _ (na) _ (hx.below bW) hx16 (by omega) hal).mono ?_); rintro e w4 ⟨rfl, hb⟩; clear b0_0 b0_1 bR_0 bR_1; (replace b0 := b0.later hb); (have b0_0 := b0.c0); (have b0_1 := b0.c1); (replace bR := bR.later hb); (have bR_0 := bR.c0); (have bR_1 := bR.c1); (replace bW := bW.thenB hb); (have z4 := hb.size); clear hb; clear tk3_1 _t)
              | (go_at_call 66; have _t := tk4_2; (with_reducible refine (lowest_any (possS (na &&& nb) xs) (possS na xs) _ (by omega) (by omega) (by omega) (by omega) hz0).mono ?_); rintro e w5 ⟨rfl, hb⟩; clear b0_0 b0_1 bR_0 bR_1; (replace b0 := b0.later hb); (have b0_0 := b0.c0); (have b0_1 := b0.c1); (replace bR := bR.later hb); (have bR_0 := bR.c0); (have bR_1 := bR.c1); (replace bW := bW.thenB hb); (have z5 := hb.size); clear hb; (have s0 := bR.c0); (have s1 := bR.c1); (have s2 := bR.f0); (have s3 := bR.f1); clear tk4_2 _t))
          go_wp2
          refine bodyPost_ret (v := .tuple #[.agg #[.int .i64 (lowN (possS (na &&& nb) xs) (possS na xs)), .int .i64 (lowD (possS (na &&& nb) xs) (possS na xs))], .bool (lowOk (possS (na &&& nb) xs) (possS na xs))]) (by simp [results, Try.results18, go_sem, s0, s1, s2, s3]) rfl ⟨by rw [eN.out, eD.out, eO.out], ?_⟩
          exact ((bW).setCell (by show _ ≤ w.heap.size + 1; omega) _).setCell (by show _ ≤ w.heap.size + 1; omega) _
        · skip
          obtain ⟨eN, eD, eO⟩ := fNo (num := possS (na &&& nb) xs) (den := possS na xs) (g := pgG s xs nb na) (by simp [pgG, e2, e3, hz])
          have eN := Lib.hid eN
          have eD := Lib.hid eD
          have eO := Lib.hid eO
          go_enter Try.func18, Try.ntmps18
          go_wp2_with fail
          rw [← HWW.out]
          refine (isMass_any _ _ _ _ _ (hx.below bW) hxm).mono ?_
          rintro e w1 ⟨rfl, hb⟩
          replace b0 := b0.later hb
          have b0_0 := b0.c0
          have b0_1 := b0.c1
          replace bR := bR.later hb
          have bR_0 := bR.c0
          have bR_1 := bR.c1
          replace bW := bW.thenB hb
          have z1 := hb.size
          clear hb
          go_wp2_with fail
          refine (isSetOf_any _ _ _ k1 k4).mono ?_
          rintro e w' ⟨rfl, rfl⟩
          go_wp2_with fail
          refine (isSetOf_any _ _ _ k1 k4).mono ?_
          rintro e w' ⟨rfl, rfl⟩
          go_wp2_with fail
          refine (iPoss_any _ _ _ _ (na) _ (hx.below bW) hx16 (by omega) hal).mono ?_
          rintro e w2 ⟨rfl, hb⟩
          clear b0_0 b0_1 bR_0 bR_1
          replace b0 := b0.later hb
          have b0_0 := b0.c0
          have b0_1 := b0.c1
          replace bR := bR.later hb
          have bR_0 := bR.c0
          have bR_1 := bR.c1
          replace bW := bW.thenB hb
          have z2 := hb.size
          clear hb
          have s0 := bR.c0
          have s1 := bR.c1
          have s2 := bR.f0
          have s3 := bR.f1
          go_wp2
          refine bodyPost_ret (v := .tuple #[.agg #[.int .i64 (0), .int .i64 (0)], .bool (false)]) (by simp [results, Try.results18, go_sem, s0, s1, s2, s3]) rfl ⟨by rw [eN.out, eD.out, eO.out], ?_⟩
          exact ((bW).setCell (by show _ ≤ w.heap.size + 1; omega) _).setCell (by show _ ≤ w.heap.size + 1; omega) _

set_option maxHeartbeats 2000000 in
theorem iBelievedGiven_any (s : Int) (p : Option Addr) (c : Nat) (xs : List Int) (b a : Int) (w : World) (hx : Reads w p xs) (hxm : xs.length ≤ 1048576) :
    Calls Try.prog 14 #[.agg #[.int .i64 s, .slice p xs.length c], .int .i64 b, .int .i64 a] w fun e w' => e = .returned (.tuple #[.agg #[.int .i64 (fN (pgG s xs b a) (possS a.toNat xs - possS (dif a.toNat b.toNat) xs) (possS a.toNat xs)), .int .i64 (fD (pgG s xs b a) (possS a.toNat xs - possS (dif a.toNat b.toNat) xs) (possS a.toNat xs))], .bool (fOk (pgG s xs b a) (possS a.toNat xs - possS (dif a.toNat b.toNat) xs) (possS a.toNat xs))]) ∧ Below w.heap.size w w' := by
  obtain ⟨W, hW⟩ : ∃ W : World, W = ((w.alloc (.cells #[.int .i64 s, .slice p xs.length c] 25)).alloc (.cells #[.int .i64 0, .int .i64 0] 29)) := ⟨_, rfl⟩
  have bW : Below w.heap.size w W := by subst hW; exact ((belowAlloc _ _).thenB (belowAlloc _ _))
  have hsz : W.heap.size = w.heap.size + 2 := by subst hW; simp
  have b0 : VarInv W (w.heap.size) (s) (.slice p xs.length c) := by
    subst hW
    have h := VarInv.made w (s) (.slice p xs.length c) 25
    exact (h.later (belowAlloc _ _))
  have bR : VarInv W (w.heap.size + 1) (0) (.int .i64 0) := by
    subst hW
    have h := VarInv.made (w.alloc (.cells #[.int .i64 s, .slice p xs.length c] 25)) (0) (.int .i64 0) 29
    rw [show (w.alloc (.cells #[.int .i64 s, .slice p xs.length c] 25)).heap.size = w.heap.size + 1 by simp] at h
    exact h
  have HWW := Lib.hid hW
  have HSZ := Lib.hid hsz
  clear hW hsz
  cases h1 : massB s xs
  · skip
    obtain ⟨eN, eD, eO⟩ := fNo (num := possS a.toNat xs - possS (dif a.toNat b.toNat) xs) (den := possS a.toNat xs) (g := pgG s xs b a) (by simp [pgG, msB, h1])
    have eN := Lib.hid eN
    have eD := Lib.hid eD
    have eO := Lib.hid eO
    go_enter Try.func14, Try.ntmps14
    go_wp2_with fail
    rw [← HWW.out]
    refine (isMass_any _ _ _ _ _ (hx.below bW) hxm).mono ?_
    rintro e w1 ⟨rfl, hb⟩
    replace b0 := b0.later hb
    have b0_0 := b0.c0
    have b0_1 := b0.c1
    replace bR := bR.later hb
    have bR_0 := bR.c0
    have bR_1 := bR.c1
    replace bW := bW.thenB hb
    have z1 := hb.size
    clear hb
    have s0 := bR.c0
    have s1 := bR.c1
    have s2 := bR.f0
    have s3 := bR.f1
    go_wp2
    refine bodyPost_ret (v := .tuple #[.agg #[.int .i64 (0), .int .i64 (0)], .bool (false)]) (by simp [results, Try.results14, go_sem, s0, s1, s2, s3]) rfl ⟨by rw [eN.out, eD.out, eO.out], ?_⟩
    exact ((bW).setCell (by show _ ≤ w.heap.size + 1; omega) _).setCell (by show _ ≤ w.heap.size + 1; omega) _
  · have hk := massB_ok h1
    have k1 := hk.s1
    have k4 := hk.s4
    cases h2 : setB s a
    · skip
      obtain ⟨eN, eD, eO⟩ := fNo (num := possS a.toNat xs - possS (dif a.toNat b.toNat) xs) (den := possS a.toNat xs) (g := pgG s xs b a) (by simp [pgG, msB, h2])
      have eN := Lib.hid eN
      have eD := Lib.hid eD
      have eO := Lib.hid eO
      go_enter Try.func14, Try.ntmps14
      go_wp2_with fail
      rw [← HWW.out]
      refine (isMass_any _ _ _ _ _ (hx.below bW) hxm).mono ?_
      rintro e w1 ⟨rfl, hb⟩
      replace b0 := b0.later hb
      have b0_0 := b0.c0
      have b0_1 := b0.c1
      replace bR := bR.later hb
      have bR_0 := bR.c0
      have bR_1 := bR.c1
      replace bW := bW.thenB hb
      have z1 := hb.size
      clear hb
      go_wp2_with fail
      refine (isSetOf_any _ _ _ k1 k4).mono ?_
      rintro e w' ⟨rfl, rfl⟩
      have s0 := bR.c0
      have s1 := bR.c1
      have s2 := bR.f0
      have s3 := bR.f1
      go_wp2
      refine bodyPost_ret (v := .tuple #[.agg #[.int .i64 (0), .int .i64 (0)], .bool (false)]) (by simp [results, Try.results14, go_sem, s0, s1, s2, s3]) rfl ⟨by rw [eN.out, eD.out, eO.out], ?_⟩
      exact ((bW).setCell (by show _ ≤ w.heap.size + 1; omega) _).setCell (by show _ ≤ w.heap.size + 1; omega) _
    · cases h3 : setB s b
      · skip
        obtain ⟨eN, eD, eO⟩ := fNo (num := possS a.toNat xs - possS (dif a.toNat b.toNat) xs) (den := possS a.toNat xs) (g := pgG s xs b a) (by simp [pgG, msB, h3])
        have eN := Lib.hid eN
        have eD := Lib.hid eD
        have eO := Lib.hid eO
        go_enter Try.func14, Try.ntmps14
        go_wp2_with fail
        rw [← HWW.out]
        refine (isMass_any _ _ _ _ _ (hx.below bW) hxm).mono ?_
        rintro e w1 ⟨rfl, hb⟩
        replace b0 := b0.later hb
        have b0_0 := b0.c0
        have b0_1 := b0.c1
        replace bR := bR.later hb
        have bR_0 := bR.c0
        have bR_1 := bR.c1
        replace bW := bW.thenB hb
        have z1 := hb.size
        clear hb
        go_wp2_with fail
        refine (isSetOf_any _ _ _ k1 k4).mono ?_
        rintro e w' ⟨rfl, rfl⟩
        go_wp2_with fail
        refine (isSetOf_any _ _ _ k1 k4).mono ?_
        rintro e w' ⟨rfl, rfl⟩
        have s0 := bR.c0
        have s1 := bR.c1
        have s2 := bR.f0
        have s3 := bR.f1
        go_wp2
        refine bodyPost_ret (v := .tuple #[.agg #[.int .i64 (0), .int .i64 (0)], .bool (false)]) (by simp [results, Try.results14, go_sem, s0, s1, s2, s3]) rfl ⟨by rw [eN.out, eD.out, eO.out], ?_⟩
        exact ((bW).setCell (by show _ ≤ w.heap.size + 1; omega) _).setCell (by show _ ≤ w.heap.size + 1; omega) _
      · obtain ⟨na, rfl, ha16, _⟩ := setB_nat k1 k4 h2
        obtain ⟨nb, rfl, hb16, _⟩ := setB_nat k1 k4 h3
        have e2 : msB s xs na = true := by simp [msB, h1, h2]
        have e3 : msB s xs nb = true := by simp [msB, h1, h3]
        simp only [Int.toNat_natCast]
        have hx16 := hk.l16
        have hal := hk.all
        have hand := and_nat na nb ha16 hb16
        have hdif := dif_nat na nb ha16 hb16
        have ha2 := and_lt16 na nb ha16
        have ha3 := dif_lt na nb ha16
        obtain ⟨u1, u2⟩ := possS_bd na hk
        obtain ⟨u3, u4⟩ := possS_bd (na &&& nb) hk
        obtain ⟨u5, u6⟩ := possS_bd (dif na nb) hk
        obtain ⟨u7, u8⟩ := implS_bd na hk
        obtain ⟨u9, v1⟩ := implS_bd (na &&& nb) hk
        cases hz : (possS na xs == 0)
        · have hz0 : ¬ possS na xs = 0 := beq_eq_false_iff_ne.1 hz
          obtain ⟨eN, eD, eO⟩ := fYes (num := possS na xs - possS (dif na nb) xs) (den := possS na xs) (g := pgG s xs nb na) (by simp [pgG, e2, e3, hz])
          have eN := Lib.hid eN
          have eD := Lib.hid eD
          have eO := Lib.hid eO
          go_enter Try.func14, Try.ntmps14
          go_wp2_with fail
          rw [← HWW.out]
          refine (isMass_any _ _ _ _ _ (hx.below bW) hxm).mono ?_
          rintro e w1 ⟨rfl, hb⟩
          replace b0 := b0.later hb
          have b0_0 := b0.c0
          have b0_1 := b0.c1
          replace bR := bR.later hb
          have bR_0 := bR.c0
          have bR_1 := bR.c1
          replace bW := bW.thenB hb
          have z1 := hb.size
          clear hb
          go_wp2_with fail
          refine (isSetOf_any _ _ _ k1 k4).mono ?_
          rintro e w' ⟨rfl, rfl⟩
          go_wp2_with fail
          refine (isSetOf_any _ _ _ k1 k4).mono ?_
          rintro e w' ⟨rfl, rfl⟩
          go_wp2_with fail
          refine (iPoss_any _ _ _ _ (na) _ (hx.below bW) hx16 (by omega) hal).mono ?_
          rintro e w2 ⟨rfl, hb⟩
          clear b0_0 b0_1 bR_0 bR_1
          replace b0 := b0.later hb
          have b0_0 := b0.c0
          have b0_1 := b0.c1
          replace bR := bR.later hb
          have bR_0 := bR.c0
          have bR_1 := bR.c1
          replace bW := bW.thenB hb
          have z2 := hb.size
          clear hb
          have hwr : IntKind.i64.wrap (possS na xs - possS (dif na nb) xs) = possS na xs - possS (dif na nb) xs := wrapIn _ (by omega) (by omega)
          go_wp2_with fail
          have tk2_0 : True := trivial
          have tk3_1 : True := trivial
          have tk4_2 : True := trivial
          have tk5_3 : True := trivial
          go_region_held3 (fun w' => w'.cell? ⟨w.heap.size, 0, none⟩ = some (.int .i64 s) ∧ w'.cell? ⟨w.heap.size, 1, none⟩ = some (.slice p xs.length c))
            (first | exact ⟨b0_0, b0_1⟩ | exact ⟨cellStore2 b0_0 (by omega), cellStore2 b0_1 (by omega)⟩)
            (first
              | (go_at_call 67; have _t := tk2_0; (with_reducible refine (iPoss_any _ _ _ _ (na) _ (by first | exact hx.below bW | exact ReadsK.drew (hx.below bW)) hx16 (by omega) hal).mono ?_); rintro e w3 ⟨rfl, hb⟩; (replace hb := undrew hb); clear b0_0 b0_1 bR_0 bR_1; (replace b0 := b0.later hb); (have b0_0 := b0.c0); (have b0_1 := b0.c1); (replace bR := bR.later hb); (have bR_0 := bR.c0); (have bR_1 := bR.c1); (replace bW := bW.thenB hb); (have z3 := hb.size); clear hb; clear tk2_0 _t)
              | (go_at_call 67; have _t := tk3_1; (with_reducible refine (iPoss_any _ _ _ _ (dif na nb) _ (by first | exact hx.below bW | exact ReadsK.drew (hx.below bW)) hx16 (by omega) hal).mono ?_); rintro e w4 ⟨rfl, hb⟩; clear b0_0 b0_1 bR_0 bR_1; (replace b0 := b0.later hb); (have b0_0 := b0.c0); (have b0_1 := b0.c1); (replace bR := bR.later hb); (have bR_0 := bR.c0); (have bR_1 := bR.c1); (replace bW := bW.thenB hb); (have z4 := hb.size); clear hb; clear tk3_1 _t)
              | (go_at_call 67; have _t := tk4_2; (with_reducible refine (iPoss_any _ _ _ _ (na) _ (by first | exact hx.below bW | exact ReadsK.drew (hx.below bW)) hx16 (by omega) hal).mono ?_); rintro e w5 ⟨rfl, hb⟩; clear b0_0 b0_1 bR_0 bR_1; (replace b0 := b0.later hb); (have b0_0 := b0.c0); (have b0_1 := b0.c1); (replace bR := bR.later hb); (have bR_0 := bR.c0); (have bR_1 := bR.c1); (replace bW := bW.thenB hb); (have z5 := hb.size); clear hb; clear tk4_2 _t)
              | (go_at_call 66; have _t := tk5_3; (with_reducible refine (lowest_any (possS na xs - possS (dif na nb) xs) (possS na xs) _ (by omega) (by omega) (by omega) (by omega) hz0).mono ?_); rintro e w6 ⟨rfl, hb⟩; clear b0_0 b0_1 bR_0 bR_1; (replace b0 := b0.later hb); (have b0_0 := b0.c0); (have b0_1 := b0.c1); (replace bR := bR.later hb); (have bR_0 := bR.c0); (have bR_1 := bR.c1); (replace bW := bW.thenB hb); (have z6 := hb.size); clear hb; (have s0 := bR.c0); (have s1 := bR.c1); (have s2 := bR.f0); (have s3 := bR.f1); clear tk5_3 _t))
          go_wp2
          refine bodyPost_ret (v := .tuple #[.agg #[.int .i64 (lowN (possS na xs - possS (dif na nb) xs) (possS na xs)), .int .i64 (lowD (possS na xs - possS (dif na nb) xs) (possS na xs))], .bool (lowOk (possS na xs - possS (dif na nb) xs) (possS na xs))]) (by simp [results, Try.results14, go_sem, s0, s1, s2, s3]) rfl ⟨by rw [eN.out, eD.out, eO.out], ?_⟩
          exact ((bW).setCell (by show _ ≤ w.heap.size + 1; omega) _).setCell (by show _ ≤ w.heap.size + 1; omega) _
        · skip
          obtain ⟨eN, eD, eO⟩ := fNo (num := possS na xs - possS (dif na nb) xs) (den := possS na xs) (g := pgG s xs nb na) (by simp [pgG, e2, e3, hz])
          have eN := Lib.hid eN
          have eD := Lib.hid eD
          have eO := Lib.hid eO
          go_enter Try.func14, Try.ntmps14
          go_wp2_with fail
          rw [← HWW.out]
          refine (isMass_any _ _ _ _ _ (hx.below bW) hxm).mono ?_
          rintro e w1 ⟨rfl, hb⟩
          replace b0 := b0.later hb
          have b0_0 := b0.c0
          have b0_1 := b0.c1
          replace bR := bR.later hb
          have bR_0 := bR.c0
          have bR_1 := bR.c1
          replace bW := bW.thenB hb
          have z1 := hb.size
          clear hb
          go_wp2_with fail
          refine (isSetOf_any _ _ _ k1 k4).mono ?_
          rintro e w' ⟨rfl, rfl⟩
          go_wp2_with fail
          refine (isSetOf_any _ _ _ k1 k4).mono ?_
          rintro e w' ⟨rfl, rfl⟩
          go_wp2_with fail
          refine (iPoss_any _ _ _ _ (na) _ (hx.below bW) hx16 (by omega) hal).mono ?_
          rintro e w2 ⟨rfl, hb⟩
          clear b0_0 b0_1 bR_0 bR_1
          replace b0 := b0.later hb
          have b0_0 := b0.c0
          have b0_1 := b0.c1
          replace bR := bR.later hb
          have bR_0 := bR.c0
          have bR_1 := bR.c1
          replace bW := bW.thenB hb
          have z2 := hb.size
          clear hb
          have s0 := bR.c0
          have s1 := bR.c1
          have s2 := bR.f0
          have s3 := bR.f1
          go_wp2
          refine bodyPost_ret (v := .tuple #[.agg #[.int .i64 (0), .int .i64 (0)], .bool (false)]) (by simp [results, Try.results14, go_sem, s0, s1, s2, s3]) rfl ⟨by rw [eN.out, eD.out, eO.out], ?_⟩
          exact ((bW).setCell (by show _ ≤ w.heap.size + 1; omega) _).setCell (by show _ ≤ w.heap.size + 1; omega) _

/-- All other answers. -/
def othP (s : Int) (xs : List Int) (b : Int) : Int := if msB s xs b = true then xs.length - 1 - b else -1

theorem othNo {s : Int} {xs : List Int} {b : Int} (h : msB s xs b = false) : othP s xs b = -1 := by simp [othP, h]

theorem othYes {s : Int} {xs : List Int} {b : Int} (h : msB s xs b = true) : othP s xs b = xs.length - 1 - b := by simp [othP, h]

end Go.Proofs.Ytkpnenbkfphldaa
