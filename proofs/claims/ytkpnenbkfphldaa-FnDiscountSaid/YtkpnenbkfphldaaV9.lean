/- Normal masses, and the least chance of a set among cases of another one: both packages. -/
import Derived.Test.YtkpnenbkfphldaaV7
import Derived.Test.YtkpnenbkfphldaaP5
set_option linter.unusedVariables false
set_option linter.unusedSimpArgs false
namespace Go.Proofs.Ytkpnenbkfphldaa
open Go.RowKit

/-- A valid mass with nothing for the empty set. -/
def normB (s : Int) (xs : List Int) : Bool := massB s xs && nth xs 0 == 0

set_option maxHeartbeats 1000000 in
theorem isNormal_any (s : Int) (p : Option Addr) (c : Nat) (xs : List Int) (w : World) (hx : Reads w p xs) (hxm : xs.length ≤ 1048576) :
    Calls Try.prog 63 #[.agg #[.int .i64 s, .slice p xs.length c]] w fun e w' => e = .returned (.bool (normB s xs)) ∧ Below w.heap.size w w' := by
  obtain ⟨W, hW⟩ : ∃ W : World, W = (w.alloc (.cells #[.int .i64 s, .slice p xs.length c] 25)) := ⟨_, rfl⟩
  have bW : Below w.heap.size w W := by subst hW; exact (belowAlloc _ _)
  have hsz : W.heap.size = w.heap.size + 1 := by subst hW; simp
  have b0 : VarInv W (w.heap.size) (s) (.slice p xs.length c) := by
    subst hW
    have h := VarInv.made w (s) (.slice p xs.length c) 25
    exact h
  have HWW := Lib.hid hW
  have HSZ := Lib.hid hsz
  clear hW hsz
  cases h1 : massB s xs
  · have hr : Hid (normB s xs = false) := Lib.hid (by simp [normB, h1])
    go_enter Try.func63, Try.ntmps63
    go_wp2_with fail
    rw [← HWW.out]
    refine (isMass_any _ _ _ _ _ (hx.below bW) hxm).mono ?_
    rintro e w1 ⟨rfl, hb⟩
    replace b0 := b0.later hb
    have b0_0 := b0.c0
    have b0_1 := b0.c1
    replace bW := bW.thenB hb
    have z1 := hb.size
    clear hb
    go_wp2
    go_ret
    exact ⟨ret_bool hr.out.symm, bW⟩
  · have hr : Hid (normB s xs = (nth xs 0 == 0)) := Lib.hid (by simp [normB, h1])
    have hlen : 0 < xs.length := by have := (massB_ok h1).len; have := pow2_bd s (massB_ok h1).s1 (massB_ok h1).s4; omega
    go_enter Try.func63, Try.ntmps63
    go_wp2_with fail
    rw [← HWW.out]
    refine (isMass_any _ _ _ _ _ (hx.below bW) hxm).mono ?_
    rintro e w1 ⟨rfl, hb⟩
    replace b0 := b0.later hb
    have b0_0 := b0.c0
    have b0_1 := b0.c1
    replace bW := bW.thenB hb
    have z1 := hb.size
    clear hb
    have hx2 := hx.below bW
    obtain ⟨blk, off, rfl, hbl, hc⟩ := hx2 0 hlen
    simp only [Nat.add_zero] at hc hbl
    clear hx2
    go_wp2
    go_ret
    exact ⟨ret_bool hr.out.symm, bW⟩

set_option maxHeartbeats 1000000 in
theorem IsNormal_any (s : Int) (p : Option Addr) (c : Nat) (xs : List Int) (w : World) (hx : Reads w p xs) (hxm : xs.length ≤ 1048576) :
    Calls Try.prog 69 #[.agg #[.int .i64 s, .slice p xs.length c]] w fun e w' => e = .returned (.bool (normB s xs)) ∧ Below w.heap.size w w' := by
  obtain ⟨W, hW⟩ : ∃ W : World, W = (w.alloc (.cells #[.int .i64 s, .slice p xs.length c] 25)) := ⟨_, rfl⟩
  have bW : Below w.heap.size w W := by subst hW; exact (belowAlloc _ _)
  have hsz : W.heap.size = w.heap.size + 1 := by subst hW; simp
  have b0 : VarInv W (w.heap.size) (s) (.slice p xs.length c) := by
    subst hW
    have h := VarInv.made w (s) (.slice p xs.length c) 25
    exact h
  have HWW := Lib.hid hW
  have HSZ := Lib.hid hsz
  clear hW hsz
  cases h1 : massB s xs
  · have hr : Hid (normB s xs = false) := Lib.hid (by simp [normB, h1])
    go_enter Try.func69, Try.ntmps69
    go_wp2_with fail
    rw [← HWW.out]
    refine (MassValid_any _ _ _ _ _ (hx.below bW) hxm).mono ?_
    rintro e w1 ⟨rfl, hb⟩
    replace b0 := b0.later hb
    have b0_0 := b0.c0
    have b0_1 := b0.c1
    replace bW := bW.thenB hb
    have z1 := hb.size
    clear hb
    go_wp2
    go_ret
    exact ⟨ret_bool hr.out.symm, bW⟩
  · have hr : Hid (normB s xs = (nth xs 0 == 0)) := Lib.hid (by simp [normB, h1])
    have hlen : 0 < xs.length := by have := (massB_ok h1).len; have := pow2_bd s (massB_ok h1).s1 (massB_ok h1).s4; omega
    go_enter Try.func69, Try.ntmps69
    go_wp2_with fail
    rw [← HWW.out]
    refine (MassValid_any _ _ _ _ _ (hx.below bW) hxm).mono ?_
    rintro e w1 ⟨rfl, hb⟩
    replace b0 := b0.later hb
    have b0_0 := b0.c0
    have b0_1 := b0.c1
    replace bW := bW.thenB hb
    have z1 := hb.size
    clear hb
    have hx2 := hx.below bW
    obtain ⟨blk, off, rfl, hbl, hc⟩ := hx2 0 hlen
    simp only [Nat.add_zero] at hc hbl
    clear hx2
    go_wp2
    go_ret
    exact ⟨ret_bool hr.out.symm, bW⟩

/-- How much is implied. -/
def imS (a : Nat) (xs : List Int) : Int := sumTo (inSet a) xs xs.length

theorem imS_bd (a : Nat) {s : Int} {xs : List Int} (h : MassOk s xs) : 0 ≤ imS a xs ∧ imS a xs ≤ 16000000 := by
  have := sumTo_bd (inSet a) xs h.all (by omega) xs.length (Nat.le_refl _)
  have := h.l16
  unfold imS; omega

theorem iImpl_any (s : Int) (p : Option Addr) (c : Nat) (xs : List Int) (a : Nat) (w : World) (hx : Reads w p xs) (hxm : xs.length ≤ 16) (ha : a < 16) (hr : allB 0 1000000 xs = true) :
    Calls Try.prog 65 #[.agg #[.int .i64 s, .slice p xs.length c], .int .i64 a] w fun e w' => e = .returned (.int .i64 (imS a xs)) ∧ Below w.heap.size w w' := impliedPart_any s p c xs a w hx hxm ha hr

theorem sImpl_any (s : Int) (p : Option Addr) (c : Nat) (xs : List Int) (a : Nat) (w : World) (hx : Reads w p xs) (hxm : xs.length ≤ 16) (ha : a < 16) (hr : allB 0 1000000 xs = true) :
    Calls Try.prog 70 #[.agg #[.int .i64 s, .slice p xs.length c], .int .i64 a] w fun e w' => e = .returned (.int .i64 (imS a xs)) ∧ Below w.heap.size w w' := l4Implied_any s p c xs a w hx hxm ha hr

theorem within_bits : ∀ a b k : Fin 16, inSet a.val k.val = true → inSet (a.val &&& b.val) k.val = true ∨ meetB (dif a.val b.val) k.val = true := by decide +kernel

/-- What is implied is implied by the common part, or possible with the rest. -/
theorem low_pos (a b : Nat) (ha : a < 16) (hb : b < 16) (xs : List Int) (h : allB 0 1000000 xs = true) (hx : xs.length ≤ 16) : ∀ k, k ≤ xs.length → sumTo (inSet a) xs k ≤ sumTo (inSet (a &&& b)) xs k + sumTo (meetB (dif a b)) xs k := by
  intro k hk
  induction k with
  | zero => simp [sumTo]
  | succ k ih =>
    have h1 := ih (by omega)
    have h2 := allB_nth h k (by omega)
    have h3 := within_bits ⟨a, ha⟩ ⟨b, hb⟩ ⟨k, by omega⟩
    rw [sumTo_succ, sumTo_succ, sumTo_succ]
    cases hm : inSet a k
    · cases h4 : inSet (a &&& b) k <;> cases h5 : meetB (dif a b) k <;> simp <;> omega
    · rcases h3 hm with h4 | h4
      · cases h5 : meetB (dif a b) k <;> simp [show inSet (a &&& b) k = true from h4] <;> omega
      · cases h5 : inSet (a &&& b) k <;> simp [show meetB (dif a b) k = true from h4] <;> omega

def lgG (s : Int) (xs : List Int) (b a : Int) : Bool := normB s xs && (setB s a && (setB s b && !(imS a.toNat xs == 0)))

set_option maxHeartbeats 4000000 in
theorem iLowestGiven_any (s : Int) (p : Option Addr) (c : Nat) (xs : List Int) (b a : Int) (w : World) (hx : Reads w p xs) (hxm : xs.length ≤ 1048576) :
    Calls Try.prog 12 #[.agg #[.int .i64 s, .slice p xs.length c], .int .i64 b, .int .i64 a] w fun e w' => e = .returned (.tuple #[.agg #[.int .i64 (fN (lgG s xs b a) (imS (a.toNat &&& b.toNat) xs) (imS (a.toNat &&& b.toNat) xs + possS (dif a.toNat b.toNat) xs)), .int .i64 (fD (lgG s xs b a) (imS (a.toNat &&& b.toNat) xs) (imS (a.toNat &&& b.toNat) xs + possS (dif a.toNat b.toNat) xs))], .bool (fOk (lgG s xs b a) (imS (a.toNat &&& b.toNat) xs) (imS (a.toNat &&& b.toNat) xs + possS (dif a.toNat b.toNat) xs))]) ∧ Below w.heap.size w w' := by
  obtain ⟨W, hW⟩ : ∃ W : World, W = ((w.alloc (.cells #[.int .i64 s, .slice p xs.length c] 25)).alloc (.cells #[.int .i64 0, .int .i64 0] 29)) := ⟨_, rfl⟩
  have bW : Below w.heap.size w W := by subst hW; exact (belowAlloc _ _).thenB (belowAlloc _ _)
  have hsz : W.heap.size = w.heap.size + 2 := by subst hW; simp
  have b0 : VarInv W (w.heap.size) (s) (.slice p xs.length c) := by
    subst hW
    have h := VarInv.made w (s) (.slice p xs.length c) 25
    exact (h).later (belowAlloc _ _)
  have bR : VarInv W (w.heap.size + 1) (0) (.int .i64 0) := by
    subst hW
    have h := VarInv.made (w.alloc (.cells #[.int .i64 s, .slice p xs.length c] 25)) (0) (.int .i64 0) 29
    rw [show (w.alloc (.cells #[.int .i64 s, .slice p xs.length c] 25)).heap.size = w.heap.size + 1 by simp] at h
    exact h
  have HWW := Lib.hid hW
  have HSZ := Lib.hid hsz
  clear hW hsz
  cases h1 : normB s xs
  · skip
    obtain ⟨eN, eD, eO⟩ := fNo (num := imS (a.toNat &&& b.toNat) xs) (den := imS (a.toNat &&& b.toNat) xs + possS (dif a.toNat b.toNat) xs) (g := lgG s xs b a) (by simp [lgG, h1])
    have eN := Lib.hid eN
    have eD := Lib.hid eD
    have eO := Lib.hid eO
    go_enter Try.func12, Try.ntmps12
    go_wp2_with fail
    rw [← HWW.out]
    refine (isNormal_any _ _ _ _ _ (hx.below bW) hxm).mono ?_
    rintro e w1 ⟨rfl, hb⟩
    replace b0 := b0.later hb
    have b0_0 := b0.c0
    have b0_1 := b0.c1
    replace bR := bR.later hb
    have bR_0 := bR.c0
    have bR_1 := bR.c1
    replace bW := bW.thenB hb
    have z1 := hb.size
    clear hb
    have s0 := bR.c0
    have s1 := bR.c1
    have s2 := bR.f0
    have s3 := bR.f1
    go_wp2
    refine bodyPost_ret (v := .tuple #[.agg #[.int .i64 (0), .int .i64 (0)], .bool (false)]) (by simp [results, Try.results12, go_sem, s0, s1, s2, s3]) rfl ⟨by rw [eN.out, eD.out, eO.out], ?_⟩
    exact ((bW).setCell (by show _ ≤ w.heap.size + 1; omega) _).setCell (by show _ ≤ w.heap.size + 1; omega) _
  · have hk := massB_ok (s := s) (xs := xs) (by simp [normB] at h1; exact h1.1)
    have k1 := hk.s1
    have k4 := hk.s4
    cases h2 : setB s a
    · skip
      obtain ⟨eN, eD, eO⟩ := fNo (num := imS (a.toNat &&& b.toNat) xs) (den := imS (a.toNat &&& b.toNat) xs + possS (dif a.toNat b.toNat) xs) (g := lgG s xs b a) (by simp [lgG, h2])
      have eN := Lib.hid eN
      have eD := Lib.hid eD
      have eO := Lib.hid eO
      go_enter Try.func12, Try.ntmps12
      go_wp2_with fail
      rw [← HWW.out]
      refine (isNormal_any _ _ _ _ _ (hx.below bW) hxm).mono ?_
      rintro e w1 ⟨rfl, hb⟩
      replace b0 := b0.later hb
      have b0_0 := b0.c0
      have b0_1 := b0.c1
      replace bR := bR.later hb
      have bR_0 := bR.c0
      have bR_1 := bR.c1
      replace bW := bW.thenB hb
      have z1 := hb.size
      clear hb
      go_wp2_with fail
      refine (isSetOf_any _ _ _ k1 k4).mono ?_
      rintro e w' ⟨rfl, rfl⟩
      have s0 := bR.c0
      have s1 := bR.c1
      have s2 := bR.f0
      have s3 := bR.f1
      go_wp2
      refine bodyPost_ret (v := .tuple #[.agg #[.int .i64 (0), .int .i64 (0)], .bool (false)]) (by simp [results, Try.results12, go_sem, s0, s1, s2, s3]) rfl ⟨by rw [eN.out, eD.out, eO.out], ?_⟩
      exact ((bW).setCell (by show _ ≤ w.heap.size + 1; omega) _).setCell (by show _ ≤ w.heap.size + 1; omega) _
    · cases h3 : setB s b
      · skip
        obtain ⟨eN, eD, eO⟩ := fNo (num := imS (a.toNat &&& b.toNat) xs) (den := imS (a.toNat &&& b.toNat) xs + possS (dif a.toNat b.toNat) xs) (g := lgG s xs b a) (by simp [lgG, h3])
        have eN := Lib.hid eN
        have eD := Lib.hid eD
        have eO := Lib.hid eO
        go_enter Try.func12, Try.ntmps12
        go_wp2_with fail
        rw [← HWW.out]
        refine (isNormal_any _ _ _ _ _ (hx.below bW) hxm).mono ?_
        rintro e w1 ⟨rfl, hb⟩
        replace b0 := b0.later hb
        have b0_0 := b0.c0
        have b0_1 := b0.c1
        replace bR := bR.later hb
        have bR_0 := bR.c0
        have bR_1 := bR.c1
        replace bW := bW.thenB hb
        have z1 := hb.size
        clear hb
        go_wp2_with fail
        refine (isSetOf_any _ _ _ k1 k4).mono ?_
        rintro e w' ⟨rfl, rfl⟩
        go_wp2_with fail
        refine (isSetOf_any _ _ _ k1 k4).mono ?_
        rintro e w' ⟨rfl, rfl⟩
        have s0 := bR.c0
        have s1 := bR.c1
        have s2 := bR.f0
        have s3 := bR.f1
        go_wp2
        refine bodyPost_ret (v := .tuple #[.agg #[.int .i64 (0), .int .i64 (0)], .bool (false)]) (by simp [results, Try.results12, go_sem, s0, s1, s2, s3]) rfl ⟨by rw [eN.out, eD.out, eO.out], ?_⟩
        exact ((bW).setCell (by show _ ≤ w.heap.size + 1; omega) _).setCell (by show _ ≤ w.heap.size + 1; omega) _
      · skip
        obtain ⟨na, rfl, ha16, _⟩ := setB_nat k1 k4 h2
        obtain ⟨nb, rfl, hb16, _⟩ := setB_nat k1 k4 h3
        simp only [Int.toNat_natCast]
        have hx16 := hk.l16
        have hal := hk.all
        have hand := and_nat na nb ha16 hb16
        have hdif := dif_nat na nb ha16 hb16
        have ha2 := and_lt16 na nb ha16
        have ha3 := dif_lt na nb ha16
        obtain ⟨u1, u2⟩ := imS_bd na hk
        obtain ⟨u3, u4⟩ := imS_bd (na &&& nb) hk
        obtain ⟨u5, u6⟩ := possS_bd (dif na nb) hk
        have u7 : imS na xs ≤ imS (na &&& nb) xs + possS (dif na nb) xs := low_pos na nb ha16 hb16 xs hal hx16 _ (Nat.le_refl _)
        have hwr : IntKind.i64.wrap (imS (na &&& nb) xs + possS (dif na nb) xs) = imS (na &&& nb) xs + possS (dif na nb) xs := wrapIn _ (by omega) (by omega)
        cases hz : (imS na xs == 0)
        · have hz0 : ¬ imS na xs = 0 := beq_eq_false_iff_ne.1 hz
          obtain ⟨eN, eD, eO⟩ := fYes (num := imS (na &&& nb) xs) (den := (imS (na &&& nb) xs + possS (dif na nb) xs)) (g := lgG s xs nb na) (by simp [lgG, h1, h2, h3, hz])
          have eN := Lib.hid eN
          have eD := Lib.hid eD
          have eO := Lib.hid eO
          have hd0 : ¬ (imS (na &&& nb) xs + possS (dif na nb) xs) = 0 := by omega
          go_enter Try.func12, Try.ntmps12
          go_wp2_with fail
          rw [← HWW.out]
          refine (isNormal_any _ _ _ _ _ (hx.below bW) hxm).mono ?_
          rintro e w1 ⟨rfl, hb⟩
          replace b0 := b0.later hb
          have b0_0 := b0.c0
          have b0_1 := b0.c1
          replace bR := bR.later hb
          have bR_0 := bR.c0
          have bR_1 := bR.c1
          replace bW := bW.thenB hb
          have z1 := hb.size
          clear hb
          go_wp2_with fail
          refine (isSetOf_any _ _ _ k1 k4).mono ?_
          rintro e w' ⟨rfl, rfl⟩
          go_wp2_with fail
          refine (isSetOf_any _ _ _ k1 k4).mono ?_
          rintro e w' ⟨rfl, rfl⟩
          go_wp2_with fail
          refine (iImpl_any _ _ _ _ (na) _ (hx.below bW) hx16 (by omega) hal).mono ?_
          rintro e w2 ⟨rfl, hb⟩
          clear b0_0 b0_1 bR_0 bR_1
          replace b0 := b0.later hb
          have b0_0 := b0.c0
          have b0_1 := b0.c1
          replace bR := bR.later hb
          have bR_0 := bR.c0
          have bR_1 := bR.c1
          replace bW := bW.thenB hb
          have z2 := hb.size
          clear hb
          go_wp2_with fail
          refine (iImpl_any _ _ _ _ (na &&& nb) _ (hx.below bW) hx16 (by omega) hal).mono ?_
          rintro e w3 ⟨rfl, hb⟩
          clear b0_0 b0_1 bR_0 bR_1
          replace b0 := b0.later hb
          have b0_0 := b0.c0
          have b0_1 := b0.c1
          replace bR := bR.later hb
          have bR_0 := bR.c0
          have bR_1 := bR.c1
          replace bW := bW.thenB hb
          have z3 := hb.size
          clear hb
          go_wp2_with fail
          refine (iPoss_any _ _ _ _ (dif na nb) _ (hx.below bW) hx16 (by omega) hal).mono ?_
          rintro e w4 ⟨rfl, hb⟩
          clear b0_0 b0_1 bR_0 bR_1
          replace b0 := b0.later hb
          have b0_0 := b0.c0
          have b0_1 := b0.c1
          replace bR := bR.later hb
          have bR_0 := bR.c0
          have bR_1 := bR.c1
          replace bW := bW.thenB hb
          have z4 := hb.size
          clear hb
          go_wp2_with fail
          refine (lowest_any (imS (na &&& nb) xs) (imS (na &&& nb) xs + possS (dif na nb) xs) _ (by omega) (by omega) (by omega) (by omega) hd0).mono ?_
          rintro e w5 ⟨rfl, hb⟩
          clear b0_0 b0_1 bR_0 bR_1
          replace b0 := b0.later hb
          have b0_0 := b0.c0
          have b0_1 := b0.c1
          replace bR := bR.later hb
          have bR_0 := bR.c0
          have bR_1 := bR.c1
          replace bW := bW.thenB hb
          have z5 := hb.size
          clear hb
          have s0 := bR.c0
          have s1 := bR.c1
          have s2 := bR.f0
          have s3 := bR.f1
          go_wp2
          refine bodyPost_ret (v := .tuple #[.agg #[.int .i64 (lowN (imS (na &&& nb) xs) (imS (na &&& nb) xs + possS (dif na nb) xs)), .int .i64 (lowD (imS (na &&& nb) xs) (imS (na &&& nb) xs + possS (dif na nb) xs))], .bool (lowOk (imS (na &&& nb) xs) (imS (na &&& nb) xs + possS (dif na nb) xs))]) (by simp [results, Try.results12, go_sem, s0, s1, s2, s3]) rfl ⟨by rw [eN.out, eD.out, eO.out], ?_⟩
          exact ((bW).setCell (by show _ ≤ w.heap.size + 1; omega) _).setCell (by show _ ≤ w.heap.size + 1; omega) _
        · skip
          obtain ⟨eN, eD, eO⟩ := fNo (num := imS (na &&& nb) xs) (den := (imS (na &&& nb) xs + possS (dif na nb) xs)) (g := lgG s xs nb na) (by simp [lgG, h1, h2, h3, hz])
          have eN := Lib.hid eN
          have eD := Lib.hid eD
          have eO := Lib.hid eO
          go_enter Try.func12, Try.ntmps12
          go_wp2_with fail
          rw [← HWW.out]
          refine (isNormal_any _ _ _ _ _ (hx.below bW) hxm).mono ?_
          rintro e w1 ⟨rfl, hb⟩
          replace b0 := b0.later hb
          have b0_0 := b0.c0
          have b0_1 := b0.c1
          replace bR := bR.later hb
          have bR_0 := bR.c0
          have bR_1 := bR.c1
          replace bW := bW.thenB hb
          have z1 := hb.size
          clear hb
          go_wp2_with fail
          refine (isSetOf_any _ _ _ k1 k4).mono ?_
          rintro e w' ⟨rfl, rfl⟩
          go_wp2_with fail
          refine (isSetOf_any _ _ _ k1 k4).mono ?_
          rintro e w' ⟨rfl, rfl⟩
          go_wp2_with fail
          refine (iImpl_any _ _ _ _ (na) _ (hx.below bW) hx16 (by omega) hal).mono ?_
          rintro e w2 ⟨rfl, hb⟩
          clear b0_0 b0_1 bR_0 bR_1
          replace b0 := b0.later hb
          have b0_0 := b0.c0
          have b0_1 := b0.c1
          replace bR := bR.later hb
          have bR_0 := bR.c0
          have bR_1 := bR.c1
          replace bW := bW.thenB hb
          have z2 := hb.size
          clear hb
          have s0 := bR.c0
          have s1 := bR.c1
          have s2 := bR.f0
          have s3 := bR.f1
          go_wp2
          refine bodyPost_ret (v := .tuple #[.agg #[.int .i64 (0), .int .i64 (0)], .bool (false)]) (by simp [results, Try.results12, go_sem, s0, s1, s2, s3]) rfl ⟨by rw [eN.out, eD.out, eO.out], ?_⟩
          exact ((bW).setCell (by show _ ≤ w.heap.size + 1; omega) _).setCell (by show _ ≤ w.heap.size + 1; omega) _

set_option maxHeartbeats 4000000 in
theorem sLowestGiven_any (s : Int) (p : Option Addr) (c : Nat) (xs : List Int) (b a : Int) (w : World) (hx : Reads w p xs) (hxm : xs.length ≤ 1048576) :
    Calls Try.prog 13 #[.agg #[.int .i64 s, .slice p xs.length c], .int .i64 b, .int .i64 a] w fun e w' => e = .returned (.tuple #[.agg #[.int .i64 (fN (lgG s xs b a) (imS (a.toNat &&& b.toNat) xs) (imS (a.toNat &&& b.toNat) xs + possS (dif a.toNat b.toNat) xs)), .int .i64 (fD (lgG s xs b a) (imS (a.toNat &&& b.toNat) xs) (imS (a.toNat &&& b.toNat) xs + possS (dif a.toNat b.toNat) xs))], .bool (fOk (lgG s xs b a) (imS (a.toNat &&& b.toNat) xs) (imS (a.toNat &&& b.toNat) xs + possS (dif a.toNat b.toNat) xs))]) ∧ Below w.heap.size w w' := by
  obtain ⟨W, hW⟩ : ∃ W : World, W = ((w.alloc (.cells #[.int .i64 s, .slice p xs.length c] 25)).alloc (.cells #[.int .i64 0, .int .i64 0] 29)) := ⟨_, rfl⟩
  have bW : Below w.heap.size w W := by subst hW; exact (belowAlloc _ _).thenB (belowAlloc _ _)
  have hsz : W.heap.size = w.heap.size + 2 := by subst hW; simp
  have b0 : VarInv W (w.heap.size) (s) (.slice p xs.length c) := by
    subst hW
    have h := VarInv.made w (s) (.slice p xs.length c) 25
    exact (h).later (belowAlloc _ _)
  have bR : VarInv W (w.heap.size + 1) (0) (.int .i64 0) := by
    subst hW
    have h := VarInv.made (w.alloc (.cells #[.int .i64 s, .slice p xs.length c] 25)) (0) (.int .i64 0) 29
    rw [show (w.alloc (.cells #[.int .i64 s, .slice p xs.length c] 25)).heap.size = w.heap.size + 1 by simp] at h
    exact h
  have HWW := Lib.hid hW
  have HSZ := Lib.hid hsz
  clear hW hsz
  cases h0 : massB s xs
  · have e2 : msB s xs a = false := by simp [msB, h0]
    obtain ⟨eN, eD, eO⟩ := fNo (num := imS (a.toNat &&& b.toNat) xs) (den := imS (a.toNat &&& b.toNat) xs + possS (dif a.toNat b.toNat) xs) (g := lgG s xs b a) (by simp [lgG, normB, h0])
    have eN := Lib.hid eN
    have eD := Lib.hid eD
    have eO := Lib.hid eO
    go_enter Try.func13, Try.ntmps13
    go_wp2_with fail
    rw [← HWW.out]
    refine (l3Set_any _ _ _ _ _ _ (hx.below bW) hxm).mono ?_
    rintro e w1 ⟨rfl, hb⟩
    replace b0 := b0.later hb
    have b0_0 := b0.c0
    have b0_1 := b0.c1
    replace bR := bR.later hb
    have bR_0 := bR.c0
    have bR_1 := bR.c1
    replace bW := bW.thenB hb
    have z1 := hb.size
    clear hb
    have s0 := bR.c0
    have s1 := bR.c1
    have s2 := bR.f0
    have s3 := bR.f1
    go_wp2
    refine bodyPost_ret (v := .tuple #[.agg #[.int .i64 (0), .int .i64 (0)], .bool (false)]) (by simp [results, Try.results13, go_sem, s0, s1, s2, s3]) rfl ⟨by rw [eN.out, eD.out, eO.out], ?_⟩
    exact ((bW).setCell (by show _ ≤ w.heap.size + 1; omega) _).setCell (by show _ ≤ w.heap.size + 1; omega) _
  · have hk := massB_ok h0
    have k1 := hk.s1
    have k4 := hk.s4
    cases h2 : setB s a
    · have e2 : msB s xs a = false := by simp [msB, h2]
      obtain ⟨eN, eD, eO⟩ := fNo (num := imS (a.toNat &&& b.toNat) xs) (den := imS (a.toNat &&& b.toNat) xs + possS (dif a.toNat b.toNat) xs) (g := lgG s xs b a) (by simp [lgG, h2])
      have eN := Lib.hid eN
      have eD := Lib.hid eD
      have eO := Lib.hid eO
      go_enter Try.func13, Try.ntmps13
      go_wp2_with fail
      rw [← HWW.out]
      refine (l3Set_any _ _ _ _ _ _ (hx.below bW) hxm).mono ?_
      rintro e w1 ⟨rfl, hb⟩
      replace b0 := b0.later hb
      have b0_0 := b0.c0
      have b0_1 := b0.c1
      replace bR := bR.later hb
      have bR_0 := bR.c0
      have bR_1 := bR.c1
      replace bW := bW.thenB hb
      have z1 := hb.size
      clear hb
      have s0 := bR.c0
      have s1 := bR.c1
      have s2 := bR.f0
      have s3 := bR.f1
      go_wp2
      refine bodyPost_ret (v := .tuple #[.agg #[.int .i64 (0), .int .i64 (0)], .bool (false)]) (by simp [results, Try.results13, go_sem, s0, s1, s2, s3]) rfl ⟨by rw [eN.out, eD.out, eO.out], ?_⟩
      exact ((bW).setCell (by show _ ≤ w.heap.size + 1; omega) _).setCell (by show _ ≤ w.heap.size + 1; omega) _
    · have e2 : msB s xs a = true := by simp [msB, h0, h2]
      cases h3 : setB s b
      · have e3 : msB s xs b = false := by simp [msB, h3]
        obtain ⟨eN, eD, eO⟩ := fNo (num := imS (a.toNat &&& b.toNat) xs) (den := imS (a.toNat &&& b.toNat) xs + possS (dif a.toNat b.toNat) xs) (g := lgG s xs b a) (by simp [lgG, h3])
        have eN := Lib.hid eN
        have eD := Lib.hid eD
        have eO := Lib.hid eO
        go_enter Try.func13, Try.ntmps13
        go_wp2_with fail
        rw [← HWW.out]
        refine (l3Set_any _ _ _ _ _ _ (hx.below bW) hxm).mono ?_
        rintro e w1 ⟨rfl, hb⟩
        replace b0 := b0.later hb
        have b0_0 := b0.c0
        have b0_1 := b0.c1
        replace bR := bR.later hb
        have bR_0 := bR.c0
        have bR_1 := bR.c1
        replace bW := bW.thenB hb
        have z1 := hb.size
        clear hb
        go_wp2_with fail
        refine (l3Set_any _ _ _ _ _ _ (hx.below bW) hxm).mono ?_
        rintro e w2 ⟨rfl, hb⟩
        clear b0_0 b0_1 bR_0 bR_1
        replace b0 := b0.later hb
        have b0_0 := b0.c0
        have b0_1 := b0.c1
        replace bR := bR.later hb
        have bR_0 := bR.c0
        have bR_1 := bR.c1
        replace bW := bW.thenB hb
        have z2 := hb.size
        clear hb
        have s0 := bR.c0
        have s1 := bR.c1
        have s2 := bR.f0
        have s3 := bR.f1
        go_wp2
        refine bodyPost_ret (v := .tuple #[.agg #[.int .i64 (0), .int .i64 (0)], .bool (false)]) (by simp [results, Try.results13, go_sem, s0, s1, s2, s3]) rfl ⟨by rw [eN.out, eD.out, eO.out], ?_⟩
        exact ((bW).setCell (by show _ ≤ w.heap.size + 1; omega) _).setCell (by show _ ≤ w.heap.size + 1; omega) _
      · have e3 : msB s xs b = true := by simp [msB, h0, h3]
        cases h1 : normB s xs
        · skip
          obtain ⟨eN, eD, eO⟩ := fNo (num := imS (a.toNat &&& b.toNat) xs) (den := imS (a.toNat &&& b.toNat) xs + possS (dif a.toNat b.toNat) xs) (g := lgG s xs b a) (by simp [lgG, h1])
          have eN := Lib.hid eN
          have eD := Lib.hid eD
          have eO := Lib.hid eO
          go_enter Try.func13, Try.ntmps13
          go_wp2_with fail
          rw [← HWW.out]
          refine (l3Set_any _ _ _ _ _ _ (hx.below bW) hxm).mono ?_
          rintro e w1 ⟨rfl, hb⟩
          replace b0 := b0.later hb
          have b0_0 := b0.c0
          have b0_1 := b0.c1
          replace bR := bR.later hb
          have bR_0 := bR.c0
          have bR_1 := bR.c1
          replace bW := bW.thenB hb
          have z1 := hb.size
          clear hb
          go_wp2_with fail
          refine (l3Set_any _ _ _ _ _ _ (hx.below bW) hxm).mono ?_
          rintro e w2 ⟨rfl, hb⟩
          clear b0_0 b0_1 bR_0 bR_1
          replace b0 := b0.later hb
          have b0_0 := b0.c0
          have b0_1 := b0.c1
          replace bR := bR.later hb
          have bR_0 := bR.c0
          have bR_1 := bR.c1
          replace bW := bW.thenB hb
          have z2 := hb.size
          clear hb
          go_wp2_with fail
          refine (IsNormal_any _ _ _ _ _ (hx.below bW) hxm).mono ?_
          rintro e w3 ⟨rfl, hb⟩
          clear b0_0 b0_1 bR_0 bR_1
          replace b0 := b0.later hb
          have b0_0 := b0.c0
          have b0_1 := b0.c1
          replace bR := bR.later hb
          have bR_0 := bR.c0
          have bR_1 := bR.c1
          replace bW := bW.thenB hb
          have z3 := hb.size
          clear hb
          have s0 := bR.c0
          have s1 := bR.c1
          have s2 := bR.f0
          have s3 := bR.f1
          go_wp2
          refine bodyPost_ret (v := .tuple #[.agg #[.int .i64 (0), .int .i64 (0)], .bool (false)]) (by simp [results, Try.results13, go_sem, s0, s1, s2, s3]) rfl ⟨by rw [eN.out, eD.out, eO.out], ?_⟩
          exact ((bW).setCell (by show _ ≤ w.heap.size + 1; omega) _).setCell (by show _ ≤ w.heap.size + 1; omega) _
        · skip
          obtain ⟨na, rfl, ha16, _⟩ := setB_nat k1 k4 h2
          obtain ⟨nb, rfl, hb16, _⟩ := setB_nat k1 k4 h3
          simp only [Int.toNat_natCast]
          have hx16 := hk.l16
          have hal := hk.all
          have hand := and_nat na nb ha16 hb16
          have hdif := dif_nat na nb ha16 hb16
          have ha2 := and_lt16 na nb ha16
          have ha3 := dif_lt na nb ha16
          obtain ⟨u1, u2⟩ := imS_bd na hk
          obtain ⟨u3, u4⟩ := imS_bd (na &&& nb) hk
          obtain ⟨u5, u6⟩ := possS_bd (dif na nb) hk
          have u7 : imS na xs ≤ imS (na &&& nb) xs + possS (dif na nb) xs := low_pos na nb ha16 hb16 xs hal hx16 _ (Nat.le_refl _)
          have hwr : IntKind.i64.wrap (imS (na &&& nb) xs + possS (dif na nb) xs) = imS (na &&& nb) xs + possS (dif na nb) xs := wrapIn _ (by omega) (by omega)
          cases hz : (imS na xs == 0)
          · have hz0 : ¬ imS na xs = 0 := beq_eq_false_iff_ne.1 hz
            obtain ⟨eN, eD, eO⟩ := fYes (num := imS (na &&& nb) xs) (den := (imS (na &&& nb) xs + possS (dif na nb) xs)) (g := lgG s xs nb na) (by simp [lgG, h1, h2, h3, hz])
            have eN := Lib.hid eN
            have eD := Lib.hid eD
            have eO := Lib.hid eO
            have hd0 : ¬ (imS (na &&& nb) xs + possS (dif na nb) xs) = 0 := by omega
            go_enter Try.func13, Try.ntmps13
            go_wp2_with fail
            rw [← HWW.out]
            refine (l3Set_any _ _ _ _ _ _ (hx.below bW) hxm).mono ?_
            rintro e w1 ⟨rfl, hb⟩
            replace b0 := b0.later hb
            have b0_0 := b0.c0
            have b0_1 := b0.c1
            replace bR := bR.later hb
            have bR_0 := bR.c0
            have bR_1 := bR.c1
            replace bW := bW.thenB hb
            have z1 := hb.size
            clear hb
            go_wp2_with fail
            refine (l3Set_any _ _ _ _ _ _ (hx.below bW) hxm).mono ?_
            rintro e w2 ⟨rfl, hb⟩
            clear b0_0 b0_1 bR_0 bR_1
            replace b0 := b0.later hb
            have b0_0 := b0.c0
            have b0_1 := b0.c1
            replace bR := bR.later hb
            have bR_0 := bR.c0
            have bR_1 := bR.c1
            replace bW := bW.thenB hb
            have z2 := hb.size
            clear hb
            go_wp2_with fail
            refine (IsNormal_any _ _ _ _ _ (hx.below bW) hxm).mono ?_
            rintro e w3 ⟨rfl, hb⟩
            clear b0_0 b0_1 bR_0 bR_1
            replace b0 := b0.later hb
            have b0_0 := b0.c0
            have b0_1 := b0.c1
            replace bR := bR.later hb
            have bR_0 := bR.c0
            have bR_1 := bR.c1
            replace bW := bW.thenB hb
            have z3 := hb.size
            clear hb
            go_wp2_with fail
            refine (sImpl_any _ _ _ _ (na &&& nb) _ (hx.below bW) hx16 (by omega) hal).mono ?_
            rintro e w4 ⟨rfl, hb⟩
            clear b0_0 b0_1 bR_0 bR_1
            replace b0 := b0.later hb
            have b0_0 := b0.c0
            have b0_1 := b0.c1
            replace bR := bR.later hb
            have bR_0 := bR.c0
            have bR_1 := bR.c1
            replace bW := bW.thenB hb
            have z4 := hb.size
            clear hb
            go_wp2_with fail
            refine (sPoss_any _ _ _ _ (dif na nb) _ (hx.below bW) hx16 (by omega) hal).mono ?_
            rintro e w5 ⟨rfl, hb⟩
            clear b0_0 b0_1 bR_0 bR_1
            replace b0 := b0.later hb
            have b0_0 := b0.c0
            have b0_1 := b0.c1
            replace bR := bR.later hb
            have bR_0 := bR.c0
            have bR_1 := bR.c1
            replace bW := bW.thenB hb
            have z5 := hb.size
            clear hb
            go_wp2_with fail
            refine (sImpl_any _ _ _ _ (na) _ (hx.below bW) hx16 (by omega) hal).mono ?_
            rintro e w6 ⟨rfl, hb⟩
            clear b0_0 b0_1 bR_0 bR_1
            replace b0 := b0.later hb
            have b0_0 := b0.c0
            have b0_1 := b0.c1
            replace bR := bR.later hb
            have bR_0 := bR.c0
            have bR_1 := bR.c1
            replace bW := bW.thenB hb
            have z6 := hb.size
            clear hb
            go_wp2_with fail
            refine (l2Made_any (imS (na &&& nb) xs) (imS (na &&& nb) xs + possS (dif na nb) xs) _ (by omega) (by omega) (by omega) (by omega) hd0).mono ?_
            rintro e w7 ⟨rfl, hb⟩
            clear b0_0 b0_1 bR_0 bR_1
            replace b0 := b0.later hb
            have b0_0 := b0.c0
            have b0_1 := b0.c1
            replace bR := bR.later hb
            have bR_0 := bR.c0
            have bR_1 := bR.c1
            replace bW := bW.thenB hb
            have z7 := hb.size
            clear hb
            have s0 := bR.c0
            have s1 := bR.c1
            have s2 := bR.f0
            have s3 := bR.f1
            go_wp2
            refine bodyPost_ret (v := .tuple #[.agg #[.int .i64 (lowN (imS (na &&& nb) xs) (imS (na &&& nb) xs + possS (dif na nb) xs)), .int .i64 (lowD (imS (na &&& nb) xs) (imS (na &&& nb) xs + possS (dif na nb) xs))], .bool (lowOk (imS (na &&& nb) xs) (imS (na &&& nb) xs + possS (dif na nb) xs))]) (by simp [results, Try.results13, go_sem, s0, s1, s2, s3]) rfl ⟨by rw [eN.out, eD.out, eO.out], ?_⟩
            exact ((bW).setCell (by show _ ≤ w.heap.size + 1; omega) _).setCell (by show _ ≤ w.heap.size + 1; omega) _
          · skip
            obtain ⟨eN, eD, eO⟩ := fNo (num := imS (na &&& nb) xs) (den := (imS (na &&& nb) xs + possS (dif na nb) xs)) (g := lgG s xs nb na) (by simp [lgG, h1, h2, h3, hz])
            have eN := Lib.hid eN
            have eD := Lib.hid eD
            have eO := Lib.hid eO
            go_enter Try.func13, Try.ntmps13
            go_wp2_with fail
            rw [← HWW.out]
            refine (l3Set_any _ _ _ _ _ _ (hx.below bW) hxm).mono ?_
            rintro e w1 ⟨rfl, hb⟩
            replace b0 := b0.later hb
            have b0_0 := b0.c0
            have b0_1 := b0.c1
            replace bR := bR.later hb
            have bR_0 := bR.c0
            have bR_1 := bR.c1
            replace bW := bW.thenB hb
            have z1 := hb.size
            clear hb
            go_wp2_with fail
            refine (l3Set_any _ _ _ _ _ _ (hx.below bW) hxm).mono ?_
            rintro e w2 ⟨rfl, hb⟩
            clear b0_0 b0_1 bR_0 bR_1
            replace b0 := b0.later hb
            have b0_0 := b0.c0
            have b0_1 := b0.c1
            replace bR := bR.later hb
            have bR_0 := bR.c0
            have bR_1 := bR.c1
            replace bW := bW.thenB hb
            have z2 := hb.size
            clear hb
            go_wp2_with fail
            refine (IsNormal_any _ _ _ _ _ (hx.below bW) hxm).mono ?_
            rintro e w3 ⟨rfl, hb⟩
            clear b0_0 b0_1 bR_0 bR_1
            replace b0 := b0.later hb
            have b0_0 := b0.c0
            have b0_1 := b0.c1
            replace bR := bR.later hb
            have bR_0 := bR.c0
            have bR_1 := bR.c1
            replace bW := bW.thenB hb
            have z3 := hb.size
            clear hb
            go_wp2_with fail
            refine (sImpl_any _ _ _ _ (na &&& nb) _ (hx.below bW) hx16 (by omega) hal).mono ?_
            rintro e w4 ⟨rfl, hb⟩
            clear b0_0 b0_1 bR_0 bR_1
            replace b0 := b0.later hb
            have b0_0 := b0.c0
            have b0_1 := b0.c1
            replace bR := bR.later hb
            have bR_0 := bR.c0
            have bR_1 := bR.c1
            replace bW := bW.thenB hb
            have z4 := hb.size
            clear hb
            go_wp2_with fail
            refine (sPoss_any _ _ _ _ (dif na nb) _ (hx.below bW) hx16 (by omega) hal).mono ?_
            rintro e w5 ⟨rfl, hb⟩
            clear b0_0 b0_1 bR_0 bR_1
            replace b0 := b0.later hb
            have b0_0 := b0.c0
            have b0_1 := b0.c1
            replace bR := bR.later hb
            have bR_0 := bR.c0
            have bR_1 := bR.c1
            replace bW := bW.thenB hb
            have z5 := hb.size
            clear hb
            go_wp2_with fail
            refine (sImpl_any _ _ _ _ (na) _ (hx.below bW) hx16 (by omega) hal).mono ?_
            rintro e w6 ⟨rfl, hb⟩
            clear b0_0 b0_1 bR_0 bR_1
            replace b0 := b0.later hb
            have b0_0 := b0.c0
            have b0_1 := b0.c1
            replace bR := bR.later hb
            have bR_0 := bR.c0
            have bR_1 := bR.c1
            replace bW := bW.thenB hb
            have z6 := hb.size
            clear hb
            have s0 := bR.c0
            have s1 := bR.c1
            have s2 := bR.f0
            have s3 := bR.f1
            go_wp2
            refine bodyPost_ret (v := .tuple #[.agg #[.int .i64 (0), .int .i64 (0)], .bool (false)]) (by simp [results, Try.results13, go_sem, s0, s1, s2, s3]) rfl ⟨by rw [eN.out, eD.out, eO.out], ?_⟩
            exact ((bW).setCell (by show _ ≤ w.heap.size + 1; omega) _).setCell (by show _ ≤ w.heap.size + 1; omega) _

end Go.Proofs.Ytkpnenbkfphldaa
