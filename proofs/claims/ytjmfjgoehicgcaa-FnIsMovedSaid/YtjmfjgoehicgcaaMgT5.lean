/- The laws' own comparison of two lists. -/
import Derived.Test.YtjmfjgoehicgcaaMgM3
import Derived.Test.YtjmfjgoehicgcaaV9
import Derived.Test.YtjmfjgoehicgcaaMgK7
import Derived.Test.YtjmfjgoehicgcaaMgK1
import Derived.Test.YtjmfjgoehicgcaaL6
set_option linter.unusedVariables false
set_option linter.unusedSimpArgs false
namespace Go.Proofs.Ytjmfjgoehicgcaa
open Go.RowKit

/-- Whether two lists have the same numbers: a plain definition. -/
def sameB (xs ys : List Int) : Bool := decide (xs = ys)
theorem sameB_self (xs : List Int) : sameB xs xs = true := by simp [sameB]

theorem sameB_no {xs ys : List Int} (h : xs ≠ ys) : sameB xs ys = false := by simp [sameB, h]
theorem same_len {xs ys : List Int} (k : Nat) (h : xs.take k = ys.take k) (hk : ¬ (k < xs.length ∧ k < ys.length)) (hx : k ≤ xs.length) (hy : k ≤ ys.length) : sameB xs ys = decide ((xs.length : Int) = (ys.length : Int)) := by
  by_cases e : xs.length = ys.length
  · have : k = xs.length := by omega
    rw [this, List.take_length, e, List.take_length] at h
    subst h; simp [sameB]
  · have : xs ≠ ys := fun h => e (by rw [h])
    simp [sameB, this]; omega

set_option maxHeartbeats 400000 in
theorem weSame_any (a1 a2 : Option Addr) (c1 c2 : Nat) (xs ys : List Int) (w : World) (hx : Reads w a1 xs) (hy : Reads w a2 ys) (hxm : xs.length ≤ 1048576) (hym : ys.length ≤ 1048576) :
    Calls Try.prog 52 #[.slice a1 xs.length c1, .slice a2 ys.length c2] w fun e w' => e = .returned (.bool (sameB xs ys)) ∧ Below w.heap.size w w' := by
  go_enter Try.func52, Try.ntmps52
  go_wp2
  go_loopw [5] (fun i wr => ∃ k : Nat, k ≤ xs.length ∧ k ≤ ys.length ∧ i = .int .i64 k ∧ xs.take k = ys.take k ∧ Below w.heap.size w wr) (fun i _ => xs.length - (intOf i).toNat)
  case atStart => exact ⟨0, Nat.zero_le _, Nat.zero_le _, rfl, by simp, Below.refl _ _⟩
  case round =>
    obtain ⟨k, hk, hky, rfl, ht, hb⟩ := hrel
    by_cases hlt : k < xs.length
    · by_cases hlt2 : k < ys.length
      · obtain ⟨b, off, rfl, hbl, hc⟩ := (hx.below hb) k hlt
        obtain ⟨b2, off2, rfl, hbl2, hc2⟩ := (hy.below hb) k hlt2
        have HT : Hid (xs.take k = ys.take k) := Lib.hid ht
        clear ht
        by_cases he : nth xs k = nth ys k
        · have hstep := Lib.hid (take_eq_step xs ys k HT.out hlt hlt2 he)
          have hE : (nth xs k != nth ys k) = false := bne_eq_false_iff_eq.2 he
          clear he
          go_wp2
          go_quiet (fail)
          go_wp2
          exact ⟨⟨k + 1, by omega, by omega, by go_num, hstep.out, below_drewN hb _⟩, by simp [intOf]; omega⟩
        · have hne := Lib.hid (sameB_no (take_ne_of xs ys k hlt hlt2 he))
          have hE : (nth xs k != nth ys k) = true := by rw [bne_iff_ne]; exact he
          clear he
          go_wp2
          go_quiet (fail)
          go_wp2
          go_ret
          exact ⟨ret_bool (by rw [hne.out]), below_drewN hb _⟩
      · have HE := Lib.hid (same_len k ht (by omega) hk hky)
        clear ht
        go_wp2
        go_ret
        exact ⟨ret_bool (by rw [HE.out]; first | rfl | simp [decide_eq_decide]), hb⟩
    · have HE := Lib.hid (same_len k ht (by omega) hk hky)
      clear ht
      go_wp2
      go_ret
      exact ⟨ret_bool (by rw [HE.out]; first | rfl | simp [decide_eq_decide]), hb⟩

theorem weSame_same (a1 a2 : Option Addr) (c1 c2 n m : Nat) (xs ys : List Int) (h : ys = xs) (hn : xs.length = n) (hm : ys.length = m) (w : World) (hx : Reads w a1 xs) (hy : Reads w a2 ys) (hxm : xs.length ≤ 1048576) :
    Calls Try.prog 52 #[.slice a1 n c1, .slice a2 m c2] w fun e w' => e = .returned (.bool true) ∧ Below w.heap.size w w' := by
  subst h hn hm
  refine (weSame_any a1 a2 c1 c2 _ _ w hx hy hxm hxm).mono ?_
  rintro e w' ⟨h, hb⟩
  exact ⟨by rw [h, sameB_self], hb⟩

end Go.Proofs.Ytjmfjgoehicgcaa

/- What the program exports over its own parts, and the laws' comparison of masses. -/
set_option linter.unusedVariables false
set_option linter.unusedSimpArgs false
namespace Go.Proofs.Ytjmfjgoehicgcaa
open Go.RowKit

/-- The sum of all parts, or -1. -/
def whS (s : Int) (xs : List Int) : Int := if massB s xs = true then sumL xs else -1
/-- What a set is implied by, believed by, possible by; or -1. -/
def imR (s : Int) (xs : List Int) (a : Int) : Int := if msB s xs a = true then imS a.toNat xs else -1
def blR (s : Int) (xs : List Int) (a : Int) : Int := if msB s xs a = true then imS a.toNat xs - nth xs 0 else -1
def psR (s : Int) (xs : List Int) (a : Int) : Int := if msB s xs a = true then possS a.toNat xs else -1

theorem imS_bd1 (a : Nat) {s : Int} {xs : List Int} (h : MassOk s xs) : 0 ≤ imS a xs ∧ imS a xs ≤ 16000000 := imS_bd a h

set_option maxHeartbeats 1000000 in
theorem iWholeOf_any (s : Int) (p : Option Addr) (c : Nat) (xs : List Int) (w : World) (hx : Reads w p xs) (hxm : xs.length ≤ 1048576) :
    Calls Try.prog 32 #[.agg #[.int .i64 s, .slice p xs.length c]] w fun e w' => e = .returned (.int .i64 (whS s xs)) ∧ Below w.heap.size w w' := by
  obtain ⟨W, hW⟩ : ∃ W : World, W = (w.alloc (.cells #[.int .i64 s, .slice p xs.length c] 27)) := ⟨_, rfl⟩
  have bW : Below w.heap.size w W := by subst hW; exact (belowAlloc _ _)
  have hsz : W.heap.size = w.heap.size + 1 := by subst hW; simp
  have b0 : VarInv W (w.heap.size) (s) (.slice p xs.length c) := by
    subst hW
    have h := VarInv.made w (s) (.slice p xs.length c) 27
    exact h
  have HWW := Lib.hid hW
  have HSZ := Lib.hid hsz
  clear hW hsz
  cases h1 : massB s xs
  · have hr : Hid (whS s xs = -1) := Lib.hid (by simp [whS, h1])
    go_enter Try.func32, Try.ntmps32
    go_wp2_with fail
    rw [← HWW.out]
    refine (isMass_any _ _ _ _ _ (hx.below bW) hxm).mono ?_
    rintro e w1 ⟨rfl, hb⟩
    replace b0 := b0.later hb
    have b0_0 := b0.c0
    have b0_1 := b0.c1
    replace bW := bW.thenB hb
    have z1 := hb.size
    clear hb
    go_wp2
    go_ret
    exact ⟨ret_int hr.out.symm, bW⟩
  · have hr : Hid (whS s xs = sumL xs) := Lib.hid (by simp [whS, h1])
    have hal := (massB_ok h1).all
    go_enter Try.func32, Try.ntmps32
    go_wp2_with fail
    rw [← HWW.out]
    refine (isMass_any _ _ _ _ _ (hx.below bW) hxm).mono ?_
    rintro e w1 ⟨rfl, hb⟩
    replace b0 := b0.later hb
    have b0_0 := b0.c0
    have b0_1 := b0.c1
    replace bW := bW.thenB hb
    have z1 := hb.size
    clear hb
    go_wp2_with fail
    refine (wholeOf_any _ _ _ _ _ (hx.below bW) hxm hal).mono ?_
    rintro e w2 ⟨rfl, hb⟩
    clear b0_0 b0_1
    replace b0 := b0.later hb
    have b0_0 := b0.c0
    have b0_1 := b0.c1
    replace bW := bW.thenB hb
    have z2 := hb.size
    clear hb
    go_wp2
    go_ret
    exact ⟨ret_int hr.out.symm, bW⟩

set_option maxHeartbeats 1000000 in
theorem iMassValid_any (s : Int) (p : Option Addr) (c : Nat) (xs : List Int) (w : World) (hx : Reads w p xs) (hxm : xs.length ≤ 1048576) :
    Calls Try.prog 30 #[.agg #[.int .i64 s, .slice p xs.length c]] w fun e w' => e = .returned (.bool (massB s xs)) ∧ Below w.heap.size w w' := by
  obtain ⟨W, hW⟩ : ∃ W : World, W = (w.alloc (.cells #[.int .i64 s, .slice p xs.length c] 27)) := ⟨_, rfl⟩
  have bW : Below w.heap.size w W := by subst hW; exact (belowAlloc _ _)
  have hsz : W.heap.size = w.heap.size + 1 := by subst hW; simp
  have b0 : VarInv W (w.heap.size) (s) (.slice p xs.length c) := by
    subst hW
    have h := VarInv.made w (s) (.slice p xs.length c) 27
    exact h
  have HWW := Lib.hid hW
  have HSZ := Lib.hid hsz
  clear hW hsz
  go_enter Try.func30, Try.ntmps30
  go_wp2_with fail
  rw [← HWW.out]
  refine (isMass_any _ _ _ _ _ (hx.below bW) hxm).mono ?_
  rintro e w1 ⟨rfl, hb⟩
  replace b0 := b0.later hb
  have b0_0 := b0.c0
  have b0_1 := b0.c1
  replace bW := bW.thenB hb
  have z1 := hb.size
  clear hb
  go_wp2
  go_ret
  exact ⟨rfl, bW⟩

set_option maxHeartbeats 1000000 in
theorem iImpliedPart_any (s : Int) (p : Option Addr) (c : Nat) (xs : List Int) (a : Int) (w : World) (hx : Reads w p xs) (hxm : xs.length ≤ 1048576) :
    Calls Try.prog 31 #[.agg #[.int .i64 s, .slice p xs.length c], .int .i64 a] w fun e w' => e = .returned (.int .i64 (imR s xs a)) ∧ Below w.heap.size w w' := by
  obtain ⟨W, hW⟩ : ∃ W : World, W = (w.alloc (.cells #[.int .i64 s, .slice p xs.length c] 27)) := ⟨_, rfl⟩
  have bW : Below w.heap.size w W := by subst hW; exact (belowAlloc _ _)
  have hsz : W.heap.size = w.heap.size + 1 := by subst hW; simp
  have b0 : VarInv W (w.heap.size) (s) (.slice p xs.length c) := by
    subst hW
    have h := VarInv.made w (s) (.slice p xs.length c) 27
    exact h
  have HWW := Lib.hid hW
  have HSZ := Lib.hid hsz
  clear hW hsz
  cases h1 : massB s xs
  · have hr : Hid (imR s xs a = -1) := Lib.hid (by simp [imR, msB, h1])
    go_enter Try.func31, Try.ntmps31
    go_wp2_with fail
    rw [← HWW.out]
    refine (isMass_any _ _ _ _ _ (hx.below bW) hxm).mono ?_
    rintro e w1 ⟨rfl, hb⟩
    replace b0 := b0.later hb
    have b0_0 := b0.c0
    have b0_1 := b0.c1
    replace bW := bW.thenB hb
    have z1 := hb.size
    clear hb
    go_wp2
    go_ret
    exact ⟨ret_int hr.out.symm, bW⟩
  · have hk := massB_ok h1
    have k1 := hk.s1
    have k4 := hk.s4
    cases h2 : setB s a
    · have hr : Hid (imR s xs a = -1) := Lib.hid (by simp [imR, msB, h2])
      go_enter Try.func31, Try.ntmps31
      go_wp2_with fail
      rw [← HWW.out]
      refine (isMass_any _ _ _ _ _ (hx.below bW) hxm).mono ?_
      rintro e w1 ⟨rfl, hb⟩
      replace b0 := b0.later hb
      have b0_0 := b0.c0
      have b0_1 := b0.c1
      replace bW := bW.thenB hb
      have z1 := hb.size
      clear hb
      go_wp2_with fail
      refine (isSetOf_any _ _ _ k1 k4).mono ?_
      rintro e w' ⟨rfl, rfl⟩
      go_wp2
      go_ret
      exact ⟨ret_int hr.out.symm, bW⟩
    · obtain ⟨na, rfl, ha16, _⟩ := setB_nat k1 k4 h2
      have hr : Hid (imR s xs (na : Int) = imS na xs) := Lib.hid (by simp [imR, msB, h1, h2])
      have hx16 := hk.l16
      have hal := hk.all
      go_enter Try.func31, Try.ntmps31
      go_wp2_with fail
      rw [← HWW.out]
      refine (isMass_any _ _ _ _ _ (hx.below bW) hxm).mono ?_
      rintro e w1 ⟨rfl, hb⟩
      replace b0 := b0.later hb
      have b0_0 := b0.c0
      have b0_1 := b0.c1
      replace bW := bW.thenB hb
      have z1 := hb.size
      clear hb
      go_wp2_with fail
      refine (isSetOf_any _ _ _ k1 k4).mono ?_
      rintro e w' ⟨rfl, rfl⟩
      go_wp2_with fail
      refine (iImpl_any _ _ _ _ na _ (hx.below bW) hx16 (by omega) hal).mono ?_
      rintro e w2 ⟨rfl, hb⟩
      clear b0_0 b0_1
      replace b0 := b0.later hb
      have b0_0 := b0.c0
      have b0_1 := b0.c1
      replace bW := bW.thenB hb
      have z2 := hb.size
      clear hb
      go_wp2
      go_ret
      exact ⟨ret_int hr.out.symm, bW⟩

set_option maxHeartbeats 1000000 in
/-- Equal masses compare as equal. -/
theorem weEqual_any (s t : Int) (p q : Option Addr) (c d : Nat) (xs ys : List Int) (w : World) (hx : Reads w p xs) (hy : Reads w q ys) (hxm : xs.length ≤ 1048576) (hym : ys.length ≤ 1048576) :
    Calls Try.prog 19 #[.agg #[.int .i64 s, .slice p xs.length c], .agg #[.int .i64 t, .slice q ys.length d]] w fun e w' => e = .returned (.bool (decide (s = t) && sameB xs ys)) ∧ Below w.heap.size w w' := by
  obtain ⟨W, hW⟩ : ∃ W : World, W = ((w.alloc (.cells #[.int .i64 s, .slice p xs.length c] 27)).alloc (.cells #[.int .i64 t, .slice q ys.length d] 27)) := ⟨_, rfl⟩
  have bW : Below w.heap.size w W := by subst hW; exact ((belowAlloc _ _).thenB (belowAlloc _ _))
  have hsz : W.heap.size = w.heap.size + 2 := by subst hW; simp
  have b0 : VarInv W (w.heap.size) (s) (.slice p xs.length c) := by
    subst hW
    have h := VarInv.made w (s) (.slice p xs.length c) 27
    exact (h.later (belowAlloc _ _))
  have b1 : VarInv W (w.heap.size + 1) (t) (.slice q ys.length d) := by
    subst hW
    have h := VarInv.made (w.alloc (.cells #[.int .i64 s, .slice p xs.length c] 27)) (t) (.slice q ys.length d) 27
    rw [show (w.alloc (.cells #[.int .i64 s, .slice p xs.length c] 27)).heap.size = w.heap.size + 1 by simp] at h
    exact h
  have HWW := Lib.hid hW
  have HSZ := Lib.hid hsz
  clear hW hsz
  by_cases h : s = t
  · subst h
    have hr : Hid ((decide (s = s) && sameB xs ys) = sameB xs ys) := Lib.hid (by simp)
    have b0_0 := b0.c0
    have b0_1 := b0.c1
    have b1_0 := b1.c0
    have b1_1 := b1.c1
    go_enter Try.func19, Try.ntmps19
    go_wp2_with fail
    rw [← HWW.out]
    refine (weSame_any _ _ _ _ _ _ _ (hx.below bW) (hy.below bW) hxm hym).mono ?_
    rintro e w1 ⟨rfl, hb⟩
    clear b0_0 b0_1 b1_0 b1_1
    replace b0 := b0.later hb
    have b0_0 := b0.c0
    have b0_1 := b0.c1
    replace b1 := b1.later hb
    have b1_0 := b1.c0
    have b1_1 := b1.c1
    replace bW := bW.thenB hb
    have z1 := hb.size
    clear hb
    go_wp2
    go_ret
    exact ⟨ret_bool hr.out.symm, bW⟩
  · have hr : Hid ((decide (s = t) && sameB xs ys) = false) := Lib.hid (by simp [h])
    have hne : (s == t) = false := by simpa using h
    have b0_0 := b0.c0
    have b0_1 := b0.c1
    have b1_0 := b1.c0
    have b1_1 := b1.c1
    go_enter Try.func19, Try.ntmps19
    go_wp2_with fail
    rw [← HWW.out]
    go_wp2
    go_ret
    exact ⟨ret_bool hr.out.symm, bW⟩

theorem weEqual_same (s t : Int) (p q : Option Addr) (c d n m : Nat) (xs ys : List Int) (hs : s = t) (h : xs = ys) (hn : xs.length = n) (hm : ys.length = m) (w : World) (hx : Reads w p xs) (hy : Reads w q ys) (hxm : n ≤ 1048576) :
    Calls Try.prog 19 #[.agg #[.int .i64 s, .slice p n c], .agg #[.int .i64 t, .slice q m d]] w fun e w' => e = .returned (.bool true) ∧ Below w.heap.size w w' := by
  subst hs h hn hm
  refine (weEqual_any s s p q c d xs xs w hx hy hxm hxm).mono ?_
  rintro e w' ⟨h, hb⟩
  exact ⟨by rw [h, sameB_self]; simp, hb⟩

end Go.Proofs.Ytjmfjgoehicgcaa

/- Cases in which a set is known: FocusMass, both packages. -/
set_option linter.unusedVariables false
set_option linter.unusedSimpArgs false
namespace Go.Proofs.Ytjmfjgoehicgcaa
open Go.RowKit

/-- A set, not none, within another one. -/
def focT (a b : Nat) : Bool := b != 0 && subB b a

def focTo (a : Nat) (xs zs : List Int) (k : Nat) : List Int := (List.range k).foldl (fun zs b => if focT a b then zs.set b (nth xs b) else zs) zs

theorem focTo_succ (a : Nat) (xs zs : List Int) (k : Nat) : focTo a xs zs (k + 1) = if focT a k then (focTo a xs zs k).set k (nth xs k) else focTo a xs zs k := by simp [focTo, List.range_succ]

theorem focTo_yes {a : Nat} {xs zs : List Int} {k : Nat} (h : focT a k = true) : focTo a xs zs (k + 1) = (focTo a xs zs k).set k (nth xs k) := by rw [focTo_succ, h]; rfl

theorem focTo_no {a : Nat} {xs zs : List Int} {k : Nat} (h : focT a k = false) : focTo a xs zs (k + 1) = focTo a xs zs k := by rw [focTo_succ, h]; rfl

theorem focTo_one (a : Nat) (xs zs : List Int) : focTo a xs zs 1 = zs := by simp [focTo, focT]

theorem focTo_len (a : Nat) (xs zs : List Int) (k : Nat) : (focTo a xs zs k).length = zs.length := by
  induction k with
  | zero => rfl
  | succ k ih => rw [focTo_succ]; split <;> simp [ih]

theorem allB_set {low high y : Int} {zs : List Int} (k : Nat) (h : allB low high zs = true) (h1 : low ≤ y) (h2 : y ≤ high) : allB low high (zs.set k y) = true := by
  rw [allB_iff] at *
  intro j hj
  rw [List.length_set] at hj
  have := h j hj
  rw [nth_eq _ _ (by simpa using hj), List.getElem_set]
  rw [nth_eq _ _ hj] at this
  split <;> omega

theorem focTo_all (a : Nat) (xs zs : List Int) (M : Int) (hM : 0 ≤ M) (hx : allB 0 M xs = true) (hz : allB 0 0 zs = true) (k : Nat) (hk : k ≤ xs.length) : allB 0 M (focTo a xs zs k) = true := by
  induction k with
  | zero => exact allB_wider hz (by omega) hM
  | succ k ih =>
    rw [focTo_succ]
    have h1 := allB_nth hx k (by omega)
    split
    · exact allB_set k (ih (by omega)) h1.1 h1.2
    · exact ih (by omega)

def focP (a : Nat) (xs : List Int) : List Int := focTo a xs (zeros xs.length) xs.length

theorem focP_len (a : Nat) (xs : List Int) : (focP a xs).length = xs.length := by rw [focP, focTo_len, zeros_len]

theorem focP_wide (a : Nat) (xs : List Int) (h : allB 0 1000000 xs = true) : allB 0 4611686018427387904 (focP a xs) = true :=
  allB_wider (focTo_all a xs _ _ (by omega) h (zeros_all _) _ (Nat.le_refl _)) (by omega) (by omega)

theorem focR_len (s : Int) (xs : List Int) (a : Int) (h : xs.length ≤ 1048576) : (gL (msB s xs a) s (focP a.toNat xs)).length ≤ 1048576 := by
  have := gL_len (msB s xs a) s (focP a.toNat xs)
  rw [focP_len] at this
  omega

end Go.Proofs.Ytjmfjgoehicgcaa

/- Plain facts on masses that are focused and learned. -/
set_option linter.unusedVariables false
set_option linter.unusedSimpArgs false
namespace Go.Proofs.Ytjmfjgoehicgcaa
open Go.RowKit

theorem focTo_nth (a : Nat) (xs zs : List Int) (c : Nat) (hc : c < zs.length) : ∀ k, nth (focTo a xs zs k) c = if c < k ∧ focT a c = true then nth xs c else nth zs c
  | 0 => by simp [focTo]
  | k + 1 => by
    have ih := focTo_nth a xs zs c hc k
    cases h : focT a k
    · rw [focTo_no h, ih]
      by_cases e : c = k
      · subst e; simp [h]
      · have : (c < k + 1) = (c < k) := by simp; omega
        simp only [this]
    · rw [focTo_yes h]
      by_cases e : c = k
      · subst e
        rw [nth_eq _ _ (by rw [List.length_set, focTo_len]; exact hc), List.getElem_set_self]; simp [h]
      · rw [nth_set_off _ _ _ _ e, ih]
        have : (c < k + 1) = (c < k) := by simp; omega
        simp only [this]

theorem focP_nth (a : Nat) (xs : List Int) (c : Nat) (hc : c < xs.length) : nth (focP a xs) c = if focT a c = true then nth xs c else 0 := by
  rw [focP, focTo_nth a xs _ c (by rw [zeros_len]; exact hc), zeros_nth0]; simp [hc]

/-- What is believed, as a sum. -/
def bS (a : Nat) (xs : List Int) : Int := sm xs.length fun b => if focT a b = true then nth xs b else 0

theorem bS_eq (a : Nat) (xs : List Int) (h : 0 < xs.length) : imS a xs - nth xs 0 = bS a xs := by
  have e : sm xs.length (fun b => (if inSet a b = true then nth xs b else 0) - (if b = 0 then nth xs 0 else 0)) = bS a xs := by
    unfold bS
    apply sm_congr
    intro b hb
    by_cases h0 : b = 0
    · subst h0; simp [focT, inSet, subB]
    · cases h1 : subB b a <;> simp [focT, inSet, h0, h1]
  rw [sm_sub, sm_one, if_pos h] at e
  rw [imS, sumTo_sm]; exact e

theorem foc_sum (a : Nat) (xs : List Int) : sumL (focP a xs) = bS a xs := by
  rw [sumL_sm, focP_len, bS]; exact sm_congr fun b hb => focP_nth a xs b hb

theorem focT_and : ∀ a b c : Fin 16, (focT b.val c.val && focT a.val c.val) = focT (a.val &&& b.val) c.val := by decide +kernel
theorem focT_sub : ∀ a c : Fin 16, focT a.val c.val = true → a.val &&& c.val = c.val := by decide +kernel

theorem foc_bS (a b : Nat) (ha : a < 16) (hb : b < 16) (xs : List Int) (hl : xs.length ≤ 16) : bS b (focP a xs) = bS (a &&& b) xs := by
  unfold bS
  rw [focP_len]
  apply sm_congr
  intro c hc
  rw [focP_nth a xs c hc, ← focT_and ⟨a, ha⟩ ⟨b, hb⟩ ⟨c, by omega⟩]
  cases focT a c <;> cases focT b c <;> simp

theorem bS_mul {n : Nat} (b : Nat) (d : Int) (P K : List Int) (hl : P.length = K.length) (hm : ∀ k, k < K.length → nth P k = d * nth K k) : bS b P = d * bS b K := by
  unfold bS
  rw [hl, ← sm_mul]
  apply sm_congr
  intro k hk
  rw [hm k hk]; split <;> simp
theorem sumL_mul (d : Int) (P K : List Int) (hl : P.length = K.length) (hm : ∀ k, k < K.length → nth P k = d * nth K k) : sumL P = d * sumL K := by
  rw [sumL_sm, sumL_sm, hl, ← sm_mul]; exact sm_congr hm

theorem msB_parts {s : Int} {xs : List Int} {a : Int} (h : msB s xs a = true) : massB s xs = true ∧ setB s a = true := by
  simpa [msB] using h

/-- Only sets within a have parts. -/
def Within (a : Nat) (K : List Int) : Prop := ∀ b, b < K.length → nth K b ≠ 0 → a &&& b = b

theorem cut_within {a : Nat} {K : List Int} (h : Within a K) : cutP a K = K := by
  apply nth_ext2 _ _ (cutP_len a K)
  intro c hc
  rw [cutP_len] at hc
  rw [cutP, acc_nth _ _ _ _ _ hc, sm_congr (g := fun b => if b = c then nth K c else 0), sm_one, if_pos hc]
  intro b hb
  by_cases h0 : nth K b = 0
  · by_cases e : b = c
    · subst e; simp [h0]
    · simp [h0, e]
  · rw [h b hb h0]
    by_cases e : b = c
    · subst e; simp
    · simp [e]

theorem nonP_same {K : List Int} (h : nth K 0 = 0) : nonP K = K := by
  apply nth_ext2 _ _ (nonP_len K)
  intro c hc
  rw [nonP_len] at hc
  by_cases e : c = 0
  · subst e; rw [nonP, nth_eq _ _ (by rw [List.length_set]; exact hc), List.getElem_set_self, h]
  · rw [nonP, nth_set_off _ _ _ _ e]

structure Focused (s : Int) (xs : List Int) (a : Int) (K : List Int) : Prop where
  nat : ∃ n : Nat, a = (n : Int) ∧ n < 16
  mass : massB s K = true
  len : K.length = xs.length
  zero : nth K 0 = 0
  part : ∀ b : Nat, b < 16 → (b : Int) < pow2 s → blR s K b * blR s xs a = blR s xs ((a.toNat &&& b : Nat) : Int) * whS s K
  again : gOk (msB s K a) s (focP a.toNat K) = true ∧ gL (msB s K a) s (focP a.toNat K) = K ∧ gS (msB s K a) s (focP a.toNat K) = s
  learn : gOk (msB s K a) s (lnP a.toNat K) = true ∧ gL (msB s K a) s (lnP a.toNat K) = K ∧ gS (msB s K a) s (lnP a.toNat K) = s
  normal : normB s K = true
  whole : 0 ≤ whS s K ∧ whS s K ≤ 1000000
  all : 0 ≤ blR s xs a ∧ blR s xs a ≤ 16000000
  bd : ∀ b : Nat, b < 16 → (b : Int) < pow2 s → (0 ≤ blR s K b ∧ blR s K b ≤ 16000000) ∧ 0 ≤ blR s xs ((a.toNat &&& b : Nat) : Int) ∧ blR s xs ((a.toNat &&& b : Nat) : Int) ≤ 16000000

theorem blR_nat {s : Int} {xs : List Int} {b : Nat} (h : massB s xs = true) (hb : (b : Int) < pow2 s) : blR s xs b = bS b xs ∧ 0 ≤ blR s xs b ∧ blR s xs b ≤ 16000000 := by
  have hk := massB_ok h
  have hl : 0 < xs.length := by have := hk.len; have := pow2_bd s hk.s1 hk.s4; omega
  have e : blR s xs b = bS b xs := by
    rw [← bS_eq b xs hl]
    simp [blR, msB, h, setB, hb]
  have h0 : 0 ≤ bS b xs := sm_nonneg fun k hk2 => by
    split
    · exact (allB_nth hk.all k hk2).1
    · omega
  have h1 := imS_bd b hk
  have h2 := allB_nth hk.all 0 hl
  have h3 := bS_eq b xs hl
  exact ⟨e, by omega, by omega⟩

theorem foc_no {s : Int} {xs : List Int} {a : Int} (h : gOk (msB s xs a) s (focP a.toNat xs) = false) : blR s xs a < 1 := by
  cases hm : msB s xs a
  · simp [blR, hm]
  · obtain ⟨h1, h2⟩ := msB_parts hm
    have hk := massB_ok h1
    obtain ⟨n, rfl, hn16, hnp⟩ := setB_nat hk.s1 hk.s4 h2
    simp only [gOk, hm, Bool.true_and, Int.toNat_natCast] at h
    have e := (blR_nat h1 hnp).1
    have hle : sumL (focP n xs) ≤ 1000000 := by
      rw [foc_sum]
      refine Int.le_trans ?_ hk.sum2
      rw [sumL_sm]
      exact sm_le fun k hk2 => by
        split
        · omega
        · exact (allB_nth hk.all k hk2).1
    have := mk_no (M := 4611686018427387904) hk.sz (by rw [focP_len]; exact hk.len) (focP_wide n xs hk.all) hle h
    rw [foc_sum] at this
    omega

theorem focus_law {s : Int} {xs : List Int} {a : Int} (h : gOk (msB s xs a) s (focP a.toNat xs) = true) : Focused s xs a (gL (msB s xs a) s (focP a.toNat xs)) ∧ gS (msB s xs a) s (focP a.toNat xs) = s := by
  have h' := h
  simp only [gOk, Bool.and_eq_true] at h'
  obtain ⟨hm, hok⟩ := h'
  obtain ⟨h1, h2⟩ := msB_parts hm
  have hk := massB_ok h1
  obtain ⟨n, rfl, hn16, hnp⟩ := setB_nat hk.s1 hk.s4 h2
  simp only [Int.toNat_natCast] at hok ⊢
  have hg := gYes (s := s) (L := focP n xs) hm
  rw [hg.2.2, hg.1]
  have hlow := mk_low hok
  obtain ⟨K, hKe⟩ : ∃ K, K = mkL s (focP n xs) := ⟨_, rfl⟩
  rw [← hKe] at hlow ⊢
  refine ⟨?_, by simp [mkS, hok]⟩
  have hlK : K.length = xs.length := by rw [← hlow.len, focP_len]
  obtain ⟨d, hd, hmul⟩ := hlow.mul
  have kK := massB_ok hlow.mass
  have hl0 : 0 < K.length := by have := kK.len; have := pow2_bd s kK.s1 kK.s4; omega
  have hmul2 : ∀ c, c < K.length → (if focT n c = true then nth xs c else 0) = d * nth K c := fun c hc => by rw [← hmul c hc, focP_nth n xs c (by omega)]
  have z : ∀ c, c < K.length → focT n c = false → nth K c = 0 := fun c hc hf => by
    have := hmul2 c hc
    rw [hf] at this
    simp at this
    exact (Int.mul_eq_zero.1 this.symm).resolve_left (by omega)
  have zero : nth K 0 = 0 := z 0 hl0 (by simp [focT])
  have within : Within n K := fun b hb h0 => by
    cases hf : focT n b
    · exact absurd (z b hb hf) h0
    · exact focT_sub ⟨n, hn16⟩ ⟨b, by have := kK.l16; omega⟩ hf
  have hfP : focP n K = K := nth_ext2 _ _ (focP_len n K) fun c hc => by
    rw [focP_len] at hc
    rw [focP_nth n K c hc]
    cases hf : focT n c
    · simp [z c hc hf]
    · simp
  have hlP : lnP n K = K := by rw [lnP, cut_within within, nonP_same zero]
  have hmK : msB s K (n : Int) = true := by simp [msB, hlow.mass, h2]
  obtain ⟨ok2, l2⟩ := low_mk (low_self hlow.mass)
  have hw : whS s K = sumL K := by simp [whS, hlow.mass]
  have hn2 : (n : Int) = ((n &&& n : Nat) : Int) := by rw [Nat.and_self]
  have hand : ∀ b : Nat, b < 16 → (b : Int) < pow2 s → ((n &&& b : Nat) : Int) < pow2 s := fun b hb hp => by
    have : n &&& b ≤ n := Nat.and_le_left
    omega
  refine ⟨⟨n, rfl, hn16⟩, hlow.mass, hlK, zero, ?_, ?_, ?_, ?_, ?_, ?_, ?_⟩
  · intro b hb hp
    simp only [Int.toNat_natCast]
    have e1 := (blR_nat hlow.mass hp).1
    have e2 := (blR_nat h1 hnp).1
    have e3 := (blR_nat h1 (hand b hb hp)).1
    have t1 : bS (n &&& b) xs = d * bS b K := by rw [← foc_bS n b hn16 hb xs hk.l16]; exact bS_mul (n := 0) b d _ _ hlow.len hmul
    have t2 : bS n xs = d * sumL K := by rw [← foc_sum]; exact sumL_mul d _ _ hlow.len hmul
    rw [e1, e2, e3, hw, t1, t2]
    rw [Int.mul_left_comm, Int.mul_assoc]
  · simp only [Int.toNat_natCast]
    rw [hfP]; exact ⟨by simp [gOk, hmK, ok2], by rw [gL, if_pos hmK, l2], by rw [gS, if_pos hmK, mkS, if_pos ok2]⟩
  · simp only [Int.toNat_natCast]
    rw [hlP]; exact ⟨by simp [gOk, hmK, ok2], by rw [gL, if_pos hmK, l2], by rw [gS, if_pos hmK, mkS, if_pos ok2]⟩
  · simp [normB, hlow.mass, zero]
  · rw [hw]; have := kK.sum1; have := kK.sum2; omega
  · exact (blR_nat h1 hnp).2
  · intro b hb hp
    simp only [Int.toNat_natCast]
    exact ⟨(blR_nat hlow.mass hp).2, (blR_nat h1 (hand b hb hp)).2⟩

end Go.Proofs.Ytjmfjgoehicgcaa
