/- Answers told apart and put together: both packages. -/
import Derived.Test.YtkpnenbkfphldaaR1
import Derived.Test.YtkpnenbkfphldaaC7
set_option linter.unusedVariables false
set_option linter.unusedSimpArgs false
namespace Go.Proofs.Ytkpnenbkfphldaa
open Go.RowKit

/-- The set of the answers q x of those x before k that pass a test. -/
def setTo (p : Nat → Bool) (q : Nat → Nat) (k : Nat) : Nat := (List.range k).foldl (fun o x => if p x then o ||| bit (q x) else o) 0

theorem setTo_succ (p : Nat → Bool) (q : Nat → Nat) (k : Nat) : setTo p q (k + 1) = if p k then setTo p q k ||| bit (q k) else setTo p q k := by simp [setTo, List.range_succ]

theorem setTo_yes {p : Nat → Bool} {q : Nat → Nat} {k : Nat} (h : p k = true) : setTo p q (k + 1) = setTo p q k ||| bit (q k) := by rw [setTo_succ, h]; rfl

theorem setTo_no {p : Nat → Bool} {q : Nat → Nat} {k : Nat} (h : p k = false) : setTo p q (k + 1) = setTo p q k := by rw [setTo_succ, h]; rfl

theorem setTo_lt (p : Nat → Bool) (q : Nat → Nat) (z : Nat) (k : Nat) (h : ∀ x, x < k → q x < z) : setTo p q k < 2 ^ z := by
  induction k with
  | zero => simp [setTo]; exact Nat.two_pow_pos z
  | succ k ih =>
    rw [setTo_succ]
    have ih := ih fun x hx => h x (by omega)
    have hk := h k (by omega)
    split
    · exact Nat.or_lt_two_pow ih (Nat.pow_lt_pow_right (by omega) hk)
    · exact ih

/-- The image of a set, and the answers that are given an answer of it. -/
def imgS (ts : List Int) (a : Nat) : Nat := setTo (fun x => a.testBit x) (fun x => (nth ts x).toNat) ts.length
def bakS (ts : List Int) (a : Nat) : Nat := setTo (fun x => a.testBit (nth ts x).toNat) (fun x => x) ts.length

def ansB (ts : List Int) (n z : Int) : Bool := allB 0 (z - 1) ts && decide ((ts.length : Int) = n)

theorem ansB_ok {ts : List Int} {n z : Int} (h : ansB ts n z = true) : allB 0 (z - 1) ts = true ∧ (ts.length : Int) = n := by
  simpa [ansB] using h

theorem imgS_lt {ts : List Int} {z : Int} (h : allB 0 (z - 1) ts = true) (a : Nat) : imgS ts a < 2 ^ z.toNat := by
  refine setTo_lt _ _ _ _ fun x hx => ?_
  have := allB_nth h x hx
  show (nth ts x).toNat < z.toNat
  omega

theorem bakS_lt (ts : List Int) (a : Nat) : bakS ts a < 2 ^ ts.length := setTo_lt _ _ _ _ fun x hx => hx

theorem setTo_lt16 (p : Nat → Bool) (q : Nat → Nat) (k : Nat) (h : ∀ x, x < k → q x < 4) : setTo p q k < 16 := setTo_lt p q 4 k h

theorem areAnswers_any (p : Option Addr) (c : Nat) (ts : List Int) (n z : Int) (w : World) (hx : Reads w p ts) (hxm : ts.length ≤ 1048576) :
    Calls Try.prog 95 #[.slice p ts.length c, .int .i64 n, .int .i64 z] w fun e w' => e = .returned (.bool (ansB ts n z)) ∧ w = w' := by
  go_enter Try.func95, Try.ntmps95
  go_wp2
  go_loop [11] (fun i => ∃ k : Nat, k ≤ ts.length ∧ i = .int .i64 k ∧ allTo 0 (z - 1) ts k) (fun i => ts.length - (intOf i).toNat)
  case atStart => exact ⟨0, Nat.zero_le _, rfl, fun j hj => absurd hj (by omega)⟩
  case round =>
    obtain ⟨k, hk, rfl, hall⟩ := hrel
    have HA := Lib.hid hall
    clear hall
    by_cases hlt : k < ts.length
    · obtain ⟨b, off, rfl, hbl, hc⟩ := hx k hlt
      clear hx
      by_cases hin : 0 ≤ nth ts k ∧ nth ts k ≤ z - 1
      · have hAS := Lib.hid (allTo_succ HA.out hin.1 hin.2)
        have i1 := hin.1
        have i3 : nth ts k < z := by omega
        clear hin
        go_wp2
        exact ⟨⟨k + 1, by omega, by go_num, hAS.out⟩, by simp [intOf]; omega⟩
      · have hF : Hid (ansB ts n z = false) := Lib.hid (by rw [ansB, allB_false _ _ _ k hlt (by simpa [inB] using hin)]; rfl)
        by_cases h0 : nth ts k < 0
        · clear hin
          go_wp2
          go_ret
          exact ⟨ret_bool hF.out.symm, rfl⟩
        · have h00 : 0 ≤ nth ts k := by omega
          have hge : z ≤ nth ts k := by omega
          clear hin h0
          go_wp2
          go_ret
          exact ⟨ret_bool hF.out.symm, rfl⟩
    · have h2 : k = ts.length := by omega
      subst h2
      have hal := allTo_all HA.out
      have hr : Hid (ansB ts n z = ((ts.length : Int) == n)) := Lib.hid (by rw [ansB, hal, cast_eqd]; rfl)
      clear hx hal
      go_wp2
      go_ret
      exact ⟨ret_bool hr.out.symm, rfl⟩

def whB (n : Int) (ts : List Int) (z : Int) : Bool := szB n && (szB z && ansB ts n z)

theorem l7Whole_any (p : Option Addr) (c : Nat) (ts : List Int) (n z : Int) (w : World) (hx : Reads w p ts) (hxm : ts.length ≤ 1048576) :
    Calls Try.prog 98 #[.int .i64 n, .slice p ts.length c, .int .i64 z] w fun e w' => e = .returned (.bool (whB n ts z)) ∧ w = w' := by
  by_cases hz : szB z = true
  · have hz2 := yes_inB hz
    have z1 : 1 ≤ z := hz2.1
    have z4 : z ≤ 4 := hz2.2
    have HZ := Lib.hid hz
    clear hz2
    go_enter Try.func98, Try.ntmps98
    go_wp2
    go_loop [7] (fun i => ∃ k : Nat, k ≤ ts.length ∧ i = .int .i64 k ∧ allTo 0 (z - 1) ts k) (fun i => ts.length - (intOf i).toNat)
    case atStart => exact ⟨0, Nat.zero_le _, rfl, fun j hj => absurd hj (by omega)⟩
    case round =>
      obtain ⟨k, hk, rfl, hall⟩ := hrel
      have HA := Lib.hid hall
      clear hall
      by_cases hlt : k < ts.length
      · obtain ⟨b, off, rfl, hbl, hc⟩ := hx k hlt
        clear hx
        by_cases hin : inB (nth ts k) 0 (z - 1) = true
        · have hAS := Lib.hid (allTo_succ HA.out (yes_inB hin).1 (yes_inB hin).2)
          go_wp2_with fail
          refine (l1In_any _ _ _ _).mono ?_
          rintro e w' ⟨rfl, rfl⟩
          go_wp2
          exact ⟨⟨k + 1, by omega, by go_num, hAS.out⟩, by simp [intOf]; omega⟩
        · replace hin : inB (nth ts k) 0 (z - 1) = false := by simpa using hin
          have hF : Hid (whB n ts z = false) := Lib.hid (by rw [whB, ansB, allB_false _ _ _ k hlt hin]; simp)
          go_wp2_with fail
          refine (l1In_any _ _ _ _).mono ?_
          rintro e w' ⟨rfl, rfl⟩
          go_wp2
          go_ret
          exact ⟨ret_bool hF.out.symm, rfl⟩
      · have h2 : k = ts.length := by omega
        subst h2
        have hal := allTo_all HA.out
        have hr : Hid (whB n ts z = (szB n && ((ts.length : Int) == n))) := Lib.hid (by rw [whB, ansB, hal, HZ.out, cast_eqd]; simp)
        clear hx hal
        cases hn : szB n
        · rw [hn] at hr
          go_wp2_with fail
          refine (SizeValid_any _ _).mono ?_
          rintro e w' ⟨rfl, rfl⟩
          go_wp2
          go_ret
          exact ⟨ret_bool (by rw [hr.out]; rfl), rfl⟩
        · rw [hn] at hr
          go_wp2_with fail
          refine (SizeValid_any _ _).mono ?_
          rintro e w' ⟨rfl, rfl⟩
          go_wp2_with fail
          refine (SizeValid_any _ _).mono ?_
          rintro e w' ⟨rfl, rfl⟩
          go_wp2
          go_ret
          exact ⟨ret_bool (by rw [hr.out]; simp), rfl⟩
  · replace hz : szB z = false := by simpa using hz
    have hF : Hid (whB n ts z = false) := Lib.hid (by simp [whB, hz])
    go_enter Try.func98, Try.ntmps98
    go_wp2
    go_loop [7] (fun i => ∃ k : Nat, k ≤ ts.length ∧ i = .int .i64 k) (fun i => ts.length - (intOf i).toNat)
    case atStart => exact ⟨0, Nat.zero_le _, rfl⟩
    case round =>
      obtain ⟨k, hk, rfl⟩ := hrel
      by_cases hlt : k < ts.length
      · obtain ⟨b, off, rfl, hbl, hc⟩ := hx k hlt
        clear hx
        go_wp2_with fail
        refine (l1In_any _ _ _ _).mono ?_
        rintro e w' ⟨rfl, rfl⟩
        generalize inB _ _ _ = t
        cases t
        · go_wp2
          go_ret
          exact ⟨ret_bool hF.out.symm, rfl⟩
        · go_wp2
          exact ⟨⟨k + 1, by omega, by go_num⟩, by simp [intOf]; omega⟩
      · have h2 : k = ts.length := by omega
        subst h2
        clear hx
        cases hn : szB n
        · go_wp2_with fail
          refine (SizeValid_any _ _).mono ?_
          rintro e w' ⟨rfl, rfl⟩
          go_wp2
          go_ret
          exact ⟨ret_bool hF.out.symm, rfl⟩
        · go_wp2_with fail
          refine (SizeValid_any _ _).mono ?_
          rintro e w' ⟨rfl, rfl⟩
          go_wp2_with fail
          refine (SizeValid_any _ _).mono ?_
          rintro e w' ⟨rfl, rfl⟩
          go_wp2
          go_ret
          exact ⟨ret_bool hF.out.symm, rfl⟩

theorem imageOf_any (a : Nat) (p : Option Addr) (c : Nat) (ts : List Int) (w : World) (hx : Reads w p ts) (hxm : ts.length ≤ 4) (hal : allB 0 3 ts = true) (ha : a < 16) :
    Calls Try.prog 101 #[.int .i64 a, .slice p ts.length c] w fun e w' => e = .returned (.int .i64 (imgS ts a : Nat)) ∧ w = w' := by
  have HA := Lib.hid hal
  clear hal
  go_enter Try.func101, Try.ntmps101
  go_wp2
  go_loop [5, 10] (fun d i => ∃ k : Nat, k ≤ ts.length ∧ i = .int .i64 k ∧ d = .int .i64 (setTo (fun x => a.testBit x) (fun x => (nth ts x).toNat) k : Nat)) (fun _ i => ts.length - (intOf i).toNat)
  case atStart => exact ⟨0, Nat.zero_le _, rfl, rfl⟩
  case round =>
    obtain ⟨k, hk, rfl, rfl⟩ := hrel
    by_cases hlt : k < ts.length
    · obtain ⟨b, off, rfl, hbl, hc⟩ := hx k hlt
      have hbn := allB_nth HA.out k hlt
      obtain ⟨y, hy, hy4⟩ := int_nat4 hbn.1 (show nth ts k < 4 by omega) (by omega)
      have HY := Lib.hid hy
      rw [hy] at hc
      have hk4 : k < 4 := by omega
      have h16 : setTo (fun x => a.testBit x) (fun x => (nth ts x).toNat) k < 16 := setTo_lt16 _ _ k fun x hx => by
        have := allB_nth HA.out x (by omega)
        show (nth ts x).toNat < 4; omega
      obtain ⟨o, ho⟩ : ∃ o : Nat, o = setTo (fun x => a.testBit x) (fun x => (nth ts x).toNat) k := ⟨_, rfl⟩
      rw [← ho] at h16 ⊢
      have HO := Lib.hid ho
      have hwp := bit_wrap' y hy4
      have hor := bit_or' o y h16 hy4
      clear hx ho hy hbn
      by_cases ht : a.testBit k = true
      · have hs : Hid (setTo (fun x => a.testBit x) (fun x => (nth ts x).toNat) (k + 1) = o ||| bit y) := Lib.hid (by rw [setTo_yes (by exact ht), ← HO.out, HY.out, Int.toNat_natCast])
        have hh := bit_has' a k ha hk4
        rw [ht] at hh
        clear ht
        go_wp2
        exact ⟨⟨k + 1, by omega, by go_num, by rw [hs.out]⟩, by simp [intOf]; omega⟩
      · replace ht : a.testBit k = false := by simpa using ht
        have hs : Hid (setTo (fun x => a.testBit x) (fun x => (nth ts x).toNat) (k + 1) = o) := Lib.hid (by rw [setTo_no (by exact ht), ← HO.out])
        have hh := bit_has' a k ha hk4
        rw [ht] at hh
        clear ht
        go_wp2
        exact ⟨⟨k + 1, by omega, by go_num, by rw [hs.out]⟩, by simp [intOf]; omega⟩
    · have h1 : k = ts.length := by omega
      subst h1
      clear hx
      go_wp2
      go_ret
      exact ⟨rfl, rfl⟩

theorem l1Move_any (a : Nat) (p : Option Addr) (c : Nat) (ts : List Int) (w : World) (hx : Reads w p ts) (hxm : ts.length ≤ 4) (hal : allB 0 3 ts = true) (ha : a < 16) :
    Calls Try.prog 103 #[.int .i64 a, .slice p ts.length c] w fun e w' => e = .returned (.int .i64 (imgS ts a : Nat)) ∧ w = w' := by
  have HA := Lib.hid hal
  clear hal
  go_enter Try.func103, Try.ntmps103
  go_wp2
  go_loop [5, 6] (fun d i => ∃ k : Nat, k ≤ ts.length ∧ i = .int .i64 k ∧ d = .int .i64 (setTo (fun x => a.testBit x) (fun x => (nth ts x).toNat) k : Nat)) (fun _ i => ts.length - (intOf i).toNat)
  case atStart => exact ⟨0, Nat.zero_le _, rfl, rfl⟩
  case round =>
    obtain ⟨k, hk, rfl, rfl⟩ := hrel
    by_cases hlt : k < ts.length
    · obtain ⟨b, off, rfl, hbl, hc⟩ := hx k hlt
      have hbn := allB_nth HA.out k hlt
      obtain ⟨y, hy, hy4⟩ := int_nat4 hbn.1 (show nth ts k < 4 by omega) (by omega)
      have HY := Lib.hid hy
      rw [hy] at hc
      have hk4 : k < 4 := by omega
      have h16 : setTo (fun x => a.testBit x) (fun x => (nth ts x).toNat) k < 16 := setTo_lt16 _ _ k fun x hx => by
        have := allB_nth HA.out x (by omega)
        show (nth ts x).toNat < 4; omega
      obtain ⟨o, ho⟩ : ∃ o : Nat, o = setTo (fun x => a.testBit x) (fun x => (nth ts x).toNat) k := ⟨_, rfl⟩
      rw [← ho] at h16 ⊢
      have HO := Lib.hid ho
      have hwp := bit_wrap' y hy4
      have hor := bit_or' o y h16 hy4
      clear hx ho hy hbn
      by_cases ht : a.testBit k = true
      · have hs : Hid (setTo (fun x => a.testBit x) (fun x => (nth ts x).toNat) (k + 1) = o ||| bit y) := Lib.hid (by rw [setTo_yes (by exact ht), ← HO.out, HY.out, Int.toNat_natCast])
        go_wp2_with fail
        refine (l1Has_any a k _ ha hk4).mono ?_
        rintro e w' ⟨rfl, rfl⟩
        go_wp2
        exact ⟨⟨k + 1, by omega, by go_num, by rw [hs.out]⟩, by simp [intOf]; omega⟩
      · replace ht : a.testBit k = false := by simpa using ht
        have hs : Hid (setTo (fun x => a.testBit x) (fun x => (nth ts x).toNat) (k + 1) = o) := Lib.hid (by rw [setTo_no (by exact ht), ← HO.out])
        go_wp2_with fail
        refine (l1Has_any a k _ ha hk4).mono ?_
        rintro e w' ⟨rfl, rfl⟩
        go_wp2
        exact ⟨⟨k + 1, by omega, by go_num, by rw [hs.out]⟩, by simp [intOf]; omega⟩
    · have h1 : k = ts.length := by omega
      subst h1
      clear hx
      go_wp2
      go_ret
      exact ⟨rfl, rfl⟩

theorem l7Back_any (a : Nat) (p : Option Addr) (c : Nat) (ts : List Int) (w : World) (hx : Reads w p ts) (hxm : ts.length ≤ 4) (hal : allB 0 3 ts = true) (ha : a < 16) :
    Calls Try.prog 99 #[.int .i64 a, .slice p ts.length c] w fun e w' => e = .returned (.int .i64 (bakS ts a : Nat)) ∧ w = w' := by
  have HA := Lib.hid hal
  clear hal
  go_enter Try.func99, Try.ntmps99
  go_wp2
  go_loop [5, 6] (fun d i => ∃ k : Nat, k ≤ ts.length ∧ i = .int .i64 k ∧ d = .int .i64 (setTo (fun x => a.testBit (nth ts x).toNat) (fun x => x) k : Nat)) (fun _ i => ts.length - (intOf i).toNat)
  case atStart => exact ⟨0, Nat.zero_le _, rfl, rfl⟩
  case round =>
    obtain ⟨k, hk, rfl, rfl⟩ := hrel
    by_cases hlt : k < ts.length
    · obtain ⟨b, off, rfl, hbl, hc⟩ := hx k hlt
      have hbn := allB_nth HA.out k hlt
      obtain ⟨y, hy, hy4⟩ := int_nat4 hbn.1 (show nth ts k < 4 by omega) (by omega)
      have HY := Lib.hid hy
      rw [hy] at hc
      have hk4 : k < 4 := by omega
      have h16 : setTo (fun x => a.testBit (nth ts x).toNat) (fun x => x) k < 16 := setTo_lt16 _ _ k fun x hx => by
        have := allB_nth HA.out x (by omega)
        show x < 4; omega
      obtain ⟨o, ho⟩ : ∃ o : Nat, o = setTo (fun x => a.testBit (nth ts x).toNat) (fun x => x) k := ⟨_, rfl⟩
      rw [← ho] at h16 ⊢
      have HO := Lib.hid ho
      have hwp := bit_wrap' k hk4
      have hor := bit_or' o k h16 hk4
      clear hx ho hy hbn
      by_cases ht : a.testBit y = true
      · have hs : Hid (setTo (fun x => a.testBit (nth ts x).toNat) (fun x => x) (k + 1) = o ||| bit k) := Lib.hid (by rw [setTo_yes (by show a.testBit (nth ts k).toNat = true; rw [HY.out, Int.toNat_natCast]; exact ht), ← HO.out])
        go_wp2_with fail
        refine (l1Has_any a y _ ha hy4).mono ?_
        rintro e w' ⟨rfl, rfl⟩
        go_wp2
        exact ⟨⟨k + 1, by omega, by go_num, by rw [hs.out]⟩, by simp [intOf]; omega⟩
      · replace ht : a.testBit y = false := by simpa using ht
        have hs : Hid (setTo (fun x => a.testBit (nth ts x).toNat) (fun x => x) (k + 1) = o) := Lib.hid (by rw [setTo_no (by show a.testBit (nth ts k).toNat = false; rw [HY.out, Int.toNat_natCast]; exact ht), ← HO.out])
        go_wp2_with fail
        refine (l1Has_any a y _ ha hy4).mono ?_
        rintro e w' ⟨rfl, rfl⟩
        go_wp2
        exact ⟨⟨k + 1, by omega, by go_num, by rw [hs.out]⟩, by simp [intOf]; omega⟩
    · have h1 : k = ts.length := by omega
      subst h1
      clear hx
      go_wp2
      go_ret
      exact ⟨rfl, rfl⟩

theorem refIn_any (a : Nat) (q : Addr) (p : Option Addr) (c : Nat) (ts : List Int) (w : World) (hx : Reads w p ts) (hxm : ts.length ≤ 4) (hal : allB 0 3 ts = true) (ha : a < 16) (hq : w.cell? q = some (.slice p ts.length c)) :
    Calls Try.prog 96 #[.int .i64 a, .pointer (some q)] w fun e w' => e = .returned (.int .i64 (bakS ts a : Nat)) ∧ w = w' := by
  have HA := Lib.hid hal
  clear hal
  go_enter Try.func96, Try.ntmps96
  go_wp2
  go_loop [4, 9] (fun d i => ∃ k : Nat, k ≤ ts.length ∧ i = .int .i64 k ∧ d = .int .i64 (setTo (fun x => a.testBit (nth ts x).toNat) (fun x => x) k : Nat)) (fun _ i => ts.length - (intOf i).toNat)
  case atStart => exact ⟨0, Nat.zero_le _, rfl, rfl⟩
  case round =>
    obtain ⟨k, hk, rfl, rfl⟩ := hrel
    by_cases hlt : k < ts.length
    · obtain ⟨b, off, rfl, hbl, hc⟩ := hx k hlt
      have hbn := allB_nth HA.out k hlt
      obtain ⟨y, hy, hy4⟩ := int_nat4 hbn.1 (show nth ts k < 4 by omega) (by omega)
      have HY := Lib.hid hy
      rw [hy] at hc
      have hk4 : k < 4 := by omega
      have h16 : setTo (fun x => a.testBit (nth ts x).toNat) (fun x => x) k < 16 := setTo_lt16 _ _ k fun x hx => by
        have := allB_nth HA.out x (by omega)
        show x < 4; omega
      obtain ⟨o, ho⟩ : ∃ o : Nat, o = setTo (fun x => a.testBit (nth ts x).toNat) (fun x => x) k := ⟨_, rfl⟩
      rw [← ho] at h16 ⊢
      have HO := Lib.hid ho
      have hwp := bit_wrap' k hk4
      have hor := bit_or' o k h16 hk4
      clear hx ho hy hbn
      by_cases ht : a.testBit y = true
      · have hs : Hid (setTo (fun x => a.testBit (nth ts x).toNat) (fun x => x) (k + 1) = o ||| bit k) := Lib.hid (by rw [setTo_yes (by show a.testBit (nth ts k).toNat = true; rw [HY.out, Int.toNat_natCast]; exact ht), ← HO.out])
        have hh := bit_has' a y ha hy4
        rw [ht] at hh
        clear ht
        go_wp2
        exact ⟨⟨k + 1, by omega, by go_num, by rw [hs.out]⟩, by simp [intOf]; omega⟩
      · replace ht : a.testBit y = false := by simpa using ht
        have hs : Hid (setTo (fun x => a.testBit (nth ts x).toNat) (fun x => x) (k + 1) = o) := Lib.hid (by rw [setTo_no (by show a.testBit (nth ts k).toNat = false; rw [HY.out, Int.toNat_natCast]; exact ht), ← HO.out])
        have hh := bit_has' a y ha hy4
        rw [ht] at hh
        clear ht
        go_wp2
        exact ⟨⟨k + 1, by omega, by go_num, by rw [hs.out]⟩, by simp [intOf]; omega⟩
    · have h1 : k = ts.length := by omega
      subst h1
      clear hx
      go_wp2
      go_ret
      exact ⟨rfl, rfl⟩

theorem coaIn_any (a : Nat) (q : Addr) (p : Option Addr) (c : Nat) (ts : List Int) (w : World) (hx : Reads w p ts) (hxm : ts.length ≤ 4) (hal : allB 0 3 ts = true) (ha : a < 16) (hq : w.cell? q = some (.slice p ts.length c)) :
    Calls Try.prog 100 #[.int .i64 a, .pointer (some q)] w fun e w' => e = .returned (.int .i64 (imgS ts a : Nat)) ∧ w = w' := by
  go_enter Try.func100, Try.ntmps100
  go_wp2_with fail
  refine (imageOf_any a _ _ ts _ hx hxm hal ha).mono ?_
  rintro e w' ⟨rfl, rfl⟩
  go_wp2
  go_ret
  exact ⟨rfl, rfl⟩

theorem accTo_ext (f g : Nat → Nat) (ys zs : List Int) (k : Nat) (h : ∀ b, b < k → f b = g b) : accTo f ys zs k = accTo g ys zs k := by
  induction k with
  | zero => rfl
  | succ k ih => rw [accTo_succ, accTo_succ, ih fun b hb => h b (by omega), h k (by omega)]

theorem sz_in {z : Int} (h : szB z = true) : 1 ≤ z ∧ z ≤ 4 := yes_inB h

theorem pow2_toNat (z : Int) : pow2 z = ((2 ^ z.toNat : Nat) : Int) := by simp [pow2]

theorem pow_le16 {z : Int} (h4 : z ≤ 4) : 2 ^ z.toNat ≤ 16 := by
  have := Nat.pow_le_pow_right (n := 2) (by omega) (show z.toNat ≤ 4 by omega)
  omega

/-- The parts of a mass made over. -/
def rfG (s : Int) (xs ts : List Int) (z : Int) : Bool := massB s xs && (szB z && ansB ts z s)
def coG (s : Int) (xs ts : List Int) (z : Int) : Bool := massB s xs && (szB z && ansB ts s z)
def rfP (xs ts : List Int) (z : Int) : List Int := accTo (bakS ts) xs (zeros (2 ^ z.toNat)) xs.length
def coP (xs ts : List Int) (z : Int) : List Int := accTo (imgS ts) xs (zeros (2 ^ z.toNat)) xs.length

theorem accP_wide (f : Nat → Nat) (xs : List Int) (n : Nat) (hl : xs.length ≤ 16) (h : allB 0 1000000 xs = true) : allB 0 4611686018427387904 (accTo f xs (zeros n) xs.length) = true :=
  allB_wider (accTo_all f xs (zeros n) h (by omega) (zeros_all _) _ (Nat.le_refl _)) (by omega) (by omega)

theorem rfR_len (s : Int) (xs ts : List Int) (z : Int) : (gL (rfG s xs ts z) z (rfP xs ts z)).length ≤ 1048576 := by
  by_cases h : rfG s xs ts z = true
  · have h1 := gL_len (rfG s xs ts z) z (rfP xs ts z)
    simp only [rfG, Bool.and_eq_true] at h
    have h2 := pow_le16 (sz_in h.2.1).2
    rw [rfP, accTo_len, zeros_len] at h1
    unfold rfP
    omega
  · rw [gL, if_neg h]; simp

theorem coR_len (s : Int) (xs ts : List Int) (z : Int) : (gL (coG s xs ts z) z (coP xs ts z)).length ≤ 1048576 := by
  by_cases h : coG s xs ts z = true
  · have h1 := gL_len (coG s xs ts z) z (coP xs ts z)
    simp only [coG, Bool.and_eq_true] at h
    have h2 := pow_le16 (sz_in h.2.1).2
    rw [coP, accTo_len, zeros_len] at h1
    unfold coP
    omega
  · rw [gL, if_neg h]; simp

set_option maxHeartbeats 2000000 in
theorem iRefineMass_any (s : Int) (p : Option Addr) (c : Nat) (xs : List Int) (q : Option Addr) (d : Nat) (ts : List Int) (z : Int) (w : World) (hx : Reads w p xs) (ht : Reads w q ts) (hxm : xs.length ≤ 1048576) (htm : ts.length ≤ 1048576) :
    Calls Try.prog 35 #[.agg #[.int .i64 s, .slice p xs.length c], .slice q ts.length d, .int .i64 z] w fun e w' => ∃ v, e = .returned (.tuple #[.agg #[.int .i64 (gS (rfG s xs ts z) z (rfP xs ts z)), v], .bool (gOk (rfG s xs ts z) z (rfP xs ts z))]) ∧ Own w.heap.size w' v (gL (rfG s xs ts z) z (rfP xs ts z)) ∧ Below w.heap.size w w' := by
  obtain ⟨W, hW⟩ : ∃ W : World, W = (((w.alloc (.cells #[.int .i64 s, .slice p xs.length c] 25)).alloc (.cells #[.slice q ts.length d] 23)).alloc (.cells #[.int .i64 0, .slice none 0 0] 25)) := ⟨_, rfl⟩
  have bW : Below w.heap.size w W := by subst hW; exact (((belowAlloc _ _).thenB (belowAlloc _ _)).thenB (belowAlloc _ _))
  have hsz : W.heap.size = w.heap.size + 3 := by subst hW; simp
  have b0 : VarInv W (w.heap.size) (s) (.slice p xs.length c) := by
    subst hW
    have h := VarInv.made w (s) (.slice p xs.length c) 25
    exact ((h.later (belowAlloc _ _)).later (belowAlloc _ _))
  have b1 : W.cell? ⟨w.heap.size + 1, 0, none⟩ = some (.slice q ts.length d) := by
    subst hW
    have h := newCell ((w.alloc (.cells #[.int .i64 s, .slice p xs.length c] 25))) (.slice q ts.length d) 23
    rw [show (w.alloc (.cells #[.int .i64 s, .slice p xs.length c] 25)).heap.size = w.heap.size + 1 by simp] at h
    exact cellKeep (belowAlloc _ _) (h)
  have bR : VarInv W (w.heap.size + 2) (0) (.slice none 0 0) := by
    subst hW
    have h := VarInv.made ((w.alloc (.cells #[.int .i64 s, .slice p xs.length c] 25)).alloc (.cells #[.slice q ts.length d] 23)) (0) (.slice none 0 0) 25
    rw [show ((w.alloc (.cells #[.int .i64 s, .slice p xs.length c] 25)).alloc (.cells #[.slice q ts.length d] 23)).heap.size = w.heap.size + 2 by simp] at h
    exact h
  have HWW := Lib.hid hW
  have HSZ := Lib.hid hsz
  clear hW hsz
  by_cases h1 : massB s xs = true
  rotate_left
  · have h1 : massB s xs = false := by simpa using h1
    obtain ⟨hS, hO, hL⟩ := gNo (s := z) (L := rfP xs ts z) (g := rfG s xs ts z) (by simp [rfG, coG, h1])
    have hS := Lib.hid hS
    have hO := Lib.hid hO
    have hL := Lib.hid hL
    go_enter Try.func35, Try.ntmps35
    go_wp2_with fail
    rw [← HWW.out]
    refine (isMass_any _ _ _ _ _ (hx.below bW) hxm).mono ?_
    rintro e w1 ⟨rfl, hb⟩
    replace b0 := b0.later hb
    have b0_0 := b0.c0
    have b0_1 := b0.c1
    replace b1 := cellKeep hb b1
    replace bR := bR.later hb
    have bR_0 := bR.c0
    have bR_1 := bR.c1
    replace bW := bW.thenB hb
    have z1 := hb.size
    clear hb
    have s0 := bR.c0
    have s1 := bR.c1
    have s2 := bR.f0
    have s3 := bR.f1
    go_wp2
    refine bodyPost_ret (v := .tuple #[.agg #[.int .i64 (0), .slice none 0 0], .bool (false)]) (by simp [results, Try.results35, go_sem, s0, s1, s2, s3]) rfl ⟨_, by rw [hS.out, hO.out], ?_, ?_⟩
    · rw [hL.out]; exact Own.nil _ _
    · exact ((bW).setCell (by show _ ≤ w.heap.size + 2; omega) _).setCell (by show _ ≤ w.heap.size + 2; omega) _
  have hk := massB_ok h1
  have k1 := hk.s1
  have k4 := hk.s4
  by_cases h2 : szB z = true
  rotate_left
  · have h2 : szB z = false := by simpa using h2
    clear hk
    obtain ⟨hS, hO, hL⟩ := gNo (s := z) (L := rfP xs ts z) (g := rfG s xs ts z) (by simp [rfG, coG, h2])
    have hS := Lib.hid hS
    have hO := Lib.hid hO
    have hL := Lib.hid hL
    go_enter Try.func35, Try.ntmps35
    go_wp2_with fail
    rw [← HWW.out]
    refine (isMass_any _ _ _ _ _ (hx.below bW) hxm).mono ?_
    rintro e w1 ⟨rfl, hb⟩
    replace b0 := b0.later hb
    have b0_0 := b0.c0
    have b0_1 := b0.c1
    replace b1 := cellKeep hb b1
    replace bR := bR.later hb
    have bR_0 := bR.c0
    have bR_1 := bR.c1
    replace bW := bW.thenB hb
    have z1 := hb.size
    clear hb
    go_wp2_with fail
    refine (isSize_any _ _).mono ?_
    rintro e w' ⟨rfl, rfl⟩
    have s0 := bR.c0
    have s1 := bR.c1
    have s2 := bR.f0
    have s3 := bR.f1
    go_wp2
    refine bodyPost_ret (v := .tuple #[.agg #[.int .i64 (0), .slice none 0 0], .bool (false)]) (by simp [results, Try.results35, go_sem, s0, s1, s2, s3]) rfl ⟨_, by rw [hS.out, hO.out], ?_, ?_⟩
    · rw [hL.out]; exact Own.nil _ _
    · exact ((bW).setCell (by show _ ≤ w.heap.size + 2; omega) _).setCell (by show _ ≤ w.heap.size + 2; omega) _
  obtain ⟨zz1, zz4⟩ := sz_in h2
  by_cases h3 : ansB ts z s = true
  rotate_left
  · have h3 : ansB ts z s = false := by simpa using h3
    clear hk
    obtain ⟨hS, hO, hL⟩ := gNo (s := z) (L := rfP xs ts z) (g := rfG s xs ts z) (by simp [rfG, coG, h3])
    have hS := Lib.hid hS
    have hO := Lib.hid hO
    have hL := Lib.hid hL
    go_enter Try.func35, Try.ntmps35
    go_wp2_with fail
    rw [← HWW.out]
    refine (isMass_any _ _ _ _ _ (hx.below bW) hxm).mono ?_
    rintro e w1 ⟨rfl, hb⟩
    replace b0 := b0.later hb
    have b0_0 := b0.c0
    have b0_1 := b0.c1
    replace b1 := cellKeep hb b1
    replace bR := bR.later hb
    have bR_0 := bR.c0
    have bR_1 := bR.c1
    replace bW := bW.thenB hb
    have z1 := hb.size
    clear hb
    go_wp2_with fail
    refine (isSize_any _ _).mono ?_
    rintro e w' ⟨rfl, rfl⟩
    go_wp2_with fail
    refine (areAnswers_any _ _ ts z s _ (ht.below bW) htm).mono ?_
    rintro e w' ⟨rfl, rfl⟩
    have s0 := bR.c0
    have s1 := bR.c1
    have s2 := bR.f0
    have s3 := bR.f1
    go_wp2
    refine bodyPost_ret (v := .tuple #[.agg #[.int .i64 (0), .slice none 0 0], .bool (false)]) (by simp [results, Try.results35, go_sem, s0, s1, s2, s3]) rfl ⟨_, by rw [hS.out, hO.out], ?_, ?_⟩
    · rw [hL.out]; exact Own.nil _ _
    · exact ((bW).setCell (by show _ ≤ w.heap.size + 2; omega) _).setCell (by show _ ≤ w.heap.size + 2; omega) _
  have hg : rfG s xs ts z = true := by simp [rfG, coG, h1, h2, h3]
  obtain ⟨a1, a2⟩ := ansB_ok h3
  obtain ⟨hS, hO, hL⟩ := gYes (s := z) (L := rfP xs ts z) hg
  have hS := Lib.hid hS
  have hO := Lib.hid hO
  have hL := Lib.hid hL
  have HK := Lib.hid hk
  have hl16 := hk.l16
  have hal := hk.all
  have htl : ts.length ≤ 4 := by omega
  have hta : allB 0 3 ts = true := allB_wider a1 (by omega) (by omega)
  obtain ⟨n, hn⟩ : ∃ n : Nat, n = 2 ^ z.toNat := ⟨_, rfl⟩
  have hnp : (n : Int) = pow2 z := by rw [hn, pow2_toNat]
  have hn16 : n ≤ 16 := by rw [hn]; exact pow_le16 zz4
  have hF : ∀ b, bakS ts b < n := fun b => by rw [hn]; exact Nat.lt_of_lt_of_eq (bakS_lt ts b) (by rw [show ts.length = z.toNat by omega])
  have HPE : Hid (rfP xs ts z = accTo (bakS ts) xs (zeros n) xs.length) := Lib.hid (by rw [hn]; rfl)
  have HP : Hid (allB 0 4611686018427387904 (rfP xs ts z) = true) := Lib.hid (accP_wide _ xs _ hl16 hal)
  have HPL : Hid ((rfP xs ts z).length = n) := Lib.hid (by rw [HPE.out, accTo_len, zeros_len])
  have HF := Lib.hid hF
  have HNP := Lib.hid hnp
  have HA1 := Lib.hid a1
  have HTA := Lib.hid hta
  clear hg hk hn hnp hF a1 a2 hta
  have hmf : ∀ (fn : Fn) (first cap : Array Value) (w : World), (Instr.makeFunc fn first cap).run Try.prog w = .ok (.func fn first cap) w := fun _ _ _ _ => rfl
  go_enter Try.func35, Try.ntmps35
  go_wp2_with fail
  rw [← HWW.out]
  refine (isMass_any _ _ _ _ _ (hx.below bW) hxm).mono ?_
  rintro e w1 ⟨rfl, hb⟩
  replace b0 := b0.later hb
  have b0_0 := b0.c0
  have b0_1 := b0.c1
  replace b1 := cellKeep hb b1
  replace bR := bR.later hb
  have bR_0 := bR.c0
  have bR_1 := bR.c1
  replace bW := bW.thenB hb
  have z1 := hb.size
  clear hb
  go_wp2_with fail
  refine (isSize_any _ _).mono ?_
  rintro e w' ⟨rfl, rfl⟩
  go_wp2_with fail
  refine (areAnswers_any _ _ ts z s _ (ht.below bW) htm).mono ?_
  rintro e w' ⟨rfl, rfl⟩
  have hxr := (hx.below bW)
  have htr := (ht.below bW)
  have b1' := Lib.hid b1
  have l1 := World.block_lt_of_cell? _ _ b1
  go_wp2_with fail
  refine (mapped_any 96 (fun _ _ => by kernel_rfl) ⟨w.heap.size + 1, 0, none⟩ (bakS ts) _ _ _ _ n _ _ hxr hl16 hal zz1 zz4 HNP.out (fun b hb => HF.out b) (Lib.hid fun b wr hb hbw => refIn_any b _ _ _ ts wr (htr.below hbw) htl HTA.out (by omega) ((hbw.cell (p := ⟨w.heap.size + 1, 0, none⟩) l1).trans b1'.out))).mono ?_
  rintro e w2 ⟨vo, rfl, o, hb⟩
  clear b0_0 b0_1 bR_0 bR_1
  replace b0 := b0.later hb
  have b0_0 := b0.c0
  have b0_1 := b0.c1
  replace b1 := cellKeep hb b1
  replace bR := bR.later hb
  have bR_0 := bR.c0
  have bR_1 := bR.c1
  replace bW := bW.thenB hb
  have z2 := hb.size
  obtain ⟨po, co, rfl, _hr⟩ := o.shape
  clear hb _hr
  rw [← HPE.out] at o
  have s0 := bR.c0
  have s1 := bR.c1
  have s2 := bR.f0
  have s3 := bR.f1
  go_wp2
  refine bodyPost_ret (v := .tuple #[.agg #[.int .i64 (mkS z (rfP xs ts z)), .slice po (mkL z (rfP xs ts z)).length co], .bool (mkOk z (rfP xs ts z))]) (by simp [results, Try.results35, go_sem, s0, s1, s2, s3, HPE.out]) rfl ⟨_, by rw [hS.out, hO.out], ?_, ?_⟩
  · rw [hL.out]; exact ((o.setBelow (by show w.heap.size + 2 < _; have := HSZ.out; omega) _).setBelow (by show w.heap.size + 2 < _; have := HSZ.out; omega) _).mono (by have := HSZ.out; omega)
  · exact ((bW).setCell (by show _ ≤ w.heap.size + 2; omega) _).setCell (by show _ ≤ w.heap.size + 2; omega) _

set_option maxHeartbeats 2000000 in
theorem sRefineMass_any (s : Int) (p : Option Addr) (c : Nat) (xs : List Int) (q : Option Addr) (d : Nat) (ts : List Int) (z : Int) (w : World) (hx : Reads w p xs) (ht : Reads w q ts) (hxm : xs.length ≤ 1048576) (htm : ts.length ≤ 1048576) :
    Calls Try.prog 36 #[.agg #[.int .i64 s, .slice p xs.length c], .slice q ts.length d, .int .i64 z] w fun e w' => ∃ v, e = .returned (.tuple #[.agg #[.int .i64 (gS (rfG s xs ts z) z (rfP xs ts z)), v], .bool (gOk (rfG s xs ts z) z (rfP xs ts z))]) ∧ Own w.heap.size w' v (gL (rfG s xs ts z) z (rfP xs ts z)) ∧ Below w.heap.size w w' := by
  obtain ⟨W, hW⟩ : ∃ W : World, W = ((w.alloc (.cells #[.int .i64 s, .slice p xs.length c] 25)).alloc (.cells #[.int .i64 0, .slice none 0 0] 25)) := ⟨_, rfl⟩
  have bW : Below w.heap.size w W := by subst hW; exact ((belowAlloc _ _).thenB (belowAlloc _ _))
  have hsz : W.heap.size = w.heap.size + 2 := by subst hW; simp
  have b0 : VarInv W (w.heap.size) (s) (.slice p xs.length c) := by
    subst hW
    have h := VarInv.made w (s) (.slice p xs.length c) 25
    exact (h.later (belowAlloc _ _))
  have bR : VarInv W (w.heap.size + 1) (0) (.slice none 0 0) := by
    subst hW
    have h := VarInv.made (w.alloc (.cells #[.int .i64 s, .slice p xs.length c] 25)) (0) (.slice none 0 0) 25
    rw [show (w.alloc (.cells #[.int .i64 s, .slice p xs.length c] 25)).heap.size = w.heap.size + 1 by simp] at h
    exact h
  have HWW := Lib.hid hW
  have HSZ := Lib.hid hsz
  clear hW hsz
  by_cases h1 : massB s xs = true
  rotate_left
  · have h1 : massB s xs = false := by simpa using h1
    obtain ⟨hS, hO, hL⟩ := gNo (s := z) (L := rfP xs ts z) (g := rfG s xs ts z) (by simp [rfG, coG, h1])
    have hS := Lib.hid hS
    have hO := Lib.hid hO
    have hL := Lib.hid hL
    go_enter Try.func36, Try.ntmps36
    go_wp2_with fail
    rw [← HWW.out]
    refine (MassValid_any _ _ _ _ _ (hx.below bW) hxm).mono ?_
    rintro e w1 ⟨rfl, hb⟩
    replace b0 := b0.later hb
    have b0_0 := b0.c0
    have b0_1 := b0.c1
    replace bR := bR.later hb
    have bR_0 := bR.c0
    have bR_1 := bR.c1
    replace bW := bW.thenB hb
    have z1 := hb.size
    clear hb
    have s0 := bR.c0
    have s1 := bR.c1
    have s2 := bR.f0
    have s3 := bR.f1
    go_wp2
    refine bodyPost_ret (v := .tuple #[.agg #[.int .i64 (0), .slice none 0 0], .bool (false)]) (by simp [results, Try.results36, go_sem, s0, s1, s2, s3]) rfl ⟨_, by rw [hS.out, hO.out], ?_, ?_⟩
    · rw [hL.out]; exact Own.nil _ _
    · exact ((bW).setCell (by show _ ≤ w.heap.size + 1; omega) _).setCell (by show _ ≤ w.heap.size + 1; omega) _
  have hk := massB_ok h1
  have k1 := hk.s1
  have k4 := hk.s4
  have hss : szB s = true := hk.sz
  by_cases h3 : whB z ts s = true
  rotate_left
  · have h3 : whB z ts s = false := by simpa using h3
    have hgf : rfG s xs ts z = false := by have h4 := h3; simp only [whB, hss, Bool.true_and] at h4; simp only [rfG, coG, h1, Bool.true_and, h4]
    have HGF := Lib.hid hgf
    clear hk hss hgf
    obtain ⟨hS, hO, hL⟩ := gNo (s := z) (L := rfP xs ts z) (g := rfG s xs ts z) (HGF.out)
    have hS := Lib.hid hS
    have hO := Lib.hid hO
    have hL := Lib.hid hL
    go_enter Try.func36, Try.ntmps36
    go_wp2_with fail
    rw [← HWW.out]
    refine (MassValid_any _ _ _ _ _ (hx.below bW) hxm).mono ?_
    rintro e w1 ⟨rfl, hb⟩
    replace b0 := b0.later hb
    have b0_0 := b0.c0
    have b0_1 := b0.c1
    replace bR := bR.later hb
    have bR_0 := bR.c0
    have bR_1 := bR.c1
    replace bW := bW.thenB hb
    have z1 := hb.size
    clear hb
    go_wp2_with fail
    refine (l7Whole_any _ _ ts z s _ (ht.below bW) htm).mono ?_
    rintro e w' ⟨rfl, rfl⟩
    have s0 := bR.c0
    have s1 := bR.c1
    have s2 := bR.f0
    have s3 := bR.f1
    go_wp2
    refine bodyPost_ret (v := .tuple #[.agg #[.int .i64 (0), .slice none 0 0], .bool (false)]) (by simp [results, Try.results36, go_sem, s0, s1, s2, s3]) rfl ⟨_, by rw [hS.out, hO.out], ?_, ?_⟩
    · rw [hL.out]; exact Own.nil _ _
    · exact ((bW).setCell (by show _ ≤ w.heap.size + 1; omega) _).setCell (by show _ ≤ w.heap.size + 1; omega) _
  have h4 : szB z = true ∧ ansB ts z s = true := by have h4 := h3; simp only [whB, hss, Bool.true_and, Bool.and_eq_true] at h4; exact h4
  obtain ⟨h2, h5⟩ := h4
  obtain ⟨zz1, zz4⟩ := sz_in h2
  have hg : rfG s xs ts z = true := by simp [rfG, coG, h1, h2, h5]
  obtain ⟨a1, a2⟩ := ansB_ok h5
  obtain ⟨hS, hO, hL⟩ := gYes (s := z) (L := rfP xs ts z) hg
  have hS := Lib.hid hS
  have hO := Lib.hid hO
  have hL := Lib.hid hL
  have HK := Lib.hid hk
  have hl16 := hk.l16
  have hal := hk.all
  have htl : ts.length ≤ 4 := by omega
  have hta : allB 0 3 ts = true := allB_wider a1 (by omega) (by omega)
  obtain ⟨n, hn⟩ : ∃ n : Nat, n = 2 ^ z.toNat := ⟨_, rfl⟩
  have hnp : (n : Int) = pow2 z := by rw [hn, pow2_toNat]
  have hn16 : n ≤ 16 := by rw [hn]; exact pow_le16 zz4
  have hF : ∀ b, bakS ts b < n := fun b => by rw [hn]; exact Nat.lt_of_lt_of_eq (bakS_lt ts b) (by rw [show ts.length = z.toNat by omega])
  have HPE : Hid (rfP xs ts z = accTo (bakS ts) xs (zeros n) xs.length) := Lib.hid (by rw [hn]; rfl)
  have HP : Hid (allB 0 4611686018427387904 (rfP xs ts z) = true) := Lib.hid (accP_wide _ xs _ hl16 hal)
  have HPL : Hid ((rfP xs ts z).length = n) := Lib.hid (by rw [HPE.out, accTo_len, zeros_len])
  have HF := Lib.hid hF
  have HNP := Lib.hid hnp
  have HA1 := Lib.hid a1
  have HTA := Lib.hid hta
  clear hg hk hn hnp hF a1 a2 hta hss h2 h5
  have hpw := pow2_wrap z zz1 zz4
  rw [← HNP.out] at hpw
  go_enter Try.func36, Try.ntmps36
  go_wp2_with fail
  rw [← HWW.out]
  refine (MassValid_any _ _ _ _ _ (hx.below bW) hxm).mono ?_
  rintro e w1 ⟨rfl, hb⟩
  replace b0 := b0.later hb
  have b0_0 := b0.c0
  have b0_1 := b0.c1
  replace bR := bR.later hb
  have bR_0 := bR.c0
  have bR_1 := bR.c1
  replace bW := bW.thenB hb
  have z1 := hb.size
  clear hb
  go_wp2_with fail
  refine (l7Whole_any _ _ ts z s _ (ht.below bW) htm).mono ?_
  rintro e w' ⟨rfl, rfl⟩
  have hz2 : w.heap.size + 1 < w1.heap.size := by have := HSZ.out; omega
  have hx1 := (hx.below bW)
  have ht1 := (ht.below bW)
  go_wp2_with (at_make; refine wpList_makeInts _ rfl _ _ rfl w1.heap.size _ _ _ _ n rfl rfl hpw hpw (by omega) (Nat.le_refl _) ?_)
  intro w2 hown hb2 hlt2
  have hM2 := b0.later hb2
  have hR2 := bR.later hb2
  replace b0_0 := hM2.c0
  replace b0_1 := hM2.c1
  clear b0 bR bR_0 bR_1
  go_wp2_with fail
  clear b0_0 b0_1
  go_loopw [9] (fun i wr => ∃ k : Nat, k ≤ xs.length ∧ i = .int .i64 k ∧ Own w1.heap.size wr (.slice (some ⟨w1.heap.size, 0, none⟩) n n) (accTo (bakS ts) xs (zeros n) k) ∧ VarInv wr w.heap.size s (.slice p xs.length c) ∧ VarInv wr (w.heap.size + 1) 0 (.slice none 0 0) ∧ Below w1.heap.size w1 wr ∧ w1.heap.size < wr.heap.size) (fun i _ => xs.length - (intOf i).toNat)
  case atStart => exact ⟨0, Nat.zero_le _, rfl, hown, hM2, hR2, hb2, hlt2⟩
  case round =>
    clear hown hM2 hR2 hb2 hlt2
    obtain ⟨k, hk, rfl, ho, iM, iR, hb, hlt2⟩ := hrel
    have m0 := iM.c0
    have m1 := iM.c1
    by_cases hlt : k < xs.length
    · obtain ⟨b, off, rfl, hbl, hc0⟩ := hx1 k hlt
      have hc := (hb.cell (p := ⟨b, off + k, none⟩) hbl).trans hc0
      have hs := Lib.hid (accTo_succ (bakS ts) xs (zeros n) k)
      have hacc := accTo_all (bakS ts) xs (zeros n) hal (by omega) (zeros_all _) k hk
      have hln := accTo_len (bakS ts) xs (zeros n) k
      rw [zeros_len] at hln
      have hFk := HF.out k
      obtain ⟨y, hy⟩ : ∃ y : Nat, y = bakS ts k := ⟨_, rfl⟩
      have HY := Lib.hid hy
      rw [← hy] at hFk
      have htr := ht1.below hb
      obtain ⟨f1, f2⟩ := allB_nth hacc y (by rw [hln]; exact hFk)
      obtain ⟨d1, d2⟩ := allB_nth hal k hlt
      obtain ⟨q1, q2⟩ := ho.cellAt hln y hFk
      have HST := Lib.hid (ho.storedAt hln y (nth (accTo (bakS ts) xs (zeros n) k) y + nth xs k))
      have hsum : IntKind.i64.wrap (nth (accTo (bakS ts) xs (zeros n) k) y + nth xs k) = nth (accTo (bakS ts) xs (zeros n) k) y + nth xs k := IntWalk.i64_in _ (by omega)
      have hFn : ((y : Nat) : Int) < (n : Int) := by omega
      have hF0 : (0 : Int) ≤ ((y : Nat) : Int) := by omega
      have hk16 : k < 16 := by omega
      clear hx1 hc0 hacc hln ho hy
      go_wp2_with fail
      refine (l7Back_any k _ _ ts _ htr htl HTA.out hk16).mono ?_
      rintro e w' ⟨rfl, rfl⟩
      rw [← HY.out]
      clear ht1 htr
      go_wp2_with fail
      go_region
      all_goals go_wp2
      all_goals exact ⟨⟨k + 1, by omega, by go_num, by rw [hs.out, ← HY.out]; exact HST.out.drew, (iM.other _ (by show w1.heap.size ≠ w.heap.size; omega) _).drew, (iR.other _ (by show w1.heap.size ≠ w.heap.size + 1; omega) _).drew, (hb.setCell (Nat.le_refl _) _).drew, by simpa using hlt2⟩, by simp [intOf]; omega⟩
    · have h1 : k = xs.length := by omega
      subst h1
      clear hx1 ht1
      rw [← HPE.out] at ho
      have HO := Lib.hid ho
      clear ho
      go_wp2_with fail
      refine (l3Made_n _ _ _ _ (rfP xs ts z) _ HPL.out HO.out.reads (by rw [HPL.out]; omega) HP.out).mono ?_
      rintro e w3 ⟨v, rfl, ho2, hb3⟩
      obtain ⟨p2, c2, rfl, hr2⟩ := ho2.shape
      clear hr2
      have jR := iR.later hb3
      have s0 := jR.c0
      have s1 := jR.c1
      have s2 := jR.f0
      have s3 := jR.f1
      go_wp2
      refine bodyPost_ret (v := .tuple #[.agg #[.int .i64 (mkS z (rfP xs ts z)), .slice p2 (mkL z (rfP xs ts z)).length c2], .bool (mkOk z (rfP xs ts z))]) (by simp [results, Try.results36, go_sem, s0, s1, s2, s3]) rfl ⟨_, by rw [hS.out, hO.out], ?_, ?_⟩
      · rw [hL.out]; exact ((ho2.setBelow (by show w.heap.size + 1 < _; omega) _).setBelow (by show w.heap.size + 1 < _; omega) _).mono (by omega)
      · exact (((bW.thenB hb).thenB hb3).setCell (by show _ ≤ w.heap.size + 1; omega) _).setCell (by show _ ≤ w.heap.size + 1; omega) _

set_option maxHeartbeats 2000000 in
theorem iCoarsenMass_any (s : Int) (p : Option Addr) (c : Nat) (xs : List Int) (q : Option Addr) (d : Nat) (ts : List Int) (z : Int) (w : World) (hx : Reads w p xs) (ht : Reads w q ts) (hxm : xs.length ≤ 1048576) (htm : ts.length ≤ 1048576) :
    Calls Try.prog 37 #[.agg #[.int .i64 s, .slice p xs.length c], .slice q ts.length d, .int .i64 z] w fun e w' => ∃ v, e = .returned (.tuple #[.agg #[.int .i64 (gS (coG s xs ts z) z (coP xs ts z)), v], .bool (gOk (coG s xs ts z) z (coP xs ts z))]) ∧ Own w.heap.size w' v (gL (coG s xs ts z) z (coP xs ts z)) ∧ Below w.heap.size w w' := by
  obtain ⟨W, hW⟩ : ∃ W : World, W = (((w.alloc (.cells #[.int .i64 s, .slice p xs.length c] 25)).alloc (.cells #[.slice q ts.length d] 23)).alloc (.cells #[.int .i64 0, .slice none 0 0] 25)) := ⟨_, rfl⟩
  have bW : Below w.heap.size w W := by subst hW; exact (((belowAlloc _ _).thenB (belowAlloc _ _)).thenB (belowAlloc _ _))
  have hsz : W.heap.size = w.heap.size + 3 := by subst hW; simp
  have b0 : VarInv W (w.heap.size) (s) (.slice p xs.length c) := by
    subst hW
    have h := VarInv.made w (s) (.slice p xs.length c) 25
    exact ((h.later (belowAlloc _ _)).later (belowAlloc _ _))
  have b1 : W.cell? ⟨w.heap.size + 1, 0, none⟩ = some (.slice q ts.length d) := by
    subst hW
    have h := newCell ((w.alloc (.cells #[.int .i64 s, .slice p xs.length c] 25))) (.slice q ts.length d) 23
    rw [show (w.alloc (.cells #[.int .i64 s, .slice p xs.length c] 25)).heap.size = w.heap.size + 1 by simp] at h
    exact cellKeep (belowAlloc _ _) (h)
  have bR : VarInv W (w.heap.size + 2) (0) (.slice none 0 0) := by
    subst hW
    have h := VarInv.made ((w.alloc (.cells #[.int .i64 s, .slice p xs.length c] 25)).alloc (.cells #[.slice q ts.length d] 23)) (0) (.slice none 0 0) 25
    rw [show ((w.alloc (.cells #[.int .i64 s, .slice p xs.length c] 25)).alloc (.cells #[.slice q ts.length d] 23)).heap.size = w.heap.size + 2 by simp] at h
    exact h
  have HWW := Lib.hid hW
  have HSZ := Lib.hid hsz
  clear hW hsz
  by_cases h1 : massB s xs = true
  rotate_left
  · have h1 : massB s xs = false := by simpa using h1
    obtain ⟨hS, hO, hL⟩ := gNo (s := z) (L := coP xs ts z) (g := coG s xs ts z) (by simp [rfG, coG, h1])
    have hS := Lib.hid hS
    have hO := Lib.hid hO
    have hL := Lib.hid hL
    go_enter Try.func37, Try.ntmps37
    go_wp2_with fail
    rw [← HWW.out]
    refine (isMass_any _ _ _ _ _ (hx.below bW) hxm).mono ?_
    rintro e w1 ⟨rfl, hb⟩
    replace b0 := b0.later hb
    have b0_0 := b0.c0
    have b0_1 := b0.c1
    replace b1 := cellKeep hb b1
    replace bR := bR.later hb
    have bR_0 := bR.c0
    have bR_1 := bR.c1
    replace bW := bW.thenB hb
    have z1 := hb.size
    clear hb
    have s0 := bR.c0
    have s1 := bR.c1
    have s2 := bR.f0
    have s3 := bR.f1
    go_wp2
    refine bodyPost_ret (v := .tuple #[.agg #[.int .i64 (0), .slice none 0 0], .bool (false)]) (by simp [results, Try.results37, go_sem, s0, s1, s2, s3]) rfl ⟨_, by rw [hS.out, hO.out], ?_, ?_⟩
    · rw [hL.out]; exact Own.nil _ _
    · exact ((bW).setCell (by show _ ≤ w.heap.size + 2; omega) _).setCell (by show _ ≤ w.heap.size + 2; omega) _
  have hk := massB_ok h1
  have k1 := hk.s1
  have k4 := hk.s4
  by_cases h2 : szB z = true
  rotate_left
  · have h2 : szB z = false := by simpa using h2
    clear hk
    obtain ⟨hS, hO, hL⟩ := gNo (s := z) (L := coP xs ts z) (g := coG s xs ts z) (by simp [rfG, coG, h2])
    have hS := Lib.hid hS
    have hO := Lib.hid hO
    have hL := Lib.hid hL
    go_enter Try.func37, Try.ntmps37
    go_wp2_with fail
    rw [← HWW.out]
    refine (isMass_any _ _ _ _ _ (hx.below bW) hxm).mono ?_
    rintro e w1 ⟨rfl, hb⟩
    replace b0 := b0.later hb
    have b0_0 := b0.c0
    have b0_1 := b0.c1
    replace b1 := cellKeep hb b1
    replace bR := bR.later hb
    have bR_0 := bR.c0
    have bR_1 := bR.c1
    replace bW := bW.thenB hb
    have z1 := hb.size
    clear hb
    go_wp2_with fail
    refine (isSize_any _ _).mono ?_
    rintro e w' ⟨rfl, rfl⟩
    have s0 := bR.c0
    have s1 := bR.c1
    have s2 := bR.f0
    have s3 := bR.f1
    go_wp2
    refine bodyPost_ret (v := .tuple #[.agg #[.int .i64 (0), .slice none 0 0], .bool (false)]) (by simp [results, Try.results37, go_sem, s0, s1, s2, s3]) rfl ⟨_, by rw [hS.out, hO.out], ?_, ?_⟩
    · rw [hL.out]; exact Own.nil _ _
    · exact ((bW).setCell (by show _ ≤ w.heap.size + 2; omega) _).setCell (by show _ ≤ w.heap.size + 2; omega) _
  obtain ⟨zz1, zz4⟩ := sz_in h2
  by_cases h3 : ansB ts s z = true
  rotate_left
  · have h3 : ansB ts s z = false := by simpa using h3
    clear hk
    obtain ⟨hS, hO, hL⟩ := gNo (s := z) (L := coP xs ts z) (g := coG s xs ts z) (by simp [rfG, coG, h3])
    have hS := Lib.hid hS
    have hO := Lib.hid hO
    have hL := Lib.hid hL
    go_enter Try.func37, Try.ntmps37
    go_wp2_with fail
    rw [← HWW.out]
    refine (isMass_any _ _ _ _ _ (hx.below bW) hxm).mono ?_
    rintro e w1 ⟨rfl, hb⟩
    replace b0 := b0.later hb
    have b0_0 := b0.c0
    have b0_1 := b0.c1
    replace b1 := cellKeep hb b1
    replace bR := bR.later hb
    have bR_0 := bR.c0
    have bR_1 := bR.c1
    replace bW := bW.thenB hb
    have z1 := hb.size
    clear hb
    go_wp2_with fail
    refine (isSize_any _ _).mono ?_
    rintro e w' ⟨rfl, rfl⟩
    go_wp2_with fail
    refine (areAnswers_any _ _ ts s z _ (ht.below bW) htm).mono ?_
    rintro e w' ⟨rfl, rfl⟩
    have s0 := bR.c0
    have s1 := bR.c1
    have s2 := bR.f0
    have s3 := bR.f1
    go_wp2
    refine bodyPost_ret (v := .tuple #[.agg #[.int .i64 (0), .slice none 0 0], .bool (false)]) (by simp [results, Try.results37, go_sem, s0, s1, s2, s3]) rfl ⟨_, by rw [hS.out, hO.out], ?_, ?_⟩
    · rw [hL.out]; exact Own.nil _ _
    · exact ((bW).setCell (by show _ ≤ w.heap.size + 2; omega) _).setCell (by show _ ≤ w.heap.size + 2; omega) _
  have hg : coG s xs ts z = true := by simp [rfG, coG, h1, h2, h3]
  obtain ⟨a1, a2⟩ := ansB_ok h3
  obtain ⟨hS, hO, hL⟩ := gYes (s := z) (L := coP xs ts z) hg
  have hS := Lib.hid hS
  have hO := Lib.hid hO
  have hL := Lib.hid hL
  have HK := Lib.hid hk
  have hl16 := hk.l16
  have hal := hk.all
  have htl : ts.length ≤ 4 := by omega
  have hta : allB 0 3 ts = true := allB_wider a1 (by omega) (by omega)
  obtain ⟨n, hn⟩ : ∃ n : Nat, n = 2 ^ z.toNat := ⟨_, rfl⟩
  have hnp : (n : Int) = pow2 z := by rw [hn, pow2_toNat]
  have hn16 : n ≤ 16 := by rw [hn]; exact pow_le16 zz4
  have hF : ∀ b, imgS ts b < n := fun b => by rw [hn]; exact imgS_lt a1 b
  have HPE : Hid (coP xs ts z = accTo (imgS ts) xs (zeros n) xs.length) := Lib.hid (by rw [hn]; rfl)
  have HP : Hid (allB 0 4611686018427387904 (coP xs ts z) = true) := Lib.hid (accP_wide _ xs _ hl16 hal)
  have HPL : Hid ((coP xs ts z).length = n) := Lib.hid (by rw [HPE.out, accTo_len, zeros_len])
  have HF := Lib.hid hF
  have HNP := Lib.hid hnp
  have HA1 := Lib.hid a1
  have HTA := Lib.hid hta
  clear hg hk hn hnp hF a1 a2 hta
  have hmf : ∀ (fn : Fn) (first cap : Array Value) (w : World), (Instr.makeFunc fn first cap).run Try.prog w = .ok (.func fn first cap) w := fun _ _ _ _ => rfl
  go_enter Try.func37, Try.ntmps37
  go_wp2_with fail
  rw [← HWW.out]
  refine (isMass_any _ _ _ _ _ (hx.below bW) hxm).mono ?_
  rintro e w1 ⟨rfl, hb⟩
  replace b0 := b0.later hb
  have b0_0 := b0.c0
  have b0_1 := b0.c1
  replace b1 := cellKeep hb b1
  replace bR := bR.later hb
  have bR_0 := bR.c0
  have bR_1 := bR.c1
  replace bW := bW.thenB hb
  have z1 := hb.size
  clear hb
  go_wp2_with fail
  refine (isSize_any _ _).mono ?_
  rintro e w' ⟨rfl, rfl⟩
  go_wp2_with fail
  refine (areAnswers_any _ _ ts s z _ (ht.below bW) htm).mono ?_
  rintro e w' ⟨rfl, rfl⟩
  have hxr := (hx.below bW)
  have htr := (ht.below bW)
  have b1' := Lib.hid b1
  have l1 := World.block_lt_of_cell? _ _ b1
  go_wp2_with fail
  refine (mapped_any 100 (fun _ _ => by kernel_rfl) ⟨w.heap.size + 1, 0, none⟩ (imgS ts) _ _ _ _ n _ _ hxr hl16 hal zz1 zz4 HNP.out (fun b hb => HF.out b) (Lib.hid fun b wr hb hbw => coaIn_any b _ _ _ ts wr (htr.below hbw) htl HTA.out (by omega) ((hbw.cell (p := ⟨w.heap.size + 1, 0, none⟩) l1).trans b1'.out))).mono ?_
  rintro e w2 ⟨vo, rfl, o, hb⟩
  clear b0_0 b0_1 bR_0 bR_1
  replace b0 := b0.later hb
  have b0_0 := b0.c0
  have b0_1 := b0.c1
  replace b1 := cellKeep hb b1
  replace bR := bR.later hb
  have bR_0 := bR.c0
  have bR_1 := bR.c1
  replace bW := bW.thenB hb
  have z2 := hb.size
  obtain ⟨po, co, rfl, _hr⟩ := o.shape
  clear hb _hr
  rw [← HPE.out] at o
  have s0 := bR.c0
  have s1 := bR.c1
  have s2 := bR.f0
  have s3 := bR.f1
  go_wp2
  refine bodyPost_ret (v := .tuple #[.agg #[.int .i64 (mkS z (coP xs ts z)), .slice po (mkL z (coP xs ts z)).length co], .bool (mkOk z (coP xs ts z))]) (by simp [results, Try.results37, go_sem, s0, s1, s2, s3, HPE.out]) rfl ⟨_, by rw [hS.out, hO.out], ?_, ?_⟩
  · rw [hL.out]; exact ((o.setBelow (by show w.heap.size + 2 < _; have := HSZ.out; omega) _).setBelow (by show w.heap.size + 2 < _; have := HSZ.out; omega) _).mono (by have := HSZ.out; omega)
  · exact ((bW).setCell (by show _ ≤ w.heap.size + 2; omega) _).setCell (by show _ ≤ w.heap.size + 2; omega) _

set_option maxHeartbeats 2000000 in
theorem sCoarsenMass_any (s : Int) (p : Option Addr) (c : Nat) (xs : List Int) (q : Option Addr) (d : Nat) (ts : List Int) (z : Int) (w : World) (hx : Reads w p xs) (ht : Reads w q ts) (hxm : xs.length ≤ 1048576) (htm : ts.length ≤ 1048576) :
    Calls Try.prog 40 #[.agg #[.int .i64 s, .slice p xs.length c], .slice q ts.length d, .int .i64 z] w fun e w' => ∃ v, e = .returned (.tuple #[.agg #[.int .i64 (gS (coG s xs ts z) z (coP xs ts z)), v], .bool (gOk (coG s xs ts z) z (coP xs ts z))]) ∧ Own w.heap.size w' v (gL (coG s xs ts z) z (coP xs ts z)) ∧ Below w.heap.size w w' := by
  obtain ⟨W, hW⟩ : ∃ W : World, W = ((w.alloc (.cells #[.int .i64 s, .slice p xs.length c] 25)).alloc (.cells #[.int .i64 0, .slice none 0 0] 25)) := ⟨_, rfl⟩
  have bW : Below w.heap.size w W := by subst hW; exact ((belowAlloc _ _).thenB (belowAlloc _ _))
  have hsz : W.heap.size = w.heap.size + 2 := by subst hW; simp
  have b0 : VarInv W (w.heap.size) (s) (.slice p xs.length c) := by
    subst hW
    have h := VarInv.made w (s) (.slice p xs.length c) 25
    exact (h.later (belowAlloc _ _))
  have bR : VarInv W (w.heap.size + 1) (0) (.slice none 0 0) := by
    subst hW
    have h := VarInv.made (w.alloc (.cells #[.int .i64 s, .slice p xs.length c] 25)) (0) (.slice none 0 0) 25
    rw [show (w.alloc (.cells #[.int .i64 s, .slice p xs.length c] 25)).heap.size = w.heap.size + 1 by simp] at h
    exact h
  have HWW := Lib.hid hW
  have HSZ := Lib.hid hsz
  clear hW hsz
  by_cases h1 : massB s xs = true
  rotate_left
  · have h1 : massB s xs = false := by simpa using h1
    obtain ⟨hS, hO, hL⟩ := gNo (s := z) (L := coP xs ts z) (g := coG s xs ts z) (by simp [rfG, coG, h1])
    have hS := Lib.hid hS
    have hO := Lib.hid hO
    have hL := Lib.hid hL
    go_enter Try.func40, Try.ntmps40
    go_wp2_with fail
    rw [← HWW.out]
    refine (MassValid_any _ _ _ _ _ (hx.below bW) hxm).mono ?_
    rintro e w1 ⟨rfl, hb⟩
    replace b0 := b0.later hb
    have b0_0 := b0.c0
    have b0_1 := b0.c1
    replace bR := bR.later hb
    have bR_0 := bR.c0
    have bR_1 := bR.c1
    replace bW := bW.thenB hb
    have z1 := hb.size
    clear hb
    have s0 := bR.c0
    have s1 := bR.c1
    have s2 := bR.f0
    have s3 := bR.f1
    go_wp2
    refine bodyPost_ret (v := .tuple #[.agg #[.int .i64 (0), .slice none 0 0], .bool (false)]) (by simp [results, Try.results40, go_sem, s0, s1, s2, s3]) rfl ⟨_, by rw [hS.out, hO.out], ?_, ?_⟩
    · rw [hL.out]; exact Own.nil _ _
    · exact ((bW).setCell (by show _ ≤ w.heap.size + 1; omega) _).setCell (by show _ ≤ w.heap.size + 1; omega) _
  have hk := massB_ok h1
  have k1 := hk.s1
  have k4 := hk.s4
  have hss : szB s = true := hk.sz
  by_cases h3 : whB s ts z = true
  rotate_left
  · have h3 : whB s ts z = false := by simpa using h3
    have hgf : coG s xs ts z = false := by have h4 := h3; simp only [whB, hss, Bool.true_and] at h4; simp only [rfG, coG, h1, Bool.true_and, h4]
    have HGF := Lib.hid hgf
    clear hk hss hgf
    obtain ⟨hS, hO, hL⟩ := gNo (s := z) (L := coP xs ts z) (g := coG s xs ts z) (HGF.out)
    have hS := Lib.hid hS
    have hO := Lib.hid hO
    have hL := Lib.hid hL
    go_enter Try.func40, Try.ntmps40
    go_wp2_with fail
    rw [← HWW.out]
    refine (MassValid_any _ _ _ _ _ (hx.below bW) hxm).mono ?_
    rintro e w1 ⟨rfl, hb⟩
    replace b0 := b0.later hb
    have b0_0 := b0.c0
    have b0_1 := b0.c1
    replace bR := bR.later hb
    have bR_0 := bR.c0
    have bR_1 := bR.c1
    replace bW := bW.thenB hb
    have z1 := hb.size
    clear hb
    go_wp2_with fail
    refine (l7Whole_any _ _ ts s z _ (ht.below bW) htm).mono ?_
    rintro e w' ⟨rfl, rfl⟩
    have s0 := bR.c0
    have s1 := bR.c1
    have s2 := bR.f0
    have s3 := bR.f1
    go_wp2
    refine bodyPost_ret (v := .tuple #[.agg #[.int .i64 (0), .slice none 0 0], .bool (false)]) (by simp [results, Try.results40, go_sem, s0, s1, s2, s3]) rfl ⟨_, by rw [hS.out, hO.out], ?_, ?_⟩
    · rw [hL.out]; exact Own.nil _ _
    · exact ((bW).setCell (by show _ ≤ w.heap.size + 1; omega) _).setCell (by show _ ≤ w.heap.size + 1; omega) _
  have h4 : szB z = true ∧ ansB ts s z = true := by have h4 := h3; simp only [whB, hss, Bool.true_and, Bool.and_eq_true] at h4; exact h4
  obtain ⟨h2, h5⟩ := h4
  obtain ⟨zz1, zz4⟩ := sz_in h2
  have hg : coG s xs ts z = true := by simp [rfG, coG, h1, h2, h5]
  obtain ⟨a1, a2⟩ := ansB_ok h5
  obtain ⟨hS, hO, hL⟩ := gYes (s := z) (L := coP xs ts z) hg
  have hS := Lib.hid hS
  have hO := Lib.hid hO
  have hL := Lib.hid hL
  have HK := Lib.hid hk
  have hl16 := hk.l16
  have hal := hk.all
  have htl : ts.length ≤ 4 := by omega
  have hta : allB 0 3 ts = true := allB_wider a1 (by omega) (by omega)
  obtain ⟨n, hn⟩ : ∃ n : Nat, n = 2 ^ z.toNat := ⟨_, rfl⟩
  have hnp : (n : Int) = pow2 z := by rw [hn, pow2_toNat]
  have hn16 : n ≤ 16 := by rw [hn]; exact pow_le16 zz4
  have hF : ∀ b, imgS ts b < n := fun b => by rw [hn]; exact imgS_lt a1 b
  have HPE : Hid (coP xs ts z = accTo (imgS ts) xs (zeros n) xs.length) := Lib.hid (by rw [hn]; rfl)
  have HP : Hid (allB 0 4611686018427387904 (coP xs ts z) = true) := Lib.hid (accP_wide _ xs _ hl16 hal)
  have HPL : Hid ((coP xs ts z).length = n) := Lib.hid (by rw [HPE.out, accTo_len, zeros_len])
  have HF := Lib.hid hF
  have HNP := Lib.hid hnp
  have HA1 := Lib.hid a1
  have HTA := Lib.hid hta
  clear hg hk hn hnp hF a1 a2 hta hss h2 h5
  have hpw := pow2_wrap z zz1 zz4
  rw [← HNP.out] at hpw
  go_enter Try.func40, Try.ntmps40
  go_wp2_with fail
  rw [← HWW.out]
  refine (MassValid_any _ _ _ _ _ (hx.below bW) hxm).mono ?_
  rintro e w1 ⟨rfl, hb⟩
  replace b0 := b0.later hb
  have b0_0 := b0.c0
  have b0_1 := b0.c1
  replace bR := bR.later hb
  have bR_0 := bR.c0
  have bR_1 := bR.c1
  replace bW := bW.thenB hb
  have z1 := hb.size
  clear hb
  go_wp2_with fail
  refine (l7Whole_any _ _ ts s z _ (ht.below bW) htm).mono ?_
  rintro e w' ⟨rfl, rfl⟩
  have hz2 : w.heap.size + 1 < w1.heap.size := by have := HSZ.out; omega
  have hx1 := (hx.below bW)
  have ht1 := (ht.below bW)
  go_wp2_with (at_make; refine wpList_makeInts _ rfl _ _ rfl w1.heap.size _ _ _ _ n rfl rfl hpw hpw (by omega) (Nat.le_refl _) ?_)
  intro w2 hown hb2 hlt2
  have hM2 := b0.later hb2
  have hR2 := bR.later hb2
  replace b0_0 := hM2.c0
  replace b0_1 := hM2.c1
  clear b0 bR bR_0 bR_1
  go_wp2_with fail
  clear b0_0 b0_1
  go_loopw [9] (fun i wr => ∃ k : Nat, k ≤ xs.length ∧ i = .int .i64 k ∧ Own w1.heap.size wr (.slice (some ⟨w1.heap.size, 0, none⟩) n n) (accTo (imgS ts) xs (zeros n) k) ∧ VarInv wr w.heap.size s (.slice p xs.length c) ∧ VarInv wr (w.heap.size + 1) 0 (.slice none 0 0) ∧ Below w1.heap.size w1 wr ∧ w1.heap.size < wr.heap.size) (fun i _ => xs.length - (intOf i).toNat)
  case atStart => exact ⟨0, Nat.zero_le _, rfl, hown, hM2, hR2, hb2, hlt2⟩
  case round =>
    clear hown hM2 hR2 hb2 hlt2
    obtain ⟨k, hk, rfl, ho, iM, iR, hb, hlt2⟩ := hrel
    have m0 := iM.c0
    have m1 := iM.c1
    by_cases hlt : k < xs.length
    · obtain ⟨b, off, rfl, hbl, hc0⟩ := hx1 k hlt
      have hc := (hb.cell (p := ⟨b, off + k, none⟩) hbl).trans hc0
      have hs := Lib.hid (accTo_succ (imgS ts) xs (zeros n) k)
      have hacc := accTo_all (imgS ts) xs (zeros n) hal (by omega) (zeros_all _) k hk
      have hln := accTo_len (imgS ts) xs (zeros n) k
      rw [zeros_len] at hln
      have hFk := HF.out k
      obtain ⟨y, hy⟩ : ∃ y : Nat, y = imgS ts k := ⟨_, rfl⟩
      have HY := Lib.hid hy
      rw [← hy] at hFk
      have htr := ht1.below hb
      obtain ⟨f1, f2⟩ := allB_nth hacc y (by rw [hln]; exact hFk)
      obtain ⟨d1, d2⟩ := allB_nth hal k hlt
      obtain ⟨q1, q2⟩ := ho.cellAt hln y hFk
      have HST := Lib.hid (ho.storedAt hln y (nth (accTo (imgS ts) xs (zeros n) k) y + nth xs k))
      have hsum : IntKind.i64.wrap (nth (accTo (imgS ts) xs (zeros n) k) y + nth xs k) = nth (accTo (imgS ts) xs (zeros n) k) y + nth xs k := IntWalk.i64_in _ (by omega)
      have hFn : ((y : Nat) : Int) < (n : Int) := by omega
      have hF0 : (0 : Int) ≤ ((y : Nat) : Int) := by omega
      have hk16 : k < 16 := by omega
      clear hx1 hc0 hacc hln ho hy
      go_wp2_with fail
      refine (l1Move_any k _ _ ts _ htr htl HTA.out hk16).mono ?_
      rintro e w' ⟨rfl, rfl⟩
      rw [← HY.out]
      clear ht1 htr
      go_wp2_with fail
      go_region
      all_goals go_wp2
      all_goals exact ⟨⟨k + 1, by omega, by go_num, by rw [hs.out, ← HY.out]; exact HST.out.drew, (iM.other _ (by show w1.heap.size ≠ w.heap.size; omega) _).drew, (iR.other _ (by show w1.heap.size ≠ w.heap.size + 1; omega) _).drew, (hb.setCell (Nat.le_refl _) _).drew, by simpa using hlt2⟩, by simp [intOf]; omega⟩
    · have h1 : k = xs.length := by omega
      subst h1
      clear hx1 ht1
      rw [← HPE.out] at ho
      have HO := Lib.hid ho
      clear ho
      go_wp2_with fail
      refine (l3Made_n _ _ _ _ (coP xs ts z) _ HPL.out HO.out.reads (by rw [HPL.out]; omega) HP.out).mono ?_
      rintro e w3 ⟨v, rfl, ho2, hb3⟩
      obtain ⟨p2, c2, rfl, hr2⟩ := ho2.shape
      clear hr2
      have jR := iR.later hb3
      have s0 := jR.c0
      have s1 := jR.c1
      have s2 := jR.f0
      have s3 := jR.f1
      go_wp2
      refine bodyPost_ret (v := .tuple #[.agg #[.int .i64 (mkS z (coP xs ts z)), .slice p2 (mkL z (coP xs ts z)).length c2], .bool (mkOk z (coP xs ts z))]) (by simp [results, Try.results40, go_sem, s0, s1, s2, s3]) rfl ⟨_, by rw [hS.out, hO.out], ?_, ?_⟩
      · rw [hL.out]; exact ((ho2.setBelow (by show w.heap.size + 1 < _; omega) _).setBelow (by show w.heap.size + 1 < _; omega) _).mono (by omega)
      · exact (((bW.thenB hb).thenB hb3).setCell (by show _ ≤ w.heap.size + 1; omega) _).setCell (by show _ ≤ w.heap.size + 1; omega) _

end Go.Proofs.Ytkpnenbkfphldaa
