/- Levels: the program's and the reference's functions on lists of levels. -/
import Derived.Test.YtmbipmdflbddbaaQ1
set_option linter.unusedVariables false
set_option linter.unusedSimpArgs false
namespace Go.Proofs.Ytmbipmdflbddbaa
open Go.RowKit

/-- The greatest number of a list, at least 0. -/
def topL (xs : List Int) : Int := xs.foldl max 0

theorem topL_snoc (xs : List Int) (x : Int) : topL (xs ++ [x]) = max (topL xs) x := by simp [topL]

theorem max_if (a b : Int) : (if a < b then b else a) = max a b := by split <;> omega

theorem l9Top_any (a : Option Addr) (c : Nat) (xs : List Int) (w : World) (hx : Reads w a xs) (hxm : xs.length ≤ 1048576) :
    Calls Try.prog 88 #[.slice a xs.length c] w fun e w' => e = .returned (.int .i64 (topL xs)) ∧ w = w' := by
  go_enter Try.func88, Try.ntmps88
  go_wp2
  go_loop [3, 4] (fun n i => ∃ k : Nat, k ≤ xs.length ∧ i = .int .i64 k ∧ n = .int .i64 (topL (xs.take k))) (fun _ i => xs.length - (intOf i).toNat)
  case atStart => exact ⟨0, Nat.zero_le _, rfl, rfl⟩
  case round =>
    obtain ⟨k, hk, rfl, rfl⟩ := hrel
    by_cases hlt : k < xs.length
    · obtain ⟨b, off, rfl, hbl, hc⟩ := hx k hlt
      have hs := Lib.hid (take_succ_getD xs k hlt)
      clear hx
      go_wp2
      exact ⟨⟨k + 1, by omega, by go_num, by rw [hs.out, topL_snoc, max_if]⟩, by simp [intOf]; omega⟩
    · have h1 : k = xs.length := by omega
      subst h1
      clear hx
      go_wp2
      go_ret
      exact ⟨rfl, rfl⟩

/-- Valid levels. -/
def lvB (xs : List Int) : Bool := szB xs.length && allB 0 1000000 xs && decide (0 < topL xs)

theorem sLevelsValid_any (a : Option Addr) (c : Nat) (xs : List Int) (w : World) (hx : Reads w a xs) (hxm : xs.length ≤ 1048576) :
    Calls Try.prog 48 #[.slice a xs.length c] w fun e w' => e = .returned (.bool (lvB xs)) ∧ w = w' := by
  go_enter Try.func48, Try.ntmps48
  go_wp2
  go_loop [3] (fun i => ∃ k : Nat, k ≤ xs.length ∧ i = .int .i64 k ∧ allB 0 1000000 (xs.take k) = true) (fun i => xs.length - (intOf i).toNat)
  case atStart => exact ⟨0, Nat.zero_le _, rfl, rfl⟩
  case round =>
    obtain ⟨k, hk, rfl, hal⟩ := hrel
    have HA := Lib.hid hal
    clear hal
    by_cases hlt : k < xs.length
    · obtain ⟨b, off, rfl, hbl, hc⟩ := hx k hlt
      clear hx
      cases hin : inB (nth xs k) 0 1000000
      · have hf := Lib.hid (allB_false 0 1000000 xs k hlt hin)
        go_wp2_with (go_at_call 90; refine (l1In_any _ _ _ _).mono ?_; rintro e w' ⟨rfl, rfl⟩)
        go_ret
        exact ⟨ret_bool (by simp [lvB, hf.out]), rfl⟩
      · have hs : Hid (allB 0 1000000 (xs.take (k + 1)) = true) := by
          have : allB 0 1000000 (xs.take (k + 1)) = true := by rw [take_succ_getD xs k hlt, allB_snoc, HA.out, hin]; rfl
          exact this
        go_wp2_with (go_at_call 90; refine (l1In_any _ _ _ _).mono ?_; rintro e w' ⟨rfl, rfl⟩)
        exact ⟨⟨k + 1, by omega, by go_num, hs.out⟩, by simp [intOf]; omega⟩
    · have h1 : k = xs.length := by omega
      subst h1
      have hl2 := HA.out
      rw [List.take_length] at hl2
      have HL := Lib.hid hl2
      clear hl2 HA
      cases hsz : szB xs.length
      · have hr : Hid (lvB xs = false) := Lib.hid (by simp [lvB, hsz])
        go_wp2_with (go_at_call 91; refine (SizeValid_any _ _).mono ?_; rintro e w' ⟨rfl, rfl⟩)
        go_ret
        exact ⟨ret_bool hr.out.symm, rfl⟩
      · have hr : Hid (lvB xs = decide (0 < topL xs)) := Lib.hid (by simp [lvB, hsz, HL.out])
        go_wp2_with (first | (go_at_call 91; refine (SizeValid_any _ _).mono ?_; rintro e w' ⟨rfl, rfl⟩) | (go_at_call 88; refine (l9Top_any _ _ _ _ hx hxm).mono ?_; rintro e w' ⟨rfl, rfl⟩))
        go_ret
        exact ⟨ret_bool (by rw [hr.out]), rfl⟩

/-- The greatest number of a list that is not empty. -/
def mxL (xs : List Int) : Int := xs.foldl max (nth xs 0)

theorem foldl_max (xs : List Int) : ∀ a b : Int, xs.foldl max (max a b) = max a (xs.foldl max b) := by
  induction xs with
  | nil => intro a b; rfl
  | cons x xs ih => intro a b; simp only [List.foldl_cons]; rw [show max (max a b) x = max a (max b x) by omega]; exact ih _ _

theorem le_foldl_max (xs : List Int) : ∀ a : Int, a ≤ xs.foldl max a ∧ ∀ x ∈ xs, x ≤ xs.foldl max a := by
  induction xs with
  | nil => intro a; simp
  | cons x xs ih =>
    intro a
    simp only [List.foldl_cons]
    have h := ih (max a x)
    refine ⟨by omega, fun y hy => ?_⟩
    rcases List.mem_cons.1 hy with rfl | hy
    · omega
    · exact h.2 y hy

theorem mxL_topL (xs : List Int) (h : 0 < xs.length) (h0 : 0 ≤ nth xs 0) : mxL xs = topL xs := by
  have e := foldl_max xs (nth xs 0) 0
  have := (le_foldl_max xs 0).2 _ (mem_nth xs 0 h)
  rw [show max (nth xs 0) 0 = nth xs 0 by omega] at e
  unfold mxL topL
  rw [e]; omega

theorem Max_any (a : Option Addr) (c : Nat) (xs : List Int) (w : World) (hx : Reads w a xs) (hxm : xs.length ≤ 1048576) (h1 : 1 ≤ xs.length) :
    Calls Try.prog 84 #[.slice a xs.length c] w fun e w' => e = .returned (.int .i64 (mxL xs)) ∧ w = w' := by
  obtain ⟨b, off, rfl, hbl, hc⟩ := hx 0 (by omega)
  rw [Nat.add_zero] at hc
  have hpos : 0 < xs.length := by omega
  go_enter Try.func84, Try.ntmps84
  go_wp2
  go_loop [3, 4] (fun n i => ∃ k : Nat, 1 ≤ k ∧ k ≤ xs.length ∧ i = .int .i64 k ∧ n = .int .i64 ((xs.take k).foldl max (nth xs 0))) (fun _ i => xs.length - (intOf i).toNat)
  case atStart => exact ⟨1, Nat.le_refl _, h1, rfl, by rw [take_succ_getD xs 0 (by omega)]; simp⟩
  case round =>
    obtain ⟨k, hk1, hk, rfl, rfl⟩ := hrel
    clear hc
    by_cases hlt : k < xs.length
    · obtain ⟨b', off', e0, hbl', hc⟩ := hx k hlt
      cases e0
      have hs := Lib.hid (take_succ_getD xs k hlt)
      clear hx
      go_wp2
      exact ⟨⟨k + 1, by omega, by omega, by go_num, by rw [hs.out, List.foldl_append, max_if]; rfl⟩, by simp [intOf]; omega⟩
    · have h1 : k = xs.length := by omega
      subst h1
      clear hx
      go_wp2
      go_ret
      exact ⟨rfl, rfl⟩

theorem areLevels_any (a : Option Addr) (c : Nat) (xs : List Int) (w : World) (hx : Reads w a xs) (hxm : xs.length ≤ 1048576) :
    Calls Try.prog 51 #[.slice a xs.length c] w fun e w' => e = .returned (.bool (lvB xs)) ∧ w = w' := by
  cases hsz : szB xs.length
  · have hr : Hid (lvB xs = false) := Lib.hid (by simp [lvB, hsz])
    go_enter Try.func51, Try.ntmps51
    go_wp2_with (go_at_call 94; refine (isSize_any _ _).mono ?_; rintro e w' ⟨rfl, rfl⟩)
    go_ret
    exact ⟨ret_bool hr.out.symm, rfl⟩
  · have hlen : 1 ≤ xs.length := by simp [szB, inB] at hsz; omega
    go_enter Try.func51, Try.ntmps51
    go_wp2_with (go_at_call 94; refine (isSize_any _ _).mono ?_; rintro e w' ⟨rfl, rfl⟩)
    go_loop [11] (fun i => ∃ k : Nat, k ≤ xs.length ∧ i = .int .i64 k ∧ allB 0 1000000 (xs.take k) = true) (fun i => xs.length - (intOf i).toNat)
    case atStart => exact ⟨0, Nat.zero_le _, rfl, rfl⟩
    case round =>
      obtain ⟨k, hk, rfl, hal⟩ := hrel
      have HA := Lib.hid hal
      clear hal
      by_cases hlt : k < xs.length
      · obtain ⟨b, off, rfl, hbl, hc⟩ := hx k hlt
        clear hx
        by_cases hin : inB (nth xs k) 0 1000000 = true
        · have hs : Hid (allB 0 1000000 (xs.take (k + 1)) = true) := by
            have : allB 0 1000000 (xs.take (k + 1)) = true := by rw [take_succ_getD xs k hlt, allB_snoc, HA.out, hin]; rfl
            exact this
          have h2 : 0 ≤ nth xs k ∧ nth xs k ≤ 1000000 := by simpa [inB] using hin
          obtain ⟨h2a, h2b⟩ := h2
          clear hin
          go_wp2
          exact ⟨⟨k + 1, by omega, by go_num, hs.out⟩, by simp [intOf]; omega⟩
        · have hf := Lib.hid (allB_false 0 1000000 xs k hlt (by simpa using hin))
          have h2 : nth xs k < 0 ∨ 1000000 < nth xs k := by simp [inB] at hin; omega
          clear hin
          rcases h2 with h2 | h2
          · go_wp2
            go_ret
            exact ⟨ret_bool (by simp [lvB, hf.out]), rfl⟩
          · have h3 : ¬ nth xs k < 0 := by omega
            go_wp2
            go_ret
            exact ⟨ret_bool (by simp [lvB, hf.out]), rfl⟩
      · have h1 : k = xs.length := by omega
        subst h1
        have hl2 := HA.out
        rw [List.take_length] at hl2
        have hr : Hid (lvB xs = decide (0 < topL xs)) := Lib.hid (by simp [lvB, hsz, hl2])
        have hm := Lib.hid (mxL_topL xs (by omega) (allB_nth hl2 0 (by omega)).1)
        clear hl2 HA
        go_wp2_with (go_at_call 84; refine (Max_any _ _ _ _ hx hxm hlen).mono ?_; rintro e w' ⟨rfl, rfl⟩)
        go_ret
        exact ⟨ret_bool (by rw [hr.out, ← hm.out]), rfl⟩

theorem iLevelsValid_any (a : Option Addr) (c : Nat) (xs : List Int) (w : World) (hx : Reads w a xs) (hxm : xs.length ≤ 1048576) :
    Calls Try.prog 39 #[.slice a xs.length c] w fun e w' => e = .returned (.bool (lvB xs)) ∧ w = w' := by
  go_enter Try.func39, Try.ntmps39
  go_wp2_with (go_at_call 51; refine (areLevels_any _ _ _ _ hx hxm).mono ?_; rintro e w' ⟨rfl, rfl⟩)
  go_ret
  exact ⟨rfl, rfl⟩

/-- The answers before x whose level is at least a number. -/
def cutTo (xs : List Int) (level : Int) (k : Nat) : Nat := (List.range k).foldl (fun s x => if level ≤ nth xs x then s ||| bit x else s) 0

theorem cutTo_succ (xs : List Int) (level : Int) (k : Nat) : cutTo xs level (k + 1) = if level ≤ nth xs k then cutTo xs level k ||| bit k else cutTo xs level k := by
  simp [cutTo, List.range_succ]

theorem cutTo_lt (xs : List Int) (level : Int) (k : Nat) : cutTo xs level k < 2 ^ k := by
  induction k with
  | zero => simp [cutTo]
  | succ k ih =>
    rw [cutTo_succ]
    split
    · exact or_lt2 _ _ ih
    · rw [Nat.pow_succ]; omega

theorem lt16_of {s k : Nat} (h : s < 2 ^ k) (hk : k ≤ 4) : s < 16 := Nat.lt_of_lt_of_le h (by have := Nat.pow_le_pow_right (n := 2) (by omega) hk; omega)

theorem l9Cut_any (p : Option Addr) (c : Nat) (xs : List Int) (level : Int) (w : World) (hx : Reads w p xs) (hxm : xs.length ≤ 4) :
    Calls Try.prog 49 #[.slice p xs.length c, .int .i64 level] w fun e w' => e = .returned (.int .i64 (cutTo xs level xs.length : Nat)) ∧ w = w' := by
  go_enter Try.func49, Try.ntmps49
  go_wp2
  go_loop [5, 6] (fun d i => ∃ k : Nat, k ≤ xs.length ∧ i = .int .i64 k ∧ d = .int .i64 (cutTo xs level k : Nat)) (fun _ i => xs.length - (intOf i).toNat)
  case atStart => exact ⟨0, Nat.zero_le _, rfl, rfl⟩
  case round =>
    obtain ⟨k, hk, rfl, rfl⟩ := hrel
    by_cases hlt : k < xs.length
    · obtain ⟨b, off, rfl, hbl, hc⟩ := hx k hlt
      have hs := Lib.hid (cutTo_succ xs level k)
      have h16 := lt16_of (cutTo_lt xs level k) (by omega)
      have hw := bit_wrap' k (by omega)
      have ho := bit_or' _ k h16 (by omega)
      clear hx
      by_cases hle : level ≤ nth xs k
      · rw [if_pos hle] at hs
        go_wp2
        exact ⟨⟨k + 1, by omega, by go_num, by rw [hs.out]⟩, by simp [intOf]; omega⟩
      · rw [if_neg hle] at hs
        go_wp2
        exact ⟨⟨k + 1, by omega, by go_num, by rw [hs.out]⟩, by simp [intOf]; omega⟩
    · have h1 : k = xs.length := by omega
      subst h1
      clear hx
      go_wp2
      go_ret
      exact ⟨rfl, rfl⟩

theorem cutLevels_any (p : Option Addr) (c : Nat) (xs : List Int) (level : Int) (w : World) (hx : Reads w p xs) (hxm : xs.length ≤ 4) :
    Calls Try.prog 54 #[.slice p xs.length c, .int .i64 level] w fun e w' => e = .returned (.int .i64 (cutTo xs level xs.length : Nat)) ∧ w = w' := by
  go_enter Try.func54, Try.ntmps54
  go_wp2
  go_loop [5, 10] (fun d i => ∃ k : Nat, k ≤ xs.length ∧ i = .int .i64 k ∧ d = .int .i64 (cutTo xs level k : Nat)) (fun _ i => xs.length - (intOf i).toNat)
  case atStart => exact ⟨0, Nat.zero_le _, rfl, rfl⟩
  case round =>
    obtain ⟨k, hk, rfl, rfl⟩ := hrel
    by_cases hlt : k < xs.length
    · obtain ⟨b, off, rfl, hbl, hc⟩ := hx k hlt
      have hs := Lib.hid (cutTo_succ xs level k)
      have h16 := lt16_of (cutTo_lt xs level k) (by omega)
      have hw := bit_wrap' k (by omega)
      have ho := bit_or' _ k h16 (by omega)
      clear hx
      by_cases hle : level ≤ nth xs k
      · rw [if_pos hle] at hs
        go_wp2
        exact ⟨⟨k + 1, by omega, by go_num, by rw [hs.out]⟩, by simp [intOf]; omega⟩
      · rw [if_neg hle] at hs
        go_wp2
        exact ⟨⟨k + 1, by omega, by go_num, by rw [hs.out]⟩, by simp [intOf]; omega⟩
    · have h1 : k = xs.length := by omega
      subst h1
      clear hx
      go_wp2
      go_ret
      exact ⟨rfl, rfl⟩

/-- The greatest level of the answers before k that a set has. -/
def posTo (xs : List Int) (a : Nat) (k : Nat) : Int := (List.range k).foldl (fun m x => if a.testBit x then max m (nth xs x) else m) 0

theorem posTo_succ (xs : List Int) (a : Nat) (k : Nat) : posTo xs a (k + 1) = if a.testBit k then max (posTo xs a k) (nth xs k) else posTo xs a k := by
  simp [posTo, List.range_succ]

theorem l9Possible_any (p : Option Addr) (c : Nat) (xs : List Int) (a : Nat) (w : World) (hx : Reads w p xs) (hxm : xs.length ≤ 4) (ha : a < 16) :
    Calls Try.prog 87 #[.slice p xs.length c, .int .i64 a] w fun e w' => e = .returned (.int .i64 (posTo xs a xs.length)) ∧ w = w' := by
  go_enter Try.func87, Try.ntmps87
  go_wp2
  go_loop [5, 6] (fun d i => ∃ k : Nat, k ≤ xs.length ∧ i = .int .i64 k ∧ d = .int .i64 (posTo xs a k)) (fun _ i => xs.length - (intOf i).toNat)
  case atStart => exact ⟨0, Nat.zero_le _, rfl, rfl⟩
  case round =>
    obtain ⟨k, hk, rfl, rfl⟩ := hrel
    by_cases hlt : k < xs.length
    · obtain ⟨b, off, rfl, hbl, hc⟩ := hx k hlt
      have hs := Lib.hid (posTo_succ xs a k)
      clear hx
      cases ht : a.testBit k
      · rw [ht, if_neg (by simp)] at hs
        go_wp2_with (go_at_call 103; refine (l1Has_any _ _ _ ha (by omega)).mono ?_; rintro e w' ⟨rfl, rfl⟩)
        exact ⟨⟨k + 1, by omega, by go_num, by rw [hs.out]⟩, by simp [intOf]; omega⟩
      · rw [ht, if_pos rfl] at hs
        go_wp2_with (go_at_call 103; refine (l1Has_any _ _ _ ha (by omega)).mono ?_; rintro e w' ⟨rfl, rfl⟩)
        exact ⟨⟨k + 1, by omega, by go_num, by rw [hs.out, max_if]⟩, by simp [intOf]; omega⟩
    · have h1 : k = xs.length := by omega
      subst h1
      clear hx
      go_wp2
      go_ret
      exact ⟨rfl, rfl⟩

theorem possibleLevel_any (p : Option Addr) (c : Nat) (xs : List Int) (a : Nat) (w : World) (hx : Reads w p xs) (hxm : xs.length ≤ 4) (ha : a < 16) :
    Calls Try.prog 81 #[.slice p xs.length c, .int .i64 a] w fun e w' => e = .returned (.int .i64 (posTo xs a xs.length)) ∧ w = w' := by
  go_enter Try.func81, Try.ntmps81
  go_wp2
  go_loop [5, 10] (fun d i => ∃ k : Nat, k ≤ xs.length ∧ i = .int .i64 k ∧ d = .int .i64 (posTo xs a k)) (fun _ i => xs.length - (intOf i).toNat)
  case atStart => exact ⟨0, Nat.zero_le _, rfl, rfl⟩
  case round =>
    obtain ⟨k, hk, rfl, rfl⟩ := hrel
    by_cases hlt : k < xs.length
    · obtain ⟨b, off, rfl, hbl, hc⟩ := hx k hlt
      have hs := Lib.hid (posTo_succ xs a k)
      have hb := bit_has' a k ha (by omega)
      clear hx
      cases ht : a.testBit k
      · rw [ht, if_neg (by simp)] at hs
        rw [ht] at hb
        clear ht
        go_wp2
        exact ⟨⟨k + 1, by omega, by go_num, by rw [hs.out]⟩, by simp [intOf]; omega⟩
      · rw [ht, if_pos rfl] at hs
        rw [ht] at hb
        clear ht
        go_wp2
        exact ⟨⟨k + 1, by omega, by go_num, by rw [hs.out, max_if]⟩, by simp [intOf]; omega⟩
    · have h1 : k = xs.length := by omega
      subst h1
      clear hx
      go_wp2
      go_ret
      exact ⟨rfl, rfl⟩

end Go.Proofs.Ytmbipmdflbddbaa


