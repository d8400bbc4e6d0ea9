/- Levels: what each exported function of both packages returns. -/
import Derived.Test.YtmbipmdflbddbaaL9
set_option linter.unusedVariables false
set_option linter.unusedSimpArgs false
namespace Go.Proofs.Ytmbipmdflbddbaa
open Go.RowKit

structure LvOk (xs : List Int) : Prop where
  l1 : 1 ≤ xs.length
  l4 : xs.length ≤ 4
  all : allB 0 1000000 xs = true
  top : 0 < topL xs

theorem lvB_ok {xs : List Int} (h : lvB xs = true) : LvOk xs := by
  simp only [lvB, Bool.and_eq_true, decide_eq_true_eq] at h
  obtain ⟨⟨h1, h2⟩, h3⟩ := h
  have h1' : 1 ≤ (xs.length : Int) ∧ (xs.length : Int) ≤ 4 := by simpa [szB, inB] using h1
  exact ⟨by omega, by omega, h2, h3⟩

/-- What CutLevels returns. -/
def cutL (xs : List Int) (level : Int) : Int := if lvB xs then (cutTo xs level xs.length : Nat) else -1

theorem iCutLevels_any (p : Option Addr) (c : Nat) (xs : List Int) (level : Int) (w : World) (hx : Reads w p xs) (hxm : xs.length ≤ 1048576) :
    Calls Try.prog 37 #[.slice p xs.length c, .int .i64 level] w fun e w' => e = .returned (.int .i64 (cutL xs level)) ∧ w = w' := by
  cases hl : lvB xs
  · have hr : Hid (cutL xs level = -1) := Lib.hid (by simp [cutL, hl])
    go_enter Try.func37, Try.ntmps37
    go_wp2_with (go_at_call 51; refine (areLevels_any _ _ _ _ hx hxm).mono ?_; rintro e w' ⟨rfl, rfl⟩)
    go_ret
    exact ⟨ret_int hr.out.symm, rfl⟩
  · have hr : Hid (cutL xs level = (cutTo xs level xs.length : Nat)) := Lib.hid (by simp [cutL, hl])
    have hk := lvB_ok hl
    go_enter Try.func37, Try.ntmps37
    go_wp2_with (first | (go_at_call 51; refine (areLevels_any _ _ _ _ hx hxm).mono ?_; rintro e w' ⟨rfl, rfl⟩) | (go_at_call 54; refine (cutLevels_any _ _ _ _ _ hx hk.l4).mono ?_; rintro e w' ⟨rfl, rfl⟩))
    go_ret
    exact ⟨ret_int hr.out.symm, rfl⟩

theorem sCutLevels_any (p : Option Addr) (c : Nat) (xs : List Int) (level : Int) (w : World) (hx : Reads w p xs) (hxm : xs.length ≤ 1048576) :
    Calls Try.prog 38 #[.slice p xs.length c, .int .i64 level] w fun e w' => e = .returned (.int .i64 (cutL xs level)) ∧ w = w' := by
  cases hl : lvB xs
  · have hr : Hid (cutL xs level = -1) := Lib.hid (by simp [cutL, hl])
    go_enter Try.func38, Try.ntmps38
    go_wp2_with (go_at_call 48; refine (sLevelsValid_any _ _ _ _ hx hxm).mono ?_; rintro e w' ⟨rfl, rfl⟩)
    go_ret
    exact ⟨ret_int hr.out.symm, rfl⟩
  · have hr : Hid (cutL xs level = (cutTo xs level xs.length : Nat)) := Lib.hid (by simp [cutL, hl])
    have hk := lvB_ok hl
    go_enter Try.func38, Try.ntmps38
    go_wp2_with (first | (go_at_call 48; refine (sLevelsValid_any _ _ _ _ hx hxm).mono ?_; rintro e w' ⟨rfl, rfl⟩) | (go_at_call 49; refine (l9Cut_any _ _ _ _ _ hx hk.l4).mono ?_; rintro e w' ⟨rfl, rfl⟩))
    go_ret
    exact ⟨ret_int hr.out.symm, rfl⟩

/-- Valid levels and a set of their answers. -/
def lvsB (xs : List Int) (a : Int) : Bool := lvB xs && setB xs.length a

/-- What PossibleLevel returns. -/
def posL (xs : List Int) (a : Int) : Int := if lvsB xs a then posTo xs a.toNat xs.length else -1

theorem lvB_sz {xs : List Int} (h : lvB xs = true) : szB xs.length = true := by
  have := lvB_ok h
  have h1 := this.l1
  have h4 := this.l4
  simp [szB, inB]; omega

theorem l9Set_any (p : Option Addr) (c : Nat) (xs : List Int) (a : Int) (w : World) (hx : Reads w p xs) (hxm : xs.length ≤ 1048576) :
    Calls Try.prog 86 #[.slice p xs.length c, .int .i64 a] w fun e w' => e = .returned (.bool (lvsB xs a)) ∧ w = w' := by
  cases hl : lvB xs
  · have hr : Hid (lvsB xs a = false) := Lib.hid (by simp [lvsB, hl])
    go_enter Try.func86, Try.ntmps86
    go_wp2_with (go_at_call 48; refine (sLevelsValid_any _ _ _ _ hx hxm).mono ?_; rintro e w' ⟨rfl, rfl⟩)
    go_ret
    exact ⟨ret_bool hr.out.symm, rfl⟩
  · have hr : Hid (lvsB xs a = (szB xs.length && setB xs.length a)) := Lib.hid (by simp [lvsB, hl, lvB_sz hl])
    go_enter Try.func86, Try.ntmps86
    go_wp2_with (first | (go_at_call 48; refine (sLevelsValid_any _ _ _ _ hx hxm).mono ?_; rintro e w' ⟨rfl, rfl⟩) | (go_at_call 110; refine (SetValid_any _ _ _).mono ?_; rintro e w' ⟨rfl, rfl⟩))
    go_ret
    exact ⟨ret_bool hr.out.symm, rfl⟩

theorem sPossibleLevel_any (p : Option Addr) (c : Nat) (xs : List Int) (a : Int) (w : World) (hx : Reads w p xs) (hxm : xs.length ≤ 1048576) :
    Calls Try.prog 43 #[.slice p xs.length c, .int .i64 a] w fun e w' => e = .returned (.int .i64 (posL xs a)) ∧ w = w' := by
  cases hl : lvsB xs a
  · have hr : Hid (posL xs a = -1) := Lib.hid (by simp [posL, hl])
    go_enter Try.func43, Try.ntmps43
    go_wp2_with (go_at_call 86; refine (l9Set_any _ _ _ _ _ hx hxm).mono ?_; rintro e w' ⟨rfl, rfl⟩)
    go_ret
    exact ⟨ret_int hr.out.symm, rfl⟩
  · have hr : Hid (posL xs a = posTo xs a.toNat xs.length) := Lib.hid (by simp [posL, hl])
    have hl2 : lvB xs = true ∧ setB xs.length a = true := by simpa [lvsB] using hl
    have hk := lvB_ok hl2.1
    obtain ⟨n, rfl, hn, _⟩ := setB_nat (by have := hk.l1; omega) (by have := hk.l4; omega) hl2.2
    clear hl2
    go_enter Try.func43, Try.ntmps43
    go_wp2_with (first | (go_at_call 86; refine (l9Set_any _ _ _ _ _ hx hxm).mono ?_; rintro e w' ⟨rfl, rfl⟩) | (go_at_call 87; refine (l9Possible_any _ _ _ _ _ hx hk.l4 hn).mono ?_; rintro e w' ⟨rfl, rfl⟩))
    go_ret
    exact ⟨ret_int (by rw [hr.out]; rfl), rfl⟩

theorem iPossibleLevel_any (p : Option Addr) (c : Nat) (xs : List Int) (a : Int) (w : World) (hx : Reads w p xs) (hxm : xs.length ≤ 1048576) :
    Calls Try.prog 35 #[.slice p xs.length c, .int .i64 a] w fun e w' => e = .returned (.int .i64 (posL xs a)) ∧ w = w' := by
  cases hl1 : lvB xs
  · have hr : Hid (posL xs a = -1) := Lib.hid (by simp [posL, lvsB, hl1])
    go_enter Try.func35, Try.ntmps35
    go_wp2_with (go_at_call 51; refine (areLevels_any _ _ _ _ hx hxm).mono ?_; rintro e w' ⟨rfl, rfl⟩)
    go_ret
    exact ⟨ret_int hr.out.symm, rfl⟩
  · have hk := lvB_ok hl1
    have h1 : (1 : Int) ≤ xs.length := by have := hk.l1; omega
    have h4 : (xs.length : Int) ≤ 4 := by have := hk.l4; omega
    cases hl2 : setB xs.length a
    · have hr : Hid (posL xs a = -1) := Lib.hid (by simp [posL, lvsB, hl2])
      go_enter Try.func35, Try.ntmps35
      go_wp2_with (first | (go_at_call 51; refine (areLevels_any _ _ _ _ hx hxm).mono ?_; rintro e w' ⟨rfl, rfl⟩) | (go_at_call 80; refine (isSetOf_any _ _ _ h1 h4).mono ?_; rintro e w' ⟨rfl, rfl⟩))
      go_ret
      exact ⟨ret_int hr.out.symm, rfl⟩
    · have hr : Hid (posL xs a = posTo xs a.toNat xs.length) := Lib.hid (by simp [posL, lvsB, hl1, hl2])
      obtain ⟨n, rfl, hn, _⟩ := setB_nat h1 h4 hl2
      go_enter Try.func35, Try.ntmps35
      go_wp2_with (first | (go_at_call 51; refine (areLevels_any _ _ _ _ hx hxm).mono ?_; rintro e w' ⟨rfl, rfl⟩) | (go_at_call 80; refine (isSetOf_any _ _ _ h1 h4).mono ?_; rintro e w' ⟨rfl, rfl⟩) | (go_at_call 81; refine (possibleLevel_any _ _ _ _ _ hx hk.l4 hn).mono ?_; rintro e w' ⟨rfl, rfl⟩))
      go_ret
      exact ⟨ret_int (by rw [hr.out]; rfl), rfl⟩

theorem fullSet_any (s : Int) (w : World) (h1 : 1 ≤ s) (h4 : s ≤ 4) :
    Calls Try.prog 85 #[.int .i64 s] w fun e w' => e = .returned (.int .i64 (pow2 s - 1)) ∧ w = w' := by
  have hpw := pow2_wrap s h1 h4
  have hbd := pow2_bd s h1 h4
  obtain ⟨hb1, hb2⟩ := hbd
  go_enter Try.func85, Try.ntmps85
  go_wp2
  go_ret
  exact ⟨rfl, rfl⟩

/-- The other answers. -/
def othB (n a : Nat) : Nat := 2 ^ n - 1 - a

theorem xor_bits : ∀ (n : Fin 5) (a : Fin 16), a.val < 2 ^ n.val → bits BinOp.xor IntKind.i64 ((2 ^ n.val - 1 : Int)) (a.val : Int) = ((othB n.val a.val : Nat) : Int) := by decide +kernel

theorem pow2_nat (n : Nat) : pow2 (n : Int) = ((2 ^ n : Nat) : Int) := by simp [pow2]

theorem xor_full (n a : Nat) (hn : n ≤ 4) (ha : a < 2 ^ n) : bits BinOp.xor IntKind.i64 (pow2 (n : Int) - 1) (a : Int) = ((othB n a : Nat) : Int) := by
  have h16 : a < 16 := lt16_of ha hn
  have := xor_bits ⟨n, by omega⟩ ⟨a, h16⟩ ha
  rw [← this, pow2_nat]
  simp

theorem sub_full (n a : Nat) (ha : a < 2 ^ n) : pow2 (n : Int) - 1 - (a : Int) = ((othB n a : Nat) : Int) := by
  rw [pow2_nat, othB]; omega

theorem othB_lt (n a : Nat) (hn : n ≤ 4) : othB n a < 16 := by
  have : 2 ^ n ≤ 2 ^ 4 := Nat.pow_le_pow_right (by omega) hn
  unfold othB; omega

/-- What NecessaryLevel returns. -/
def necL (xs : List Int) (a : Int) : Int := if lvsB xs a then topL xs - posTo xs (othB xs.length a.toNat) xs.length else -1

theorem topL_bd {xs : List Int} (h : allB 0 1000000 xs = true) : 0 ≤ topL xs ∧ topL xs ≤ 1000000 := by
  refine ⟨(le_foldl_max xs 0).1, ?_⟩
  have hall : ∀ x ∈ xs, x ≤ 1000000 := fun x hx => by have := List.all_eq_true.1 h x hx; simp [inB] at this; omega
  unfold topL
  clear h
  suffices H : ∀ (l : List Int) (m : Int), m ≤ 1000000 → (∀ x ∈ l, x ≤ 1000000) → l.foldl max m ≤ 1000000 from H xs 0 (by omega) hall
  intro l
  induction l with
  | nil => intro m hm _; exact hm
  | cons x l ih => intro m hm hl; exact ih _ (by have := hl x (by simp); omega) (fun y hy => hl y (by simp [hy]))

theorem posTo_bd {xs : List Int} (h : allB 0 1000000 xs = true) (a k : Nat) (hk : k ≤ xs.length) : 0 ≤ posTo xs a k ∧ posTo xs a k ≤ 1000000 := by
  induction k with
  | zero => simp [posTo]
  | succ k ih =>
    have h1 := ih (by omega)
    have h2 := allB_nth h k (by omega)
    rw [posTo_succ]
    split <;> omega

theorem sNecessaryLevel_any (p : Option Addr) (c : Nat) (xs : List Int) (a : Int) (w : World) (hx : Reads w p xs) (hxm : xs.length ≤ 1048576) :
    Calls Try.prog 44 #[.slice p xs.length c, .int .i64 a] w fun e w' => e = .returned (.int .i64 (necL xs a)) ∧ w = w' := by
  cases hl : lvsB xs a
  · have hr : Hid (necL xs a = -1) := Lib.hid (by simp [necL, hl])
    go_enter Try.func44, Try.ntmps44
    go_wp2_with (go_at_call 86; refine (l9Set_any _ _ _ _ _ hx hxm).mono ?_; rintro e w' ⟨rfl, rfl⟩)
    go_ret
    exact ⟨ret_int hr.out.symm, rfl⟩
  · have hr : Hid (necL xs a = topL xs - posTo xs (othB xs.length a.toNat) xs.length) := Lib.hid (by simp [necL, hl])
    have hl2 : lvB xs = true ∧ setB xs.length a = true := by simpa [lvsB] using hl
    have hk := lvB_ok hl2.1
    have h1 : (1 : Int) ≤ xs.length := by have := hk.l1; omega
    have h4 : (xs.length : Int) ≤ 4 := by have := hk.l4; omega
    obtain ⟨n, rfl, hn, hn2⟩ := setB_nat h1 h4 hl2.2
    have hn3 : n < 2 ^ xs.length := by rw [pow2_nat] at hn2; omega
    have hpw : wrap64 (2 ^ xs.length) = pow2 xs.length := by have := pow2_wrap _ h1 h4; simpa using this
    have hbd := pow2_bd _ h1 h4
    obtain ⟨hb1, hb2⟩ := hbd
    have hsub := sub_full xs.length n hn3
    have hol := othB_lt xs.length n hk.l4
    obtain ⟨ht1, ht2⟩ := topL_bd hk.all
    obtain ⟨hp1, hp2⟩ := posTo_bd hk.all (othB xs.length n) xs.length (Nat.le_refl _)
    clear hl2
    go_enter Try.func44, Try.ntmps44
    go_wp2_with (first | (go_at_call 86; refine (l9Set_any _ _ _ _ _ hx hxm).mono ?_; rintro e w' ⟨rfl, rfl⟩) | (go_at_call 88; refine (l9Top_any _ _ _ _ hx hxm).mono ?_; rintro e w' ⟨rfl, rfl⟩) | (go_at_call 87; refine (l9Possible_any _ _ _ _ _ hx hk.l4 hol).mono ?_; rintro e w' ⟨rfl, rfl⟩))
    go_ret
    exact ⟨ret_int (by rw [hr.out]; rfl), rfl⟩

theorem iNecessaryLevel_any (p : Option Addr) (c : Nat) (xs : List Int) (a : Int) (w : World) (hx : Reads w p xs) (hxm : xs.length ≤ 1048576) :
    Calls Try.prog 42 #[.slice p xs.length c, .int .i64 a] w fun e w' => e = .returned (.int .i64 (necL xs a)) ∧ w = w' := by
  cases hl1 : lvB xs
  · have hr : Hid (necL xs a = -1) := Lib.hid (by simp [necL, lvsB, hl1])
    go_enter Try.func42, Try.ntmps42
    go_wp2_with (go_at_call 51; refine (areLevels_any _ _ _ _ hx hxm).mono ?_; rintro e w' ⟨rfl, rfl⟩)
    go_ret
    exact ⟨ret_int hr.out.symm, rfl⟩
  · have hk := lvB_ok hl1
    have h1 : (1 : Int) ≤ xs.length := by have := hk.l1; omega
    have h4 : (xs.length : Int) ≤ 4 := by have := hk.l4; omega
    cases hl2 : setB xs.length a
    · have hr : Hid (necL xs a = -1) := Lib.hid (by simp [necL, lvsB, hl2])
      go_enter Try.func42, Try.ntmps42
      go_wp2_with (first | (go_at_call 51; refine (areLevels_any _ _ _ _ hx hxm).mono ?_; rintro e w' ⟨rfl, rfl⟩) | (go_at_call 80; refine (isSetOf_any _ _ _ h1 h4).mono ?_; rintro e w' ⟨rfl, rfl⟩))
      go_ret
      exact ⟨ret_int hr.out.symm, rfl⟩
    · have hr : Hid (necL xs a = topL xs - posTo xs (othB xs.length a.toNat) xs.length) := Lib.hid (by simp [necL, lvsB, hl1, hl2])
      obtain ⟨n, rfl, hn, hn2⟩ := setB_nat h1 h4 hl2
      have hn3 : n < 2 ^ xs.length := by rw [pow2_nat] at hn2; omega
      have hxor := xor_full xs.length n hk.l4 hn3
      have hol := othB_lt xs.length n hk.l4
      have hmx := mxL_topL xs hk.l1 (allB_nth hk.all 0 hk.l1).1
      obtain ⟨ht1, ht2⟩ := topL_bd hk.all
      obtain ⟨hp1, hp2⟩ := posTo_bd hk.all (othB xs.length n) xs.length (Nat.le_refl _)
      go_enter Try.func42, Try.ntmps42
      go_wp2_with (first | (go_at_call 51; refine (areLevels_any _ _ _ _ hx hxm).mono ?_; rintro e w' ⟨rfl, rfl⟩) | (go_at_call 80; refine (isSetOf_any _ _ _ h1 h4).mono ?_; rintro e w' ⟨rfl, rfl⟩) | (go_at_call 84; refine (Max_any _ _ _ _ hx hxm hk.l1).mono ?_; rintro e w' ⟨rfl, rfl⟩) | (go_at_call 85; refine (fullSet_any _ _ h1 h4).mono ?_; rintro e w' ⟨rfl, rfl⟩) | (go_at_call 81; refine (possibleLevel_any _ _ _ _ _ hx hk.l4 hol).mono ?_; rintro e w' ⟨rfl, rfl⟩))
      go_ret
      exact ⟨ret_int (by rw [hr.out]; rfl), rfl⟩

end Go.Proofs.Ytmbipmdflbddbaa

