/- Masses: validity, the whole, in both packages. -/
import Derived.Test.YtjmfjgoehicgcaaG2
set_option linter.unusedVariables false
set_option linter.unusedSimpArgs false
namespace Go.Proofs.Ytjmfjgoehicgcaa
open Go.RowKit

def sumL (xs : List Int) : Int := xs.foldl (· + ·) 0

theorem sumL_snoc (xs : List Int) (x : Int) : sumL (xs ++ [x]) = sumL xs + x := by simp [sumL]

theorem sumL_bd {high : Int} (xs : List Int) (h : allB 0 high xs = true) : 0 ≤ sumL xs ∧ sumL xs ≤ high * xs.length := by
  suffices H : ∀ (l : List Int) (s : Int), (∀ x ∈ l, 0 ≤ x ∧ x ≤ high) → s ≤ l.foldl (· + ·) s ∧ l.foldl (· + ·) s ≤ s + high * l.length by
    have := H xs 0 (fun x hx => by simpa [inB] using List.all_eq_true.1 h x hx)
    unfold sumL; omega
  intro l
  induction l with
  | nil => intro s _; simp
  | cons x l ih =>
    intro s hl
    have h1 := hl x (by simp)
    have h2 := ih (s + x) (fun y hy => hl y (by simp [hy]))
    simp only [List.foldl_cons, List.length_cons]
    have : high * ((l.length + 1 : Nat) : Int) = high * l.length + high := by rw [Int.natCast_add]; rw [Int.mul_add]; simp
    omega

theorem wholeOf_any (s : Int) (a : Option Addr) (c : Nat) (xs : List Int) (w : World) (hx : Reads w a xs) (hxm : xs.length ≤ 1048576) (hr : allB 0 1000000 xs = true) :
    Calls Try.prog 78 #[.agg #[.int .i64 s, .slice a xs.length c]] w fun e w' => e = .returned (.int .i64 (sumL xs)) ∧ Below w.heap.size w w' := by
  have HR := Lib.hid hr
  clear hr
  have hb0 : Below w.heap.size w (w.alloc (.cells #[.int .i64 s, .slice a xs.length c] 27)) := (Below.refl _ _).alloc (Nat.le_refl _) _
  have hx1 := hx.below hb0
  clear hx
  go_enter Try.func78, Try.ntmps78
  go_wp2
  go_loop [3, 9] (fun d i => ∃ (k : Nat), k ≤ xs.length ∧ i = .int .i64 k ∧ d = .int .i64 (sumL (xs.take k))) (fun _ i => xs.length - (intOf i).toNat)
  case atStart => exact ⟨0, Nat.zero_le _, rfl, rfl⟩
  case round =>
    obtain ⟨k, hk, rfl, rfl⟩ := hrel
    by_cases hlt : k < xs.length
    · obtain ⟨b, off, rfl, hbl, hc⟩ := hx1 k hlt
      have hs := Lib.hid (take_succ_getD xs k hlt)
      have hn := allB_nth HR.out k hlt
      obtain ⟨hn1, hn2⟩ := hn
      have hsum := sumL_bd _ (allB_take HR.out k)
      rw [show (xs.take k).length = k by simp; omega] at hsum
      obtain ⟨hs1, hs2⟩ := hsum
      clear hx1
      go_wp2
      exact ⟨⟨k + 1, by omega, by go_num, by rw [hs.out, sumL_snoc]⟩, by simp [intOf]; omega⟩
    · have h1 : k = xs.length := by omega
      subst h1
      clear hx1
      go_wp2
      go_ret
      exact ⟨rfl, hb0⟩

/-- The sum of numbers that lie in a range, or -1. -/
def sumM (most : Int) (xs : List Int) : Int := if allB 0 most xs then sumL xs else -1

theorem l3Sum_any (a : Option Addr) (c : Nat) (xs : List Int) (most : Int) (w : World) (hx : Reads w a xs) (hxm : xs.length ≤ 1048576) (hm : 0 ≤ most) (hm2 : most ≤ 16000000000) :
    Calls Try.prog 102 #[.slice a xs.length c, .int .i64 most] w fun e w' => e = .returned (.int .i64 (sumM most xs)) ∧ w = w' := by
  go_enter Try.func102, Try.ntmps102
  go_wp2
  go_loop [5, 6] (fun d i => ∃ (k : Nat), k ≤ xs.length ∧ i = .int .i64 k ∧ d = .int .i64 (sumL (xs.take k)) ∧ allB 0 most (xs.take k) = true) (fun _ i => xs.length - (intOf i).toNat)
  case atStart => exact ⟨0, Nat.zero_le _, rfl, rfl, rfl⟩
  case round =>
    obtain ⟨k, hk, rfl, rfl, hal⟩ := hrel
    by_cases hlt : k < xs.length
    · obtain ⟨b, off, rfl, hbl, hc⟩ := hx k hlt
      have hs := Lib.hid (take_succ_getD xs k hlt)
      have hsum := sumL_bd _ hal
      rw [show (xs.take k).length = k by simp; omega] at hsum
      have hmk : most * (k : Int) ≤ 16000000000 * 1048576 := Int.mul_le_mul hm2 (by omega) (by omega) (by omega)
      have HA := Lib.hid hal
      have hs1 : 0 ≤ sumL (xs.take k) := hsum.1
      have hs2 : sumL (xs.take k) ≤ 16777216000000000 := by omega
      clear hx hal hsum hmk
      cases hin : inB (nth xs k) 0 most
      · have hf := Lib.hid (allB_false 0 most xs k hlt hin)
        go_wp2_with (go_at_call 93; refine (l1In_any _ _ _ _).mono ?_; rintro e w' ⟨rfl, rfl⟩)
        go_ret
        exact ⟨ret_int (by simp [sumM, hf.out]), rfl⟩
      · have hst : Hid (allB 0 most (xs.take (k + 1)) = true) := by
          have : allB 0 most (xs.take (k + 1)) = true := by rw [take_succ_getD xs k hlt, allB_snoc, HA.out, hin]; rfl
          exact this
        have hn : 0 ≤ nth xs k ∧ nth xs k ≤ most := by simpa [inB] using hin
        obtain ⟨hn1, hn2⟩ := hn
        go_wp2_with (go_at_call 93; refine (l1In_any _ _ _ _).mono ?_; rintro e w' ⟨rfl, rfl⟩)
        exact ⟨⟨k + 1, by omega, by go_num, by rw [hs.out, sumL_snoc], hst.out⟩, by simp [intOf]; omega⟩
    · have h1 : k = xs.length := by omega
      subst h1
      have h2 := Lib.hid hal
      rw [List.take_length] at h2
      clear hx hal
      go_wp2
      go_ret
      exact ⟨ret_int (by simp [sumM, h2.out]), rfl⟩

theorem l3Whole_any (s : Int) (a : Option Addr) (c : Nat) (xs : List Int) (w : World) (hx : Reads w a xs) (hxm : xs.length ≤ 1048576) (hr : allB 0 1000000 xs = true) :
    Calls Try.prog 80 #[.agg #[.int .i64 s, .slice a xs.length c]] w fun e w' => e = .returned (.int .i64 (sumL xs)) ∧ Below w.heap.size w w' := by
  have hb0 : Below w.heap.size w (w.alloc (.cells #[.int .i64 s, .slice a xs.length c] 27)) := (Below.refl _ _).alloc (Nat.le_refl _) _
  have hx1 := hx.below hb0
  have hr2 := Lib.hid hr
  clear hx hr
  go_enter Try.func80, Try.ntmps80
  go_wp2_with (go_at_call 102; refine (l3Sum_any _ _ _ _ _ hx1 hxm (by omega) (by omega)).mono ?_; rintro e w' ⟨rfl, rfl⟩)
  go_ret
  exact ⟨ret_int (by simp [sumM, hr2.out]), hb0⟩

/-- How many sets of s answers there are. -/
def pow2 (s : Int) : Int := 2 ^ s.toNat

theorem pow2_wrap (s : Int) (h1 : 1 ≤ s) (h2 : s ≤ 4) : wrap64 (2 ^ s.toNat) = pow2 s := by
  have : s = 1 ∨ s = 2 ∨ s = 3 ∨ s = 4 := by omega
  rcases this with rfl | rfl | rfl | rfl <;> (unfold pow2; exact IntWalk.wrap64_in _ ⟨by decide, by decide⟩)

theorem pow2_bd (s : Int) (h1 : 1 ≤ s) (h2 : s ≤ 4) : 2 ≤ pow2 s ∧ pow2 s ≤ 16 := by
  have : s = 1 ∨ s = 2 ∨ s = 3 ∨ s = 4 := by omega
  rcases this with rfl | rfl | rfl | rfl <;> decide

theorem cast_one (n : Nat) : ((n : Int) == 1) = decide (n = 1) := by
  rw [Bool.eq_iff_iff]; simp; omega

/-- A valid mass. -/
def massB (s : Int) (xs : List Int) : Bool := szB s && (decide ((xs.length : Int) = pow2 s) && (allB 0 1000000 xs && (inB (sumL xs) 1 1000000 && decide (gcdL xs = 1))))

theorem isMass_any (s : Int) (a : Option Addr) (c : Nat) (xs : List Int) (w : World) (hx : Reads w a xs) (hxm : xs.length ≤ 1048576) :
    Calls Try.prog 62 #[.agg #[.int .i64 s, .slice a xs.length c]] w fun e w' => e = .returned (.bool (massB s xs)) ∧ Below w.heap.size w w' := by
  have hb0 : Below w.heap.size w (w.alloc (.cells #[.int .i64 s, .slice a xs.length c] 27)) := (Below.refl _ _).alloc (Nat.le_refl _) _
  have hx1 := hx.below hb0
  clear hx
  cases hsz : szB s
  · have hr : Hid (massB s xs = false) := Lib.hid (by simp [massB, hsz])
    go_enter Try.func62, Try.ntmps62
    go_wp2
    go_quiet ((go_at_call 70; exact Calls.quiet_of_same ((isSize_any _ _).mono fun _ _ h => ⟨h.1, h.2.symm⟩)))
    go_wp2
    go_ret
    exact ⟨ret_bool hr.out.symm, below_drewN hb0 _⟩
  · have hs : 1 ≤ s ∧ s ≤ 4 := by simpa [szB, inB] using hsz
    obtain ⟨hs1, hs2⟩ := hs
    have hpw := pow2_wrap s hs1 hs2
    by_cases hl : (xs.length : Int) = pow2 s
    · have hL : ((xs.length : Int) != pow2 s) = false := by simp [hl]
      have hl16 : xs.length ≤ 16 := by have := pow2_bd s hs1 hs2; omega
      have HL := Lib.hid hl
      clear hl
      go_enter Try.func62, Try.ntmps62
      go_wp2
      go_quiet ((go_at_call 70; exact Calls.quiet_of_same ((isSize_any _ _).mono fun _ _ h => ⟨h.1, h.2.symm⟩)))
      go_wp2
      clear hpw
      go_loop [22] (fun i => ∃ (k : Nat), k ≤ xs.length ∧ i = .int .i64 k ∧ allB 0 1000000 (xs.take k) = true) (fun i => xs.length - (intOf i).toNat)
      case atStart => exact ⟨0, Nat.zero_le _, rfl, rfl⟩
      case round =>
        obtain ⟨k, hk, rfl, hal⟩ := hrel
        have HA := Lib.hid hal
        clear hal
        by_cases hlt : k < xs.length
        · obtain ⟨b, off, rfl, hbl, hc⟩ := hx1 k hlt
          clear hx1
          by_cases hin : inB (nth xs k) 0 1000000 = true
          · have hst : Hid (allB 0 1000000 (xs.take (k + 1)) = true) := by
              have : allB 0 1000000 (xs.take (k + 1)) = true := by rw [take_succ_getD xs k hlt, allB_snoc, HA.out, hin]; rfl
              exact this
            have h2 : 0 ≤ nth xs k ∧ nth xs k ≤ 1000000 := by simpa [inB] using hin
            obtain ⟨h2a, h2b⟩ := h2
            clear hin
            go_wp2
            refine ⟨⟨_, _, _, ⟨k + 1, by omega, ?_, hst.out⟩, rfl, rfl, rfl⟩, by simp [intOf]; omega⟩
            go_num
          · have hf := Lib.hid (allB_false 0 1000000 xs k hlt (by simpa using hin))
            have h2 : nth xs k < 0 ∨ 1000000 < nth xs k := by simp [inB] at hin; omega
            clear hin
            rcases h2 with h2 | h2
            · go_wp2
              go_ret
              exact ⟨ret_bool (by simp [massB, hf.out]), below_drewN hb0 _⟩
            · have h3 : ¬ nth xs k < 0 := by omega
              go_wp2
              go_ret
              exact ⟨ret_bool (by simp [massB, hf.out]), below_drewN hb0 _⟩
        · have h1 : k = xs.length := by omega
          subst h1
          have hl2 := HA.out
          rw [List.take_length] at hl2
          have hr : Hid (massB s xs = (inB (sumL xs) 1 1000000 && decide (gcdL xs = 1))) := Lib.hid (by simp [massB, hsz, hl2, HL.out])
          have hw := allB_wider hl2 (low' := -4611686018427387904) (high' := 4611686018427387904) (by omega) (by omega)
          have H2 := Lib.hid hl2
          have HW := Lib.hid hw
          clear hl2 HA hw
          go_wp2_with fail
          refine (wholeOf_any _ _ _ _ _ (hx1.below (below_drewN (Below.refl _ _) _)) (by omega) H2.out).mono ?_
          rintro e w1 ⟨rfl, hb1⟩
          have hb2 : Below w.heap.size w w1 := (below_drewN hb0 _).trans (hb1.mono hb0.size)
          obtain ⟨hcb, hfb⟩ := bcell hb1
          have hx2 := hx1.below ((below_drewN (Below.refl _ _) _).trans hb1)
          clear hb1 hx1
          by_cases hi : inB (sumL xs) 1 1000000 = true
          · have h3 : 1 ≤ sumL xs ∧ sumL xs ≤ 1000000 := by simpa [inB] using hi
            obtain ⟨h3a, h3b⟩ := h3
            have HI := Lib.hid hi
            clear hi
            go_wp2_with fail
            refine (divisorOf_any _ _ _ _ hx2 (by omega) HW.out).mono ?_
            rintro e w2 ⟨rfl, n, rfl⟩
            go_wp2
            go_ret
            exact ⟨ret_bool (by rw [hr.out, HI.out, Bool.true_and]; exact cast_one _), below_drewN hb2 _⟩
          · have h3 : sumL xs < 1 ∨ 1000000 < sumL xs := by simp [inB] at hi; omega
            have HI := Lib.hid hi
            clear hi
            rcases h3 with h3 | h3
            · go_wp2
              go_ret
              exact ⟨ret_bool (by rw [hr.out]; simp [HI.out]), hb2⟩
            · have h4 : 1 ≤ sumL xs := by omega
              go_wp2
              go_ret
              exact ⟨ret_bool (by rw [hr.out]; simp [HI.out]), hb2⟩
    · have hL : ((xs.length : Int) != pow2 s) = true := bne_iff_ne.2 hl
      have hr : Hid (massB s xs = false) := Lib.hid (by simp [massB, hl])
      clear hl
      go_enter Try.func62, Try.ntmps62
      go_wp2
      go_quiet ((go_at_call 70; exact Calls.quiet_of_same ((isSize_any _ _).mono fun _ _ h => ⟨h.1, h.2.symm⟩)))
      go_wp2
      go_ret
      exact ⟨ret_bool hr.out.symm, below_drewN hb0 _⟩

theorem MassValid_any (s : Int) (a : Option Addr) (c : Nat) (xs : List Int) (w : World) (hx : Reads w a xs) (hxm : xs.length ≤ 1048576) :
    Calls Try.prog 65 #[.agg #[.int .i64 s, .slice a xs.length c]] w fun e w' => e = .returned (.bool (massB s xs)) ∧ Below w.heap.size w w' := by
  have hb0 : Below w.heap.size w (w.alloc (.cells #[.int .i64 s, .slice a xs.length c] 27)) := (Below.refl _ _).alloc (Nat.le_refl _) _
  have hx1 := hx.below hb0
  clear hx
  cases hsz : szB s
  · have hr : Hid (massB s xs = false) := Lib.hid (by simp [massB, hsz])
    go_enter Try.func65, Try.ntmps65
    go_wp2_with (go_at_call 101; refine (SizeValid_any _ _).mono ?_; rintro e w' ⟨rfl, rfl⟩)
    go_ret
    exact ⟨ret_bool hr.out.symm, hb0⟩
  · have hs : 1 ≤ s ∧ s ≤ 4 := by simpa [szB, inB] using hsz
    obtain ⟨hs1, hs2⟩ := hs
    have hpw := pow2_wrap s hs1 hs2
    by_cases hl : (xs.length : Int) = pow2 s
    · have hL : ((xs.length : Int) == pow2 s) = true := beq_iff_eq.2 hl
      have hl16 : xs.length ≤ 16 := by have := pow2_bd s hs1 hs2; omega
      have HL := Lib.hid hl
      clear hl
      by_cases hi : inB (sumM 1000000 xs) 1 1000000 = true
      · have hal : allB 0 1000000 xs = true := by
          unfold sumM at hi
          split at hi
          · assumption
          · simp [inB] at hi
        have hr : Hid (massB s xs = decide (gcdL xs = 1)) := Lib.hid (by simp [massB, hsz, HL.out, hal]; simp [sumM, hal] at hi; simp [hi])
        have HW := Lib.hid (allB_wider hal (low' := -4611686018427387904) (high' := 4611686018427387904) (by omega) (by omega))
        clear hal
        go_enter Try.func65, Try.ntmps65
        go_wp2_with (first | (go_at_call 101; refine (SizeValid_any _ _).mono ?_; rintro e w' ⟨rfl, rfl⟩) | (go_at_call 102; refine (l3Sum_any _ _ _ _ _ hx1 (by omega) (by omega) (by omega)).mono ?_; rintro e w' ⟨rfl, rfl⟩) | (go_at_call 93; refine (l1In_any _ _ _ _).mono ?_; rintro e w' ⟨rfl, rfl⟩) | (go_at_call 103; refine (l3Lowest_any _ _ _ _ hx1 (by omega) HW.out).mono ?_; rintro e w' ⟨rfl, rfl⟩))
        go_ret
        exact ⟨ret_bool (by rw [hr.out]; exact cast_one _), hb0⟩
      · have hi2 : inB (sumM 1000000 xs) 1 1000000 = false := by simpa using hi
        have hr : Hid (massB s xs = false) := Lib.hid (by
          unfold sumM at hi2
          split at hi2
          · simp [massB, hi2]
          · rename_i h; simp [massB, h])
        clear hi
        go_enter Try.func65, Try.ntmps65
        go_wp2_with (first | (go_at_call 101; refine (SizeValid_any _ _).mono ?_; rintro e w' ⟨rfl, rfl⟩) | (go_at_call 102; refine (l3Sum_any _ _ _ _ _ hx1 (by omega) (by omega) (by omega)).mono ?_; rintro e w' ⟨rfl, rfl⟩) | (go_at_call 93; refine (l1In_any _ _ _ _).mono ?_; rintro e w' ⟨rfl, rfl⟩))
        go_ret
        exact ⟨ret_bool hr.out.symm, hb0⟩
    · have hL : ((xs.length : Int) == pow2 s) = false := beq_eq_false_iff_ne.2 hl
      have hr : Hid (massB s xs = false) := Lib.hid (by simp [massB, hl])
      clear hl
      go_enter Try.func65, Try.ntmps65
      go_wp2_with (go_at_call 101; refine (SizeValid_any _ _).mono ?_; rintro e w' ⟨rfl, rfl⟩)
      go_ret
      exact ⟨ret_bool hr.out.symm, hb0⟩

/-- Two masses, boxed at a function's entry. -/
theorem box2 (w : World) (s t : Int) (p q : Option Addr) (m n c d : Nat) : ∃ W : World, W = (w.alloc (.cells #[.int .i64 s, .slice p m c] 27)).alloc (.cells #[.int .i64 t, .slice q n d] 27) ∧
    Below w.heap.size w W ∧ W.heap.size = w.heap.size + 2 ∧ W.cell? ⟨w.heap.size, 0, none⟩ = some (.int .i64 s) ∧ W.cell? ⟨w.heap.size, 1, none⟩ = some (.slice p m c) ∧
    W.cell? ⟨w.heap.size + 1, 0, none⟩ = some (.int .i64 t) ∧ W.cell? ⟨w.heap.size + 1, 1, none⟩ = some (.slice q n d) := by
  refine ⟨_, rfl, ((Below.refl _ _).alloc (Nat.le_refl _) _).alloc (by simp) _, by simp, ?_, ?_, ?_, ?_⟩
  · rw [World.cell?_alloc_past _ _ _ (by simp), World.cell?_alloc_at _ _ _ _ (by simp)]; rfl
  · rw [World.cell?_alloc_past _ _ _ (by simp), World.cell?_alloc_at _ _ _ _ (by simp)]; rfl
  · rw [World.cell?_alloc_at _ _ _ _ (by simp)]; rfl
  · rw [World.cell?_alloc_at _ _ _ _ (by simp)]; rfl

/-- One mass, boxed at a function's entry. -/
theorem box1 (w : World) (s : Int) (p : Option Addr) (m c : Nat) : ∃ W : World, W = w.alloc (.cells #[.int .i64 s, .slice p m c] 27) ∧
    Below w.heap.size w W ∧ W.heap.size = w.heap.size + 1 ∧ W.cell? ⟨w.heap.size, 0, none⟩ = some (.int .i64 s) ∧ W.cell? ⟨w.heap.size, 1, none⟩ = some (.slice p m c) := by
  refine ⟨_, rfl, ((Below.refl _ _).alloc (Nat.le_refl _) _), by simp, ?_, ?_⟩
  · rw [World.cell?_alloc_at _ _ _ _ (by simp)]; rfl
  · rw [World.cell?_alloc_at _ _ _ _ (by simp)]; rfl

/-- Two valid masses of one question. -/
def bothB (s : Int) (xs : List Int) (t : Int) (ys : List Int) : Bool := massB s xs && (massB t ys && decide (s = t))

theorem cast_eqd (s t : Int) : (s == t) = decide (s = t) := by rw [Bool.eq_iff_iff]; simp

theorem ofOneQuestion_any (s t : Int) (p q : Option Addr) (c d : Nat) (xs ys : List Int) (w : World) (hx : Reads w p xs) (hy : Reads w q ys) (hxm : xs.length ≤ 1048576) (hym : ys.length ≤ 1048576) :
    Calls Try.prog 59 #[.agg #[.int .i64 s, .slice p xs.length c], .agg #[.int .i64 t, .slice q ys.length d]] w fun e w' => e = .returned (.bool (bothB s xs t ys)) ∧ Below w.heap.size w w' := by
  obtain ⟨W, hW, hbW, hsz, c0, c1, c2, c3⟩ := box2 w s t p q xs.length ys.length c d
  have hxW := hx.below hbW
  have hyW := hy.below hbW
  have HW := Lib.hid hW
  have hl0 : w.heap.size < W.heap.size := by omega
  have hl1 : w.heap.size + 1 < W.heap.size := by omega
  clear hW hx hy hsz
  cases h1 : massB s xs
  · have hr : Hid (bothB s xs t ys = false) := Lib.hid (by simp [bothB, h1])
    go_enter Try.func59, Try.ntmps59
    go_wp2_with fail
    rw [← HW.out]
    refine (isMass_any _ _ _ _ _ hxW hxm).mono ?_
    rintro e w1 ⟨rfl, hb1⟩
    go_wp2
    go_ret
    exact ⟨ret_bool hr.out.symm, hbW.trans (hb1.mono hbW.size)⟩
  · have hr : Hid (bothB s xs t ys = (massB t ys && decide (s = t))) := Lib.hid (by simp [bothB, h1])
    go_enter Try.func59, Try.ntmps59
    go_wp2_with fail
    rw [← HW.out]
    refine (isMass_any _ _ _ _ _ hxW hxm).mono ?_
    rintro e w1 ⟨rfl, hb1⟩
    have hc1 := bcell hb1
    have hyw := hyW.below hb1
    cases h2 : massB t ys
    · have hr2 : Hid (bothB s xs t ys = false) := Lib.hid (by rw [hr.out]; simp [h2])
      go_wp2_with fail
      refine (isMass_any _ _ _ _ _ hyw hym).mono ?_
      rintro e w2 ⟨rfl, hb2⟩
      go_wp2
      go_ret
      exact ⟨ret_bool hr2.out.symm, hbW.trans ((hb1.trans (hb2.mono hb1.size)).mono hbW.size)⟩
    · have hr2 : Hid (bothB s xs t ys = decide (s = t)) := Lib.hid (by rw [hr.out]; simp [h2])
      go_wp2_with fail
      refine (isMass_any _ _ _ _ _ hyw hym).mono ?_
      rintro e w2 ⟨rfl, hb2⟩
      have hc2 := bcell (hb1.trans (hb2.mono hb1.size))
      clear hc1
      go_wp2
      go_ret
      exact ⟨ret_bool (by rw [hr2.out]; exact cast_eqd _ _), hbW.trans ((hb1.trans (hb2.mono hb1.size)).mono hbW.size)⟩

theorem l3Both_any (s t : Int) (p q : Option Addr) (c d : Nat) (xs ys : List Int) (w : World) (hx : Reads w p xs) (hy : Reads w q ys) (hxm : xs.length ≤ 1048576) (hym : ys.length ≤ 1048576) :
    Calls Try.prog 54 #[.agg #[.int .i64 s, .slice p xs.length c], .agg #[.int .i64 t, .slice q ys.length d]] w fun e w' => e = .returned (.bool (bothB s xs t ys)) ∧ Below w.heap.size w w' := by
  obtain ⟨W, hW, hbW, hsz, c0, c1, c2, c3⟩ := box2 w s t p q xs.length ys.length c d
  have hxW := hx.below hbW
  have hyW := hy.below hbW
  have HW := Lib.hid hW
  have hl0 : w.heap.size < W.heap.size := by omega
  have hl1 : w.heap.size + 1 < W.heap.size := by omega
  clear hW hx hy hsz
  cases h1 : massB s xs
  · have hr : Hid (bothB s xs t ys = false) := Lib.hid (by simp [bothB, h1])
    go_enter Try.func54, Try.ntmps54
    go_wp2_with fail
    rw [← HW.out]
    refine (MassValid_any _ _ _ _ _ hxW hxm).mono ?_
    rintro e w1 ⟨rfl, hb1⟩
    go_wp2
    go_ret
    exact ⟨ret_bool hr.out.symm, hbW.trans (hb1.mono hbW.size)⟩
  · have hr : Hid (bothB s xs t ys = (massB t ys && decide (s = t))) := Lib.hid (by simp [bothB, h1])
    go_enter Try.func54, Try.ntmps54
    go_wp2_with fail
    rw [← HW.out]
    refine (MassValid_any _ _ _ _ _ hxW hxm).mono ?_
    rintro e w1 ⟨rfl, hb1⟩
    have hc1 := bcell hb1
    have hyw := hyW.below hb1
    cases h2 : massB t ys
    · have hr2 : Hid (bothB s xs t ys = false) := Lib.hid (by rw [hr.out]; simp [h2])
      go_wp2_with fail
      refine (MassValid_any _ _ _ _ _ hyw hym).mono ?_
      rintro e w2 ⟨rfl, hb2⟩
      go_wp2
      go_ret
      exact ⟨ret_bool hr2.out.symm, hbW.trans ((hb1.trans (hb2.mono hb1.size)).mono hbW.size)⟩
    · have hr2 : Hid (bothB s xs t ys = decide (s = t)) := Lib.hid (by rw [hr.out]; simp [h2])
      go_wp2_with fail
      refine (MassValid_any _ _ _ _ _ hyw hym).mono ?_
      rintro e w2 ⟨rfl, hb2⟩
      have hc2 := bcell (hb1.trans (hb2.mono hb1.size))
      clear hc1
      go_wp2
      go_ret
      exact ⟨ret_bool (by rw [hr2.out]; exact cast_eqd _ _), hbW.trans ((hb1.trans (hb2.mono hb1.size)).mono hbW.size)⟩

/-- What a valid mass is. -/
structure MassOk (s : Int) (xs : List Int) : Prop where
  s1 : 1 ≤ s
  s4 : s ≤ 4
  len : (xs.length : Int) = pow2 s
  all : allB 0 1000000 xs = true
  sum1 : 1 ≤ sumL xs
  sum2 : sumL xs ≤ 1000000
  gcd : gcdL xs = 1

theorem massB_ok {s : Int} {xs : List Int} (h : massB s xs = true) : MassOk s xs := by
  simp only [massB, Bool.and_eq_true, decide_eq_true_eq] at h
  obtain ⟨h1, h2, h3, h4, h5⟩ := h
  have h1' : 1 ≤ s ∧ s ≤ 4 := by simpa [szB, inB] using h1
  have h4' : 1 ≤ sumL xs ∧ sumL xs ≤ 1000000 := by simpa [inB] using h4
  exact ⟨h1'.1, h1'.2, h2, h3, h4'.1, h4'.2, h5⟩

theorem MassOk.l16 {s : Int} {xs : List Int} (h : MassOk s xs) : xs.length ≤ 16 := by
  have := pow2_bd s h.s1 h.s4; have := h.len; omega

theorem bothB_ok {s t : Int} {xs ys : List Int} (h : bothB s xs t ys = true) : MassOk s xs ∧ MassOk t ys ∧ s = t ∧ xs.length = ys.length := by
  simp only [bothB, Bool.and_eq_true, decide_eq_true_eq] at h
  obtain ⟨h1, h2, h3⟩ := h
  have k1 := massB_ok h1
  have k2 := massB_ok h2
  refine ⟨k1, k2, h3, ?_⟩
  have e1 := k1.len
  have e2 := k2.len
  rw [h3] at e1
  omega

end Go.Proofs.Ytjmfjgoehicgcaa


