/- Masses: validity, the whole, in both packages. -/
import Derived.Test.YtjmfjgoehicgcaaMgBase
import Derived.Deep.RegionLaw
set_option linter.unusedVariables false
set_option linter.unusedSimpArgs false
namespace Go.Proofs.Ytjmfjgoehicgcaa
open Go.RowKit

def sumL (xs : List Int) : Int := xs.foldl (· + ·) 0

theorem sumL_snoc (xs : List Int) (x : Int) : sumL (xs ++ [x]) = sumL xs + x := by simp [sumL]

theorem sumL_bd {high : Int} (xs : List Int) (h : allB 0 high xs = true) : 0 ≤ sumL xs ∧ sumL xs ≤ high * xs.length := by
  suffices H : ∀ (l : List Int) (s : Int), (∀ x ∈ l, 0 ≤ x ∧ x ≤ high) → s ≤ l.foldl (· + ·) s ∧ l.foldl (· + ·) s ≤ s + high * l.length by
    have := H xs 0 (fun x hx => by simpa [inB] using List.all_eq_true.1 h x hx)
    unfold sumL; omega
  intro l
  induction l with
  | nil => intro s _; simp
  | cons x l ih =>
    intro s hl
    have h1 := hl x (by simp)
    have h2 := ih (s + x) (fun y hy => hl y (by simp [hy]))
    simp only [List.foldl_cons, List.length_cons]
    have : high * ((l.length + 1 : Nat) : Int) = high * l.length + high := by rw [Int.natCast_add]; rw [Int.mul_add]; simp
    omega

theorem wholeOf_any (s : Int) (a : Option Addr) (c : Nat) (xs : List Int) (w : World) (hx : Reads w a xs) (hxm : xs.length ≤ 1048576) (hr : allB 0 1000000 xs = true) :
    Calls Try.prog 78 #[.agg #[.int .i64 s, .slice a xs.length c]] w fun e w' => e = .returned (.int .i64 (sumL xs)) ∧ Below w.heap.size w w' := by
  have HR := Lib.hid hr
  clear hr
  have hb0 : Below w.heap.size w (w.alloc (.cells #[.int .i64 s, .slice a xs.length c] 27)) := (Below.refl _ _).alloc (Nat.le_refl _) _
  have hx1 := hx.below hb0
  clear hx
  go_enter Try.func78, Try.ntmps78
  go_wp2
  go_loop [3, 9] (fun d i => ∃ (k : Nat), k ≤ xs.length ∧ i = .int .i64 k ∧ d = .int .i64 (sumL (xs.take k))) (fun _ i => xs.length - (intOf i).toNat)
  case atStart => exact ⟨0, Nat.zero_le _, rfl, rfl⟩
  case round =>
    obtain ⟨k, hk, rfl, rfl⟩ := hrel
    by_cases hlt : k < xs.length
    · obtain ⟨b, off, rfl, hbl, hc⟩ := hx1 k hlt
      have hs := Lib.hid (take_succ_getD xs k hlt)
      have hn := allB_nth HR.out k hlt
      obtain ⟨hn1, hn2⟩ := hn
      have hsum := sumL_bd _ (allB_take HR.out k)
      rw [show (xs.take k).length = k by simp; omega] at hsum
      obtain ⟨hs1, hs2⟩ := hsum
      clear hx1
      go_wp2
      exact ⟨⟨k + 1, by omega, by go_num, by rw [hs.out, sumL_snoc]⟩, by simp [intOf]; omega⟩
    · have h1 : k = xs.length := by omega
      subst h1
      clear hx1
      go_wp2
      go_ret
      exact ⟨rfl, hb0⟩

/-- The sum of numbers that lie in a range, or -1. -/
def sumM (most : Int) (xs : List Int) : Int := if allB 0 most xs then sumL xs else -1

theorem l3Sum_any (a : Option Addr) (c : Nat) (xs : List Int) (most : Int) (w : World) (hx : Reads w a xs) (hxm : xs.length ≤ 1048576) (hm : 0 ≤ most) (hm2 : most ≤ 16000000000) :
    Calls Try.prog 102 #[.slice a xs.length c, .int .i64 most] w fun e w' => e = .returned (.int .i64 (sumM most xs)) ∧ w = w' := by
  go_enter Try.func102, Try.ntmps102
  go_wp2
  go_loop [5, 6] (fun d i => ∃ (k : Nat), k ≤ xs.length ∧ i = .int .i64 k ∧ d = .int .i64 (sumL (xs.take k)) ∧ allB 0 most (xs.take k) = true) (fun _ i => xs.length - (intOf i).toNat)
  case atStart => exact ⟨0, Nat.zero_le _, rfl, rfl, rfl⟩
  case round =>
    obtain ⟨k, hk, rfl, rfl, hal⟩ := hrel
    by_cases hlt : k < xs.length
    · obtain ⟨b, off, rfl, hbl, hc⟩ := hx k hlt
      have hs := Lib.hid (take_succ_getD xs k hlt)
      have hsum := sumL_bd _ hal
      rw [show (xs.take k).length = k by simp; omega] at hsum
      have hmk : most * (k : Int) ≤ 16000000000 * 1048576 := Int.mul_le_mul hm2 (by omega) (by omega) (by omega)
      have HA := Lib.hid hal
      have hs1 : 0 ≤ sumL (xs.take k) := hsum.1
      have hs2 : sumL (xs.take k) ≤ 16777216000000000 := by omega
      clear hx hal hsum hmk
      cases hin : inB (nth xs k) 0 most
      · have hf := Lib.hid (allB_false 0 most xs k hlt hin)
        go_wp2_with (go_at_call 93; refine (l1In_any _ _ _ _).mono ?_; rintro e w' ⟨rfl, rfl⟩)
        go_ret
        exact ⟨ret_int (by simp [sumM, hf.out]), rfl⟩
      · have hst : Hid (allB 0 most (xs.take (k + 1)) = true) := by
          have : allB 0 most (xs.take (k + 1)) = true := by rw [take_succ_getD xs k hlt, allB_snoc, HA.out, hin]; rfl
          exact this
        have hn : 0 ≤ nth xs k ∧ nth xs k ≤ most := by simpa [inB] using hin
        obtain ⟨hn1, hn2⟩ := hn
        go_wp2_with (go_at_call 93; refine (l1In_any _ _ _ _).mono ?_; rintro e w' ⟨rfl, rfl⟩)
        exact ⟨⟨k + 1, by omega, by go_num, by rw [hs.out, sumL_snoc], hst.out⟩, by simp [intOf]; omega⟩
    · have h1 : k = xs.length := by omega
      subst h1
      have h2 := Lib.hid hal
      rw [List.take_length] at h2
      clear hx hal
      go_wp2
      go_ret
      exact ⟨ret_int (by simp [sumM, h2.out]), rfl⟩

theorem l3Whole_any (s : Int) (a : Option Addr) (c : Nat) (xs : List Int) (w : World) (hx : Reads w a xs) (hxm : xs.length ≤ 1048576) (hr : allB 0 1000000 xs = true) :
    Calls Try.prog 80 #[.agg #[.int .i64 s, .slice a xs.length c]] w fun e w' => e = .returned (.int .i64 (sumL xs)) ∧ Below w.heap.size w w' := by
  have hb0 : Below w.heap.size w (w.alloc (.cells #[.int .i64 s, .slice a xs.length c] 27)) := (Below.refl _ _).alloc (Nat.le_refl _) _
  have hx1 := hx.below hb0
  have hr2 := Lib.hid hr
  clear hx hr
  go_enter Try.func80, Try.ntmps80
  go_wp2_with (go_at_call 102; refine (l3Sum_any _ _ _ _ _ hx1 hxm (by omega) (by omega)).mono ?_; rintro e w' ⟨rfl, rfl⟩)
  go_ret
  exact ⟨ret_int (by simp [sumM, hr2.out]), hb0⟩

/-- How many sets of s answers there are. -/
def pow2 (s : Int) : Int := 2 ^ s.toNat

theorem pow2_wrap (s : Int) (h1 : 1 ≤ s) (h2 : s ≤ 4) : wrap64 (2 ^ s.toNat) = pow2 s := by
  have : s = 1 ∨ s = 2 ∨ s = 3 ∨ s = 4 := by omega
  rcases this with rfl | rfl | rfl | rfl <;> (unfold pow2; exact IntWalk.wrap64_in _ ⟨by decide, by decide⟩)

theorem pow2_bd (s : Int) (h1 : 1 ≤ s) (h2 : s ≤ 4) : 2 ≤ pow2 s ∧ pow2 s ≤ 16 := by
  have : s = 1 ∨ s = 2 ∨ s = 3 ∨ s = 4 := by omega
  rcases this with rfl | rfl | rfl | rfl <;> decide

theorem cast_one (n : Nat) : ((n : Int) == 1) = decide (n = 1) := by
  rw [Bool.eq_iff_iff]; simp; omega

/-- A valid mass. -/
def massB (s : Int) (xs : List Int) : Bool := szB s && (decide ((xs.length : Int) = pow2 s) && (allB 0 1000000 xs && (inB (sumL xs) 1 1000000 && decide (gcdL xs = 1))))

theorem isMass_any (s : Int) (a : Option Addr) (c : Nat) (xs : List Int) (w : World) (hx : Reads w a xs) (hxm : xs.length ≤ 1048576) :
    Calls Try.prog 62 #[.agg #[.int .i64 s, .slice a xs.length c]] w fun e w' => e = .returned (.bool (massB s xs)) ∧ Below w.heap.size w w' := by
  have hb0 : Below w.heap.size w (w.alloc (.cells #[.int .i64 s, .slice a xs.length c] 27)) := (Below.refl _ _).alloc (Nat.le_refl _) _
  have hx1 := hx.below hb0
  clear hx
  cases hsz : szB s
  · have hr : Hid (massB s xs = false) := Lib.hid (by simp [massB, hsz])
    go_enter Try.func62, Try.ntmps62
    go_wp2
    go_quiet ((go_at_call 70; exact Calls.quiet_of_same ((isSize_any _ _).mono fun _ _ h => ⟨h.1, h.2.symm⟩)))
    go_wp2
    go_ret
    exact ⟨ret_bool hr.out.symm, below_drewN hb0 _⟩
  · have hs : 1 ≤ s ∧ s ≤ 4 := by simpa [szB, inB] using hsz
    obtain ⟨hs1, hs2⟩ := hs
    have hpw := pow2_wrap s hs1 hs2
    by_cases hl : (xs.length : Int) = pow2 s
    · have hL : ((xs.length : Int) != pow2 s) = false := by simp [hl]
      have hl16 : xs.length ≤ 16 := by have := pow2_bd s hs1 hs2; omega
      have HL := Lib.hid hl
      clear hl
      go_enter Try.func62, Try.ntmps62
      go_wp2
      go_quiet ((go_at_call 70; exact Calls.quiet_of_same ((isSize_any _ _).mono fun _ _ h => ⟨h.1, h.2.symm⟩)))
      go_wp2
      clear hpw
      go_loop [22] (fun i => ∃ (k : Nat), k ≤ xs.length ∧ i = .int .i64 k ∧ allB 0 1000000 (xs.take k) = true) (fun i => xs.length - (intOf i).toNat)
      case atStart => exact ⟨0, Nat.zero_le _, rfl, rfl⟩
      case round =>
        obtain ⟨k, hk, rfl, hal⟩ := hrel
        have HA := Lib.hid hal
        clear hal
        by_cases hlt : k < xs.length
        · obtain ⟨b, off, rfl, hbl, hc⟩ := hx1 k hlt
          clear hx1
          by_cases hin : inB (nth xs k) 0 1000000 = true
          · have hst : Hid (allB 0 1000000 (xs.take (k + 1)) = true) := by
              have : allB 0 1000000 (xs.take (k + 1)) = true := by rw [take_succ_getD xs k hlt, allB_snoc, HA.out, hin]; rfl
              exact this
            have h2 : 0 ≤ nth xs k ∧ nth xs k ≤ 1000000 := by simpa [inB] using hin
            obtain ⟨h2a, h2b⟩ := h2
            clear hin
            go_wp2
            refine ⟨⟨_, _, _, ⟨k + 1, by omega, ?_, hst.out⟩, rfl, rfl, rfl⟩, by simp [intOf]; omega⟩
            go_num
          · have hf := Lib.hid (allB_false 0 1000000 xs k hlt (by simpa using hin))
            have h2 : nth xs k < 0 ∨ 1000000 < nth xs k := by simp [inB] at hin; omega
            clear hin
            rcases h2 with h2 | h2
            · go_wp2
              go_ret
              exact ⟨ret_bool (by simp [massB, hf.out]), below_drewN hb0 _⟩
            · have h3 : ¬ nth xs k < 0 := by omega
              go_wp2
              go_ret
              exact ⟨ret_bool (by simp [massB, hf.out]), below_drewN hb0 _⟩
        · have h1 : k = xs.length := by omega
          subst h1
          have hl2 := HA.out
          rw [List.take_length] at hl2
          have hr : Hid (massB s xs = (inB (sumL xs) 1 1000000 && decide (gcdL xs = 1))) := Lib.hid (by simp [massB, hsz, hl2, HL.out])
          have hw := allB_wider hl2 (low' := -4611686018427387904) (high' := 4611686018427387904) (by omega) (by omega)
          have H2 := Lib.hid hl2
          have HW := Lib.hid hw
          clear hl2 HA hw
          go_wp2_with fail
          refine (wholeOf_any _ _ _ _ _ (hx1.below (below_drewN (Below.refl _ _) _)) (by omega) H2.out).mono ?_
          rintro e w1 ⟨rfl, hb1⟩
          have hb2 : Below w.heap.size w w1 := (below_drewN hb0 _).trans (hb1.mono hb0.size)
          obtain ⟨hcb, hfb⟩ := bcell hb1
          have hx2 := hx1.below ((below_drewN (Below.refl _ _) _).trans hb1)
          clear hb1 hx1
          by_cases hi : inB (sumL xs) 1 1000000 = true
          · have h3 : 1 ≤ sumL xs ∧ sumL xs ≤ 1000000 := by simpa [inB] using hi
            obtain ⟨h3a, h3b⟩ := h3
            have HI := Lib.hid hi
            clear hi
            go_wp2_with fail
            refine (divisorOf_any _ _ _ _ hx2 (by omega) HW.out).mono ?_
            rintro e w2 ⟨rfl, n, rfl⟩
            go_wp2
            go_ret
            exact ⟨ret_bool (by rw [hr.out, HI.out, Bool.true_and]; exact cast_one _), below_drewN hb2 _⟩
          · have h3 : sumL xs < 1 ∨ 1000000 < sumL xs := by simp [inB] at hi; omega
            have HI := Lib.hid hi
            clear hi
            rcases h3 with h3 | h3
            · go_wp2
              go_ret
              exact ⟨ret_bool (by rw [hr.out]; simp [HI.out]), hb2⟩
            · have h4 : 1 ≤ sumL xs := by omega
              go_wp2
              go_ret
              exact ⟨ret_bool (by rw [hr.out]; simp [HI.out]), hb2⟩
    · have hL : ((xs.length : Int) != pow2 s) = true := bne_iff_ne.2 hl
      have hr : Hid (massB s xs = false) := Lib.hid (by simp [massB, hl])
      clear hl
      go_enter Try.func62, Try.ntmps62
      go_wp2
      go_quiet ((go_at_call 70; exact Calls.quiet_of_same ((isSize_any _ _).mono fun _ _ h => ⟨h.1, h.2.symm⟩)))
      go_wp2
      go_ret
      exact ⟨ret_bool hr.out.symm, below_drewN hb0 _⟩

theorem MassValid_any (s : Int) (a : Option Addr) (c : Nat) (xs : List Int) (w : World) (hx : Reads w a xs) (hxm : xs.length ≤ 1048576) :
    Calls Try.prog 65 #[.agg #[.int .i64 s, .slice a xs.length c]] w fun e w' => e = .returned (.bool (massB s xs)) ∧ Below w.heap.size w w' := by
  have hb0 : Below w.heap.size w (w.alloc (.cells #[.int .i64 s, .slice a xs.length c] 27)) := (Below.refl _ _).alloc (Nat.le_refl _) _
  have hx1 := hx.below hb0
  clear hx
  cases hsz : szB s
  · have hr : Hid (massB s xs = false) := Lib.hid (by simp [massB, hsz])
    go_enter Try.func65, Try.ntmps65
    go_wp2_with (go_at_call 101; refine (SizeValid_any _ _).mono ?_; rintro e w' ⟨rfl, rfl⟩)
    go_ret
    exact ⟨ret_bool hr.out.symm, hb0⟩
  · have hs : 1 ≤ s ∧ s ≤ 4 := by simpa [szB, inB] using hsz
    obtain ⟨hs1, hs2⟩ := hs
    have hpw := pow2_wrap s hs1 hs2
    by_cases hl : (xs.length : Int) = pow2 s
    · have hL : ((xs.length : Int) == pow2 s) = true := beq_iff_eq.2 hl
      have hl16 : xs.length ≤ 16 := by have := pow2_bd s hs1 hs2; omega
      have HL := Lib.hid hl
      clear hl
      by_cases hi : inB (sumM 1000000 xs) 1 1000000 = true
      · have hal : allB 0 1000000 xs = true := by
          unfold sumM at hi
          split at hi
          · assumption
          · simp [inB] at hi
        have hr : Hid (massB s xs = decide (gcdL xs = 1)) := Lib.hid (by simp [massB, hsz, HL.out, hal]; simp [sumM, hal] at hi; simp [hi])
        have HW := Lib.hid (allB_wider hal (low' := -4611686018427387904) (high' := 4611686018427387904) (by omega) (by omega))
        clear hal
        go_enter Try.func65, Try.ntmps65
        go_wp2_with (first | (go_at_call 101; refine (SizeValid_any _ _).mono ?_; rintro e w' ⟨rfl, rfl⟩) | (go_at_call 102; refine (l3Sum_any _ _ _ _ _ hx1 (by omega) (by omega) (by omega)).mono ?_; rintro e w' ⟨rfl, rfl⟩) | (go_at_call 93; refine (l1In_any _ _ _ _).mono ?_; rintro e w' ⟨rfl, rfl⟩) | (go_at_call 103; refine (l3Lowest_any _ _ _ _ hx1 (by omega) HW.out).mono ?_; rintro e w' ⟨rfl, rfl⟩))
        go_ret
        exact ⟨ret_bool (by rw [hr.out]; exact cast_one _), hb0⟩
      · have hi2 : inB (sumM 1000000 xs) 1 1000000 = false := by simpa using hi
        have hr : Hid (massB s xs = false) := Lib.hid (by
          unfold sumM at hi2
          split at hi2
          · simp [massB, hi2]
          · rename_i h; simp [massB, h])
        clear hi
        go_enter Try.func65, Try.ntmps65
        go_wp2_with (first | (go_at_call 101; refine (SizeValid_any _ _).mono ?_; rintro e w' ⟨rfl, rfl⟩) | (go_at_call 102; refine (l3Sum_any _ _ _ _ _ hx1 (by omega) (by omega) (by omega)).mono ?_; rintro e w' ⟨rfl, rfl⟩) | (go_at_call 93; refine (l1In_any _ _ _ _).mono ?_; rintro e w' ⟨rfl, rfl⟩))
        go_ret
        exact ⟨ret_bool hr.out.symm, hb0⟩
    · have hL : ((xs.length : Int) == pow2 s) = false := beq_eq_false_iff_ne.2 hl
      have hr : Hid (massB s xs = false) := Lib.hid (by simp [massB, hl])
      clear hl
      go_enter Try.func65, Try.ntmps65
      go_wp2_with (go_at_call 101; refine (SizeValid_any _ _).mono ?_; rintro e w' ⟨rfl, rfl⟩)
      go_ret
      exact ⟨ret_bool hr.out.symm, hb0⟩

/-- Two masses, boxed at a function's entry. -/
theorem box2 (w : World) (s t : Int) (p q : Option Addr) (m n c d : Nat) : ∃ W : World, W = (w.alloc (.cells #[.int .i64 s, .slice p m c] 27)).alloc (.cells #[.int .i64 t, .slice q n d] 27) ∧
    Below w.heap.size w W ∧ W.heap.size = w.heap.size + 2 ∧ W.cell? ⟨w.heap.size, 0, none⟩ = some (.int .i64 s) ∧ W.cell? ⟨w.heap.size, 1, none⟩ = some (.slice p m c) ∧
    W.cell? ⟨w.heap.size + 1, 0, none⟩ = some (.int .i64 t) ∧ W.cell? ⟨w.heap.size + 1, 1, none⟩ = some (.slice q n d) := by
  refine ⟨_, rfl, ((Below.refl _ _).alloc (Nat.le_refl _) _).alloc (by simp) _, by simp, ?_, ?_, ?_, ?_⟩
  · rw [World.cell?_alloc_past _ _ _ (by simp), World.cell?_alloc_at _ _ _ _ (by simp)]; rfl
  · rw [World.cell?_alloc_past _ _ _ (by simp), World.cell?_alloc_at _ _ _ _ (by simp)]; rfl
  · rw [World.cell?_alloc_at _ _ _ _ (by simp)]; rfl
  · rw [World.cell?_alloc_at _ _ _ _ (by simp)]; rfl

/-- One mass, boxed at a function's entry. -/
theorem box1 (w : World) (s : Int) (p : Option Addr) (m c : Nat) : ∃ W : World, W = w.alloc (.cells #[.int .i64 s, .slice p m c] 27) ∧
    Below w.heap.size w W ∧ W.heap.size = w.heap.size + 1 ∧ W.cell? ⟨w.heap.size, 0, none⟩ = some (.int .i64 s) ∧ W.cell? ⟨w.heap.size, 1, none⟩ = some (.slice p m c) := by
  refine ⟨_, rfl, ((Below.refl _ _).alloc (Nat.le_refl _) _), by simp, ?_, ?_⟩
  · rw [World.cell?_alloc_at _ _ _ _ (by simp)]; rfl
  · rw [World.cell?_alloc_at _ _ _ _ (by simp)]; rfl

/-- Two valid masses of one question. -/
def bothB (s : Int) (xs : List Int) (t : Int) (ys : List Int) : Bool := massB s xs && (massB t ys && decide (s = t))

theorem cast_eqd (s t : Int) : (s == t) = decide (s = t) := by rw [Bool.eq_iff_iff]; simp

theorem ofOneQuestion_any (s t : Int) (p q : Option Addr) (c d : Nat) (xs ys : List Int) (w : World) (hx : Reads w p xs) (hy : Reads w q ys) (hxm : xs.length ≤ 1048576) (hym : ys.length ≤ 1048576) :
    Calls Try.prog 59 #[.agg #[.int .i64 s, .slice p xs.length c], .agg #[.int .i64 t, .slice q ys.length d]] w fun e w' => e = .returned (.bool (bothB s xs t ys)) ∧ Below w.heap.size w w' := by
  obtain ⟨W, hW, hbW, hsz, c0, c1, c2, c3⟩ := box2 w s t p q xs.length ys.length c d
  have hxW := hx.below hbW
  have hyW := hy.below hbW
  have HW := Lib.hid hW
  have hl0 : w.heap.size < W.heap.size := by omega
  have hl1 : w.heap.size + 1 < W.heap.size := by omega
  clear hW hx hy hsz
  cases h1 : massB s xs
  · have hr : Hid (bothB s xs t ys = false) := Lib.hid (by simp [bothB, h1])
    go_enter Try.func59, Try.ntmps59
    go_wp2_with fail
    rw [← HW.out]
    refine (isMass_any _ _ _ _ _ hxW hxm).mono ?_
    rintro e w1 ⟨rfl, hb1⟩
    go_wp2
    go_ret
    exact ⟨ret_bool hr.out.symm, hbW.trans (hb1.mono hbW.size)⟩
  · have hr : Hid (bothB s xs t ys = (massB t ys && decide (s = t))) := Lib.hid (by simp [bothB, h1])
    go_enter Try.func59, Try.ntmps59
    go_wp2_with fail
    rw [← HW.out]
    refine (isMass_any _ _ _ _ _ hxW hxm).mono ?_
    rintro e w1 ⟨rfl, hb1⟩
    have hc1 := bcell hb1
    have hyw := hyW.below hb1
    cases h2 : massB t ys
    · have hr2 : Hid (bothB s xs t ys = false) := Lib.hid (by rw [hr.out]; simp [h2])
      go_wp2_with fail
      refine (isMass_any _ _ _ _ _ hyw hym).mono ?_
      rintro e w2 ⟨rfl, hb2⟩
      go_wp2
      go_ret
      exact ⟨ret_bool hr2.out.symm, hbW.trans ((hb1.trans (hb2.mono hb1.size)).mono hbW.size)⟩
    · have hr2 : Hid (bothB s xs t ys = decide (s = t)) := Lib.hid (by rw [hr.out]; simp [h2])
      go_wp2_with fail
      refine (isMass_any _ _ _ _ _ hyw hym).mono ?_
      rintro e w2 ⟨rfl, hb2⟩
      have hc2 := bcell (hb1.trans (hb2.mono hb1.size))
      clear hc1
      go_wp2
      go_ret
      exact ⟨ret_bool (by rw [hr2.out]; exact cast_eqd _ _), hbW.trans ((hb1.trans (hb2.mono hb1.size)).mono hbW.size)⟩

theorem l3Both_any (s t : Int) (p q : Option Addr) (c d : Nat) (xs ys : List Int) (w : World) (hx : Reads w p xs) (hy : Reads w q ys) (hxm : xs.length ≤ 1048576) (hym : ys.length ≤ 1048576) :
    Calls Try.prog 54 #[.agg #[.int .i64 s, .slice p xs.length c], .agg #[.int .i64 t, .slice q ys.length d]] w fun e w' => e = .returned (.bool (bothB s xs t ys)) ∧ Below w.heap.size w w' := by
  obtain ⟨W, hW, hbW, hsz, c0, c1, c2, c3⟩ := box2 w s t p q xs.length ys.length c d
  have hxW := hx.below hbW
  have hyW := hy.below hbW
  have HW := Lib.hid hW
  have hl0 : w.heap.size < W.heap.size := by omega
  have hl1 : w.heap.size + 1 < W.heap.size := by omega
  clear hW hx hy hsz
  cases h1 : massB s xs
  · have hr : Hid (bothB s xs t ys = false) := Lib.hid (by simp [bothB, h1])
    go_enter Try.func54, Try.ntmps54
    go_wp2_with fail
    rw [← HW.out]
    refine (MassValid_any _ _ _ _ _ hxW hxm).mono ?_
    rintro e w1 ⟨rfl, hb1⟩
    go_wp2
    go_ret
    exact ⟨ret_bool hr.out.symm, hbW.trans (hb1.mono hbW.size)⟩
  · have hr : Hid (bothB s xs t ys = (massB t ys && decide (s = t))) := Lib.hid (by simp [bothB, h1])
    go_enter Try.func54, Try.ntmps54
    go_wp2_with fail
    rw [← HW.out]
    refine (MassValid_any _ _ _ _ _ hxW hxm).mono ?_
    rintro e w1 ⟨rfl, hb1⟩
    have hc1 := bcell hb1
    have hyw := hyW.below hb1
    cases h2 : massB t ys
    · have hr2 : Hid (bothB s xs t ys = false) := Lib.hid (by rw [hr.out]; simp [h2])
      go_wp2_with fail
      refine (MassValid_any _ _ _ _ _ hyw hym).mono ?_
      rintro e w2 ⟨rfl, hb2⟩
      go_wp2
      go_ret
      exact ⟨ret_bool hr2.out.symm, hbW.trans ((hb1.trans (hb2.mono hb1.size)).mono hbW.size)⟩
    · have hr2 : Hid (bothB s xs t ys = decide (s = t)) := Lib.hid (by rw [hr.out]; simp [h2])
      go_wp2_with fail
      refine (MassValid_any _ _ _ _ _ hyw hym).mono ?_
      rintro e w2 ⟨rfl, hb2⟩
      have hc2 := bcell (hb1.trans (hb2.mono hb1.size))
      clear hc1
      go_wp2
      go_ret
      exact ⟨ret_bool (by rw [hr2.out]; exact cast_eqd _ _), hbW.trans ((hb1.trans (hb2.mono hb1.size)).mono hbW.size)⟩

/-- What a valid mass is. -/
structure MassOk (s : Int) (xs : List Int) : Prop where
  s1 : 1 ≤ s
  s4 : s ≤ 4
  len : (xs.length : Int) = pow2 s
  all : allB 0 1000000 xs = true
  sum1 : 1 ≤ sumL xs
  sum2 : sumL xs ≤ 1000000
  gcd : gcdL xs = 1

theorem massB_ok {s : Int} {xs : List Int} (h : massB s xs = true) : MassOk s xs := by
  simp only [massB, Bool.and_eq_true, decide_eq_true_eq] at h
  obtain ⟨h1, h2, h3, h4, h5⟩ := h
  have h1' : 1 ≤ s ∧ s ≤ 4 := by simpa [szB, inB] using h1
  have h4' : 1 ≤ sumL xs ∧ sumL xs ≤ 1000000 := by simpa [inB] using h4
  exact ⟨h1'.1, h1'.2, h2, h3, h4'.1, h4'.2, h5⟩

theorem MassOk.l16 {s : Int} {xs : List Int} (h : MassOk s xs) : xs.length ≤ 16 := by
  have := pow2_bd s h.s1 h.s4; have := h.len; omega

theorem bothB_ok {s t : Int} {xs ys : List Int} (h : bothB s xs t ys = true) : MassOk s xs ∧ MassOk t ys ∧ s = t ∧ xs.length = ys.length := by
  simp only [bothB, Bool.and_eq_true, decide_eq_true_eq] at h
  obtain ⟨h1, h2, h3⟩ := h
  have k1 := massB_ok h1
  have k2 := massB_ok h2
  refine ⟨k1, k2, h3, ?_⟩
  have e1 := k1.len
  have e2 := k2.len
  rw [h3] at e1
  omega

end Go.Proofs.Ytjmfjgoehicgcaa



/- Masses in lowest terms: makeMass and l3Made. -/
set_option linter.unusedVariables false
set_option linter.unusedSimpArgs false
namespace Go.Proofs.Ytjmfjgoehicgcaa
open Go.RowKit

/-- The quotients of numbers before k. -/
def quoTo (ps : List Int) (k : Nat) : List Int := (List.range k).map fun x => nth ps x / (gcdL ps : Int)
theorem quoTo_succ (ps : List Int) (k : Nat) : quoTo ps (k + 1) = quoTo ps k ++ [nth ps k / (gcdL ps : Int)] := by simp [quoTo, List.range_succ]
theorem quo_wrap (x : Int) (g : Nat) (h1 : 0 ≤ x) (h2 : x ≤ 4611686018427387904) (h3 : 0 < g) : IntKind.i64.wrap (x.tdiv (g : Int)) = x / (g : Int) := by
  rw [Int.tdiv_eq_ediv_of_nonneg h1]
  have h4 : 0 ≤ x / (g : Int) := Int.ediv_nonneg h1 (by omega)
  have h5 : x / (g : Int) ≤ x := Int.ediv_le_self _ h1
  exact IntWalk.i64_in _ (by omega)

theorem quoTo_len (ps : List Int) (k : Nat) : (quoTo ps k).length = k := by simp [quoTo]

/-- Parts in lowest terms make a mass. -/
def mkOk (s : Int) (ps : List Int) : Bool := !decide (gcdL ps = 0) && massB s (quoTo ps ps.length)
def mkS (s : Int) (ps : List Int) : Int := if mkOk s ps = true then s else 0
def mkL (s : Int) (ps : List Int) : List Int := if mkOk s ps = true then quoTo ps ps.length else []

theorem mkL_len (s : Int) (ps : List Int) : (mkL s ps).length ≤ ps.length := by unfold mkL; split <;> simp [quoTo_len]

set_option maxHeartbeats 1000000 in
theorem makeMass_any (s : Int) (a : Option Addr) (c : Nat) (ps : List Int) (w : World) (hx : Reads w a ps) (hxm : ps.length ≤ 1048576) (hr : allB 0 4611686018427387904 ps = true) :
    Calls Try.prog 71 #[.int .i64 s, .slice a ps.length c] w fun e w' => ∃ v, e = .returned (.tuple #[.agg #[.int .i64 (mkS s ps), v], .bool (mkOk s ps)]) ∧ Own w.heap.size w' v (mkL s ps) ∧ Below w.heap.size w w' := by
  have hb0 := belowAlloc w (.cells #[.int .i64 0, .slice none 0 0] 27)
  have hx0 := hx.below hb0
  have HR := Lib.hid hr
  have HW := Lib.hid (allB_wider hr (low' := -4611686018427387904) (high' := 4611686018427387904) (by omega) (by omega))
  clear hr
  by_cases hg : gcdL ps = 0
  · have hz : (((gcdL ps : Nat) : Int) == 0) = true := by simp [hg]
    have hok : Hid (mkOk s ps = false) := Lib.hid (by simp [mkOk, hg])
    clear hg
    go_enter Try.func71, Try.ntmps71
    go_wp2_with fail
    refine (divisorOf_any _ _ _ _ hx0 hxm HW.out).mono ?_
    rintro e w1 ⟨rfl, n, rfl⟩
    go_wp2
    refine bodyPost_ret (v := .tuple #[.agg #[.int .i64 0, .slice none 0 0], .bool false]) (by simp [results, Try.results71, go_sem]) rfl ⟨.slice none 0 0, by rw [mkS, hok.out]; rfl, by rw [mkL, hok.out]; exact Own.nil _ _, ?_⟩
    exact ((below_drewN hb0 _).setCell (Nat.le_refl _) _).setCell (Nat.le_refl _) _
  · have hz : (((gcdL ps : Nat) : Int) == 0) = false := by rw [beq_eq_false_iff_ne]; omega
    have hd1 : (1 : Int) ≤ ((gcdL ps : Nat) : Int) := by omega
    have hd2 : ((gcdL ps : Nat) : Int) ≤ 4611686018427387904 := by have := gcdL_le ps HW.out; omega
    have hz2 : ¬ ((gcdL ps : Nat) : Int) = 0 := by omega
    have HG := Lib.hid hg
    clear hg
    go_enter Try.func71, Try.ntmps71
    go_wp2_with fail
    refine (divisorOf_any _ _ _ _ hx0 hxm HW.out).mono ?_
    rintro e w1 ⟨rfl, n, rfl⟩
    obtain ⟨W, hW⟩ : ∃ W : World, W = (((w.alloc (.cells #[.int .i64 0, .slice none 0 0] 27)).drewN n).alloc (.cells #[.int .i64 s, .slice none 0 0] 27)) := ⟨_, rfl⟩
    have hbW : Below w.heap.size w W := by subst hW; exact (below_drewN hb0 _).alloc (by simp) _
    have hsz : W.heap.size = w.heap.size + 2 := by subst hW; simp
    have hR : VarInv W w.heap.size 0 (.slice none 0 0) := by subst hW; exact ((VarInv.made w _ _ _).drewN n).later (belowAlloc _ _)
    have hM : VarInv W (w.heap.size + 1) s (.slice none 0 0) := by
      subst hW
      have h := VarInv.made ((w.alloc (.cells #[.int .i64 0, .slice none 0 0] 27)).drewN n) s (.slice none 0 0) 27
      rw [show ((w.alloc (.cells #[.int .i64 0, .slice none 0 0] 27)).drewN n).heap.size = w.heap.size + 1 by simp] at h
      exact h
    have HWW := Lib.hid hW
    have HSZ := Lib.hid hsz
    clear hW hsz hb0 hx0
    go_wp2
    rw [← HWW.out]
    go_loopw [19] (fun i wr => ∃ (k : Nat) (v : Value), k ≤ ps.length ∧ i = .int .i64 k ∧ VarInv wr w.heap.size 0 (.slice none 0 0) ∧ VarInv wr (w.heap.size + 1) s v ∧ Own (w.heap.size + 2) wr v (quoTo ps k) ∧ Below w.heap.size w wr ∧ Below (w.heap.size + 1) W wr) (fun i _ => ps.length - (intOf i).toNat)
    case atStart => exact ⟨0, .slice none 0 0, Nat.zero_le _, rfl, hR, hM, Own.nil _ _, hbW, Below.refl _ _⟩
    case round =>
      obtain ⟨k, v, hk, rfl, iR, iM, ho, hb, hbw⟩ := hrel
      by_cases hlt : k < ps.length
      · have hwsz : w.heap.size + 2 ≤ wr.heap.size := by have := iM.lt; omega
        have hs := Lib.hid (quoTo_succ ps k)
        have hln := quoTo_len ps k
        have hn := allB_nth HR.out k hlt
        obtain ⟨hn1, hn2⟩ := hn
        obtain ⟨b, off, rfl, hbl, hc0⟩ := hx k hlt
        have hc := (hb.cell (p := ⟨b, off + k, none⟩) hbl).trans hc0
        have hg0 := HG.out
        have hlt1 : w.heap.size + 1 < wr.heap.size := by omega
        have hq := quo_wrap (nth ps k) (gcdL ps) hn1 hn2 (by omega)
        have r1 := iM.c1
        have r2 := iM.f1
        clear hx hc0
        go_wp2_with fail
        go_region_law ((refine step_append1 _ (by rfl) _ _ (by rfl) (w.heap.size + 2) _ _ (by rfl) (ho.later (by exact ((Below.refl _ _).alloc (Nat.le_refl _) _).drew)) ⟨wr.heap.size, 0, none⟩ 1 (nth ps k / (gcdL ps : Int)) (by rfl) (by simp) (by omega) (by simp; omega) ?_; intro v1 w1 ho1 hba; obtain ⟨p1, k1, rfl, _hr⟩ := ho1.shape; clear _hr; have iM1 := (iM.later (((Below.refl _ _).alloc (Nat.le_refl _) _).drew)).keep hba (by omega); have q1 := iM1.c1; have q2 := iM1.f1))
        all_goals go_wp2
        all_goals
          have iW : Below wr.heap.size wr (wr.alloc (.cells #[.int .i64 (nth ps k / (gcdL ps : Int))] 3)).drew := ((Below.refl _ _).alloc (Nat.le_refl _) _).drew
          have iR1 := (iR.later iW).keep hba (by omega)
          have e1 : (quoTo ps k ++ [nth ps k / (gcdL ps : Int)]).length = k + 1 := by simp [quoTo_len]
          rw [e1, ← hs.out] at ho1
          have bA := (hb.trans (iW.mono (by omega))).trans (hba.mono (by omega))
          have bB := (hbw.trans (iW.mono (by omega))).trans (hba.mono (by omega))
          exact ⟨⟨k + 1, .slice p1 (k + 1) k1, by omega, by go_num, iR1.other _ (by simp) _, iM1.store _, ho1.setBelow (by show w.heap.size + 1 < _; omega) _, bA.setCell (by show _ ≤ w.heap.size + 1; omega) _, bB.setCell (Nat.le_refl _) _⟩, by simp [intOf]; omega⟩
      · have h1 : k = ps.length := by omega
        subst h1
        obtain ⟨p1, k1, rfl, hr1⟩ := ho.shape
        have hln := quoTo_len ps ps.length
        have r1 := iM.c0
        have r2 := iM.c1
        have hwsz : w.heap.size + 2 ≤ wr.heap.size := by have := hbw.size; have := HSZ.out; omega
        clear hx
        cases hv : massB s (quoTo ps ps.length)
        · have hok : Hid (mkOk s ps = false) := Lib.hid (by simp [mkOk, hv])
          go_wp2_with fail
          rw [← hln]
          refine (isMass_any _ _ _ _ _ hr1 (by rw [hln]; exact hxm)).mono ?_
          rintro e w2 ⟨rfl, hb2⟩
          have jR := iR.later hb2
          have s0 := jR.c0
          have s1 := jR.c1
          have s2 := jR.f0
          have s3 := jR.f1
          go_wp2
          refine bodyPost_ret (v := .tuple #[.agg #[.int .i64 0, .slice none 0 0], .bool false]) (by simp [results, Try.results71, go_sem, s0, s1, s2, s3]) rfl ⟨.slice none 0 0, by rw [mkS, hok.out]; rfl, by rw [mkL, hok.out]; exact Own.nil _ _, ?_⟩
          exact ((hb.trans (hb2.mono (by omega))).setCell (Nat.le_refl _) _).setCell (Nat.le_refl _) _
        · have hok : Hid (mkOk s ps = true) := Lib.hid (by simp [mkOk, hv, HG.out])
          go_wp2_with fail
          rw [← hln]
          refine (isMass_any _ _ _ _ _ hr1 (by rw [hln]; exact hxm)).mono ?_
          rintro e w2 ⟨rfl, hb2⟩
          have jR := iR.later hb2
          have jM := iM.later hb2
          have s0 := jR.c0
          have s1 := jR.c1
          have s2 := jR.f0
          have s3 := jR.f1
          have s4 := jM.c0
          have s5 := jM.c1
          have ho2 := ho.later hb2
          go_wp2
          refine bodyPost_ret (v := .tuple #[.agg #[.int .i64 s, .slice p1 (quoTo ps ps.length).length k1], .bool true]) (by simp [results, Try.results71, go_sem, s0, s1, s2, s3, s4, s5, hln]) rfl ⟨.slice p1 (quoTo ps ps.length).length k1, by rw [mkS, hok.out]; rfl, ?_, ?_⟩
          · rw [mkL, hok.out]
            exact ((ho2.setBelow (by show w.heap.size < _; omega) _).setBelow (by show w.heap.size < _; omega) _).mono (by omega)
          · exact ((hb.trans (hb2.mono (by omega))).setCell (Nat.le_refl _) _).setCell (Nat.le_refl _) _

set_option maxHeartbeats 1000000 in
theorem l3Made_any (s : Int) (a : Option Addr) (c : Nat) (ps : List Int) (w : World) (hx : Reads w a ps) (hxm : ps.length ≤ 1048576) (hr : allB 0 4611686018427387904 ps = true) :
    Calls Try.prog 105 #[.int .i64 s, .slice a ps.length c] w fun e w' => ∃ v, e = .returned (.tuple #[.agg #[.int .i64 (mkS s ps), v], .bool (mkOk s ps)]) ∧ Own w.heap.size w' v (mkL s ps) ∧ Below w.heap.size w w' := by
  have hb0 := belowAlloc w (.cells #[.int .i64 0, .slice none 0 0] 27)
  have hx0 := hx.below hb0
  have HR := Lib.hid hr
  have HW := Lib.hid (allB_wider hr (low' := -4611686018427387904) (high' := 4611686018427387904) (by omega) (by omega))
  clear hr
  by_cases hg : gcdL ps = 0
  · have hz : (((gcdL ps : Nat) : Int) == 0) = true := by simp [hg]
    have hok : Hid (mkOk s ps = false) := Lib.hid (by simp [mkOk, hg])
    clear hg
    go_enter Try.func105, Try.ntmps105
    go_wp2_with fail
    refine (l3Lowest_any _ _ _ _ hx0 hxm HW.out).mono ?_
    rintro e w' ⟨rfl, rfl⟩
    go_wp2
    refine bodyPost_ret (v := .tuple #[.agg #[.int .i64 0, .slice none 0 0], .bool false]) (by simp [results, Try.results105, go_sem]) rfl ⟨.slice none 0 0, by rw [mkS, hok.out]; rfl, by rw [mkL, hok.out]; exact Own.nil _ _, ?_⟩
    exact hb0
  · have hz : (((gcdL ps : Nat) : Int) == 0) = false := by rw [beq_eq_false_iff_ne]; omega
    have hd1 : (1 : Int) ≤ ((gcdL ps : Nat) : Int) := by omega
    have hd2 : ((gcdL ps : Nat) : Int) ≤ 4611686018427387904 := by have := gcdL_le ps HW.out; omega
    have hz2 : ¬ ((gcdL ps : Nat) : Int) = 0 := by omega
    have HG := Lib.hid hg
    clear hg
    go_enter Try.func105, Try.ntmps105
    go_wp2_with fail
    refine (l3Lowest_any _ _ _ _ hx0 hxm HW.out).mono ?_
    rintro e w' ⟨rfl, rfl⟩
    obtain ⟨W, hW⟩ : ∃ W : World, W = ((w.alloc (.cells #[.int .i64 0, .slice none 0 0] 27)).alloc (.cells #[.int .i64 s, .slice none 0 0] 27)) := ⟨_, rfl⟩
    have hbW : Below w.heap.size w W := by subst hW; exact hb0.alloc (by simp) _
    have hsz : W.heap.size = w.heap.size + 2 := by subst hW; simp
    have hR : VarInv W w.heap.size 0 (.slice none 0 0) := by subst hW; exact (VarInv.made w _ _ _).later (belowAlloc _ _)
    have hM : VarInv W (w.heap.size + 1) s (.slice none 0 0) := by
      subst hW
      have h := VarInv.made (w.alloc (.cells #[.int .i64 0, .slice none 0 0] 27)) s (.slice none 0 0) 27
      rw [show (w.alloc (.cells #[.int .i64 0, .slice none 0 0] 27)).heap.size = w.heap.size + 1 by simp] at h
      exact h
    have HWW := Lib.hid hW
    have HSZ := Lib.hid hsz
    clear hW hsz hb0 hx0
    go_wp2
    rw [← HWW.out]
    go_loopw [8] (fun i wr => ∃ (k : Nat) (v : Value), k ≤ ps.length ∧ i = .int .i64 k ∧ VarInv wr w.heap.size 0 (.slice none 0 0) ∧ VarInv wr (w.heap.size + 1) s v ∧ Own (w.heap.size + 2) wr v (quoTo ps k) ∧ Below w.heap.size w wr ∧ Below (w.heap.size + 1) W wr) (fun i _ => ps.length - (intOf i).toNat)
    case atStart => exact ⟨0, .slice none 0 0, Nat.zero_le _, rfl, hR, hM, Own.nil _ _, hbW, Below.refl _ _⟩
    case round =>
      obtain ⟨k, v, hk, rfl, iR, iM, ho, hb, hbw⟩ := hrel
      by_cases hlt : k < ps.length
      · have hwsz : w.heap.size + 2 ≤ wr.heap.size := by have := iM.lt; omega
        have hs := Lib.hid (quoTo_succ ps k)
        have hln := quoTo_len ps k
        have hn := allB_nth HR.out k hlt
        obtain ⟨hn1, hn2⟩ := hn
        obtain ⟨b, off, rfl, hbl, hc0⟩ := hx k hlt
        have hc := (hb.cell (p := ⟨b, off + k, none⟩) hbl).trans hc0
        have hg0 := HG.out
        have hlt1 : w.heap.size + 1 < wr.heap.size := by omega
        have hq := quo_wrap (nth ps k) (gcdL ps) hn1 hn2 (by omega)
        have r1 := iM.c1
        have r2 := iM.f1
        clear hx hc0
        go_wp2_with fail
        go_region_law ((refine step_append1 _ (by rfl) _ _ (by rfl) (w.heap.size + 2) _ _ (by rfl) (ho.later (by exact ((Below.refl _ _).alloc (Nat.le_refl _) _).drew)) ⟨wr.heap.size, 0, none⟩ 1 (nth ps k / (gcdL ps : Int)) (by rfl) (by simp) (by omega) (by simp; omega) ?_; intro v1 w1 ho1 hba; obtain ⟨p1, k1, rfl, _hr⟩ := ho1.shape; clear _hr; have iM1 := (iM.later (((Below.refl _ _).alloc (Nat.le_refl _) _).drew)).keep hba (by omega); have q1 := iM1.c1; have q2 := iM1.f1))
        all_goals go_wp2
        all_goals
          have iW : Below wr.heap.size wr (wr.alloc (.cells #[.int .i64 (nth ps k / (gcdL ps : Int))] 3)).drew := ((Below.refl _ _).alloc (Nat.le_refl _) _).drew
          have iR1 := (iR.later iW).keep hba (by omega)
          have e1 : (quoTo ps k ++ [nth ps k / (gcdL ps : Int)]).length = k + 1 := by simp [quoTo_len]
          rw [e1, ← hs.out] at ho1
          have bA := (hb.trans (iW.mono (by omega))).trans (hba.mono (by omega))
          have bB := (hbw.trans (iW.mono (by omega))).trans (hba.mono (by omega))
          exact ⟨⟨k + 1, .slice p1 (k + 1) k1, by omega, by go_num, iR1.other _ (by simp) _, iM1.store _, ho1.setBelow (by show w.heap.size + 1 < _; omega) _, bA.setCell (by show _ ≤ w.heap.size + 1; omega) _, bB.setCell (Nat.le_refl _) _⟩, by simp [intOf]; omega⟩
      · have h1 : k = ps.length := by omega
        subst h1
        obtain ⟨p1, k1, rfl, hr1⟩ := ho.shape
        have hln := quoTo_len ps ps.length
        have r1 := iM.c0
        have r2 := iM.c1
        have hwsz : w.heap.size + 2 ≤ wr.heap.size := by have := hbw.size; have := HSZ.out; omega
        clear hx
        cases hv : massB s (quoTo ps ps.length)
        · have hok : Hid (mkOk s ps = false) := Lib.hid (by simp [mkOk, hv])
          go_wp2_with fail
          rw [← hln]
          refine (MassValid_any _ _ _ _ _ hr1 (by rw [hln]; exact hxm)).mono ?_
          rintro e w2 ⟨rfl, hb2⟩
          have jR := iR.later hb2
          have s0 := jR.c0
          have s1 := jR.c1
          have s2 := jR.f0
          have s3 := jR.f1
          go_wp2
          refine bodyPost_ret (v := .tuple #[.agg #[.int .i64 0, .slice none 0 0], .bool false]) (by simp [results, Try.results105, go_sem, s0, s1, s2, s3]) rfl ⟨.slice none 0 0, by rw [mkS, hok.out]; rfl, by rw [mkL, hok.out]; exact Own.nil _ _, ?_⟩
          exact ((hb.trans (hb2.mono (by omega))).setCell (Nat.le_refl _) _).setCell (Nat.le_refl _) _
        · have hok : Hid (mkOk s ps = true) := Lib.hid (by simp [mkOk, hv, HG.out])
          go_wp2_with fail
          rw [← hln]
          refine (MassValid_any _ _ _ _ _ hr1 (by rw [hln]; exact hxm)).mono ?_
          rintro e w2 ⟨rfl, hb2⟩
          have jR := iR.later hb2
          have jM := iM.later hb2
          have s0 := jR.c0
          have s1 := jR.c1
          have s2 := jR.f0
          have s3 := jR.f1
          have s4 := jM.c0
          have s5 := jM.c1
          have ho2 := ho.later hb2
          go_wp2
          refine bodyPost_ret (v := .tuple #[.agg #[.int .i64 s, .slice p1 (quoTo ps ps.length).length k1], .bool true]) (by simp [results, Try.results105, go_sem, s0, s1, s2, s3, s4, s5, hln]) rfl ⟨.slice p1 (quoTo ps ps.length).length k1, by rw [mkS, hok.out]; rfl, ?_, ?_⟩
          · rw [mkL, hok.out]
            exact ((ho2.setBelow (by show w.heap.size < _; omega) _).setBelow (by show w.heap.size < _; omega) _).mono (by omega)
          · exact ((hb.trans (hb2.mono (by omega))).setCell (Nat.le_refl _) _).setCell (Nat.le_refl _) _

theorem makeMass_n (s : Int) (a : Option Addr) (c n : Nat) (ps : List Int) (w : World) (hn : ps.length = n) (hx : Reads w a ps) (hxm : ps.length ≤ 1048576) (hr : allB 0 4611686018427387904 ps = true) :
    Calls Try.prog 71 #[.int .i64 s, .slice a n c] w fun e w' => ∃ v, e = .returned (.tuple #[.agg #[.int .i64 (mkS s ps), v], .bool (mkOk s ps)]) ∧ Own w.heap.size w' v (mkL s ps) ∧ Below w.heap.size w w' := by
  subst hn; exact makeMass_any s a c ps w hx hxm hr

theorem l3Made_n (s : Int) (a : Option Addr) (c n : Nat) (ps : List Int) (w : World) (hn : ps.length = n) (hx : Reads w a ps) (hxm : ps.length ≤ 1048576) (hr : allB 0 4611686018427387904 ps = true) :
    Calls Try.prog 105 #[.int .i64 s, .slice a n c] w fun e w' => ∃ v, e = .returned (.tuple #[.agg #[.int .i64 (mkS s ps), v], .bool (mkOk s ps)]) ∧ Own w.heap.size w' v (mkL s ps) ∧ Below w.heap.size w w' := by
  subst hn; exact l3Made_any s a c ps w hx hxm hr

end Go.Proofs.Ytjmfjgoehicgcaa

/- The law's own helpers on slices of ints. -/
set_option linter.unusedVariables false
set_option linter.unusedSimpArgs false
namespace Go.Proofs.Ytjmfjgoehicgcaa
open Go.RowKit

theorem take_eq_step (xs ys : List Int) (k : Nat) (h : xs.take k = ys.take k) (hx : k < xs.length) (hy : k < ys.length) (e : nth xs k = nth ys k) : xs.take (k + 1) = ys.take (k + 1) := by
  rw [take_succ_getD xs k hx, take_succ_getD ys k hy, h, e]

theorem take_ne_of (xs ys : List Int) (k : Nat) (hx : k < xs.length) (hy : k < ys.length) (e : nth xs k ≠ nth ys k) : xs ≠ ys := by
  intro h; subst h; exact e rfl

set_option maxHeartbeats 400000 in
theorem eqIntS_any (a1 a2 : Option Addr) (c1 c2 : Nat) (xs ys : List Int) (w : World) (hx : Reads w a1 xs) (hy : Reads w a2 ys) (hxm : xs.length ≤ maxLen) (hym : ys.length ≤ maxLen) :
    Calls Try.prog 36 #[.slice a1 xs.length c1, .slice a2 ys.length c2] w fun e w' => e = .returned (.bool (decide (xs = ys))) ∧ Below w.heap.size w w' := by
  unfold maxLen at hxm hym
  by_cases hl : xs.length = ys.length
  · have hL : ((xs.length : Int) != (ys.length : Int)) = false := by simp [hl]
    have HL : Hid (xs.length = ys.length) := hl
    clear hl
    go_enter Try.func36, Try.ntmps36
    go_wp2
    go_loopw [5] (fun i wr => ∃ k : Nat, k ≤ xs.length ∧ i = .int .i64 k ∧ xs.take k = ys.take k ∧ Below w.heap.size w wr) (fun i _ => xs.length - (intOf i).toNat)
    case atStart => exact ⟨0, Nat.zero_le _, rfl, by simp, Below.refl _ _⟩
    case round =>
      obtain ⟨k, hk, rfl, ht, hb⟩ := hrel
      by_cases hlt : k < xs.length
      · have hlt2 : k < ys.length := by rw [← HL.out]; exact hlt
        obtain ⟨b, off, rfl, hbl, hc⟩ := (hx.below hb) k hlt
        obtain ⟨b2, off2, rfl, hbl2, hc2⟩ := (hy.below hb) k hlt2
        have HT : Hid (xs.take k = ys.take k) := ht
        clear ht
        by_cases he : nth xs k = nth ys k
        · have hstep := Lib.hid (take_eq_step xs ys k HT.out hlt hlt2 he)
          have hE : (nth xs k != nth ys k) = false := bne_eq_false_iff_eq.2 he
          clear he
          go_wp2
          go_quiet (fail)
          go_wp2
          exact ⟨⟨k + 1, by omega, by go_num, hstep.out, below_drewN hb _⟩, by simp [intOf]; omega⟩
        · have hne := Lib.hid (take_ne_of xs ys k hlt hlt2 he)
          have hE : (nth xs k != nth ys k) = true := by rw [bne_iff_ne]; exact he
          clear he
          go_wp2
          go_quiet (fail)
          go_wp2
          go_ret
          exact ⟨ret_bool (by simpa using hne.out), below_drewN hb _⟩
      · have heq : xs = ys := by
          have h1 : k = xs.length := by omega
          rw [h1, List.take_length] at ht
          rw [ht, HL.out, List.take_length]
        have HE := Lib.hid heq
        clear heq ht
        go_wp2
        go_ret
        exact ⟨ret_bool (by simpa using HE.out), hb⟩
  · have hne : xs ≠ ys := fun h => hl (by rw [h])
    have hL : ((xs.length : Int) != (ys.length : Int)) = true := by rw [bne_iff_ne]; omega
    have HN := Lib.hid hne
    clear hl hne
    go_enter Try.func36, Try.ntmps36
    go_wp2
    go_ret
    exact ⟨ret_bool (by simpa using HN.out), Below.refl _ _⟩

theorem copy_step (xs : List Int) (k : Nat) (h : k < xs.length) :
    ((xs.take k ++ List.replicate (xs.length - k) 0).map (Value.int .i64)).set k (.int .i64 (nth xs k)) = (xs.take (k + 1) ++ List.replicate (xs.length - (k + 1)) 0).map (Value.int .i64) := by
  rw [take_succ_getD xs k h, ← List.map_set, List.set_append_right _ _ (by simp; omega)]
  have e : xs.length - k = (xs.length - (k + 1)) + 1 := by omega
  rw [e, List.replicate_succ]
  simp [Nat.min_eq_left (Nat.le_of_lt h)]

theorem cell_own {w : World} {B g n c : Nat} {zs : List Int} (h : w.ownsRow B 3 1 (.slice (some ⟨g, 0, none⟩) n c) n (zs.map (Value.int .i64))) (k : Nat) (hk : k < n) :
    w.cell? ⟨g, k, none⟩ = some (.int .i64 (nth zs k)) := by
  have hl : zs.length = n := by simpa using h.1
  rw [h.cellAt k (by omega)]
  simp [nth, List.getD, hl, hk]

theorem toIntS_any (a : Option Addr) (c : Nat) (xs : List Int) (w : World) (hx : Reads w a xs) (hxm : xs.length ≤ 1048576) :
    Calls Try.prog 58 #[.slice a xs.length c] w fun e w' => ∃ v, e = .returned v ∧ Own w.heap.size w' v xs ∧ Below w.heap.size w w' := by
  obtain ⟨i0, hi, hz0, hz1, hz2⟩ := info_parts Try.info3
  go_enter Try.func58, Try.ntmps58
  go_wp2_with (at_make; refine wpList_make_full _ rfl _ _ 22 rfl w.heap.size 3 i0 (.int .i64 0) 1 Try.underlying22 hi hz0 hz1 _ _ _ _ xs.length rfl rfl rfl rfl ?b1 ?b2 ?b3 ?_)
  case b1 => rw [hz2]; omega
  case b2 => unfold maxLen; omega
  case b3 => exact Nat.le_refl _
  intro w1 hown hgr
  have hb1 : Below w.heap.size w w1 := (Below.refl _ _).grown hgr (Nat.le_refl _) (fun k hk => by cases hk)
  rw [hz1] at *
  go_wp2
  go_loopw [4] (fun i wr => ∃ k : Nat, k ≤ xs.length ∧ i = .int .i64 k ∧ wr.ownsRow w.heap.size 3 1 (.slice (some ⟨w.heap.size, 0, none⟩) xs.length xs.length) xs.length ((xs.take k ++ List.replicate (xs.length - k) 0).map (Value.int .i64)) ∧ Below w.heap.size w wr) (fun i _ => xs.length - (intOf i).toNat)
  case atStart => exact ⟨0, Nat.zero_le _, rfl, by simpa [toList_madeCells_one, Value.cells] using hown, hb1⟩
  case round =>
    obtain ⟨k, hk, rfl, ho, hb⟩ := hrel
    by_cases hlt : k < xs.length
    · obtain ⟨b, off, rfl, hbl, hc⟩ := (hx.below hb) k hlt
      have hc2 := cell_own ho k hlt
      have hf2 := ho.frozenAt k
      have hst := ho.stored k (.int .i64 (nth xs k))
      rw [copy_step xs k hlt] at hst
      have hb2 : Below w.heap.size w (wr.setCell ⟨w.heap.size, k, none⟩ (.int .i64 (nth xs k))) := hb.setCell (Nat.le_refl _) _
      have HS := Lib.hid hst
      clear hst hx
      go_wp2
      exact ⟨⟨k + 1, by omega, by go_num, HS.out.1, hb2⟩, by simp [intOf]; omega⟩
    · have h1 : k = xs.length := by omega
      subst h1
      have ho2 : Own w.heap.size wr (.slice (some ⟨w.heap.size, 0, none⟩) xs.length xs.length) xs := by
        unfold Own; simpa using ho
      have HO := Lib.hid ho2
      clear ho ho2
      go_wp2
      go_ret
      exact ⟨_, rfl, HO.out, hb⟩

end Go.Proofs.Ytjmfjgoehicgcaa


/- Sums of the parts of some sets: what speaks for a set. -/
set_option linter.unusedVariables false
set_option linter.unusedSimpArgs false
namespace Go.Proofs.Ytjmfjgoehicgcaa
open Go.RowKit

/-- The sum of the numbers at the places before k that p takes. -/
def sumTo (p : Nat → Bool) (xs : List Int) (k : Nat) : Int := (List.range k).foldl (fun s b => if p b then s + nth xs b else s) 0

theorem sumTo_succ (p : Nat → Bool) (xs : List Int) (k : Nat) : sumTo p xs (k + 1) = if p k then sumTo p xs k + nth xs k else sumTo p xs k := by
  simp [sumTo, List.range_succ]

theorem sumTo_bd {high : Int} (p : Nat → Bool) (xs : List Int) (h : allB 0 high xs = true) (h0 : 0 ≤ high) (k : Nat) (hk : k ≤ xs.length) : 0 ≤ sumTo p xs k ∧ sumTo p xs k ≤ high * k := by
  induction k with
  | zero => simp [sumTo]
  | succ k ih =>
    have h1 := ih (by omega)
    have h2 := allB_nth h k (by omega)
    rw [sumTo_succ]
    have : high * ((k + 1 : Nat) : Int) = high * k + high := by rw [Int.natCast_add, Int.mul_add]; simp
    split <;> omega

/-- Two sets have an answer in common. -/
def meetB (a b : Nat) : Bool := a &&& b != 0
/-- All answers of the first set are in the second. -/
def subB (a b : Nat) : Bool := a &&& b == a

theorem and_bits : ∀ a b : Fin 16, bits BinOp.and IntKind.i64 (a.val : Int) (b.val : Int) = ((a.val &&& b.val : Nat) : Int) := by decide +kernel
theorem andNot_bits : ∀ a b : Fin 16, (bits BinOp.andNot IntKind.i64 (a.val : Int) (b.val : Int) == 0) = subB a.val b.val := by decide +kernel

theorem meet_test (a b : Nat) (ha : a < 16) (hb : b < 16) : (bits BinOp.and IntKind.i64 (a : Int) (b : Int) != 0) = meetB a b := by
  have := and_bits ⟨a, ha⟩ ⟨b, hb⟩
  rw [this, meetB, Bool.eq_iff_iff]
  simp

theorem sub_test (a b : Nat) (ha : a < 16) (hb : b < 16) : (bits BinOp.andNot IntKind.i64 (a : Int) (b : Int) == 0) = subB a b := andNot_bits ⟨a, ha⟩ ⟨b, hb⟩

theorem l4Possible_any (s : Int) (p : Option Addr) (c : Nat) (xs : List Int) (a : Nat) (w : World) (hx : Reads w p xs) (hxm : xs.length ≤ 16) (ha : a < 16) (hr : allB 0 1000000 xs = true) :
    Calls Try.prog 79 #[.agg #[.int .i64 s, .slice p xs.length c], .int .i64 a] w fun e w' => e = .returned (.int .i64 (sumTo (meetB a) xs xs.length)) ∧ Below w.heap.size w w' := by
  have HR := Lib.hid hr
  clear hr
  have hb0 : Below w.heap.size w (w.alloc (.cells #[.int .i64 s, .slice p xs.length c] 27)) := (Below.refl _ _).alloc (Nat.le_refl _) _
  have hx1 := hx.below hb0
  clear hx
  go_enter Try.func79, Try.ntmps79
  go_wp2
  go_loop [5, 6] (fun d i => ∃ (k : Nat), k ≤ xs.length ∧ i = .int .i64 k ∧ d = .int .i64 (sumTo (meetB a) xs k)) (fun _ i => xs.length - (intOf i).toNat)
  case atStart => exact ⟨0, Nat.zero_le _, rfl, rfl⟩
  case round =>
    obtain ⟨k, hk, rfl, rfl⟩ := hrel
    by_cases hlt : k < xs.length
    · obtain ⟨b, off, rfl, hbl, hc⟩ := hx1 k hlt
      have hs := Lib.hid (sumTo_succ (meetB a) xs k)
      have hn := allB_nth HR.out k hlt
      obtain ⟨hn1, hn2⟩ := hn
      have hsum := sumTo_bd (meetB a) xs HR.out (by omega) k hk
      obtain ⟨hs1, hs2⟩ := hsum
      have ht := meet_test a k ha (by omega)
      clear hx1
      cases hm : meetB a k
      · rw [hm] at ht
        have HM := Lib.hid hm
        clear hm
        go_wp2
        exact ⟨⟨k + 1, by omega, by go_num, by rw [hs.out, HM.out]; rfl⟩, by simp [intOf]; omega⟩
      · rw [hm] at ht
        have HM := Lib.hid hm
        clear hm
        go_wp2
        exact ⟨⟨k + 1, by omega, by go_num, by rw [hs.out, HM.out]; rfl⟩, by simp [intOf]; omega⟩
    · have h1 : k = xs.length := by omega
      subst h1
      clear hx1
      go_wp2
      go_ret
      exact ⟨rfl, hb0⟩

theorem sumOver_any (fid : FuncId) (hfid : ∀ (args : Array Value) (W : World), Sem.run Try.prog (callFunc fid args) W = .ok (.enter fid args) W) (q : Addr) (pr : Nat → Bool) (s : Int) (p : Option Addr) (c : Nat) (xs : List Int) (w : World) (hx : Reads w p xs) (hxm : xs.length ≤ 16) (hr : allB 0 1000000 xs = true)
    (hcl : Hid (∀ (b : Nat) (wr : World), b < xs.length → Below w.heap.size w wr → Calls Try.prog fid #[.int .i64 b, .pointer (some q)] wr fun e w' => e = .returned (.bool (pr b)) ∧ wr = w')) :
    Calls Try.prog 113 #[.agg #[.int .i64 s, .slice p xs.length c], .func (Fn.func fid) #[] #[.pointer (some q)]] w fun e w' => e = .returned (.int .i64 (sumTo pr xs xs.length)) ∧ Below w.heap.size w w' := by
  have HR := Lib.hid hr
  clear hr
  have hb0 : Below w.heap.size w (w.alloc (.cells #[.int .i64 s, .slice p xs.length c] 27)) := (Below.refl _ _).alloc (Nat.le_refl _) _
  have hx1 := hx.below hb0
  clear hx
  go_enter Try.func113, Try.ntmps113
  go_wp2
  go_loop [5, 11] (fun d i => ∃ (k : Nat), k ≤ xs.length ∧ i = .int .i64 k ∧ d = .int .i64 (sumTo pr xs k)) (fun _ i => xs.length - (intOf i).toNat)
  case atStart => exact ⟨0, Nat.zero_le _, rfl, rfl⟩
  case round =>
    obtain ⟨k, hk, rfl, rfl⟩ := hrel
    by_cases hlt : k < xs.length
    · obtain ⟨b, off, rfl, hbl, hc⟩ := hx1 k hlt
      have hs := Lib.hid (sumTo_succ pr xs k)
      have hn := allB_nth HR.out k hlt
      obtain ⟨hn1, hn2⟩ := hn
      have hsum := sumTo_bd pr xs HR.out (by omega) k hk
      obtain ⟨hs1, hs2⟩ := hsum
      clear hx1
      go_wp2_with fail
      refine (hcl.out k _ hlt hb0).mono ?_
      rintro e w' ⟨rfl, rfl⟩
      cases hm : pr k
      · have HM := Lib.hid hm
        clear hm
        go_wp2
        exact ⟨⟨k + 1, by omega, by go_num, by rw [hs.out, HM.out]; rfl⟩, by simp [intOf]; omega⟩
      · have HM := Lib.hid hm
        clear hm
        go_wp2
        exact ⟨⟨k + 1, by omega, by go_num, by rw [hs.out, HM.out]; rfl⟩, by simp [intOf]; omega⟩
    · have h1 : k = xs.length := by omega
      subst h1
      clear hx1
      go_wp2
      go_ret
      exact ⟨rfl, hb0⟩

theorem meetB_comm (a b : Nat) : meetB a b = meetB b a := by unfold meetB; rw [Nat.and_comm]

theorem possibleIn_any (a b : Nat) (q : Addr) (w : World) (ha : a < 16) (hb : b < 16) (hc : w.cell? q = some (.int .i64 a)) :
    Calls Try.prog 135 #[.int .i64 b, .pointer (some q)] w fun e w' => e = .returned (.bool (meetB a b)) ∧ w = w' := by
  have ht := meet_test b a hb ha
  have hcm := Lib.hid (meetB_comm b a)
  go_enter Try.func135, Try.ntmps135
  go_wp2
  go_ret
  exact ⟨ret_bool hcm.out, rfl⟩

theorem possiblePart_any (s : Int) (p : Option Addr) (c : Nat) (xs : List Int) (a : Nat) (w : World) (hx : Reads w p xs) (hxm : xs.length ≤ 16) (ha : a < 16) (hr : allB 0 1000000 xs = true) :
    Calls Try.prog 112 #[.agg #[.int .i64 s, .slice p xs.length c], .int .i64 a] w fun e w' => e = .returned (.int .i64 (sumTo (meetB a) xs xs.length)) ∧ Below w.heap.size w w' := by
  have HR := Lib.hid hr
  clear hr
  have hb1 : Below w.heap.size w (w.alloc (.cells #[.int .i64 s, .slice p xs.length c] 27)) := (Below.refl _ _).alloc (Nat.le_refl _) _
  have hb0 : Below w.heap.size w ((w.alloc (.cells #[.int .i64 s, .slice p xs.length c] 27)).alloc (.cells #[.int .i64 a] 3)) := hb1.alloc (by simp) _
  have hx1 := hx.below hb0
  have hcell : ((w.alloc (.cells #[.int .i64 s, .slice p xs.length c] 27)).alloc (.cells #[.int .i64 a] 3)).cell? ⟨w.heap.size + 1, 0, none⟩ = some (.int .i64 a) := by
    rw [World.cell?_alloc_at _ _ _ _ (by simp)]; rfl
  have hmf : ∀ (fn : Fn) (first cap : Array Value) (w : World), (Instr.makeFunc fn first cap).run Try.prog w = .ok (.func fn first cap) w := fun _ _ _ _ => rfl
  clear hx
  go_enter Try.func112, Try.ntmps112
  go_wp2_with fail
  refine (sumOver_any 135 (fun _ _ => by kernel_rfl) ⟨w.heap.size + 1, 0, none⟩ (meetB a) _ _ _ _ _ hx1 hxm HR.out (Lib.hid fun b wr hb hbw => (possibleIn_any a b _ wr ha (by omega) ((hbw.cell (p := ⟨w.heap.size + 1, 0, none⟩) (by simp)).trans hcell)))).mono ?_
  rintro e w1 ⟨rfl, hb2⟩
  go_wp2
  go_ret
  exact ⟨rfl, hb0.trans (hb2.mono hb0.size)⟩

end Go.Proofs.Ytjmfjgoehicgcaa

/- Bits of sets, and whether a number is a set. -/
set_option linter.unusedVariables false
set_option linter.unusedSimpArgs false
namespace Go.Proofs.Ytjmfjgoehicgcaa
open Go.RowKit

/-- One answer, as a set. -/
def bit (x : Nat) : Nat := 2 ^ x

theorem bit_wrap : ∀ x : Fin 4, wrap64 (2 ^ x.val) = ((bit x.val : Nat) : Int) := by
  intro x
  have : x.val = 0 ∨ x.val = 1 ∨ x.val = 2 ∨ x.val = 3 := by omega
  rcases this with h | h | h | h <;> rw [h] <;> exact IntWalk.wrap64_in _ ⟨by decide, by decide⟩
theorem bit_or : ∀ (s : Fin 16) (x : Fin 4), bits BinOp.or IntKind.i64 (s.val : Int) ((bit x.val : Nat) : Int) = ((s.val ||| bit x.val : Nat) : Int) := by decide +kernel
theorem bit_has : ∀ (s : Fin 16) (x : Fin 4), (bits BinOp.and IntKind.i64 ((s.val : Int) / 2 ^ x.val) 1 == 1) = s.val.testBit x.val := by decide +kernel
theorem or_lt : ∀ (s : Fin 16) (x : Fin 4), s.val ||| bit x.val < 16 := by decide
theorem or_lt2 : ∀ s x : Nat, s < 2 ^ x → s ||| bit x < 2 ^ (x + 1) := fun s x h =>
  Nat.or_lt_two_pow (Nat.lt_trans h (by rw [Nat.pow_succ]; have := Nat.two_pow_pos x; omega)) (by unfold bit; rw [Nat.pow_succ]; have := Nat.two_pow_pos x; omega)

theorem bit_wrap' (x : Nat) (h : x < 4) : wrap64 (2 ^ x) = ((bit x : Nat) : Int) := bit_wrap ⟨x, h⟩
theorem bit_or' (s x : Nat) (hs : s < 16) (h : x < 4) : bits BinOp.or IntKind.i64 (s : Int) ((bit x : Nat) : Int) = ((s ||| bit x : Nat) : Int) := bit_or ⟨s, hs⟩ ⟨x, h⟩
theorem bit_has' (s x : Nat) (hs : s < 16) (h : x < 4) : (bits BinOp.and IntKind.i64 ((s : Int) / 2 ^ x) 1 == 1) = s.testBit x := bit_has ⟨s, hs⟩ ⟨x, h⟩
theorem or_lt' (s x : Nat) (hs : s < 16) (h : x < 4) : s ||| bit x < 16 := or_lt ⟨s, hs⟩ ⟨x, h⟩

/-- A number is a set of so many answers. -/
def setB (s a : Int) : Bool := decide (0 ≤ a ∧ a < pow2 s)

theorem isSetOf_any (s a : Int) (w : World) (h1 : 1 ≤ s) (h4 : s ≤ 4) :
    Calls Try.prog 82 #[.int .i64 s, .int .i64 a] w fun e w' => e = .returned (.bool (setB s a)) ∧ w = w' := by
  have hpw := pow2_wrap s h1 h4
  by_cases h0 : 0 ≤ a
  · go_enter Try.func82, Try.ntmps82
    go_wp2
    go_ret
    exact ⟨ret_bool (by simp [setB, h0]), rfl⟩
  · go_enter Try.func82, Try.ntmps82
    go_wp2
    go_ret
    exact ⟨ret_bool (decide_eq_false (by omega)).symm, rfl⟩

theorem SetValid_any (s a : Int) (w : World) :
    Calls Try.prog 141 #[.int .i64 s, .int .i64 a] w fun e w' => e = .returned (.bool (szB s && setB s a)) ∧ w = w' := by
  cases hsz : szB s
  · go_enter Try.func141, Try.ntmps141
    go_wp2_with (go_at_call 101; refine (SizeValid_any _ _).mono ?_; rintro e w' ⟨rfl, rfl⟩)
    go_ret
    exact ⟨ret_bool rfl, rfl⟩
  · have hs : 1 ≤ s ∧ s ≤ 4 := by simpa [szB, inB] using hsz
    obtain ⟨hs1, hs2⟩ := hs
    have hpw := pow2_wrap s hs1 hs2
    have hbd := pow2_bd s hs1 hs2
    obtain ⟨hb1, hb2⟩ := hbd
    go_enter Try.func141, Try.ntmps141
    go_wp2_with (first | (go_at_call 101; refine (SizeValid_any _ _).mono ?_; rintro e w' ⟨rfl, rfl⟩) | (go_at_call 93; refine (l1In_any _ _ _ _).mono ?_; rintro e w' ⟨rfl, rfl⟩))
    go_ret
    exact ⟨ret_bool (by rw [Bool.true_and, inB, setB, Bool.eq_iff_iff]; simp; omega), rfl⟩

theorem setB_nat {s a : Int} (h1 : 1 ≤ s) (h4 : s ≤ 4) (h : setB s a = true) : ∃ n : Nat, a = n ∧ n < 16 ∧ (n : Int) < pow2 s := by
  have h2 : 0 ≤ a ∧ a < pow2 s := by simpa [setB] using h
  have := pow2_bd s h1 h4
  exact ⟨a.toNat, by omega, by omega, by omega⟩

end Go.Proofs.Ytjmfjgoehicgcaa
