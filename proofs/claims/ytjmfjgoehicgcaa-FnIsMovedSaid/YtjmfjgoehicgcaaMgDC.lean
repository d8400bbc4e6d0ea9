/- Two masses that are drawn. -/
import Derived.Test.YtjmfjgoehicgcaaMgD4
import Derived.Test.YtjmfjgoehicgcaaV7
import Derived.Test.YtjmfjgoehicgcaaL6
import Derived.Test.YtjmfjgoehicgcaaMgK7
import Derived.Test.YtjmfjgoehicgcaaMgM3
set_option linter.unusedVariables false
set_option linter.unusedSimpArgs false
namespace Go.Proofs.Ytjmfjgoehicgcaa
open Go.RowKit

def MsPair (B R P : Nat) (w : World) (e : Ending) (w' : World) : Prop := ∃ (s : Int) (v : Value) (xs : List Int) (t : Int) (u : Value) (ys : List Int), e = .returned (.tuple #[.agg #[.int .i64 s, v], .agg #[.int .i64 t, u]]) ∧ xs.length ≤ 17 ∧ ys.length ≤ 17 ∧ Own B w' v xs ∧ Own B w' u ys ∧ Rdr R P w' ∧ Dr B R w w'

theorem Own.drO {B B' R : Nat} {w w' : World} {v : Value} {xs : List Int} (h : Own B w v xs) (hb : Dr B' R w w') (hR : R < B) (hlt : ∀ g, v.ownBlock = some g → B ≤ g ∧ g < B') : Own B w' v xs := by
  refine ⟨h.1, ?_⟩
  rcases h.2 with h2 | ⟨g, cap, cur, a, b, hg, r⟩
  · exact .inl h2
  · exact .inr ⟨g, cap, cur, a, b, by rw [hb.block g (hlt g (by rw [a]; rfl)).2 (by omega)]; exact hg, r⟩

theorem twoV (w : World) : ∃ W : World, W = (w.alloc (.cells #[.int .i64 0, .slice none 0 0] 27)).alloc (.cells #[.int .i64 0, .slice none 0 0] 27) ∧ W.heap.size = w.heap.size + 2 ∧ Below w.heap.size w W ∧ VarInv W w.heap.size 0 (.slice none 0 0) ∧ VarInv W (w.heap.size + 1) 0 (.slice none 0 0) := by
  refine ⟨_, rfl, by simp, (belowAlloc _ _).thenB (belowAlloc _ _), (VarInv.made w _ _ _).later (belowAlloc _ _), ?_⟩
  have h := VarInv.made (w.alloc (.cells #[.int .i64 0, .slice none 0 0] 27)) 0 (.slice none 0 0) 27
  rw [show (w.alloc (.cells #[.int .i64 0, .slice none 0 0] 27)).heap.size = w.heap.size + 1 by simp] at h
  exact h

end Go.Proofs.Ytjmfjgoehicgcaa

/- A mass without the part of the set without answers: both packages. -/
set_option linter.unusedVariables false
set_option linter.unusedSimpArgs false
namespace Go.Proofs.Ytjmfjgoehicgcaa
open Go.RowKit

theorem nonP_wide (xs : List Int) (h : allB 0 1000000 xs = true) : allB 0 4611686018427387904 xs = true := allB_wider h (by omega) (by omega)
theorem nmR_len (s : Int) (xs : List Int) (h : xs.length ≤ 1048576) : (gL (massB s xs) s (nonP xs)).length ≤ xs.length := by
  have := gL_len (massB s xs) s (nonP xs)
  rw [nonP_len] at this; exact this

end Go.Proofs.Ytjmfjgoehicgcaa

/- Focal sets, chances: both packages. -/
set_option linter.unusedVariables false
set_option linter.unusedSimpArgs false
namespace Go.Proofs.Ytjmfjgoehicgcaa
open Go.RowKit

/-- The number of the answers of a set. -/
def pop (a : Nat) : Nat := (a.testBit 0).toNat + (a.testBit 1).toNat + (a.testBit 2).toNat + (a.testBit 3).toNat

theorem count_bits : ∀ a : Fin 16, bits BinOp.and IntKind.i64 (a.val : Int) 1 = ((a.val % 2 : Nat) : Int) ∧ pop a.val = a.val % 2 + pop (a.val / 2) ∧ pop a.val ≤ 4 ∧ (pop a.val = 0 → a.val = 0) := by decide +kernel

theorem pop_le (a : Nat) (h : a < 16) : pop a ≤ 4 := (count_bits ⟨a, h⟩).2.2.1

def focL (xs : List Int) (k : Nat) : List Int := ((List.range k).filter fun a => nth xs a != 0).map fun a => ((a : Nat) : Int)

theorem focL_yes {xs : List Int} {k : Nat} (h : nth xs k ≠ 0) : focL xs (k + 1) = focL xs k ++ [(k : Int)] := by
  simp [focL, List.range_succ, List.filter_append, h]

theorem focL_no {xs : List Int} {k : Nat} (h : nth xs k = 0) : focL xs (k + 1) = focL xs k := by
  simp [focL, List.range_succ, List.filter_append, h]

theorem focL_len (xs : List Int) (k : Nat) : (focL xs k).length ≤ k := by
  have := List.length_filter_le (fun a => nth xs a != 0) (List.range k)
  simpa [focL] using this

theorem focL_mem {xs : List Int} {k : Nat} {x : Int} (h : x ∈ focL xs k) : ∃ a : Nat, x = a ∧ a < k ∧ nth xs a ≠ 0 := by
  simp [focL] at h
  obtain ⟨a, ⟨h1, h2⟩, rfl⟩ := h
  exact ⟨a, rfl, h1, h2⟩

theorem focL_at (xs : List Int) (k i : Nat) (h : i < (focL xs k).length) : ∃ a : Nat, nth (focL xs k) i = a ∧ a < k ∧ nth xs a ≠ 0 :=
  focL_mem (by rw [nth_eq _ _ h]; exact List.getElem_mem h)

/-- A set of one answer. -/
def single (a : Nat) : Bool := pop a == 1

theorem single_bits : ∀ a : Fin 16, a.val ≠ 0 → (bits BinOp.and IntKind.i64 (a.val : Int) ((a.val : Int) - 1) != 0) = !single a.val := by decide +kernel

def chTo (xs : List Int) (k : Nat) : Bool := (List.range k).all fun a => nth xs a == 0 || single a

theorem chTo_succ (xs : List Int) (k : Nat) : chTo xs (k + 1) = (chTo xs k && (nth xs k == 0 || single k)) := by simp [chTo, List.range_succ]

theorem chTo_false {xs : List Int} {a k : Nat} (h : a < k) (h0 : nth xs a ≠ 0) (h1 : single a = false) : chTo xs k = false := by
  cases e : chTo xs k
  · rfl
  · unfold chTo at e
    rw [List.all_eq_true] at e
    have := e a (List.mem_range.mpr h)
    simp [h0, h1] at this

theorem chTo_foc {xs : List Int} {k : Nat} (h : ∀ j, j < (focL xs k).length → single (nth (focL xs k) j).toNat = true) : chTo xs k = true := by
  unfold chTo
  rw [List.all_eq_true]
  intro a ha
  rw [List.mem_range] at ha
  by_cases h0 : nth xs a = 0
  · simp [h0]
  · have hm : (a : Int) ∈ focL xs k := by
      simp only [focL, List.mem_map, List.mem_filter, List.mem_range]
      exact ⟨a, ⟨ha, by simpa using h0⟩, rfl⟩
    obtain ⟨j, hj, e⟩ := List.getElem_of_mem hm
    have := h j hj
    rw [nth_eq _ _ hj, e] at this
    simpa [h0] using this

def chB (s : Int) (xs : List Int) : Bool := massB s xs && chTo xs xs.length

end Go.Proofs.Ytjmfjgoehicgcaa

/- Orders of masses. -/
set_option linter.unusedVariables false
set_option linter.unusedSimpArgs false
namespace Go.Proofs.Ytjmfjgoehicgcaa
open Go.RowKit

/-- Each set is at most as possible by the first mass as by the second, before set k. -/
def mpTo (xs ys : List Int) (k : Nat) : Bool := (List.range k).all fun a => decide (sumTo (meetB a) xs xs.length * sumL ys ≤ sumTo (meetB a) ys ys.length * sumL xs)

theorem mpTo_succ (xs ys : List Int) (k : Nat) : mpTo xs ys (k + 1) = (mpTo xs ys k && decide (sumTo (meetB k) xs xs.length * sumL ys ≤ sumTo (meetB k) ys ys.length * sumL xs)) := by
  simp [mpTo, List.range_succ]

theorem mpTo_false (xs ys : List Int) (k n : Nat) (h : k < n) (hf : ¬ sumTo (meetB k) xs xs.length * sumL ys ≤ sumTo (meetB k) ys ys.length * sumL xs) : mpTo xs ys n = false := by
  rw [Bool.eq_false_iff]
  intro hh
  have := List.all_eq_true.1 hh k (by simp; exact h)
  simp at this
  exact hf this

theorem mul_wrap (a b A B : Int) (ha : 0 ≤ a) (hA : a ≤ A) (hb : 0 ≤ b) (hB : b ≤ B) (h : A * B ≤ 4611686018427387904) : wrap64 (a * b) = a * b := by
  have h1 : 0 ≤ a * b := Int.mul_nonneg ha hb
  have h2 : a * b ≤ A * B := Int.mul_le_mul hA hB hb (by omega)
  exact IntWalk.wrap64_in _ ⟨by omega, by omega⟩

theorem morePossible_any (s t : Int) (p q : Option Addr) (c d : Nat) (xs ys : List Int) (w : World) (hx : Reads w p xs) (hy : Reads w q ys) (hm : MassOk s xs) (hn : MassOk t ys) (hlen : xs.length = ys.length) :
    Calls Try.prog 76 #[.agg #[.int .i64 s, .slice p xs.length c], .agg #[.int .i64 t, .slice q ys.length d]] w fun e w' => e = .returned (.bool (mpTo xs ys xs.length)) ∧ Below w.heap.size w w' := by
  have HL := Lib.hid hlen
  have HM := Lib.hid hm
  have HN := Lib.hid hn
  have hl16 := hm.l16
  clear hlen hm hn
  obtain ⟨W, hW⟩ : ∃ W, W = (w.alloc (.cells #[.int .i64 s, .slice p xs.length c] 27)).alloc (.cells #[.int .i64 t, .slice q ys.length d] 27) := ⟨_, rfl⟩
  have hb1 : Below w.heap.size w (w.alloc (.cells #[.int .i64 s, .slice p xs.length c] 27)) := (Below.refl _ _).alloc (Nat.le_refl _) _
  have hbW : Below w.heap.size w W := by subst hW; exact hb1.alloc (by simp) _
  have hxW := hx.below hbW
  have hyW := hy.below hbW
  have hsz : W.heap.size = w.heap.size + 2 := by subst hW; simp
  have c0 : W.cell? ⟨w.heap.size, 0, none⟩ = some (.int .i64 s) := by subst hW; rw [World.cell?_alloc_past _ _ _ (by simp), World.cell?_alloc_at _ _ _ _ (by simp)]; rfl
  have c1 : W.cell? ⟨w.heap.size, 1, none⟩ = some (.slice p xs.length c) := by subst hW; rw [World.cell?_alloc_past _ _ _ (by simp), World.cell?_alloc_at _ _ _ _ (by simp)]; rfl
  have c2 : W.cell? ⟨w.heap.size + 1, 0, none⟩ = some (.int .i64 t) := by subst hW; rw [World.cell?_alloc_at _ _ _ _ (by simp)]; rfl
  have c3 : W.cell? ⟨w.heap.size + 1, 1, none⟩ = some (.slice q ys.length d) := by subst hW; rw [World.cell?_alloc_at _ _ _ _ (by simp)]; rfl
  have HC := Lib.hid (And.intro c0 (And.intro c1 (And.intro c2 c3)))
  have HS := Lib.hid hsz
  clear c0 c1 c2 c3 hb1 hsz hx hy
  have HW := Lib.hid hW
  clear hW
  go_enter Try.func76, Try.ntmps76
  go_wp2
  rw [← HW.out]
  go_loopw [9] (fun i wr => ∃ k : Nat, k ≤ xs.length ∧ i = .int .i64 k ∧ mpTo xs ys k = true ∧ Below W.heap.size W wr) (fun i _ => xs.length - (intOf i).toNat)
  case atStart => exact ⟨0, Nat.zero_le _, rfl, rfl, Below.refl _ _⟩
  case round =>
    obtain ⟨k, hk, rfl, hmp, hb⟩ := hrel
    by_cases hlt : k < xs.length
    · have hs := hb.size
      have hsz2 : w.heap.size + 1 < wr.heap.size := by have := HS.out; omega
      have hsz3 : w.heap.size < wr.heap.size := by omega
      have hcb := bcell hb
      have d0 := fun x : LaterW wr.heap.size wr => x.cell hsz3 ((hcb.1 _ 0 (by have := HS.out; omega)).trans HC.out.1)
      have d1 := fun x : LaterW wr.heap.size wr => x.cell hsz3 ((hcb.1 _ 1 (by have := HS.out; omega)).trans HC.out.2.1)
      have d2 := fun x : LaterW wr.heap.size wr => x.cell hsz2 ((hcb.1 _ 0 (by have := HS.out; omega)).trans HC.out.2.2.1)
      have d3 := fun x : LaterW wr.heap.size wr => x.cell hsz2 ((hcb.1 _ 1 (by have := HS.out; omega)).trans HC.out.2.2.2)
      have hxr := hxW.below hb
      have hyr := hyW.below hb
      clear hcb hxW hyW
      have ⟨e1, e2⟩ := sumTo_bd (meetB k) xs HM.out.all (by omega) xs.length (Nat.le_refl _)
      have ⟨e3, e4⟩ := sumTo_bd (meetB k) ys HN.out.all (by omega) ys.length (Nat.le_refl _)
      have ⟨f1, f2⟩ := And.intro HM.out.sum1 HM.out.sum2
      have ⟨f3, f4⟩ := And.intro HN.out.sum1 HN.out.sum2
      have hax := HM.out.all
      have hay := HN.out.all
      have hly : ys.length ≤ 16 := by rw [← HL.out]; exact hl16
      have hw1 : wrap64 (sumTo (meetB k) ys ys.length * sumL xs) = sumTo (meetB k) ys ys.length * sumL xs := mul_wrap _ _ 16000000 1000000 e3 (by omega) (by omega) f2 (by omega)
      have hw2 : wrap64 (sumTo (meetB k) xs xs.length * sumL ys) = sumTo (meetB k) xs xs.length * sumL ys := mul_wrap _ _ 16000000 1000000 e1 (by omega) (by omega) f4 (by omega)
      have HP := Lib.hid hmp
      clear e1 e2 e3 e4 f1 f2 f3 f4 hmp
      by_cases hle : sumTo (meetB k) xs xs.length * sumL ys ≤ sumTo (meetB k) ys ys.length * sumL xs
      · have hd : decide (sumTo (meetB k) ys ys.length * sumL xs < sumTo (meetB k) xs xs.length * sumL ys) = false := by simpa using hle
        have HN2 : Hid (mpTo xs ys (k + 1) = true) := Lib.hid (by rw [mpTo_succ, HP.out]; simp [hle])
        clear hle
        go_wp2
        refine wp_region_later (by kernel_rfl) (by kernel_rfl) ?_
        repeat (go_big_quiet_step ((first | (go_at_call 112; exact LaterW.call (possiblePart_any _ _ _ _ _ _ (LaterW.reads _ (by assumption)) (by assumption) (by omega) (by assumption))) | (go_at_call 78; exact LaterW.call (wholeOf_any _ _ _ _ _ (LaterW.reads _ (by assumption)) (by omega) (by assumption))))))
        refine wpQuiet_nil ?_
        intro _ hw'
        obtain ⟨x, rfl⟩ := hw'
        have hbx := hb.trans (x.below.mono hs)
        clear d0 d1 d2 d3
        go_wp2
        exact ⟨⟨k + 1, by omega, by go_num, HN2.out, hbx⟩, by simp [intOf]; omega⟩
      · have hd : decide (sumTo (meetB k) ys ys.length * sumL xs < sumTo (meetB k) xs xs.length * sumL ys) = true := by simpa using hle
        have HF := Lib.hid (mpTo_false xs ys k xs.length hlt hle)
        clear hle
        go_wp2
        refine wp_region_later (by kernel_rfl) (by kernel_rfl) ?_
        repeat (go_big_quiet_step ((first | (go_at_call 112; exact LaterW.call (possiblePart_any _ _ _ _ _ _ (LaterW.reads _ (by assumption)) (by assumption) (by omega) (by assumption))) | (go_at_call 78; exact LaterW.call (wholeOf_any _ _ _ _ _ (LaterW.reads _ (by assumption)) (by omega) (by assumption))))))
        refine wpQuiet_nil ?_
        intro _ hw'
        obtain ⟨x, rfl⟩ := hw'
        have hbx := hb.trans (x.below.mono hs)
        clear d0 d1 d2 d3
        go_wp2
        go_ret
        exact ⟨ret_bool HF.out.symm, hbW.trans (hbx.mono (by have := HS.out; omega))⟩
    · have h1 : k = xs.length := by omega
      subst h1
      have HP := Lib.hid hmp
      clear hmp
      go_wp2
      go_ret
      exact ⟨ret_bool HP.out.symm, hbW.trans (hb.mono (by have := HS.out; omega))⟩

/-- Each set is at most as possible by the first mass as by the second. -/
def mpB (s : Int) (xs : List Int) (t : Int) (ys : List Int) : Bool := bothB s xs t ys && mpTo xs ys xs.length

theorem iMorePossible_any (s : Int) (p : Option Addr) (c : Nat) (xs : List Int) (t : Int) (q : Option Addr) (d : Nat) (ys : List Int) (w : World) (hx : Reads w p xs) (hy : Reads w q ys) (hxm : xs.length ≤ 1048576) (hym : ys.length ≤ 1048576) :
    Calls Try.prog 26 #[.agg #[.int .i64 s, .slice p xs.length c], .agg #[.int .i64 t, .slice q ys.length d]] w fun e w' => e = .returned (.bool (mpB s xs t ys)) ∧ Below w.heap.size w w' := by
  obtain ⟨W, hW, hbW, hsz, c0, c1, c2, c3⟩ := box2 w s t p q xs.length ys.length c d
  have hxW := hx.below hbW
  have hyW := hy.below hbW
  have HW := Lib.hid hW
  have hl0 : w.heap.size < W.heap.size := by omega
  have hl1 : w.heap.size + 1 < W.heap.size := by omega
  clear hW hx hy hsz
  cases h1 : bothB s xs t ys
  · have hr : Hid (mpB s xs t ys = false) := Lib.hid (by simp [mpB, h1])
    go_enter Try.func26, Try.ntmps26
    go_wp2_with fail
    rw [← HW.out]
    refine (ofOneQuestion_any _ _ _ _ _ _ _ _ _ hxW hyW hxm hym).mono ?_
    rintro e w1 ⟨rfl, hb1⟩
    go_wp2
    go_ret
    exact ⟨ret_bool hr.out.symm, hbW.trans (hb1.mono hbW.size)⟩
  · have hr : Hid (mpB s xs t ys = mpTo xs ys xs.length) := Lib.hid (by simp [mpB, h1])
    obtain ⟨k1, k2, k3, k4⟩ := bothB_ok h1
    have K4 := Lib.hid k4
    clear k3 k4
    go_enter Try.func26, Try.ntmps26
    go_wp2_with fail
    rw [← HW.out]
    refine (ofOneQuestion_any _ _ _ _ _ _ _ _ _ hxW hyW hxm hym).mono ?_
    rintro e w1 ⟨rfl, hb1⟩
    have hc1 := bcell hb1
    have hxw := hxW.below hb1
    have hyw := hyW.below hb1
    go_wp2_with fail
    refine (morePossible_any _ _ _ _ _ _ _ _ _ hxw hyw k1 k2 K4.out).mono ?_
    rintro e w2 ⟨rfl, hb2⟩
    go_wp2
    go_ret
    exact ⟨ret_bool hr.out.symm, hbW.trans ((hb1.trans (hb2.mono hb1.size)).mono hbW.size)⟩

theorem sMorePossible_any (s : Int) (p : Option Addr) (c : Nat) (xs : List Int) (t : Int) (q : Option Addr) (d : Nat) (ys : List Int) (w : World) (hx : Reads w p xs) (hy : Reads w q ys) (hxm : xs.length ≤ 1048576) (hym : ys.length ≤ 1048576) :
    Calls Try.prog 28 #[.agg #[.int .i64 s, .slice p xs.length c], .agg #[.int .i64 t, .slice q ys.length d]] w fun e w' => e = .returned (.bool (mpB s xs t ys)) ∧ Below w.heap.size w w' := by
  obtain ⟨W, hW, hbW, hsz, c0, c1, c2, c3⟩ := box2 w s t p q xs.length ys.length c d
  have hxW := hx.below hbW
  have hyW := hy.below hbW
  have HW := Lib.hid hW
  have hl0 : w.heap.size < W.heap.size := by omega
  have hl1 : w.heap.size + 1 < W.heap.size := by omega
  clear hW hx hy hsz
  cases h1 : bothB s xs t ys
  · have hr : Hid (mpB s xs t ys = false) := Lib.hid (by simp [mpB, h1])
    go_enter Try.func28, Try.ntmps28
    go_wp2
    rw [← HW.out]
    refine wp_loop_rounds 1 ?_
    rw [rounds_succ]
    go_wp2_with fail
    refine (l3Both_any _ _ _ _ _ _ _ _ _ hxW hyW hxm hym).mono ?_
    rintro e w1 ⟨rfl, hb1⟩
    have hc1 := bcell hb1
    have hxw := hxW.below hb1
    have hyw := hyW.below hb1
    go_wp2_with fail
    refine (l3Both_any _ _ _ _ _ _ _ _ _ hxw hyw hxm hym).mono ?_
    rintro e w2 ⟨rfl, hb2⟩
    go_wp2
    go_ret
    exact ⟨ret_bool (by rw [hr.out]), hbW.trans ((hb1.trans (hb2.mono hb1.size)).mono hbW.size)⟩
  · have hr : Hid (mpB s xs t ys = mpTo xs ys xs.length) := Lib.hid (by simp [mpB, h1])
    obtain ⟨k1, k2, k3, k4⟩ := bothB_ok h1
    have K4 := Lib.hid k4
    clear k3 k4
    have HM := Lib.hid k1
    have HN := Lib.hid k2
    have hl16 := k1.l16
    clear k1 k2
    go_enter Try.func28, Try.ntmps28
    go_wp2
    rw [← HW.out]
    go_loopw [5] (fun i wr => ∃ k : Nat, k ≤ xs.length ∧ i = .int .i64 k ∧ mpTo xs ys k = true ∧ Below W.heap.size W wr) (fun i _ => xs.length - (intOf i).toNat)
    case atStart => exact ⟨0, Nat.zero_le _, rfl, rfl, Below.refl _ _⟩
    case round =>
      obtain ⟨k, hk, rfl, hmp, hb⟩ := hrel
      have hs := hb.size
      have HP := Lib.hid hmp
      have hcb := bcell hb
      have hxr := hxW.below hb
      have hyr := hyW.below hb
      clear hmp
      go_wp2_with fail
      refine (l3Both_any _ _ _ _ _ _ _ _ _ hxr hyr hxm hym).mono ?_
      rintro e w1 ⟨rfl, hb1⟩
      have hbw := hb.trans (hb1.mono hs)
      have hxr := hxW.below hbw
      have hyr := hyW.below hbw
      have hs1 := hbw.size
      have hcw := bcell hbw
      clear hcb
      by_cases hlt : k < xs.length
      · have hsz2 : w.heap.size + 1 < w1.heap.size := by omega
        have hsz3 : w.heap.size < w1.heap.size := by omega
        have d0 := fun x : LaterW w1.heap.size w1 => x.cell hsz3 ((hcw.1 _ 0 hl0).trans c0)
        have d1 := fun x : LaterW w1.heap.size w1 => x.cell hsz3 ((hcw.1 _ 1 hl0).trans c1)
        have d2 := fun x : LaterW w1.heap.size w1 => x.cell hsz2 ((hcw.1 _ 0 hl1).trans c2)
        have d3 := fun x : LaterW w1.heap.size w1 => x.cell hsz2 ((hcw.1 _ 1 hl1).trans c3)
        have ⟨e1, e2⟩ := sumTo_bd (meetB k) xs HM.out.all (by omega) xs.length (Nat.le_refl _)
        have ⟨e3, e4⟩ := sumTo_bd (meetB k) ys HN.out.all (by omega) ys.length (Nat.le_refl _)
        have ⟨f1, f2⟩ := And.intro HM.out.sum1 HM.out.sum2
        have ⟨f3, f4⟩ := And.intro HN.out.sum1 HN.out.sum2
        have hax := HM.out.all
        have hay := HN.out.all
        have hly : ys.length ≤ 16 := by rw [← K4.out]; exact hl16
        have hw1 : wrap64 (sumTo (meetB k) ys ys.length * sumL xs) = sumTo (meetB k) ys ys.length * sumL xs := mul_wrap _ _ 16000000 1000000 e3 (by omega) (by omega) f2 (by omega)
        have hw2 : wrap64 (sumTo (meetB k) xs xs.length * sumL ys) = sumTo (meetB k) xs xs.length * sumL ys := mul_wrap _ _ 16000000 1000000 e1 (by omega) (by omega) f4 (by omega)
        clear e1 e2 e3 e4 f1 f2 f3 f4 hb hb1 hxW hyW
        by_cases hle : sumTo (meetB k) xs xs.length * sumL ys ≤ sumTo (meetB k) ys ys.length * sumL xs
        · have hd : decide (sumTo (meetB k) ys ys.length * sumL xs < sumTo (meetB k) xs xs.length * sumL ys) = false := by simpa using hle
          have HN2 : Hid (mpTo xs ys (k + 1) = true) := Lib.hid (by rw [mpTo_succ, HP.out]; simp [hle])
          clear hle
          go_wp2
          refine wp_region_later (by kernel_rfl) (by kernel_rfl) ?_
          repeat (go_big_quiet_step ((first | (go_at_call 79; exact LaterW.call (l4Possible_any _ _ _ _ _ _ (LaterW.reads _ (by assumption)) (by assumption) (by omega) (by assumption))) | (go_at_call 80; exact LaterW.call (l3Whole_any _ _ _ _ _ (LaterW.reads _ (by assumption)) (by omega) (by assumption))))))
          refine wpQuiet_nil ?_
          intro _ hw'
          obtain ⟨x, rfl⟩ := hw'
          have hbx := hbw.trans (x.below.mono hs1)
          clear d0 d1 d2 d3
          go_wp2
          exact ⟨⟨k + 1, by omega, by go_num, HN2.out, hbx⟩, by simp [intOf]; omega⟩
        · have hd : decide (sumTo (meetB k) ys ys.length * sumL xs < sumTo (meetB k) xs xs.length * sumL ys) = true := by simpa using hle
          have HF := Lib.hid (mpTo_false xs ys k xs.length hlt hle)
          clear hle
          go_wp2
          refine wp_region_later (by kernel_rfl) (by kernel_rfl) ?_
          repeat (go_big_quiet_step ((first | (go_at_call 79; exact LaterW.call (l4Possible_any _ _ _ _ _ _ (LaterW.reads _ (by assumption)) (by assumption) (by omega) (by assumption))) | (go_at_call 80; exact LaterW.call (l3Whole_any _ _ _ _ _ (LaterW.reads _ (by assumption)) (by omega) (by assumption))))))
          refine wpQuiet_nil ?_
          intro _ hw'
          obtain ⟨x, rfl⟩ := hw'
          have hbx := hbw.trans (x.below.mono hs1)
          clear d0 d1 d2 d3
          go_wp2
          go_ret
          exact ⟨ret_bool (by rw [hr.out, HF.out]), hbW.trans (hbx.mono hbW.size)⟩
      · have h2 : k = xs.length := by omega
        subst h2
        go_wp2_with fail
        refine (l3Both_any _ _ _ _ _ _ _ _ _ hxr hyr hxm hym).mono ?_
        rintro e w2 ⟨rfl, hb2⟩
        go_wp2
        go_ret
        exact ⟨ret_bool (by rw [hr.out, HP.out]), hbW.trans ((hbw.trans (hb2.mono hs1)).mono hbW.size)⟩

end Go.Proofs.Ytjmfjgoehicgcaa

