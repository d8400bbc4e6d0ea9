/- The least levels that are at least as possible as a mass: both packages. -/
import Derived.Test.YtmbipmdflbddbaaR1
import Derived.Test.YtmbipmdflbddbaaV9
set_option linter.unusedVariables false
set_option linter.unusedSimpArgs false
namespace Go.Proofs.Ytmbipmdflbddbaa
open Go.RowKit

/-- The set of the answers of an order from place m on. -/
def dnSet (ts : List Int) (n m : Nat) : Nat := (List.range (n - m)).foldl (fun o x => o ||| bit (nth ts (n - 1 - x)).toNat) 0

theorem dnSet_step (ts : List Int) (n k : Nat) (h : k < n) : dnSet ts n k = dnSet ts n (k + 1) ||| bit (nth ts k).toNat := by
  have e : n - k = (n - (k + 1)) + 1 := by omega
  have e2 : n - 1 - (n - (k + 1)) = k := by omega
  unfold dnSet
  rw [e, List.range_succ, List.foldl_append, List.foldl_cons, List.foldl_nil, e2]

def dnL {α : Type} (g : Nat → α) (z : List α) (ts : List Int) (n m : Nat) : List α := (List.range (n - m)).foldl (fun zs x => zs.set (nth ts (n - 1 - x)).toNat (g (dnSet ts n (n - 1 - x)))) z

theorem dnL_step {α : Type} (g : Nat → α) (z : List α) (ts : List Int) (n k : Nat) (h : k < n) : dnL g z ts n k = (dnL g z ts n (k + 1)).set (nth ts k).toNat (g (dnSet ts n k)) := by
  have e : n - k = (n - (k + 1)) + 1 := by omega
  have e2 : n - 1 - (n - (k + 1)) = k := by omega
  unfold dnL
  rw [e, List.range_succ, List.foldl_append, List.foldl_cons, List.foldl_nil, e2]

theorem foldl_set_len {α : Type} (f : Nat → Nat) (h : Nat → α) (z : List α) (l : List Nat) : (l.foldl (fun zs x => zs.set (f x) (h x)) z).length = z.length := by
  induction l generalizing z with
  | nil => rfl
  | cons a l ih => rw [List.foldl_cons, ih, List.length_set]

theorem foldl_set_map {α β : Type} (q : α → β) (f : Nat → Nat) (h : Nat → α) (z : List α) (l : List Nat) : (l.foldl (fun zs x => zs.set (f x) (h x)) z).map q = l.foldl (fun zs x => zs.set (f x) (q (h x))) (z.map q) := by
  induction l generalizing z with
  | nil => rfl
  | cons a l ih => rw [List.foldl_cons, List.foldl_cons, ih, List.map_set]

theorem dnL_len {α : Type} (g : Nat → α) (z : List α) (ts : List Int) (n m : Nat) : (dnL g z ts n m).length = z.length := foldl_set_len _ _ _ _

/-- What is left of all answers without the first ones of an order. -/
def upSet (ts : List Int) (n k : Nat) : Nat := (List.range k).foldl (fun r x => dif r (bit (nth ts x).toNat)) (2 ^ n - 1)

theorem upSet_succ (ts : List Int) (n k : Nat) : upSet ts n (k + 1) = dif (upSet ts n k) (bit (nth ts k).toNat) := by simp [upSet, List.range_succ]

def upL {α : Type} (g : Nat → α) (z : List α) (ts : List Int) (n k : Nat) : List α := (List.range k).foldl (fun zs x => zs.set (nth ts x).toNat (g (upSet ts n x))) z

theorem upL_succ {α : Type} (g : Nat → α) (z : List α) (ts : List Int) (n k : Nat) : upL g z ts n (k + 1) = (upL g z ts n k).set (nth ts k).toNat (g (upSet ts n k)) := by simp [upL, List.range_succ]

theorem upL_len {α : Type} (g : Nat → α) (z : List α) (ts : List Int) (n k : Nat) : (upL g z ts n k).length = z.length := foldl_set_len _ _ _ _

def nones (n : Nat) : List (Option Nat) := List.replicate n none

theorem du1 : ∀ a : Fin 1, dnL some (nones 1) [(a.val : Int)] 1 0 = upL some (nones 1) [(a.val : Int)] 1 1 := by decide +kernel
theorem du2 : ∀ a b : Fin 2, ndTo [(a.val : Int), b.val] 2 = true → dnL some (nones 2) [(a.val : Int), b.val] 2 0 = upL some (nones 2) [(a.val : Int), b.val] 2 2 := by decide +kernel
theorem du3 : ∀ a b c : Fin 3, ndTo [(a.val : Int), b.val, c.val] 3 = true → dnL some (nones 3) [(a.val : Int), b.val, c.val] 3 0 = upL some (nones 3) [(a.val : Int), b.val, c.val] 3 3 := by decide +kernel
theorem du4 : ∀ a b c d : Fin 4, ndTo [(a.val : Int), b.val, c.val, d.val] 4 = true → dnL some (nones 4) [(a.val : Int), b.val, c.val, d.val] 4 0 = upL some (nones 4) [(a.val : Int), b.val, c.val, d.val] 4 4 := by decide +kernel

theorem ordB_ok {s : Int} {ts : List Int} (h : ordB s ts = true) : allB 0 (s - 1) ts = true ∧ (ts.length : Int) = s ∧ ndTo ts ts.length = true := by
  simp only [ordB, Bool.and_eq_true, decide_eq_true_eq] at h
  exact ⟨h.1, h.2.1, h.2.2⟩

def gOf (g : Nat → Int) : Option Nat → Int
  | none => 0
  | some a => g a

theorem dn_up {s : Int} {ts : List Int} (g : Nat → Int) (h1 : 1 ≤ s) (h4 : s ≤ 4) (h : ordB s ts = true) : dnL g (zeros ts.length) ts ts.length 0 = upL g (zeros ts.length) ts ts.length ts.length := by
  obtain ⟨ha, hl, hn⟩ := ordB_ok h
  have hz : ∀ n, (nones n).map (gOf g) = zeros n := fun n => by simp [nones, zeros, gOf]
  have e1 : ∀ n m, dnL g (zeros n) ts n m = (dnL some (nones n) ts n m).map (gOf g) := fun n m => by
    rw [dnL, dnL, foldl_set_map, hz]; rfl
  have e2 : ∀ n k, upL g (zeros n) ts n k = (upL some (nones n) ts n k).map (gOf g) := fun n k => by
    rw [upL, upL, foldl_set_map, hz]; rfl
  rw [e1, e2]
  congr 1
  rcases few h1 h4 ha hl with ⟨rfl, a, rfl⟩ | ⟨rfl, a, b, rfl⟩ | ⟨rfl, a, b, c, rfl⟩ | ⟨rfl, a, b, c, d, rfl⟩
  · exact du1 a
  · exact du2 a b hn
  · exact du3 a b c hn
  · exact du4 a b c d hn

theorem dnSet_lt {s : Int} {ts : List Int} (h4 : s ≤ 4) (h : allB 0 (s - 1) ts = true) : ∀ j, j ≤ ts.length → dnSet ts ts.length (ts.length - j) < 16 := by
  intro j
  induction j with
  | zero => intro _; simp [dnSet]
  | succ j ih =>
    intro hj
    have hlt : ts.length - (j + 1) < ts.length := by omega
    rw [dnSet_step ts ts.length _ hlt, show ts.length - (j + 1) + 1 = ts.length - j by omega]
    have := allB_nth h _ hlt
    exact or_lt' _ _ (ih (by omega)) (by omega)

theorem dnSet_lt' {s : Int} {ts : List Int} (h4 : s ≤ 4) (h : allB 0 (s - 1) ts = true) (m : Nat) (hm : m ≤ ts.length) : dnSet ts ts.length m < 16 := by
  have := dnSet_lt h4 h (ts.length - m) (by omega)
  rwa [show ts.length - (ts.length - m) = m by omega] at this

theorem upSet_lt (ts : List Int) (n : Nat) (hn : n ≤ 4) (k : Nat) : upSet ts n k < 16 := by
  induction k with
  | zero => have := Nat.pow_le_pow_right (n := 2) (by omega) hn; simp [upSet]; omega
  | succ k ih => rw [upSet_succ]; exact dif_lt _ _ ih

/-- The levels. -/
def ouP (xs ts : List Int) : List Int := upL (fun a => possS a xs) (zeros ts.length) ts ts.length ts.length
def ouG (s : Int) (xs ts : List Int) : Bool := normB s xs && ordB s ts
def ouL (s : Int) (xs ts : List Int) : List Int := if ouG s xs ts = true then ouP xs ts else []

theorem ouL_len (s : Int) (xs ts : List Int) (h : ts.length ≤ 1048576) : (ouL s xs ts).length ≤ 1048576 := by
  unfold ouL ouP
  split
  · rw [upL_len, zeros_len]; exact h
  · simp

theorem bit_lt (y : Nat) (h : y < 4) : bit y < 16 := by
  have := Nat.pow_le_pow_right (n := 2) (by omega) (show y ≤ 3 by omega)
  unfold bit; omega

theorem normB_ok {s : Int} {xs : List Int} (h : normB s xs = true) : MassOk s xs := massB_ok (by simp only [normB, Bool.and_eq_true] at h; exact h.1)

theorem pow2_natR (n : Nat) : pow2 (n : Int) = ((2 ^ n : Nat) : Int) := by simp [pow2]

theorem cellStore1 {w : World} {m o b k : Nat} {v x : Value} (h : w.cell? ⟨b, o, none⟩ = some v) (hne : m ≠ b) : (w.setCell ⟨m, k, none⟩ x).cell? ⟨b, o, none⟩ = some v := by
  rw [World.cell?_setCell_other _ _ _ _ (fun e => hne (by cases e; rfl))]; exact h

set_option maxHeartbeats 2000000 in
theorem iOuterLevels_any (s : Int) (p : Option Addr) (c : Nat) (xs : List Int) (q : Option Addr) (d : Nat) (ts : List Int) (w : World) (hx : Reads w p xs) (ht : Reads w q ts) (hxm : xs.length ≤ 1048576) (htm : ts.length ≤ 1048576) :
    Calls Try.prog 19 #[.agg #[.int .i64 s, .slice p xs.length c], .slice q ts.length d] w fun e w' => ∃ v, e = .returned (.tuple #[v, .bool (ouG s xs ts)]) ∧ Own w.heap.size w' v (ouL s xs ts) ∧ Below w.heap.size w w' := by
  obtain ⟨W, hW, bW, hsz, c0, c1⟩ := box1 w s p xs.length c
  have HW := Lib.hid hW
  have HSZ := Lib.hid hsz
  clear hW hsz
  by_cases h1 : normB s xs = true
  rotate_left
  · replace h1 : normB s xs = false := by simpa using h1
    have hg : ouG s xs ts = false := by simp [ouG, h1]
    have hL : Hid (ouL s xs ts = []) := Lib.hid (by simp [ouL, hg])
    have hG := Lib.hid hg
    clear hg
    go_enter Try.func19, Try.ntmps19
    go_wp2_with fail
    rw [← HW.out]
    refine (isNormal_any _ _ _ _ _ (hx.below bW) hxm).mono ?_
    rintro e w1 ⟨rfl, hb1⟩
    replace c0 := cellKeep hb1 c0
    replace c1 := cellKeep hb1 c1
    have z1 := hb1.size
    replace bW := bW.thenB hb1
    clear hb1
    go_wp2
    go_ret2
    exact ⟨.slice none 0 0, by rw [hG.out]; rfl, by rw [hL.out]; exact Own.nil _ _, bW⟩
  have hk := normB_ok h1
  have k1 := hk.s1
  have k4 := hk.s4
  by_cases h2 : ordB s ts = true
  rotate_left
  · replace h2 : ordB s ts = false := by simpa using h2
    have hg : ouG s xs ts = false := by simp [ouG, h2]
    clear hk
    have hL : Hid (ouL s xs ts = []) := Lib.hid (by simp [ouL, hg])
    have hG := Lib.hid hg
    clear hg
    go_enter Try.func19, Try.ntmps19
    go_wp2_with fail
    rw [← HW.out]
    refine (isNormal_any _ _ _ _ _ (hx.below bW) hxm).mono ?_
    rintro e w1 ⟨rfl, hb1⟩
    replace c0 := cellKeep hb1 c0
    replace c1 := cellKeep hb1 c1
    have z1 := hb1.size
    replace bW := bW.thenB hb1
    clear hb1
    go_wp2_with fail
    refine (isOrder_any _ _ _ _ _ (ht.below bW) htm k1 k4).mono ?_
    rintro e w' ⟨rfl, rfl⟩
    go_wp2
    go_ret2
    exact ⟨.slice none 0 0, by rw [hG.out]; rfl, by rw [hL.out]; exact Own.nil _ _, bW⟩
  have hg : ouG s xs ts = true := by simp [ouG, h1, h2]
  have hL : Hid (ouL s xs ts = ouP xs ts) := Lib.hid (by simp [ouL, hg])
  have hG := Lib.hid hg
  obtain ⟨o1, o2, o3⟩ := ordB_ok h2
  have HO := Lib.hid o1
  have HK := Lib.hid hk
  have HL := Lib.hid o2
  have hl16 := hk.l16
  have hn4 : ts.length ≤ 4 := by omega
  have HDU := Lib.hid (dn_up (fun a => possS a xs) k1 k4 h2)
  have hal := hk.all
  have hxl : Hid ((xs.length : Int) - 1 = ((2 ^ ts.length - 1 : Nat) : Int)) := Lib.hid (by have := hk.len; have h3 : (1:Nat) ≤ 2 ^ ts.length := Nat.one_le_two_pow; rw [this, ← o2, pow2_natR]; omega)
  clear hg hk o1 o2 o3
  go_enter Try.func19, Try.ntmps19
  go_wp2_with fail
  rw [← HW.out]
  refine (isNormal_any _ _ _ _ _ (hx.below bW) hxm).mono ?_
  rintro e w1 ⟨rfl, hb1⟩
  replace c0 := cellKeep hb1 c0
  replace c1 := cellKeep hb1 c1
  have z1 := hb1.size
  replace bW := bW.thenB hb1
  clear hb1
  go_wp2_with fail
  refine (isOrder_any _ _ _ _ _ (ht.below bW) htm k1 k4).mono ?_
  rintro e w' ⟨rfl, rfl⟩
  have hz2 : w.heap.size < w1.heap.size := by have := HSZ.out; omega
  go_wp2_with (at_make; refine wpList_makeInts _ rfl _ _ rfl w1.heap.size _ _ _ _ ts.length rfl rfl HL.out.symm HL.out.symm (by omega) (Nat.le_refl _) ?_)
  intro w2 hown hb2 hlt2
  have C0 := cellKeep hb2 c0
  have C1 := cellKeep hb2 c1
  replace bW := bW.thenB (Below.refl _ w1)
  clear c0 c1 h1 h2
  go_wp2_with fail
  go_loopw [7, 8] (fun v i wr => ∃ m : Nat, m ≤ ts.length ∧ i = .int .i64 ((m : Int) - 1) ∧ v = .int .i64 (dnSet ts ts.length m : Nat) ∧ Own w1.heap.size wr (.slice (some ⟨w1.heap.size, 0, none⟩) ts.length ts.length) (dnL (fun a => possS a xs) (zeros ts.length) ts ts.length m) ∧ wr.cell? ⟨w.heap.size, 0, none⟩ = some (.int .i64 s) ∧ wr.cell? ⟨w.heap.size, 1, none⟩ = some (.slice p xs.length c) ∧ Below w1.heap.size w1 wr ∧ w1.heap.size < wr.heap.size) (fun _ i _ => (intOf i + 1).toNat)
  case atStart => exact ⟨ts.length, Nat.le_refl _, by rw [HL.out], by simp [dnSet], by simpa [dnL] using hown, C0, C1, hb2, hlt2⟩
  case round =>
    clear hown C0 C1 hb2 hlt2
    obtain ⟨m, hm, rfl, rfl, ho, m0, m1, hb, hlt2⟩ := hrel
    cases m with
    | succ k =>
      have hlt : k < ts.length := hm
      have hst := Lib.hid (dnSet_step ts ts.length k hlt)
      have hsl := Lib.hid (dnL_step (fun a => possS a xs) (zeros ts.length) ts ts.length k hlt)
      have h16 := dnSet_lt' k4 HO.out (k + 1) hm
      have h16b := dnSet_lt' k4 HO.out k (by omega)
      rw [show (((k + 1 : Nat)) : Int) - 1 = (k : Int) by omega]
      obtain ⟨b, off, rfl, hbl, hc0⟩ := (ht.below bW) k hlt
      have hc := (hb.cell (p := ⟨b, off + k, none⟩) hbl).trans hc0
      have hbn := allB_nth HO.out k hlt
      obtain ⟨y, hy, hy4⟩ := int_nat4 hbn.1 (by omega) k4
      have HY := Lib.hid hy
      have hyn : y < ts.length := by have := hbn.2; have := HL.out; omega
      rw [hy] at hc
      have hbw := bit_wrap' y hy4
      have hor := bit_or' _ y h16 hy4
      have hse : Hid (dnSet ts ts.length k = dnSet ts ts.length (k + 1) ||| bit y) := Lib.hid (by rw [hst.out, HY.out, Int.toNat_natCast])
      rw [← hse.out] at hor
      have hln := dnL_len (fun a => possS a xs) (zeros ts.length) ts ts.length (k + 1)
      rw [zeros_len] at hln
      have hsl2 : Hid ((dnL (fun a => possS a xs) (zeros ts.length) ts ts.length k) = (dnL (fun a => possS a xs) (zeros ts.length) ts ts.length (k + 1)).set y (possS (dnSet ts ts.length k) xs)) := Lib.hid (by rw [hsl.out, HY.out, Int.toNat_natCast])
      have hxr := (hx.below (bW.thenB hb))
      have HLN := Lib.hid hln
      clear hy hbn hc0 hln
      go_wp2_with fail
      go_region_held3 (fun w' => w'.cell? ⟨b, off + k, none⟩ = some (.int .i64 (y : Nat)) ∧ w'.cell? ⟨w.heap.size, 0, none⟩ = some (.int .i64 s) ∧ w'.cell? ⟨w.heap.size, 1, none⟩ = some (.slice p xs.length c))
        (first | exact ⟨hc, m0, m1⟩ | exact ⟨cellStore1 hc (by omega), cellStore1 m0 (by omega), cellStore1 m1 (by omega)⟩)
        (first
          | (go_at_call 64; (with_reducible refine (iPoss_any _ _ _ _ (dnSet ts ts.length k) _ (ReadsK.drew hxr) hl16 h16b hal).mono ?_); rintro e w3 ⟨rfl, hb3⟩; (replace hb3 := undrew hb3); (replace hc := cellKeep hb3 hc); (replace m0 := cellKeep hb3 m0); (replace m1 := cellKeep hb3 m1); (replace ho := ho.later hb3); (replace hb := hb.thenB hb3); (have z3 := hb3.size); (obtain ⟨q1, q2⟩ := ho.cellAt HLN.out y hyn); (have HST := Lib.hid (ho.storedAt HLN.out y (possS (dnSet ts ts.length k) xs))); clear hb3))
      all_goals go_wp2
      all_goals exact ⟨⟨k, by omega, by go_num, rfl, by rw [hsl2.out]; exact HST.out, cellStore1 m0 (by omega), cellStore1 m1 (by omega), hb.setCell (Nat.le_refl _) _, by first | (simp; done) | (simp; omega)⟩, by first | (simp [intOf]; done) | (simp [intOf]; omega)⟩
    | zero =>
      have HOO := Lib.hid ho
      clear ho
      go_wp2
      go_ret2
      exact ⟨_, by rw [hG.out]; rfl, by rw [hL.out, ouP, ← HDU.out]; exact HOO.out.mono (by have := bW.size; omega), bW.thenB hb⟩

set_option maxHeartbeats 2000000 in
theorem sOuterLevels_any (s : Int) (p : Option Addr) (c : Nat) (xs : List Int) (q : Option Addr) (d : Nat) (ts : List Int) (w : World) (hx : Reads w p xs) (ht : Reads w q ts) (hxm : xs.length ≤ 1048576) (htm : ts.length ≤ 1048576) :
    Calls Try.prog 20 #[.agg #[.int .i64 s, .slice p xs.length c], .slice q ts.length d] w fun e w' => ∃ v, e = .returned (.tuple #[v, .bool (ouG s xs ts)]) ∧ Own w.heap.size w' v (ouL s xs ts) ∧ Below w.heap.size w w' := by
  obtain ⟨W, hW, bW, hsz, c0, c1⟩ := box1 w s p xs.length c
  have HW := Lib.hid hW
  have HSZ := Lib.hid hsz
  clear hW hsz
  by_cases h1 : normB s xs = true
  rotate_left
  · replace h1 : normB s xs = false := by simpa using h1
    have hg : ouG s xs ts = false := by simp [ouG, h1]
    have hL : Hid (ouL s xs ts = []) := Lib.hid (by simp [ouL, hg])
    have hG := Lib.hid hg
    clear hg
    go_enter Try.func20, Try.ntmps20
    go_wp2_with fail
    rw [← HW.out]
    refine (IsNormal_any _ _ _ _ _ (hx.below bW) hxm).mono ?_
    rintro e w1 ⟨rfl, hb1⟩
    replace c0 := cellKeep hb1 c0
    replace c1 := cellKeep hb1 c1
    have z1 := hb1.size
    replace bW := bW.thenB hb1
    clear hb1
    go_wp2
    go_ret2
    exact ⟨.slice (some ⟨w1.heap.size, 0, none⟩) 0 0, by rw [hG.out]; rfl, by rw [hL.out]; exact Own.made _ _ bW.size, bW.alloc bW.size _⟩
  have hk := normB_ok h1
  have k1 := hk.s1
  have k4 := hk.s4
  by_cases h2 : ordB s ts = true
  rotate_left
  · replace h2 : ordB s ts = false := by simpa using h2
    have hg : ouG s xs ts = false := by simp [ouG, h2]
    clear hk
    have hL : Hid (ouL s xs ts = []) := Lib.hid (by simp [ouL, hg])
    have hG := Lib.hid hg
    clear hg
    go_enter Try.func20, Try.ntmps20
    go_wp2_with fail
    rw [← HW.out]
    refine (IsNormal_any _ _ _ _ _ (hx.below bW) hxm).mono ?_
    rintro e w1 ⟨rfl, hb1⟩
    replace c0 := cellKeep hb1 c0
    replace c1 := cellKeep hb1 c1
    have z1 := hb1.size
    replace bW := bW.thenB hb1
    clear hb1
    go_wp2_with fail
    refine (l1Moves_any _ _ _ _ _ (ht.below bW) htm k1 k4).mono ?_
    rintro e w' ⟨rfl, rfl⟩
    go_wp2
    go_ret2
    exact ⟨.slice (some ⟨w1.heap.size, 0, none⟩) 0 0, by rw [hG.out]; rfl, by rw [hL.out]; exact Own.made _ _ bW.size, bW.alloc bW.size _⟩
  have hg : ouG s xs ts = true := by simp [ouG, h1, h2]
  have hL : Hid (ouL s xs ts = ouP xs ts) := Lib.hid (by simp [ouL, hg])
  have hG := Lib.hid hg
  obtain ⟨o1, o2, o3⟩ := ordB_ok h2
  have HO := Lib.hid o1
  have HK := Lib.hid hk
  have HL := Lib.hid o2
  have hl16 := hk.l16
  have hn4 : ts.length ≤ 4 := by omega
  have HDU := Lib.hid (dn_up (fun a => possS a xs) k1 k4 h2)
  have hal := hk.all
  have hxl : Hid ((xs.length : Int) - 1 = ((2 ^ ts.length - 1 : Nat) : Int)) := Lib.hid (by have := hk.len; have h3 : (1:Nat) ≤ 2 ^ ts.length := Nat.one_le_two_pow; rw [this, ← o2, pow2_natR]; omega)
  clear hg hk o1 o2 o3
  go_enter Try.func20, Try.ntmps20
  go_wp2_with fail
  rw [← HW.out]
  refine (IsNormal_any _ _ _ _ _ (hx.below bW) hxm).mono ?_
  rintro e w1 ⟨rfl, hb1⟩
  replace c0 := cellKeep hb1 c0
  replace c1 := cellKeep hb1 c1
  have z1 := hb1.size
  replace bW := bW.thenB hb1
  clear hb1
  go_wp2_with fail
  refine (l1Moves_any _ _ _ _ _ (ht.below bW) htm k1 k4).mono ?_
  rintro e w' ⟨rfl, rfl⟩
  have hz2 : w.heap.size < w1.heap.size := by have := HSZ.out; omega
  go_wp2_with (at_make; refine wpList_makeInts _ rfl _ _ rfl w1.heap.size _ _ _ _ ts.length rfl rfl HL.out.symm HL.out.symm (by omega) (Nat.le_refl _) ?_)
  intro w2 hown hb2 hlt2
  have C0 := cellKeep hb2 c0
  have C1 := cellKeep hb2 c1
  replace bW := bW.thenB (Below.refl _ w1)
  clear c0 c1 h1 h2
  have hxl' := hxl.out
  go_wp2_with fail
  go_loopw [7, 8] (fun v i wr => ∃ k : Nat, k ≤ ts.length ∧ i = .int .i64 k ∧ v = .int .i64 (upSet ts ts.length k : Nat) ∧ Own w1.heap.size wr (.slice (some ⟨w1.heap.size, 0, none⟩) ts.length ts.length) (upL (fun a => possS a xs) (zeros ts.length) ts ts.length k) ∧ wr.cell? ⟨w.heap.size, 0, none⟩ = some (.int .i64 s) ∧ wr.cell? ⟨w.heap.size, 1, none⟩ = some (.slice p xs.length c) ∧ Below w1.heap.size w1 wr ∧ w1.heap.size < wr.heap.size) (fun _ i _ => ts.length - (intOf i).toNat)
  case atStart => exact ⟨0, Nat.zero_le _, rfl, by simp [upSet], hown, C0, C1, hb2, hlt2⟩
  case round =>
    clear hown C0 C1 hb2 hlt2
    obtain ⟨k, hk, rfl, rfl, ho, m0, m1, hb, hlt2⟩ := hrel
    by_cases hlt : k < ts.length
    · skip
      have hst := Lib.hid (upSet_succ ts ts.length k)
      have hsl := Lib.hid (upL_succ (fun a => possS a xs) (zeros ts.length) ts ts.length k)
      have h16b := upSet_lt ts ts.length hn4 k
      obtain ⟨b, off, rfl, hbl, hc0⟩ := (ht.below bW) k hlt
      have hc := (hb.cell (p := ⟨b, off + k, none⟩) hbl).trans hc0
      have hbn := allB_nth HO.out k hlt
      obtain ⟨y, hy, hy4⟩ := int_nat4 hbn.1 (by omega) k4
      have HY := Lib.hid hy
      have hyn : y < ts.length := by have := hbn.2; have := HL.out; omega
      rw [hy] at hc
      have hbw := bit_wrap' y hy4
      have hdf := dif_nat _ (bit y) h16b (bit_lt y hy4)
      have hse : Hid (upSet ts ts.length (k + 1) = dif (upSet ts ts.length k) (bit y)) := Lib.hid (by rw [hst.out, HY.out, Int.toNat_natCast])
      rw [← hse.out] at hdf
      have hln := upL_len (fun a => possS a xs) (zeros ts.length) ts ts.length k
      rw [zeros_len] at hln
      have hsl2 : Hid ((upL (fun a => possS a xs) (zeros ts.length) ts ts.length (k + 1)) = (upL (fun a => possS a xs) (zeros ts.length) ts ts.length k).set y (possS (upSet ts ts.length k) xs)) := Lib.hid (by rw [hsl.out, HY.out, Int.toNat_natCast])
      have hxr := (hx.below (bW.thenB hb))
      have HLN := Lib.hid hln
      have hlt3 : (k : Int) < s := by have := HL.out; omega
      clear hy hbn hc0 hln
      go_wp2_with fail
      go_region_held3 (fun w' => w'.cell? ⟨b, off + k, none⟩ = some (.int .i64 (y : Nat)) ∧ w'.cell? ⟨w.heap.size, 0, none⟩ = some (.int .i64 s) ∧ w'.cell? ⟨w.heap.size, 1, none⟩ = some (.slice p xs.length c))
        (first | exact ⟨hc, m0, m1⟩ | exact ⟨cellStore1 hc (by omega), cellStore1 m0 (by omega), cellStore1 m1 (by omega)⟩)
        (first
          | (go_at_call 67; (with_reducible refine (sPoss_any _ _ _ _ (upSet ts ts.length k) _ (ReadsK.drew hxr) hl16 h16b hal).mono ?_); rintro e w3 ⟨rfl, hb3⟩; (replace hb3 := undrew hb3); (replace hc := cellKeep hb3 hc); (replace m0 := cellKeep hb3 m0); (replace m1 := cellKeep hb3 m1); (replace ho := ho.later hb3); (replace hb := hb.thenB hb3); (have z3 := hb3.size); (obtain ⟨q1, q2⟩ := ho.cellAt HLN.out y hyn); (have HST := Lib.hid (ho.storedAt HLN.out y (possS (upSet ts ts.length k) xs))); clear hb3))
      all_goals go_wp2
      all_goals exact ⟨⟨k + 1, by omega, by go_num, rfl, by rw [hsl2.out]; exact HST.out, cellStore1 m0 (by omega), cellStore1 m1 (by omega), hb.setCell (Nat.le_refl _) _, by first | (simp; done) | (simp; omega)⟩, by first | (simp [intOf]; done) | (simp [intOf]; omega)⟩
    · have h3 : k = ts.length := by omega
      subst h3
      have hlt3 : ¬ ((ts.length : Int) < s) := by have := HL.out; omega
      have HOO := Lib.hid ho
      clear ho
      go_wp2
      go_ret2
      exact ⟨_, by rw [hG.out]; rfl, by rw [hL.out, ouP]; exact HOO.out.mono (by have := bW.size; omega), bW.thenB hb⟩

end Go.Proofs.Ytmbipmdflbddbaa
