/- The least and the greatest mean of gains: both packages. -/
import Derived.Test.YtomndhkpmfdeiaaV9
import Derived.Test.YtomndhkpmfdeiaaO8
import Derived.Test.YtomndhkpmfdeiaaK7
set_option linter.unusedVariables false
set_option linter.unusedSimpArgs false
namespace Go.Proofs.Ytomndhkpmfdeiaa
open Go.RowKit

/-- The gain chosen among those of the answers of a set before k, and whether there is one. -/
def chsTo (F : Int → Int → Int) (gs : List Int) (a : Nat) (k : Nat) : Bool × Int := (List.range k).foldl (fun o x => if a.testBit x then (true, if o.1 then F o.2 (nth gs x) else nth gs x) else o) (false, 0)

def chsS (F : Int → Int → Int) (gs : List Int) (a k : Nat) : Bool := (chsTo F gs a k).1
def chsV (F : Int → Int → Int) (gs : List Int) (a k : Nat) : Int := (chsTo F gs a k).2

theorem chs_no {F : Int → Int → Int} {gs : List Int} {a k : Nat} (h : a.testBit k = false) : chsS F gs a (k + 1) = chsS F gs a k ∧ chsV F gs a (k + 1) = chsV F gs a k := by
  simp [chsS, chsV, chsTo, List.range_succ, h]

theorem chs_first {F : Int → Int → Int} {gs : List Int} {a k : Nat} (h : a.testBit k = true) (h2 : chsS F gs a k = false) : chsS F gs a (k + 1) = true ∧ chsV F gs a (k + 1) = nth gs k := by
  unfold chsS at h2
  constructor
  · simp [chsS, chsTo, List.range_succ, h]
  · simp only [chsV, chsTo, List.range_succ, List.foldl_append, List.foldl_cons, List.foldl_nil, h, if_true]
    rw [show ((List.range k).foldl (fun o x => if a.testBit x then (true, if o.1 then F o.2 (nth gs x) else nth gs x) else o) (false, 0)).1 = false from h2]
    rfl

theorem chs_next {F : Int → Int → Int} {gs : List Int} {a k : Nat} (h : a.testBit k = true) (h2 : chsS F gs a k = true) : chsS F gs a (k + 1) = true ∧ chsV F gs a (k + 1) = F (chsV F gs a k) (nth gs k) := by
  unfold chsS at h2
  constructor
  · simp [chsS, chsTo, List.range_succ, h]
  · simp only [chsV, chsTo, List.range_succ, List.foldl_append, List.foldl_cons, List.foldl_nil, h, if_true]
    rw [show ((List.range k).foldl (fun o x => if a.testBit x then (true, if o.1 then F o.2 (nth gs x) else nth gs x) else o) (false, 0)).1 = true from h2]
    rfl

theorem chs_zero (F : Int → Int → Int) (gs : List Int) (k : Nat) : chsS F gs 0 k = false ∧ chsV F gs 0 k = 0 := by
  induction k with
  | zero => exact ⟨rfl, rfl⟩
  | succ k ih => have := chs_no (F := F) (gs := gs) (a := 0) (k := k) (by simp); rw [this.1, this.2]; exact ih

/-- A choice that takes one of both. -/
def picks (F : Int → Int → Int) : Prop := ∀ x y, F x y = x ∨ F x y = y

theorem chs_bd {F : Int → Int → Int} (hF : picks F) {gs : List Int} (h : allB (-1000) 1000 gs = true) (a : Nat) : ∀ k, k ≤ gs.length → -1000 ≤ chsV F gs a k ∧ chsV F gs a k ≤ 1000 := by
  intro k
  induction k with
  | zero => intro _; show -1000 ≤ (0 : Int) ∧ (0 : Int) ≤ 1000; omega
  | succ k ih =>
    intro hk
    have ih := ih (by omega)
    have hg := allB_nth h k (by omega)
    cases ht : a.testBit k
    · rw [(chs_no ht).2]; exact ih
    · cases hs : chsS F gs a k
      · rw [(chs_first ht hs).2]; exact hg
      · rw [(chs_next ht hs).2]
        rcases hF (chsV F gs a k) (nth gs k) with e | e <;> rw [e]
        · exact ih
        · exact hg

/-- The sum of the parts of the sets before k times the gains chosen. -/
def gmTo (F : Int → Int → Int) (gs xs : List Int) (k : Nat) : Int := (List.range k).foldl (fun s a => s + nth xs a * chsV F gs a gs.length) 0

theorem gmTo_succ (F : Int → Int → Int) (gs xs : List Int) (k : Nat) : gmTo F gs xs (k + 1) = gmTo F gs xs k + nth xs k * chsV F gs k gs.length := by simp [gmTo, List.range_succ]

theorem gmTo_one (F : Int → Int → Int) (gs xs : List Int) : gmTo F gs xs 1 = 0 := by rw [gmTo_succ, (chs_zero F gs gs.length).2]; simp [gmTo]

theorem prodG (x y : Int) (h0 : 0 ≤ x) (h1 : x ≤ 1000000) (h2 : -1000 ≤ y) (h3 : y ≤ 1000) : -1000000000 ≤ x * y ∧ x * y ≤ 1000000000 := by
  have a1 : x * y ≤ x * 1000 := Int.mul_le_mul_of_nonneg_left h3 h0
  have a2 : x * (-1000) ≤ x * y := Int.mul_le_mul_of_nonneg_left h2 h0
  omega

theorem gmTo_bd {F : Int → Int → Int} (hF : picks F) {gs xs : List Int} (h : allB (-1000) 1000 gs = true) (hx : allB 0 1000000 xs = true) : ∀ k : Nat, k ≤ xs.length → -1000000000 * (k : Int) ≤ gmTo F gs xs k ∧ gmTo F gs xs k ≤ 1000000000 * (k : Int) := by
  intro k
  induction k with
  | zero => intro _; show -1000000000 * ((0 : Nat) : Int) ≤ (0 : Int) ∧ (0 : Int) ≤ 1000000000 * ((0 : Nat) : Int); omega
  | succ k ih =>
    intro hk
    have ih := ih (by omega)
    obtain ⟨c1, c2⟩ := chs_bd hF h k gs.length (Nat.le_refl _)
    obtain ⟨d1, d2⟩ := allB_nth hx k (by omega)
    have := prodG _ _ d1 d2 c1 c2
    rw [gmTo_succ]
    omega

/-- The reference's least gain. -/
def leaTo (gs : List Int) (a : Nat) (k : Nat) : Int := (List.range k).foldl (fun n x => if a.testBit x then min n (nth gs x) else n) 1000

theorem leaTo_succ (gs : List Int) (a k : Nat) : leaTo gs a (k + 1) = if a.testBit k then min (leaTo gs a k) (nth gs k) else leaTo gs a k := by simp [leaTo, List.range_succ]

theorem lea_chs {gs : List Int} (h : allB (-1000) 1000 gs = true) (a : Nat) : ∀ k, k ≤ gs.length → (chsS min gs a k = true → chsV min gs a k = leaTo gs a k) ∧ (chsS min gs a k = false → leaTo gs a k = 1000) := by
  intro k
  induction k with
  | zero => intro _; exact ⟨fun h => (by cases h), fun _ => rfl⟩
  | succ k ih =>
    intro hk
    obtain ⟨i1, i2⟩ := ih (by omega)
    have hg := allB_nth h k (by omega)
    rw [leaTo_succ]
    cases ht : a.testBit k
    · rw [(chs_no ht).1, (chs_no ht).2]; exact ⟨i1, i2⟩
    · cases hs : chsS min gs a k
      · rw [(chs_first ht hs).1, (chs_first ht hs).2, i2 hs]
        refine ⟨fun _ => ?_, fun h => (by cases h)⟩
        simp only [if_true]; omega
      · rw [(chs_next ht hs).1, (chs_next ht hs).2, i1 hs]
        exact ⟨fun _ => by simp, fun h => (by cases h)⟩

theorem chs_some {F : Int → Int → Int} {gs : List Int} {a : Nat} : ∀ k x, x < k → a.testBit x = true → chsS F gs a k = true := by
  intro k
  induction k with
  | zero => intro x hx; omega
  | succ k ih =>
    intro x hx ht
    cases hk : a.testBit k
    · rw [(chs_no hk).1]
      refine ih x ?_ ht
      rcases Nat.lt_or_ge x k with h | h
      · exact h
      · have : x = k := by omega
        subst this; rw [hk] at ht; cases ht
    · cases hs : chsS F gs a k
      · exact (chs_first hk hs).1
      · exact (chs_next hk hs).1

theorem some_bit : ∀ (n : Fin 5) (a : Fin 16), a.val ≠ 0 → a.val < 2 ^ n.val → (List.range n.val).any (fun x => a.val.testBit x) = true := by decide +kernel

theorem lea_val {gs : List Int} (h : allB (-1000) 1000 gs = true) (hl : gs.length ≤ 4) (a : Nat) (h0 : a ≠ 0) (ha : a < 2 ^ gs.length) (ha16 : a < 16) : leaTo gs a gs.length = chsV min gs a gs.length := by
  have h1 := some_bit ⟨gs.length, by omega⟩ ⟨a, ha16⟩ h0 ha
  rw [List.any_eq_true] at h1
  obtain ⟨x, hx, ht⟩ := h1
  exact ((lea_chs h a gs.length (Nat.le_refl _)).1 (chs_some _ x (List.mem_range.mp hx) ht)).symm

def gnB (s : Int) (gs : List Int) : Bool := decide ((gs.length : Int) = s) && allB (-1000) 1000 gs

theorem gnB_ok {s : Int} {gs : List Int} (h : gnB s gs = true) : (gs.length : Int) = s ∧ allB (-1000) 1000 gs = true := by simpa [gnB] using h

theorem badGain (x : Int) (w : World) : Calls Try.prog 66 #[.int .i64 x] w fun e w' => e = .returned (.bool (!inB x (-1000) 1000)) ∧ w = w' := by
  by_cases h : x < -1000
  · have hr : Hid ((!inB x (-1000) 1000) = true) := Lib.hid (by simp [inB]; omega)
    go_enter Try.func66, Try.ntmps66
    go_wp2
    go_ret
    exact ⟨ret_bool hr.out.symm, rfl⟩
  · have h0 : -1000 ≤ x := by omega
    by_cases h2 : 1000 < x
    · have hr : Hid ((!inB x (-1000) 1000) = true) := Lib.hid (by simp [inB]; omega)
      clear h
      go_enter Try.func66, Try.ntmps66
      go_wp2
      go_ret
      exact ⟨ret_bool hr.out.symm, rfl⟩
    · have hr : Hid ((!inB x (-1000) 1000) = false) := Lib.hid (by simp [inB]; omega)
      have h3 : x ≤ 1000 := by omega
      have HX := Lib.hid (And.intro h0 h3)
      clear h h2
      go_enter Try.func66, Try.ntmps66
      go_wp2
      go_ret
      exact ⟨ret_bool (by rw [hr.out]; have := HX.out; simp; omega), rfl⟩

/-- The first bad gain's number, or -1. -/
theorem indexGain_any (p : Option Addr) (c : Nat) (gs : List Int) (w : World) (hx : Reads w p gs) (hxm : gs.length ≤ 1048576) :
    Calls Try.prog 88 #[.slice p gs.length c, .func (Fn.func 66) #[] #[]] w fun e w' => (∃ k : Int, e = .returned (.int .i64 k) ∧ ((0 ≤ k ∧ allB (-1000) 1000 gs = false) ∨ (k < 0 ∧ allB (-1000) 1000 gs = true))) ∧ w = w' := by
  go_enter Try.func88, Try.ntmps88
  go_wp2
  go_loop [8] (fun i => ∃ k : Nat, k ≤ gs.length ∧ i = .int .i64 k ∧ ∀ j, j < k → -1000 ≤ nth gs j ∧ nth gs j ≤ 1000) (fun i => gs.length - (intOf i).toNat)
  case atStart => exact ⟨0, Nat.zero_le _, rfl, fun j hj => absurd hj (by omega)⟩
  case round =>
    obtain ⟨k, hk, rfl, hall⟩ := hrel
    have HA := Lib.hid hall
    clear hall
    by_cases hlt : k < gs.length
    · obtain ⟨b, off, rfl, hbl, hc⟩ := hx k hlt
      clear hx
      go_wp2_with fail
      refine (badGain _ _).mono ?_
      rintro e w' ⟨rfl, rfl⟩
      cases hin : inB (nth gs k) (-1000) 1000
      · have hF := Lib.hid (allB_false _ _ _ k hlt hin)
        go_wp2
        go_ret
        exact ⟨⟨_, rfl, .inl ⟨by omega, hF.out⟩⟩, rfl⟩
      · have hin2 : -1000 ≤ nth gs k ∧ nth gs k ≤ 1000 := by simpa [inB] using hin
        have HI := Lib.hid hin2
        clear hin2
        go_wp2
        exact ⟨⟨k + 1, by omega, by go_num, fun j hj => by
          by_cases e : j = k
          · subst e; exact HI.out
          · exact HA.out j (by omega)⟩, by simp [intOf]; omega⟩
    · have h2 : k = gs.length := by omega
      subst h2
      clear hx
      go_wp2
      go_ret
      exact ⟨⟨_, rfl, .inr ⟨by omega, allB_iff.mpr HA.out⟩⟩, rfl⟩

theorem containsGain_any (p : Option Addr) (c : Nat) (gs : List Int) (w : World) (hx : Reads w p gs) (hxm : gs.length ≤ 1048576) :
    Calls Try.prog 65 #[.slice p gs.length c, .func (Fn.func 66) #[] #[]] w fun e w' => e = .returned (.bool (!allB (-1000) 1000 gs)) ∧ w = w' := by
  go_enter Try.func65, Try.ntmps65
  go_wp2_with fail
  refine (indexGain_any _ _ _ _ hx hxm).mono ?_
  rintro e w' ⟨⟨k, rfl, ⟨h1, h2⟩ | ⟨h1, h2⟩⟩, rfl⟩
  · have H2 := Lib.hid h2
    clear h2
    go_wp2
    go_ret
    exact ⟨ret_bool (by rw [H2.out]; rfl), rfl⟩
  · have H2 := Lib.hid h2
    have H1 := Lib.hid h1
    clear h2
    go_wp2
    go_ret
    exact ⟨ret_bool (by rw [H2.out]; have := H1.out; first | (simp; done) | (simp; omega)), rfl⟩

set_option maxHeartbeats 1000000 in
theorem areGains_any (s : Int) (p : Option Addr) (c : Nat) (xs : List Int) (q : Option Addr) (d : Nat) (gs : List Int) (w : World) (hg : Reads w q gs) (hgm : gs.length ≤ 1048576) :
    Calls Try.prog 35 #[.agg #[.int .i64 s, .slice p xs.length c], .slice q gs.length d] w fun e w' => e = .returned (.bool (gnB s gs)) ∧ Below w.heap.size w w' := by
  obtain ⟨W, hW, bW, hsz, c0, c1⟩ := box1 w s p xs.length c
  have HW := Lib.hid hW
  have hgW := hg.below bW
  clear hW hsz hg
  by_cases hl : (gs.length : Int) = s
  · have hr : Hid (gnB s gs = allB (-1000) 1000 gs) := Lib.hid (by simp [gnB, hl])
    have hl2 : ((gs.length : Int) == s) = true := by simp [hl]
    clear hl
    go_enter Try.func35, Try.ntmps35
    go_wp2_with fail
    rw [← HW.out]
    go_wp2_with fail
    refine (containsGain_any _ _ _ _ hgW hgm).mono ?_
    rintro e w' ⟨rfl, rfl⟩
    go_wp2
    go_ret
    exact ⟨ret_bool (by rw [hr.out]), bW⟩
  · have hr : Hid (gnB s gs = false) := Lib.hid (by simp [gnB, hl])
    have hl2 : ((gs.length : Int) == s) = false := by simp [hl]
    clear hl
    go_enter Try.func35, Try.ntmps35
    go_wp2_with fail
    rw [← HW.out]
    go_wp2
    go_ret
    exact ⟨ret_bool hr.out.symm, bW⟩

set_option maxHeartbeats 1000000 in
theorem l10Gains_any (s : Int) (p : Option Addr) (c : Nat) (xs : List Int) (q : Option Addr) (d : Nat) (gs : List Int) (w : World) (hx : Reads w p xs) (hg : Reads w q gs) (hxm : xs.length ≤ 1048576) (hgm : gs.length ≤ 1048576) :
    Calls Try.prog 29 #[.agg #[.int .i64 s, .slice p xs.length c], .slice q gs.length d] w fun e w' => e = .returned (.bool (massB s xs && gnB s gs)) ∧ Below w.heap.size w w' := by
  obtain ⟨W, hW, bW, hsz, c0, c1⟩ := box1 w s p xs.length c
  have HW := Lib.hid hW
  have hgW := hg.below bW
  have hxW := hx.below bW
  clear hW hsz hg hx
  go_enter Try.func29, Try.ntmps29
  go_wp2
  rw [← HW.out]
  go_loop [5] (fun i => ∃ k : Nat, k ≤ gs.length ∧ i = .int .i64 k ∧ ∀ j, j < k → -1000 ≤ nth gs j ∧ nth gs j ≤ 1000) (fun i => gs.length - (intOf i).toNat)
  case atStart => exact ⟨0, Nat.zero_le _, rfl, fun j hj => absurd hj (by omega)⟩
  case round =>
    obtain ⟨k, hk, rfl, hall⟩ := hrel
    have HA := Lib.hid hall
    clear hall
    by_cases hlt : k < gs.length
    · obtain ⟨b, off, rfl, hbl, hc⟩ := hgW k hlt
      clear hgW
      by_cases hin : inB (nth gs k) (-1000) 1000 = true
      · have hin2 : -1000 ≤ nth gs k ∧ nth gs k ≤ 1000 := by simpa [inB] using hin
        have HI := Lib.hid hin2
        clear hin2
        go_wp2_with fail
        refine (l1In_any _ _ _ _).mono ?_
        rintro e w' ⟨rfl, rfl⟩
        go_wp2
        exact ⟨⟨k + 1, by omega, by go_num, fun j hj => by
          by_cases e : j = k
          · subst e; exact HI.out
          · exact HA.out j (by omega)⟩, by simp [intOf]; omega⟩
      · replace hin : inB (nth gs k) (-1000) 1000 = false := by simpa using hin
        have hF : Hid ((massB s xs && gnB s gs) = false) := Lib.hid (by rw [gnB, allB_false _ _ _ k hlt hin]; simp)
        go_wp2_with fail
        refine (l1In_any _ _ _ _).mono ?_
        rintro e w' ⟨rfl, rfl⟩
        go_wp2
        go_ret
        exact ⟨ret_bool hF.out.symm, bW⟩
    · have h2 : k = gs.length := by omega
      subst h2
      clear hgW
      have hr : Hid ((massB s xs && gnB s gs) = (massB s xs && ((gs.length : Int) == s))) := Lib.hid (by rw [gnB, allB_iff.mpr HA.out, cast_eqd]; simp)
      go_wp2_with fail
      refine (MassValid_any _ _ _ _ _ hxW hxm).mono ?_
      rintro e w1 ⟨rfl, hb1⟩
      have d0 := cellKeep hb1 c0
      have d1 := cellKeep hb1 c1
      by_cases hm : massB s xs = true
      · have HM := Lib.hid hm
        go_wp2
        go_ret
        exact ⟨ret_bool (by rw [hr.out, HM.out]; rfl), bW.thenB hb1⟩
      · replace hm : massB s xs = false := by simpa using hm
        have HM := Lib.hid hm
        go_wp2
        go_ret
        exact ⟨ret_bool (by rw [HM.out]; rfl), bW.thenB hb1⟩

theorem minPick : picks min := fun x y => by omega
theorem maxPick : picks max := fun x y => by omega

theorem minIn_any (a b : Int) (w : World) : Calls Try.prog 70 #[.int .i64 a, .int .i64 b] w fun e w' => e = .returned (.int .i64 (min a b)) ∧ w = w' := by
  go_enter Try.func70, Try.ntmps70
  go_wp2
  all_goals go_ret
  all_goals exact ⟨ret_int (by omega), rfl⟩

theorem maxIn_any (a b : Int) (w : World) : Calls Try.prog 71 #[.int .i64 a, .int .i64 b] w fun e w' => e = .returned (.int .i64 (max a b)) ∧ w = w' := by
  go_enter Try.func71, Try.ntmps71
  go_wp2
  all_goals go_ret
  all_goals exact ⟨ret_int (by omega), rfl⟩

theorem bit_not' (s x : Nat) (hs : s < 16) (h : x < 4) : (bits BinOp.and IntKind.i64 ((s : Int) / 2 ^ x) 1 == 0) = !s.testBit x := by
  have : ∀ (s : Fin 16) (x : Fin 4), (bits BinOp.and IntKind.i64 ((s.val : Int) / 2 ^ x.val) 1 == 0) = !s.val.testBit x.val := by decide +kernel
  exact this ⟨s, hs⟩ ⟨x, h⟩

set_option maxHeartbeats 2000000 in
theorem sumOfGains_any (fid : FuncId) (hfid : ∀ (args : Array Value) (W : World), Sem.run Try.prog (callFunc fid args) W = .ok (.enter fid args) W) (F : Int → Int → Int) (hF : picks F) (s : Int) (p : Option Addr) (c : Nat) (xs : List Int) (q : Option Addr) (d : Nat) (gs : List Int) (w : World)
    (hx : Reads w p xs) (hg : Reads w q gs) (hxm : xs.length ≤ 16) (hgm : gs.length ≤ 4) (hal : allB 0 1000000 xs = true) (hga : allB (-1000) 1000 gs = true)
    (hcl : Hid (∀ (a b : Int) (wr : World), Calls Try.prog fid #[.int .i64 a, .int .i64 b] wr fun e w' => e = .returned (.int .i64 (F a b)) ∧ wr = w')) :
    Calls Try.prog 69 #[.agg #[.int .i64 s, .slice p xs.length c], .slice q gs.length d, .func (Fn.func fid) #[] #[]] w fun e w' => e = .returned (.int .i64 (gmTo F gs xs xs.length)) ∧ Below w.heap.size w w' := by
  obtain ⟨W, hW, bW, hsz, c0, c1⟩ := box1 w s p xs.length c
  have HW := Lib.hid hW
  have hgW := hg.below bW
  have hxW := hx.below bW
  have HX := Lib.hid hal
  have HG := Lib.hid hga
  clear hW hsz hg hx hal hga
  go_enter Try.func69, Try.ntmps69
  go_wp2
  rw [← HW.out]
  go_loop [7, 17] (fun v i => ∃ k : Nat, k ≤ xs.length ∧ i = .int .i64 k ∧ v = .int .i64 (gmTo F gs xs k)) (fun _ i => xs.length - (intOf i).toNat)
  case atStart => exact ⟨0, Nat.zero_le _, rfl, rfl⟩
  case round =>
    obtain ⟨k, hk, rfl, rfl⟩ := hrel
    by_cases hlt : k < xs.length
    · obtain ⟨b, off, rfl, hbl, hc⟩ := hxW k hlt
      have hs := Lib.hid (gmTo_succ F gs xs k)
      have hsb := gmTo_bd hF HG.out HX.out k hk
      obtain ⟨sb1, sb2⟩ := hsb
      obtain ⟨d1, d2⟩ := allB_nth HX.out k hlt
      have hk16 : k < 16 := by omega
      clear hxW
      go_wp2_with fail
      go_loop [10, 11, 24] (fun v o i => ∃ j : Nat, j ≤ gs.length ∧ i = .int .i64 j ∧ v = .int .i64 (chsV F gs k j) ∧ o = .bool (chsS F gs k j)) (fun _ _ i => gs.length - (intOf i).toNat)
      case atStart => exact ⟨0, Nat.zero_le _, rfl, rfl, rfl⟩
      case round =>
        obtain ⟨j, hj, rfl, rfl, rfl⟩ := hrel
        by_cases hlj : j < gs.length
        · obtain ⟨b2, off2, rfl, hbl2, hc2⟩ := hgW j hlj
          have hj4 : j < 4 := by omega
          have hbn := bit_not' k j hk16 hj4
          clear hgW
          cases ht : k.testBit j
          · rw [ht] at hbn
            obtain ⟨n1, n2⟩ := chs_no (F := F) (gs := gs) ht
            have n1 := Lib.hid n1
            have n2 := Lib.hid n2
            clear ht
            go_wp2
            exact ⟨⟨j + 1, by omega, by go_num, by rw [n2.out], by rw [n1.out]⟩, by simp [intOf]; omega⟩
          · rw [ht] at hbn
            by_cases hs2 : chsS F gs k j = true
            · obtain ⟨n1, n2⟩ := chs_next (F := F) (gs := gs) ht hs2
              have n1 := Lib.hid n1
              have n2 := Lib.hid n2
              rw [hs2]
              clear ht hs2
              go_wp2_with fail
              refine (hcl.out _ _ _).mono ?_
              rintro e w' ⟨rfl, rfl⟩
              go_wp2
              exact ⟨⟨j + 1, by omega, by go_num, by rw [n2.out], by rw [n1.out]⟩, by simp [intOf]; omega⟩
            · replace hs2 : chsS F gs k j = false := by simpa using hs2
              obtain ⟨n1, n2⟩ := chs_first (F := F) (gs := gs) ht hs2
              have n1 := Lib.hid n1
              have n2 := Lib.hid n2
              rw [hs2]
              clear ht hs2
              go_wp2
              exact ⟨⟨j + 1, by omega, by go_num, by rw [n2.out], by rw [n1.out]⟩, by simp [intOf]; omega⟩
        · have h1 : j = gs.length := by omega
          subst h1
          obtain ⟨e1, e2⟩ := chs_bd hF HG.out k gs.length (Nat.le_refl _)
          obtain ⟨f1, f2⟩ := prodG _ _ d1 d2 e1 e2
          have hw1 : wrap64 (nth xs k * chsV F gs k gs.length) = nth xs k * chsV F gs k gs.length := IntWalk.wrap64_in _ ⟨by omega, by omega⟩
          have hkk : (k : Int) < 16 := by omega
          clear hgW
          go_wp2
          exact ⟨⟨k + 1, by omega, by go_num, by rw [hs.out]⟩, by simp [intOf]; omega⟩
    · have h1 : k = xs.length := by omega
      subst h1
      clear hxW hgW
      go_wp2
      go_ret
      exact ⟨rfl, bW⟩

theorem lowestSum_any (s : Int) (p : Option Addr) (c : Nat) (xs : List Int) (q : Option Addr) (d : Nat) (gs : List Int) (w : World)
    (hx : Reads w p xs) (hg : Reads w q gs) (hxm : xs.length ≤ 16) (hgm : gs.length ≤ 4) (hal : allB 0 1000000 xs = true) (hga : allB (-1000) 1000 gs = true) :
    Calls Try.prog 37 #[.agg #[.int .i64 s, .slice p xs.length c], .slice q gs.length d] w fun e w' => e = .returned (.int .i64 (gmTo min gs xs xs.length)) ∧ Below w.heap.size w w' := by
  obtain ⟨W, hW, bW, hsz, c0, c1⟩ := box1 w s p xs.length c
  have HW := Lib.hid hW
  have hgW := hg.below bW
  have hxW := hx.below bW
  clear hW hsz hg hx
  go_enter Try.func37, Try.ntmps37
  go_wp2_with fail
  rw [← HW.out]
  refine (sumOfGains_any 70 (fun _ _ => by kernel_rfl) min minPick _ _ _ _ _ _ _ _ hxW hgW hxm hgm hal hga (Lib.hid fun a b wr => minIn_any a b wr)).mono ?_
  rintro e w1 ⟨rfl, hb1⟩
  go_wp2
  go_ret
  exact ⟨rfl, bW.thenB hb1⟩

theorem highestSum_any (s : Int) (p : Option Addr) (c : Nat) (xs : List Int) (q : Option Addr) (d : Nat) (gs : List Int) (w : World)
    (hx : Reads w p xs) (hg : Reads w q gs) (hxm : xs.length ≤ 16) (hgm : gs.length ≤ 4) (hal : allB 0 1000000 xs = true) (hga : allB (-1000) 1000 gs = true) :
    Calls Try.prog 40 #[.agg #[.int .i64 s, .slice p xs.length c], .slice q gs.length d] w fun e w' => e = .returned (.int .i64 (gmTo max gs xs xs.length)) ∧ Below w.heap.size w w' := by
  obtain ⟨W, hW, bW, hsz, c0, c1⟩ := box1 w s p xs.length c
  have HW := Lib.hid hW
  have hgW := hg.below bW
  have hxW := hx.below bW
  clear hW hsz hg hx
  go_enter Try.func40, Try.ntmps40
  go_wp2_with fail
  rw [← HW.out]
  refine (sumOfGains_any 71 (fun _ _ => by kernel_rfl) max maxPick _ _ _ _ _ _ _ _ hxW hgW hxm hgm hal hga (Lib.hid fun a b wr => maxIn_any a b wr)).mono ?_
  rintro e w1 ⟨rfl, hb1⟩
  go_wp2
  go_ret
  exact ⟨rfl, bW.thenB hb1⟩

theorem l10Least_any (a : Nat) (q : Option Addr) (d : Nat) (gs : List Int) (w : World) (hg : Reads w q gs) (hgm : gs.length ≤ 4) (ha : a < 16) :
    Calls Try.prog 31 #[.int .i64 a, .slice q gs.length d] w fun e w' => e = .returned (.int .i64 (leaTo gs a gs.length)) ∧ w = w' := by
  go_enter Try.func31, Try.ntmps31
  go_wp2
  go_loop [5, 6] (fun v i => ∃ k : Nat, k ≤ gs.length ∧ i = .int .i64 k ∧ v = .int .i64 (leaTo gs a k)) (fun _ i => gs.length - (intOf i).toNat)
  case atStart => exact ⟨0, Nat.zero_le _, rfl, rfl⟩
  case round =>
    obtain ⟨k, hk, rfl, rfl⟩ := hrel
    by_cases hlt : k < gs.length
    · obtain ⟨b, off, rfl, hbl, hc⟩ := hg k hlt
      have hs := Lib.hid (leaTo_succ gs a k)
      have hk4 : k < 4 := by omega
      clear hg
      by_cases ht : a.testBit k = true
      · have hs2 : Hid (leaTo gs a (k + 1) = min (leaTo gs a k) (nth gs k)) := Lib.hid (by rw [hs.out, ht]; rfl)
        go_wp2_with fail
        refine (l1Has_any a k _ ha hk4).mono ?_
        rintro e w' ⟨rfl, rfl⟩
        go_wp2
        all_goals exact ⟨⟨k + 1, by omega, by go_num, by rw [hs2.out]; exact congrArg (Value.int .i64) (by first | omega | (split <;> omega))⟩, by simp [intOf]; omega⟩
      · replace ht : a.testBit k = false := by simpa using ht
        have hs2 : Hid (leaTo gs a (k + 1) = leaTo gs a k) := Lib.hid (by rw [hs.out, ht]; rfl)
        go_wp2_with fail
        refine (l1Has_any a k _ ha hk4).mono ?_
        rintro e w' ⟨rfl, rfl⟩
        go_wp2
        exact ⟨⟨k + 1, by omega, by go_num, by rw [hs2.out]⟩, by simp [intOf]; omega⟩
    · have h1 : k = gs.length := by omega
      subst h1
      clear hg
      go_wp2
      go_ret
      exact ⟨rfl, rfl⟩

theorem l10Least_c (a : Nat) (q : Option Addr) (d : Nat) (gs : List Int) (w : World) (hg : Reads w q gs) (hgm : gs.length ≤ 4) (ha : a < 16) (hga : allB (-1000) 1000 gs = true) (h0 : a ≠ 0) (h2 : a < 2 ^ gs.length) :
    Calls Try.prog 31 #[.int .i64 a, .slice q gs.length d] w fun e w' => e = .returned (.int .i64 (chsV min gs a gs.length)) ∧ w = w' := by
  rw [← lea_val hga hgm a h0 h2 ha]
  exact l10Least_any a q d gs w hg hgm ha

def lmG (s : Int) (xs gs : List Int) : Bool := normB s xs && gnB s gs

theorem normB_mass {s : Int} {xs : List Int} (h : normB s xs = true) : massB s xs = true := by simp only [normB, Bool.and_eq_true] at h; exact h.1

theorem whole_pos {s : Int} {xs : List Int} (h : MassOk s xs) : ¬ sumL xs = 0 := by have := h.sum1; omega

set_option maxHeartbeats 4000000 in
theorem iLowestMean_any (s : Int) (p : Option Addr) (c : Nat) (xs : List Int) (q : Option Addr) (d : Nat) (gs : List Int) (w : World) (hx : Reads w p xs) (hg : Reads w q gs) (hxm : xs.length ≤ 1048576) (hgm : gs.length ≤ 1048576) :
    Calls Try.prog 12 #[.agg #[.int .i64 s, .slice p xs.length c], .slice q gs.length d] w fun e w' => e = .returned (.tuple #[.agg #[.int .i64 (fN (lmG s xs gs) (gmTo min gs xs xs.length) (sumL xs)), .int .i64 (fD (lmG s xs gs) (gmTo min gs xs xs.length) (sumL xs))], .bool (fOk (lmG s xs gs) (gmTo min gs xs xs.length) (sumL xs))]) ∧ Below w.heap.size w w' := by
  obtain ⟨W, hW⟩ : ∃ W : World, W = ((w.alloc (.cells #[.int .i64 s, .slice p xs.length c] 30)).alloc (.cells #[.int .i64 0, .int .i64 0] 27)) := ⟨_, rfl⟩
  have bW : Below w.heap.size w W := by subst hW; exact ((belowAlloc _ _).thenB (belowAlloc _ _))
  have hsz : W.heap.size = w.heap.size + 2 := by subst hW; simp
  have b0 : VarInv W (w.heap.size) (s) (.slice p xs.length c) := by
    subst hW
    have h := VarInv.made w (s) (.slice p xs.length c) 30
    exact (h.later (belowAlloc _ _))
  have bR : VarInv W (w.heap.size + 1) (0) (.int .i64 0) := by
    subst hW
    have h := VarInv.made (w.alloc (.cells #[.int .i64 s, .slice p xs.length c] 30)) (0) (.int .i64 0) 27
    rw [show (w.alloc (.cells #[.int .i64 s, .slice p xs.length c] 30)).heap.size = w.heap.size + 1 by simp] at h
    exact h
  have HWW := Lib.hid hW
  have HSZ := Lib.hid hsz
  clear hW hsz
  by_cases h1 : normB s xs = true
  rotate_left
  · have h1 : normB s xs = false := by simpa using h1
    obtain ⟨eN, eD, eO⟩ := fNo (g := lmG s xs gs) (num := gmTo min gs xs xs.length) (den := sumL xs) (by simp [lmG, h1])
    have eN := Lib.hid eN
    have eD := Lib.hid eD
    have eO := Lib.hid eO
    go_enter Try.func12, Try.ntmps12
    go_wp2_with fail
    rw [← HWW.out]
    refine (isNormal_any _ _ _ _ _ (hx.below bW) hxm).mono ?_
    rintro e w1 ⟨rfl, hb⟩
    replace b0 := b0.later hb
    have b0_0 := b0.c0
    have b0_1 := b0.c1
    replace bR := bR.later hb
    have bR_0 := bR.c0
    have bR_1 := bR.c1
    replace bW := bW.thenB hb
    have z1 := hb.size
    clear hb
    have s0 := bR.c0
    have s1 := bR.c1
    have s2 := bR.f0
    have s3 := bR.f1
    go_wp2
    refine bodyPost_ret (v := .tuple #[.agg #[.int .i64 (0), .int .i64 (0)], .bool (false)]) (by simp [results, Try.results12, go_sem, s0, s1, s2, s3]) rfl ⟨by rw [eN.out, eD.out, eO.out], ?_⟩
    exact ((bW).setCell (by show _ ≤ w.heap.size + 1; omega) _).setCell (by show _ ≤ w.heap.size + 1; omega) _
  by_cases h2 : gnB s gs = true
  rotate_left
  · have h2 : gnB s gs = false := by simpa using h2
    obtain ⟨eN, eD, eO⟩ := fNo (g := lmG s xs gs) (num := gmTo min gs xs xs.length) (den := sumL xs) (by simp [lmG, h2])
    have eN := Lib.hid eN
    have eD := Lib.hid eD
    have eO := Lib.hid eO
    go_enter Try.func12, Try.ntmps12
    go_wp2_with fail
    rw [← HWW.out]
    refine (isNormal_any _ _ _ _ _ (hx.below bW) hxm).mono ?_
    rintro e w1 ⟨rfl, hb⟩
    replace b0 := b0.later hb
    have b0_0 := b0.c0
    have b0_1 := b0.c1
    replace bR := bR.later hb
    have bR_0 := bR.c0
    have bR_1 := bR.c1
    replace bW := bW.thenB hb
    have z1 := hb.size
    clear hb
    go_wp2_with fail
    refine (areGains_any _ _ _ xs _ _ gs _ (hg.below bW) hgm).mono ?_
    rintro e w2 ⟨rfl, hb⟩
    clear b0_0 b0_1 bR_0 bR_1
    replace b0 := b0.later hb
    have b0_0 := b0.c0
    have b0_1 := b0.c1
    replace bR := bR.later hb
    have bR_0 := bR.c0
    have bR_1 := bR.c1
    replace bW := bW.thenB hb
    have z2 := hb.size
    clear hb
    have s0 := bR.c0
    have s1 := bR.c1
    have s2 := bR.f0
    have s3 := bR.f1
    go_wp2
    refine bodyPost_ret (v := .tuple #[.agg #[.int .i64 (0), .int .i64 (0)], .bool (false)]) (by simp [results, Try.results12, go_sem, s0, s1, s2, s3]) rfl ⟨by rw [eN.out, eD.out, eO.out], ?_⟩
    exact ((bW).setCell (by show _ ≤ w.heap.size + 1; omega) _).setCell (by show _ ≤ w.heap.size + 1; omega) _
  obtain ⟨eN, eD, eO⟩ := fYes (g := lmG s xs gs) (num := gmTo min gs xs xs.length) (den := sumL xs) (by simp [lmG, h1, h2])
  have hk : MassOk s xs := massB_ok (normB_mass h1)
  obtain ⟨g1, g2⟩ := gnB_ok h2
  have eN := Lib.hid eN
  have eD := Lib.hid eD
  have eO := Lib.hid eO
  have k1 := hk.s1
  have k4 := hk.s4
  have HK := Lib.hid hk
  have hx16 := hk.l16
  have hal := hk.all
  have hg4 : gs.length ≤ 4 := by omega
  obtain ⟨n1, n2⟩ := gmTo_bd minPick g2 hal xs.length (Nat.le_refl _)
  have s1 := hk.sum1
  have s2 := hk.sum2
  have hz0 := whole_pos hk
  have HG2 := Lib.hid g2
  clear hk g1 g2
  go_enter Try.func12, Try.ntmps12
  go_wp2_with fail
  rw [← HWW.out]
  refine (isNormal_any _ _ _ _ _ (hx.below bW) hxm).mono ?_
  rintro e w1 ⟨rfl, hb⟩
  replace b0 := b0.later hb
  have b0_0 := b0.c0
  have b0_1 := b0.c1
  replace bR := bR.later hb
  have bR_0 := bR.c0
  have bR_1 := bR.c1
  replace bW := bW.thenB hb
  have z1 := hb.size
  clear hb
  go_wp2_with fail
  refine (areGains_any _ _ _ xs _ _ gs _ (hg.below bW) hgm).mono ?_
  rintro e w2 ⟨rfl, hb⟩
  clear b0_0 b0_1 bR_0 bR_1
  replace b0 := b0.later hb
  have b0_0 := b0.c0
  have b0_1 := b0.c1
  replace bR := bR.later hb
  have bR_0 := bR.c0
  have bR_1 := bR.c1
  replace bW := bW.thenB hb
  have z2 := hb.size
  clear hb
  go_wp2_with fail
  have tk2_0 : True := trivial
  have tk3_1 : True := trivial
  have tk4_2 : True := trivial
  go_region_held3 (fun w' => w'.cell? ⟨w.heap.size, 0, none⟩ = some (.int .i64 s) ∧ w'.cell? ⟨w.heap.size, 1, none⟩ = some (.slice p xs.length c))
    (first | exact ⟨b0_0, b0_1⟩ | exact ⟨cellStore2 b0_0 (by omega), cellStore2 b0_1 (by omega)⟩)
    (first
      | (go_at_call 37; have _t := tk2_0; (with_reducible refine (lowestSum_any _ _ _ xs _ _ gs _ (by first | exact hx.below bW | exact ReadsK.drew (hx.below bW)) (by first | exact hg.below bW | exact ReadsK.drew (hg.below bW)) hx16 hg4 hal HG2.out).mono ?_); rintro e w3 ⟨rfl, hb⟩; (replace hb := undrew hb); clear b0_0 b0_1 bR_0 bR_1; (replace b0 := b0.later hb); (have b0_0 := b0.c0); (have b0_1 := b0.c1); (replace bR := bR.later hb); (have bR_0 := bR.c0); (have bR_1 := bR.c1); (replace bW := bW.thenB hb); (have z3 := hb.size); clear hb; clear tk2_0 _t)
      | (go_at_call 38; have _t := tk3_1; (with_reducible refine (wholeOf_any s _ _ xs _ (by first | exact hx.below bW | exact ReadsK.drew (hx.below bW)) (by omega) hal).mono ?_); rintro e w4 ⟨rfl, hb⟩; clear b0_0 b0_1 bR_0 bR_1; (replace b0 := b0.later hb); (have b0_0 := b0.c0); (have b0_1 := b0.c1); (replace bR := bR.later hb); (have bR_0 := bR.c0); (have bR_1 := bR.c1); (replace bW := bW.thenB hb); (have z4 := hb.size); clear hb; clear tk3_1 _t)
      | (go_at_call 36; have _t := tk4_2; (with_reducible refine (lowest_any (gmTo min gs xs xs.length) (sumL xs) _ (by omega) (by omega) (by omega) (by omega) hz0).mono ?_); rintro e w5 ⟨rfl, hb⟩; clear b0_0 b0_1 bR_0 bR_1; (replace b0 := b0.later hb); (have b0_0 := b0.c0); (have b0_1 := b0.c1); (replace bR := bR.later hb); (have bR_0 := bR.c0); (have bR_1 := bR.c1); (replace bW := bW.thenB hb); (have z5 := hb.size); clear hb; (have s0 := bR.c0); (have s1 := bR.c1); (have s2 := bR.f0); (have s3 := bR.f1); clear tk4_2 _t))
  go_wp2
  refine bodyPost_ret (v := .tuple #[.agg #[.int .i64 (lowN (gmTo min gs xs xs.length) (sumL xs)), .int .i64 (lowD (gmTo min gs xs xs.length) (sumL xs))], .bool (lowOk (gmTo min gs xs xs.length) (sumL xs))]) (by simp [results, Try.results12, go_sem, s0, s1, s2, s3]) rfl ⟨by rw [eN.out, eD.out, eO.out], ?_⟩
  exact ((bW).setCell (by show _ ≤ w.heap.size + 1; omega) _).setCell (by show _ ≤ w.heap.size + 1; omega) _

set_option maxHeartbeats 4000000 in
theorem sLowestMean_any (s : Int) (p : Option Addr) (c : Nat) (xs : List Int) (q : Option Addr) (d : Nat) (gs : List Int) (w : World) (hx : Reads w p xs) (hg : Reads w q gs) (hxm : xs.length ≤ 1048576) (hgm : gs.length ≤ 1048576) :
    Calls Try.prog 9 #[.agg #[.int .i64 s, .slice p xs.length c], .slice q gs.length d] w fun e w' => e = .returned (.tuple #[.agg #[.int .i64 (fN (lmG s xs gs) (gmTo min gs xs xs.length) (sumL xs)), .int .i64 (fD (lmG s xs gs) (gmTo min gs xs xs.length) (sumL xs))], .bool (fOk (lmG s xs gs) (gmTo min gs xs xs.length) (sumL xs))]) ∧ Below w.heap.size w w' := by
  obtain ⟨W, hW⟩ : ∃ W : World, W = ((w.alloc (.cells #[.int .i64 s, .slice p xs.length c] 30)).alloc (.cells #[.int .i64 0, .int .i64 0] 27)) := ⟨_, rfl⟩
  have bW : Below w.heap.size w W := by subst hW; exact ((belowAlloc _ _).thenB (belowAlloc _ _))
  have hsz : W.heap.size = w.heap.size + 2 := by subst hW; simp
  have b0 : VarInv W (w.heap.size) (s) (.slice p xs.length c) := by
    subst hW
    have h := VarInv.made w (s) (.slice p xs.length c) 30
    exact (h.later (belowAlloc _ _))
  have bR : VarInv W (w.heap.size + 1) (0) (.int .i64 0) := by
    subst hW
    have h := VarInv.made (w.alloc (.cells #[.int .i64 s, .slice p xs.length c] 30)) (0) (.int .i64 0) 27
    rw [show (w.alloc (.cells #[.int .i64 s, .slice p xs.length c] 30)).heap.size = w.heap.size + 1 by simp] at h
    exact h
  have HWW := Lib.hid hW
  have HSZ := Lib.hid hsz
  clear hW hsz
  by_cases h2' : (massB s xs && gnB s gs) = true
  rotate_left
  · have h2' : (massB s xs && gnB s gs) = false := by simpa using h2'
    have hgf : lmG s xs gs = false := by
      by_cases h : normB s xs = true
      · rw [normB_mass h, Bool.true_and] at h2'; simp [lmG, h2']
      · simp [lmG, h]
    obtain ⟨eN, eD, eO⟩ := fNo (g := lmG s xs gs) (num := gmTo min gs xs xs.length) (den := sumL xs) (hgf)
    have eN := Lib.hid eN
    have eD := Lib.hid eD
    have eO := Lib.hid eO
    go_enter Try.func9, Try.ntmps9
    go_wp2_with fail
    rw [← HWW.out]
    refine (l10Gains_any _ _ _ xs _ _ gs _ (hx.below bW) (hg.below bW) hxm hgm).mono ?_
    rintro e w1 ⟨rfl, hb⟩
    replace b0 := b0.later hb
    have b0_0 := b0.c0
    have b0_1 := b0.c1
    replace bR := bR.later hb
    have bR_0 := bR.c0
    have bR_1 := bR.c1
    replace bW := bW.thenB hb
    have z1 := hb.size
    clear hb
    have s0 := bR.c0
    have s1 := bR.c1
    have s2 := bR.f0
    have s3 := bR.f1
    go_wp2
    refine bodyPost_ret (v := .tuple #[.agg #[.int .i64 (0), .int .i64 (0)], .bool (false)]) (by simp [results, Try.results9, go_sem, s0, s1, s2, s3]) rfl ⟨by rw [eN.out, eD.out, eO.out], ?_⟩
    exact ((bW).setCell (by show _ ≤ w.heap.size + 1; omega) _).setCell (by show _ ≤ w.heap.size + 1; omega) _
  have h2 : gnB s gs = true := by simp only [Bool.and_eq_true] at h2'; exact h2'.2
  by_cases h1 : normB s xs = true
  rotate_left
  · have h1 : normB s xs = false := by simpa using h1
    clear h2
    obtain ⟨eN, eD, eO⟩ := fNo (g := lmG s xs gs) (num := gmTo min gs xs xs.length) (den := sumL xs) (by simp [lmG, h1])
    have eN := Lib.hid eN
    have eD := Lib.hid eD
    have eO := Lib.hid eO
    go_enter Try.func9, Try.ntmps9
    go_wp2_with fail
    rw [← HWW.out]
    refine (l10Gains_any _ _ _ xs _ _ gs _ (hx.below bW) (hg.below bW) hxm hgm).mono ?_
    rintro e w1 ⟨rfl, hb⟩
    replace b0 := b0.later hb
    have b0_0 := b0.c0
    have b0_1 := b0.c1
    replace bR := bR.later hb
    have bR_0 := bR.c0
    have bR_1 := bR.c1
    replace bW := bW.thenB hb
    have z1 := hb.size
    clear hb
    go_wp2_with fail
    refine (IsNormal_any _ _ _ _ _ (hx.below bW) hxm).mono ?_
    rintro e w2 ⟨rfl, hb⟩
    clear b0_0 b0_1 bR_0 bR_1
    replace b0 := b0.later hb
    have b0_0 := b0.c0
    have b0_1 := b0.c1
    replace bR := bR.later hb
    have bR_0 := bR.c0
    have bR_1 := bR.c1
    replace bW := bW.thenB hb
    have z2 := hb.size
    clear hb
    have s0 := bR.c0
    have s1 := bR.c1
    have s2 := bR.f0
    have s3 := bR.f1
    go_wp2
    refine bodyPost_ret (v := .tuple #[.agg #[.int .i64 (0), .int .i64 (0)], .bool (false)]) (by simp [results, Try.results9, go_sem, s0, s1, s2, s3]) rfl ⟨by rw [eN.out, eD.out, eO.out], ?_⟩
    exact ((bW).setCell (by show _ ≤ w.heap.size + 1; omega) _).setCell (by show _ ≤ w.heap.size + 1; omega) _
  obtain ⟨eN, eD, eO⟩ := fYes (g := lmG s xs gs) (num := gmTo min gs xs xs.length) (den := sumL xs) (by simp [lmG, h1, h2])
  have hk : MassOk s xs := massB_ok (normB_mass h1)
  obtain ⟨g1, g2⟩ := gnB_ok h2
  have eN := Lib.hid eN
  have eD := Lib.hid eD
  have eO := Lib.hid eO
  have k1 := hk.s1
  have k4 := hk.s4
  have HK := Lib.hid hk
  have hx16 := hk.l16
  have hal := hk.all
  have hg4 : gs.length ≤ 4 := by omega
  obtain ⟨n1, n2⟩ := gmTo_bd minPick g2 hal xs.length (Nat.le_refl _)
  have s1 := hk.sum1
  have s2 := hk.sum2
  have hz0 := whole_pos hk
  have HG2 := Lib.hid g2
  have HPW : Hid (xs.length = 2 ^ gs.length) := Lib.hid (by have h := hk.len; rw [← g1] at h; simp [pow2] at h; exact_mod_cast h)
  clear h2
  clear hk g1 g2
  go_enter Try.func9, Try.ntmps9
  go_wp2_with fail
  rw [← HWW.out]
  refine (l10Gains_any _ _ _ xs _ _ gs _ (hx.below bW) (hg.below bW) hxm hgm).mono ?_
  rintro e w1 ⟨rfl, hb⟩
  replace b0 := b0.later hb
  have b0_0 := b0.c0
  have b0_1 := b0.c1
  replace bR := bR.later hb
  have bR_0 := bR.c0
  have bR_1 := bR.c1
  replace bW := bW.thenB hb
  have z1 := hb.size
  clear hb
  go_wp2_with fail
  refine (IsNormal_any _ _ _ _ _ (hx.below bW) hxm).mono ?_
  rintro e w2 ⟨rfl, hb⟩
  clear b0_0 b0_1 bR_0 bR_1
  replace b0 := b0.later hb
  have b0_0 := b0.c0
  have b0_1 := b0.c1
  replace bR := bR.later hb
  have bR_0 := bR.c0
  have bR_1 := bR.c1
  replace bW := bW.thenB hb
  have z2 := hb.size
  clear hb
  go_wp2_with fail
  have B0 := b0
  have BR := bR
  have BW := bW
  clear b0_0 b0_1 bR_0 bR_1
  go_loopw [6, 7] (fun v i wr => ∃ k : Nat, 1 ≤ k ∧ k ≤ xs.length ∧ i = .int .i64 k ∧ v = .int .i64 (gmTo min gs xs k) ∧ Below w2.heap.size w2 wr) (fun _ i _ => xs.length - (intOf i).toNat)
  case atStart => exact ⟨1, Nat.le_refl _, by have := HPW.out; have : 0 < 2 ^ gs.length := Nat.two_pow_pos _; omega, rfl, by rw [gmTo_one], Below.refl _ _⟩
  case round =>
    obtain ⟨k, hk1, hk, rfl, rfl, hb⟩ := hrel
    have hs := hb.size
    have b0 := B0.later hb
    have bR := BR.later hb
    have hxr := (hx.below BW).below hb
    have hgr := (hg.below BW).below hb
    have bW := BW.thenB hb
    have b0_0 := b0.c0
    have b0_1 := b0.c1
    by_cases hlt : k < xs.length
    · obtain ⟨blk, off, rfl, hbl, hc⟩ := hxr k hlt
      clear hx hg
      have l0 := b0.lt
      have d0 := fun x : LaterW wr.heap.size wr => x.cell l0 b0.c0
      have d1 := fun x : LaterW wr.heap.size wr => x.cell l0 b0.c1
      have d4 := fun x : LaterW wr.heap.size wr => x.cell hbl hc
      obtain ⟨e1, e2⟩ := chs_bd minPick HG2.out k gs.length (Nat.le_refl _)
      obtain ⟨f1, f2⟩ := allB_nth hal k hlt
      obtain ⟨p1, p2⟩ := prodG _ _ f1 f2 e1 e2
      obtain ⟨m1, m2⟩ := gmTo_bd minPick HG2.out hal k hk
      have hk16 : k < 16 := by omega
      have hk2 : k < 2 ^ gs.length := by rw [← HPW.out]; exact hlt
      have hw1 : wrap64 (nth xs k * chsV min gs k gs.length) = nth xs k * chsV min gs k gs.length := IntWalk.wrap64_in _ ⟨by omega, by omega⟩
      have hs2 := Lib.hid (gmTo_succ min gs xs k)
      have hga := HG2.out
      have hkz : k ≠ 0 := by omega
      have HX2 := Lib.hid hk2
      have HGA := Lib.hid hga
      have HKZ := Lib.hid hkz
      clear hk2 hga hkz B0 BR BW
      go_wp2
      refine wp_region_later (by kernel_rfl) (by kernel_rfl) ?_
      repeat (go_big_quiet_step ((go_at_call 31; exact LaterW.callSame (l10Least_c k _ _ gs _ (LaterW.reads _ (by assumption)) hg4 hk16 HGA.out HKZ.out HX2.out))))
      refine wpQuiet_nil ?_
      intro _ hw'
      obtain ⟨x, rfl⟩ := hw'
      have hbx := hb.trans (x.below.mono hs)
      clear d0 d1 d4
      go_wp2
      exact ⟨⟨k + 1, by omega, by omega, by go_num, by rw [hs2.out], hbx⟩, by simp [intOf]; omega⟩
    · have h2 : k = xs.length := by omega
      subst h2
      clear B0 BR BW hxr hgr hb
      clear b0_0 b0_1
      have b0_0 := b0.c0
      have b0_1 := b0.c1
      have bR_0 := bR.c0
      have bR_1 := bR.c1
      go_wp2_with fail
      refine (l3Whole_any s _ _ xs _ (hx.below bW) (by omega) hal).mono ?_
      rintro e w3 ⟨rfl, hb⟩
      clear b0_0 b0_1 bR_0 bR_1
      replace b0 := b0.later hb
      have b0_0 := b0.c0
      have b0_1 := b0.c1
      replace bR := bR.later hb
      have bR_0 := bR.c0
      have bR_1 := bR.c1
      replace bW := bW.thenB hb
      have z3 := hb.size
      clear hb
      go_wp2_with fail
      refine (l2Made_any (gmTo min gs xs xs.length) (sumL xs) _ (by omega) (by omega) (by omega) (by omega) hz0).mono ?_
      rintro e w4 ⟨rfl, hb⟩
      clear b0_0 b0_1 bR_0 bR_1
      replace b0 := b0.later hb
      have b0_0 := b0.c0
      have b0_1 := b0.c1
      replace bR := bR.later hb
      have bR_0 := bR.c0
      have bR_1 := bR.c1
      replace bW := bW.thenB hb
      have z4 := hb.size
      clear hb
      have s0 := bR.c0
      have s1 := bR.c1
      have s2 := bR.f0
      have s3 := bR.f1
      go_wp2
      refine bodyPost_ret (v := .tuple #[.agg #[.int .i64 (lowN (gmTo min gs xs xs.length) (sumL xs)), .int .i64 (lowD (gmTo min gs xs xs.length) (sumL xs))], .bool (lowOk (gmTo min gs xs xs.length) (sumL xs))]) (by simp [results, Try.results9, go_sem, s0, s1, s2, s3]) rfl ⟨by rw [eN.out, eD.out, eO.out], ?_⟩
      exact ((bW).setCell (by show _ ≤ w.heap.size + 1; omega) _).setCell (by show _ ≤ w.heap.size + 1; omega) _

set_option maxHeartbeats 4000000 in
theorem iHighestMean_any (s : Int) (p : Option Addr) (c : Nat) (xs : List Int) (q : Option Addr) (d : Nat) (gs : List Int) (w : World) (hx : Reads w p xs) (hg : Reads w q gs) (hxm : xs.length ≤ 1048576) (hgm : gs.length ≤ 1048576) :
    Calls Try.prog 17 #[.agg #[.int .i64 s, .slice p xs.length c], .slice q gs.length d] w fun e w' => e = .returned (.tuple #[.agg #[.int .i64 (fN (lmG s xs gs) (gmTo max gs xs xs.length) (sumL xs)), .int .i64 (fD (lmG s xs gs) (gmTo max gs xs xs.length) (sumL xs))], .bool (fOk (lmG s xs gs) (gmTo max gs xs xs.length) (sumL xs))]) ∧ Below w.heap.size w w' := by
  obtain ⟨W, hW⟩ : ∃ W : World, W = ((w.alloc (.cells #[.int .i64 s, .slice p xs.length c] 30)).alloc (.cells #[.int .i64 0, .int .i64 0] 27)) := ⟨_, rfl⟩
  have bW : Below w.heap.size w W := by subst hW; exact ((belowAlloc _ _).thenB (belowAlloc _ _))
  have hsz : W.heap.size = w.heap.size + 2 := by subst hW; simp
  have b0 : VarInv W (w.heap.size) (s) (.slice p xs.length c) := by
    subst hW
    have h := VarInv.made w (s) (.slice p xs.length c) 30
    exact (h.later (belowAlloc _ _))
  have bR : VarInv W (w.heap.size + 1) (0) (.int .i64 0) := by
    subst hW
    have h := VarInv.made (w.alloc (.cells #[.int .i64 s, .slice p xs.length c] 30)) (0) (.int .i64 0) 27
    rw [show (w.alloc (.cells #[.int .i64 s, .slice p xs.length c] 30)).heap.size = w.heap.size + 1 by simp] at h
    exact h
  have HWW := Lib.hid hW
  have HSZ := Lib.hid hsz
  clear hW hsz
  by_cases h1 : normB s xs = true
  rotate_left
  · have h1 : normB s xs = false := by simpa using h1
    obtain ⟨eN, eD, eO⟩ := fNo (g := lmG s xs gs) (num := gmTo max gs xs xs.length) (den := sumL xs) (by simp [lmG, h1])
    have eN := Lib.hid eN
    have eD := Lib.hid eD
    have eO := Lib.hid eO
    go_enter Try.func17, Try.ntmps17
    go_wp2_with fail
    rw [← HWW.out]
    refine (isNormal_any _ _ _ _ _ (hx.below bW) hxm).mono ?_
    rintro e w1 ⟨rfl, hb⟩
    replace b0 := b0.later hb
    have b0_0 := b0.c0
    have b0_1 := b0.c1
    replace bR := bR.later hb
    have bR_0 := bR.c0
    have bR_1 := bR.c1
    replace bW := bW.thenB hb
    have z1 := hb.size
    clear hb
    have s0 := bR.c0
    have s1 := bR.c1
    have s2 := bR.f0
    have s3 := bR.f1
    go_wp2
    refine bodyPost_ret (v := .tuple #[.agg #[.int .i64 (0), .int .i64 (0)], .bool (false)]) (by simp [results, Try.results17, go_sem, s0, s1, s2, s3]) rfl ⟨by rw [eN.out, eD.out, eO.out], ?_⟩
    exact ((bW).setCell (by show _ ≤ w.heap.size + 1; omega) _).setCell (by show _ ≤ w.heap.size + 1; omega) _
  by_cases h2 : gnB s gs = true
  rotate_left
  · have h2 : gnB s gs = false := by simpa using h2
    obtain ⟨eN, eD, eO⟩ := fNo (g := lmG s xs gs) (num := gmTo max gs xs xs.length) (den := sumL xs) (by simp [lmG, h2])
    have eN := Lib.hid eN
    have eD := Lib.hid eD
    have eO := Lib.hid eO
    go_enter Try.func17, Try.ntmps17
    go_wp2_with fail
    rw [← HWW.out]
    refine (isNormal_any _ _ _ _ _ (hx.below bW) hxm).mono ?_
    rintro e w1 ⟨rfl, hb⟩
    replace b0 := b0.later hb
    have b0_0 := b0.c0
    have b0_1 := b0.c1
    replace bR := bR.later hb
    have bR_0 := bR.c0
    have bR_1 := bR.c1
    replace bW := bW.thenB hb
    have z1 := hb.size
    clear hb
    go_wp2_with fail
    refine (areGains_any _ _ _ xs _ _ gs _ (hg.below bW) hgm).mono ?_
    rintro e w2 ⟨rfl, hb⟩
    clear b0_0 b0_1 bR_0 bR_1
    replace b0 := b0.later hb
    have b0_0 := b0.c0
    have b0_1 := b0.c1
    replace bR := bR.later hb
    have bR_0 := bR.c0
    have bR_1 := bR.c1
    replace bW := bW.thenB hb
    have z2 := hb.size
    clear hb
    have s0 := bR.c0
    have s1 := bR.c1
    have s2 := bR.f0
    have s3 := bR.f1
    go_wp2
    refine bodyPost_ret (v := .tuple #[.agg #[.int .i64 (0), .int .i64 (0)], .bool (false)]) (by simp [results, Try.results17, go_sem, s0, s1, s2, s3]) rfl ⟨by rw [eN.out, eD.out, eO.out], ?_⟩
    exact ((bW).setCell (by show _ ≤ w.heap.size + 1; omega) _).setCell (by show _ ≤ w.heap.size + 1; omega) _
  obtain ⟨eN, eD, eO⟩ := fYes (g := lmG s xs gs) (num := gmTo max gs xs xs.length) (den := sumL xs) (by simp [lmG, h1, h2])
  have hk : MassOk s xs := massB_ok (normB_mass h1)
  obtain ⟨g1, g2⟩ := gnB_ok h2
  have eN := Lib.hid eN
  have eD := Lib.hid eD
  have eO := Lib.hid eO
  have k1 := hk.s1
  have k4 := hk.s4
  have HK := Lib.hid hk
  have hx16 := hk.l16
  have hal := hk.all
  have hg4 : gs.length ≤ 4 := by omega
  obtain ⟨n1, n2⟩ := gmTo_bd maxPick g2 hal xs.length (Nat.le_refl _)
  have s1 := hk.sum1
  have s2 := hk.sum2
  have hz0 := whole_pos hk
  have HG2 := Lib.hid g2
  clear hk g1 g2
  go_enter Try.func17, Try.ntmps17
  go_wp2_with fail
  rw [← HWW.out]
  refine (isNormal_any _ _ _ _ _ (hx.below bW) hxm).mono ?_
  rintro e w1 ⟨rfl, hb⟩
  replace b0 := b0.later hb
  have b0_0 := b0.c0
  have b0_1 := b0.c1
  replace bR := bR.later hb
  have bR_0 := bR.c0
  have bR_1 := bR.c1
  replace bW := bW.thenB hb
  have z1 := hb.size
  clear hb
  go_wp2_with fail
  refine (areGains_any _ _ _ xs _ _ gs _ (hg.below bW) hgm).mono ?_
  rintro e w2 ⟨rfl, hb⟩
  clear b0_0 b0_1 bR_0 bR_1
  replace b0 := b0.later hb
  have b0_0 := b0.c0
  have b0_1 := b0.c1
  replace bR := bR.later hb
  have bR_0 := bR.c0
  have bR_1 := bR.c1
  replace bW := bW.thenB hb
  have z2 := hb.size
  clear hb
  go_wp2_with fail
  have tk2_0 : True := trivial
  have tk3_1 : True := trivial
  have tk4_2 : True := trivial
  go_region_held3 (fun w' => w'.cell? ⟨w.heap.size, 0, none⟩ = some (.int .i64 s) ∧ w'.cell? ⟨w.heap.size, 1, none⟩ = some (.slice p xs.length c))
    (first | exact ⟨b0_0, b0_1⟩ | exact ⟨cellStore2 b0_0 (by omega), cellStore2 b0_1 (by omega)⟩)
    (first
      | (go_at_call 40; have _t := tk2_0; (with_reducible refine (highestSum_any _ _ _ xs _ _ gs _ (by first | exact hx.below bW | exact ReadsK.drew (hx.below bW)) (by first | exact hg.below bW | exact ReadsK.drew (hg.below bW)) hx16 hg4 hal HG2.out).mono ?_); rintro e w3 ⟨rfl, hb⟩; (replace hb := undrew hb); clear b0_0 b0_1 bR_0 bR_1; (replace b0 := b0.later hb); (have b0_0 := b0.c0); (have b0_1 := b0.c1); (replace bR := bR.later hb); (have bR_0 := bR.c0); (have bR_1 := bR.c1); (replace bW := bW.thenB hb); (have z3 := hb.size); clear hb; clear tk2_0 _t)
      | (go_at_call 38; have _t := tk3_1; (with_reducible refine (wholeOf_any s _ _ xs _ (by first | exact hx.below bW | exact ReadsK.drew (hx.below bW)) (by omega) hal).mono ?_); rintro e w4 ⟨rfl, hb⟩; clear b0_0 b0_1 bR_0 bR_1; (replace b0 := b0.later hb); (have b0_0 := b0.c0); (have b0_1 := b0.c1); (replace bR := bR.later hb); (have bR_0 := bR.c0); (have bR_1 := bR.c1); (replace bW := bW.thenB hb); (have z4 := hb.size); clear hb; clear tk3_1 _t)
      | (go_at_call 36; have _t := tk4_2; (with_reducible refine (lowest_any (gmTo max gs xs xs.length) (sumL xs) _ (by omega) (by omega) (by omega) (by omega) hz0).mono ?_); rintro e w5 ⟨rfl, hb⟩; clear b0_0 b0_1 bR_0 bR_1; (replace b0 := b0.later hb); (have b0_0 := b0.c0); (have b0_1 := b0.c1); (replace bR := bR.later hb); (have bR_0 := bR.c0); (have bR_1 := bR.c1); (replace bW := bW.thenB hb); (have z5 := hb.size); clear hb; (have s0 := bR.c0); (have s1 := bR.c1); (have s2 := bR.f0); (have s3 := bR.f1); clear tk4_2 _t))
  go_wp2
  refine bodyPost_ret (v := .tuple #[.agg #[.int .i64 (lowN (gmTo max gs xs xs.length) (sumL xs)), .int .i64 (lowD (gmTo max gs xs xs.length) (sumL xs))], .bool (lowOk (gmTo max gs xs xs.length) (sumL xs))]) (by simp [results, Try.results17, go_sem, s0, s1, s2, s3]) rfl ⟨by rw [eN.out, eD.out, eO.out], ?_⟩
  exact ((bW).setCell (by show _ ≤ w.heap.size + 1; omega) _).setCell (by show _ ≤ w.heap.size + 1; omega) _

end Go.Proofs.Ytomndhkpmfdeiaa
