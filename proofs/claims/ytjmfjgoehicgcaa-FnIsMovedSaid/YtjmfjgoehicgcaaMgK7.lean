/- Parts that are added up at other places: mapped, and the functions built on it. -/
import Derived.Test.YtjmfjgoehicgcaaMgM3
set_option linter.unusedVariables false
set_option linter.unusedSimpArgs false
namespace Go.Proofs.Ytjmfjgoehicgcaa
open Go.RowKit

def addAt (zs : List Int) (i : Nat) (y : Int) : List Int := zs.set i (nth zs i + y)
theorem addAt_len (zs : List Int) (i : Nat) (y : Int) : (addAt zs i y).length = zs.length := by simp [addAt]

/-- The numbers before k, each added at the place that f gives. -/
def accTo (f : Nat → Nat) (ys zs : List Int) (k : Nat) : List Int := (List.range k).foldl (fun zs b => addAt zs (f b) (nth ys b)) zs
theorem accTo_succ (f : Nat → Nat) (ys zs : List Int) (k : Nat) : accTo f ys zs (k + 1) = addAt (accTo f ys zs k) (f k) (nth ys k) := by simp [accTo, List.range_succ]
theorem accTo_len (f : Nat → Nat) (ys zs : List Int) (k : Nat) : (accTo f ys zs k).length = zs.length := by
  induction k with
  | zero => rfl
  | succ k ih => rw [accTo_succ, addAt_len, ih]

theorem allB_iff {low high : Int} {xs : List Int} : allB low high xs = true ↔ ∀ k, k < xs.length → low ≤ nth xs k ∧ nth xs k ≤ high := by
  constructor
  · exact fun h k hk => allB_nth h k hk
  · intro h
    unfold allB
    rw [List.all_eq_true]
    intro x hx
    obtain ⟨i, hi, rfl⟩ := List.getElem_of_mem hx
    have := h i hi
    rw [nth_eq _ _ hi] at this
    simpa [inB] using this

theorem nth_addAt (zs : List Int) (i k : Nat) (y : Int) (hk : k < zs.length) : nth (addAt zs i y) k = if k = i then nth zs k + y else nth zs k := by
  rw [nth_eq _ _ (by rw [addAt_len]; exact hk), nth_eq zs k hk]
  by_cases h : k = i
  · subst h
    rw [if_pos rfl]
    simp only [addAt, List.getElem_set_self]
    rw [nth_eq zs k hk]
  · rw [if_neg h]
    simp only [addAt]
    rw [List.getElem_set_ne (fun e => h e.symm)]

theorem addAt_all {A M y : Int} {zs : List Int} (i : Nat) (h : allB 0 A zs = true) (h1 : 0 ≤ y) (h2 : y ≤ M) (hM : 0 ≤ M) : allB 0 (A + M) (addAt zs i y) = true := by
  rw [allB_iff] at *
  intro k hk
  rw [addAt_len] at hk
  have := h k hk
  rw [nth_addAt _ _ _ _ hk]
  split <;> omega

theorem accTo_all {M : Int} (f : Nat → Nat) (ys zs : List Int) (hy : allB 0 M ys = true) (hM : 0 ≤ M) (hz : allB 0 0 zs = true) (k : Nat) (hk : k ≤ ys.length) : allB 0 (M * k) (accTo f ys zs k) = true := by
  induction k with
  | zero => simpa [accTo] using hz
  | succ k ih =>
    rw [accTo_succ]
    have h1 := allB_nth hy k (by omega)
    have h2 := addAt_all (f k) (ih (by omega)) h1.1 h1.2 hM
    have : M * ((k + 1 : Nat) : Int) = M * k + M := by rw [Int.natCast_add, Int.mul_add]; simp
    rw [this]; exact h2

/-- So many zeros. -/
def zeros (n : Nat) : List Int := List.replicate n 0
theorem zeros_len (n : Nat) : (zeros n).length = n := by simp [zeros]
theorem zeros_all (n : Nat) : allB 0 0 (zeros n) = true := by
  rw [allB_iff]; intro k hk; rw [zeros_len] at hk; rw [nth_eq _ _ (by rw [zeros_len]; exact hk)]; simp [zeros]

/-- 'make([]int, n)': zeros that the call owns. -/
theorem wpList_makeInts {ops : Array Oper} {rest : List Oper} {o : Oper} {a : Act} {Q : Exit → Act → World → Prop} (w : World) (hg : o.guard = none) (l c : Operand) (hop : o.op = Op.makeSlice 22 l c)
    (B : Nat) (kl kc : IntKind) (L C : Int) (n : Nat) (hl : a.eval l = .int kl L) (hc : a.eval c = .int kc C) (hL : L = (n : Int)) (hC : C = (n : Int)) (hn : n ≤ 1048576) (hB : B ≤ w.heap.size)
    (hK : ∀ w', Own B w' (.slice (some ⟨w.heap.size, 0, none⟩) n n) (zeros n) → Below w.heap.size w w' → w.heap.size < w'.heap.size → wpList Try.prog ops Q rest (a.put o.dst (.slice (some ⟨w.heap.size, 0, none⟩) n n)) w') :
    wpList Try.prog ops Q (o :: rest) a w := by
  obtain ⟨i0, hi, hz0, hz1, hz2⟩ := info_parts Try.info3
  refine wpList_make_full w hg l c 22 hop B 3 i0 (.int .i64 0) 1 Try.underlying22 hi hz0 hz1 kl kc L C n hl hc hL hC (by rw [hz2]; omega) (by unfold maxLen; omega) hB ?_
  intro w' h1 h2
  refine hK w' ?_ ((Below.refl _ _).grown h2 (Nat.le_refl _) (fun k hk => by cases hk)) ((World.ownsRow.lt h1 w.heap.size rfl).2)
  unfold Own
  rw [zeros_len]
  simpa [zeros, toList_madeCells_one, Value.cells] using h1

/-- A cell of a slice of ints that the call owns, at the head of its row. -/
theorem Own.cellAt {B g n c : Nat} {w : World} {zs : List Int} (h : Own B w (.slice (some ⟨g, 0, none⟩) n c) zs) (hl : zs.length = n) (k : Nat) (hk : k < n) :
    w.cell? ⟨g, k, none⟩ = some (.int .i64 (nth zs k)) ∧ w.frozen? ⟨g, k, none⟩ = false := by
  unfold Own at h
  rw [hl] at h
  exact ⟨cell_own h k hk, h.frozenAt k⟩

theorem Own.storedAt {B g n c : Nat} {w : World} {zs : List Int} (h : Own B w (.slice (some ⟨g, 0, none⟩) n c) zs) (hl : zs.length = n) (k : Nat) (y : Int) :
    Own B (w.setCell ⟨g, k, none⟩ (.int .i64 y)) (.slice (some ⟨g, 0, none⟩) n c) (zs.set k y) := by
  unfold Own at *
  rw [hl] at h
  have := (h.stored k (.int .i64 y)).1
  rw [List.length_set, hl, List.map_set]
  exact this

end Go.Proofs.Ytjmfjgoehicgcaa

/- Cutting, focusing, learning: both packages. -/
set_option linter.unusedVariables false
set_option linter.unusedSimpArgs false
namespace Go.Proofs.Ytjmfjgoehicgcaa
open Go.RowKit

/-- A valid mass and a set of its answers. -/
def msB (s : Int) (xs : List Int) (a : Int) : Bool := massB s xs && setB s a

/-- What a function returns that makes a mass of parts under a test. -/
def gS (g : Bool) (s : Int) (L : List Int) : Int := if g = true then mkS s L else 0
def gOk (g : Bool) (s : Int) (L : List Int) : Bool := g && mkOk s L
def gL (g : Bool) (s : Int) (L : List Int) : List Int := if g = true then mkL s L else []
theorem gL_len (g : Bool) (s : Int) (L : List Int) : (gL g s L).length ≤ L.length := by unfold gL; split <;> simp [mkL_len]

theorem MassOk.sz {s : Int} {xs : List Int} (h : MassOk s xs) : szB s = true := by have := h.s1; have := h.s4; simp [szB, inB]; omega

theorem l3Set_any (s : Int) (p : Option Addr) (c : Nat) (xs : List Int) (a : Int) (w : World) (hx : Reads w p xs) (hxm : xs.length ≤ 1048576) :
    Calls Try.prog 133 #[.agg #[.int .i64 s, .slice p xs.length c], .int .i64 a] w fun e w' => e = .returned (.bool (msB s xs a)) ∧ Below w.heap.size w w' := by
  obtain ⟨W, hW, hbW, hsz, c0, c1⟩ := box1 w s p xs.length c
  have hxW := hx.below hbW
  have HW := Lib.hid hW
  have hl0 : w.heap.size < W.heap.size := by omega
  clear hW hx hsz
  cases h1 : massB s xs
  · have hr : Hid (msB s xs a = false) := Lib.hid (by simp [msB, h1])
    go_enter Try.func133, Try.ntmps133
    go_wp2_with fail
    rw [← HW.out]
    refine (MassValid_any _ _ _ _ _ hxW hxm).mono ?_
    rintro e w1 ⟨rfl, hb1⟩
    go_wp2
    go_ret
    exact ⟨ret_bool hr.out.symm, hbW.thenB hb1⟩
  · have hr : Hid (msB s xs a = (szB s && setB s a)) := Lib.hid (by simp [msB, h1, (massB_ok h1).sz])
    go_enter Try.func133, Try.ntmps133
    go_wp2_with fail
    rw [← HW.out]
    refine (MassValid_any _ _ _ _ _ hxW hxm).mono ?_
    rintro e w1 ⟨rfl, hb1⟩
    have hc1 := bcell hb1
    go_wp2_with fail
    refine (SetValid_any _ _ _).mono ?_
    rintro e w' ⟨rfl, rfl⟩
    go_wp2
    go_ret
    exact ⟨ret_bool hr.out.symm, hbW.thenB hb1⟩

theorem and_nat (a b : Nat) (ha : a < 16) (hb : b < 16) : bits BinOp.and IntKind.i64 (a : Int) (b : Int) = ((a &&& b : Nat) : Int) := and_bits ⟨a, ha⟩ ⟨b, hb⟩

/-- The parts within a set. -/
def cutP (a : Nat) (xs : List Int) : List Int := accTo (fun b => a &&& b) xs (zeros xs.length) xs.length
theorem cutP_len (a : Nat) (xs : List Int) : (cutP a xs).length = xs.length := by rw [cutP, accTo_len, zeros_len]
theorem cutP_all (a : Nat) (xs : List Int) (h : allB 0 1000000 xs = true) : allB 0 (1000000 * xs.length) (cutP a xs) = true := accTo_all _ _ _ h (by omega) (zeros_all _) _ (Nat.le_refl _)

set_option maxHeartbeats 1000000 in
theorem l7Cut_any (s : Int) (p : Option Addr) (c : Nat) (xs : List Int) (a : Nat) (w : World) (hx : Reads w p xs) (hm : MassOk s xs) (ha : a < 16) :
    Calls Try.prog 134 #[.agg #[.int .i64 s, .slice p xs.length c], .int .i64 a] w fun e w' => ∃ v, e = .returned v ∧ Own w.heap.size w' v (cutP a xs) ∧ Below w.heap.size w w' := by
  have hl16 := hm.l16
  have HR := Lib.hid hm.all
  obtain ⟨W, hW, hbW, hsz, c0, c1⟩ := box1 w s p xs.length c
  have hM : VarInv W w.heap.size s (.slice p xs.length c) := by subst hW; exact VarInv.made w _ _ _
  have HW := Lib.hid hW
  have HSZ := Lib.hid hsz
  clear hW hm hsz
  go_enter Try.func134, Try.ntmps134
  go_wp2_with (at_make; refine wpList_makeInts _ rfl _ _ rfl (w.heap.size + 1) _ _ _ _ xs.length rfl rfl rfl rfl (by omega) (by simp) ?_)
  rw [← HW.out]
  intro w1 hown hb1 hlt1
  replace hb1 : Below W.heap.size W w1 := by rw [HSZ.out]; exact hb1
  have hM1 := hM.later hb1
  have hbw1 := hbW.thenB hb1
  clear hb1 hM hbW c0 c1
  go_wp2_with fail
  go_loopw [6] (fun i wr => ∃ k : Nat, k ≤ xs.length ∧ i = .int .i64 k ∧ Own (w.heap.size + 1) wr (.slice (some ⟨w.heap.size + 1, 0, none⟩) xs.length xs.length) (accTo (fun b => a &&& b) xs (zeros xs.length) k) ∧ VarInv wr w.heap.size s (.slice p xs.length c) ∧ Below w.heap.size w wr ∧ w.heap.size + 1 < wr.heap.size) (fun i _ => xs.length - (intOf i).toNat)
  case atStart => exact ⟨0, Nat.zero_le _, rfl, hown, hM1, hbw1, hlt1⟩
  case round =>
    clear hown hM1 hbw1 hlt1
    obtain ⟨k, hk, rfl, ho, iM, hb, hlt1⟩ := hrel
    have m1 := iM.c1
    by_cases hlt : k < xs.length
    · obtain ⟨b, off, rfl, hbl, hc0⟩ := hx k hlt
      have hc := (hb.cell (p := ⟨b, off + k, none⟩) hbl).trans hc0
      have hs := Lib.hid (accTo_succ (fun b => a &&& b) xs (zeros xs.length) k)
      have hal := accTo_all (fun b => a &&& b) xs (zeros xs.length) HR.out (by omega) (zeros_all _) k hk
      have hln := accTo_len (fun b => a &&& b) xs (zeros xs.length) k
      rw [zeros_len] at hln
      have hFk : a &&& k < xs.length := Nat.lt_of_le_of_lt Nat.and_le_right hlt
      obtain ⟨f1, f2⟩ := allB_nth hal (a &&& k) (by rw [hln]; exact hFk)
      obtain ⟨d1, d2⟩ := allB_nth HR.out k hlt
      obtain ⟨q1, q2⟩ := ho.cellAt hln (a &&& k) hFk
      have hst := ho.storedAt hln (a &&& k) (nth (accTo (fun b => a &&& b) xs (zeros xs.length) k) (a &&& k) + nth xs k)
      have HST := Lib.hid hst
      have hbit := and_nat a k ha (by omega)
      have hsum : IntKind.i64.wrap (nth (accTo (fun b => a &&& b) xs (zeros xs.length) k) (a &&& k) + nth xs k) = nth (accTo (fun b => a &&& b) xs (zeros xs.length) k) (a &&& k) + nth xs k := IntWalk.i64_in _ (by omega)
      have hFn : (((a &&& k : Nat) : Nat) : Int) < (xs.length : Int) := by omega
      have hF0 : (0 : Int) ≤ ((a &&& k : Nat) : Int) := by omega
      have hk0 : (0 : Int) ≤ (k : Int) := by omega
      have hk1 : (k : Int) < (xs.length : Int) := by omega
      have HLN := Lib.hid hln
      clear hx hc0 hal hst ho hln
      go_wp2_with fail
      go_region
      all_goals go_wp2
      all_goals exact ⟨⟨k + 1, by omega, by go_num, by rw [hs.out]; exact HST.out.drew, (iM.other _ (by show w.heap.size + 1 ≠ w.heap.size; omega) _).drew, (hb.setCell (by show _ ≤ w.heap.size + 1; omega) _).drew, by simpa using hlt1⟩, by simp [intOf]; omega⟩
    · have h1 : k = xs.length := by omega
      subst h1
      have HO := Lib.hid ho
      clear ho hx
      go_wp2
      go_ret
      exact ⟨_, rfl, HO.out.mono (by omega), hb⟩

/-- A mass, boxed, and the result's variable: the beginning of many functions. -/
theorem boxR (w : World) (s : Int) (p : Option Addr) (m c : Nat) : ∃ W : World, W = (w.alloc (.cells #[.int .i64 s, .slice p m c] 27)).alloc (.cells #[.int .i64 0, .slice none 0 0] 27) ∧
    Below w.heap.size w W ∧ W.heap.size = w.heap.size + 2 ∧ VarInv W w.heap.size s (.slice p m c) ∧ VarInv W (w.heap.size + 1) 0 (.slice none 0 0) := by
  refine ⟨_, rfl, (belowAlloc _ _).thenB (belowAlloc _ _), by simp, (VarInv.made w _ _ _).later (belowAlloc _ _), ?_⟩
  have h := VarInv.made (w.alloc (.cells #[.int .i64 s, .slice p m c] 27)) 0 (.slice none 0 0) 27
  rw [show (w.alloc (.cells #[.int .i64 s, .slice p m c] 27)).heap.size = w.heap.size + 1 by simp] at h
  exact h

theorem gNo {g : Bool} {s : Int} {L : List Int} (h : g = false) : gS g s L = 0 ∧ gOk g s L = false ∧ gL g s L = [] := by subst h; exact ⟨rfl, rfl, rfl⟩
theorem gYes {g : Bool} {s : Int} {L : List Int} (h : g = true) : gS g s L = mkS s L ∧ gOk g s L = mkOk s L ∧ gL g s L = mkL s L := by subst h; exact ⟨rfl, rfl, rfl⟩

theorem cutP_wide (a : Nat) (xs : List Int) (hl : xs.length ≤ 16) (h : allB 0 1000000 xs = true) : allB 0 4611686018427387904 (cutP a xs) = true :=
  allB_wider (cutP_all a xs h) (by omega) (by omega)

set_option maxHeartbeats 1000000 in
theorem sCutMass_any (s : Int) (p : Option Addr) (c : Nat) (xs : List Int) (a : Int) (w : World) (hx : Reads w p xs) (hxm : xs.length ≤ 1048576) :
    Calls Try.prog 110 #[.agg #[.int .i64 s, .slice p xs.length c], .int .i64 a] w fun e w' => ∃ v, e = .returned (.tuple #[.agg #[.int .i64 (gS (msB s xs a) s (cutP a.toNat xs)), v], .bool (gOk (msB s xs a) s (cutP a.toNat xs))]) ∧ Own w.heap.size w' v (gL (msB s xs a) s (cutP a.toNat xs)) ∧ Below w.heap.size w w' := by
  obtain ⟨W, hW, hbW, hsz, hM, hR⟩ := boxR w s p xs.length c
  have hxW := hx.below hbW
  have HWW := Lib.hid hW
  have HSZ := Lib.hid hsz
  clear hW hsz hx
  cases hg : msB s xs a
  · obtain ⟨hS, hO, hL⟩ := gNo (s := s) (L := cutP a.toNat xs) hg
    rw [hg] at hS hO hL
    have hS := Lib.hid hS
    have hO := Lib.hid hO
    have hL := Lib.hid hL
    go_enter Try.func110, Try.ntmps110
    go_wp2_with fail
    rw [← HWW.out]
    refine (l3Set_any _ _ _ _ _ _ hxW hxm).mono ?_
    rintro e w1 ⟨rfl, hb1⟩
    have jR := hR.later hb1
    have s0 := jR.c0
    have s1 := jR.c1
    have s2 := jR.f0
    have s3 := jR.f1
    go_wp2
    refine bodyPost_ret (v := .tuple #[.agg #[.int .i64 0, .slice none 0 0], .bool false]) (by simp [results, Try.results110, go_sem, s0, s1, s2, s3]) rfl ⟨_, by rw [hS.out, hO.out], by rw [hL.out]; exact Own.nil _ _, ?_⟩
    exact ((hbW.thenB hb1).setCell (by show _ ≤ w.heap.size + 1; omega) _).setCell (by show _ ≤ w.heap.size + 1; omega) _
  · have hg2 : massB s xs = true ∧ setB s a = true := by simpa [msB] using hg
    have hk := massB_ok hg2.1
    obtain ⟨n, rfl, hn16, hn2⟩ := setB_nat hk.s1 hk.s4 hg2.2
    obtain ⟨hS, hO, hL⟩ := gYes (s := s) (L := cutP n xs) hg
    rw [hg] at hS hO hL
    rw [Int.toNat_natCast]
    have hS := Lib.hid hS
    have hO := Lib.hid hO
    have hL := Lib.hid hL
    have HK := Lib.hid hk
    have HP := Lib.hid (cutP_wide n xs hk.l16 hk.all)
    have HPL := Lib.hid (cutP_len n xs)
    clear hg2 hk hn2
    go_enter Try.func110, Try.ntmps110
    go_wp2_with fail
    rw [← HWW.out]
    refine (l3Set_any _ _ _ _ _ _ hxW hxm).mono ?_
    rintro e w1 ⟨rfl, hb1⟩
    have jR := hR.later hb1
    have jM := hM.later hb1
    have m0 := jM.c0
    have m1 := jM.c1
    have hx1 := hxW.below hb1
    have hbf := hbW.thenB hb1
    have hz1 := hb1.size
    clear hR hM hxW hbW hb1
    go_wp2_with fail
    go_region_held3 (fun w' => w'.cell? ⟨w.heap.size, 0, none⟩ = some (.int .i64 s) ∧ w'.cell? ⟨w.heap.size, 1, none⟩ = some (.slice p xs.length c))
      (first | exact ⟨m0, m1⟩ | exact ⟨cellStore2 m0 (by omega), cellStore2 m1 (by omega)⟩)
      (first
        | (go_at_call 134; (with_reducible refine (l7Cut_any _ _ _ _ _ _ (ReadsK.drew hx1) HK.out hn16).mono ?_); rintro e w2 ⟨v2, rfl, o2, hb2⟩; (replace hb2 := undrew hb2); obtain ⟨p2, c2, rfl, r2⟩ := o2.shape; (replace jR := jR.later hb2); (replace m0 := cellKeep hb2 m0); (replace m1 := cellKeep hb2 m1); (replace hbf := hbf.thenB hb2); (have hz2 := hb2.size); clear hb2)
        | (go_at_call 105; (with_reducible refine (l3Made_n _ _ _ _ _ _ rfl r2 (by rw [HPL.out]; exact hxm) HP.out).mono ?_); rintro e w3 ⟨v3, rfl, o3, hb3⟩; obtain ⟨p3, c3, rfl, r3⟩ := o3.shape; (replace jR := jR.later hb3); (replace m0 := cellKeep hb3 m0); (replace m1 := cellKeep hb3 m1); (replace hbf := hbf.thenB hb3); (have hz3 := hb3.size); clear hb3 r3; have s0 := jR.c0; have s1 := jR.c1; have s2 := jR.f0; have s3 := jR.f1))
    go_wp2
    refine bodyPost_ret (v := .tuple #[.agg #[.int .i64 (mkS s (cutP n xs)), .slice p3 (mkL s (cutP n xs)).length c3], .bool (mkOk s (cutP n xs))]) (by simp [results, Try.results110, go_sem, s0, s1, s2, s3]) rfl ⟨_, by rw [hS.out, hO.out], ?_, ?_⟩
    · rw [hL.out]
      exact ((o3.setBelow (by show w.heap.size + 1 < _; have := HSZ.out; omega) _).setBelow (by show w.heap.size + 1 < _; have := HSZ.out; omega) _).mono (by have := HSZ.out; omega)
    · exact (hbf.setCell (by show _ ≤ w.heap.size + 1; omega) _).setCell (by show _ ≤ w.heap.size + 1; omega) _

theorem cutR_len (s : Int) (xs : List Int) (a : Int) (h : xs.length ≤ 1048576) : (gL (msB s xs a) s (cutP a.toNat xs)).length ≤ 1048576 := by
  have := gL_len (msB s xs a) s (cutP a.toNat xs)
  rw [cutP_len] at this
  omega

end Go.Proofs.Ytjmfjgoehicgcaa
