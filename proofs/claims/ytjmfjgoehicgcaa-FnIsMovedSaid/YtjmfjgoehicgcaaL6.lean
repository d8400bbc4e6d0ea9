/- What a mass tells if a set is learned: both packages. -/
import Derived.Test.YtjmfjgoehicgcaaMgK7
set_option linter.unusedVariables false
set_option linter.unusedSimpArgs false
namespace Go.Proofs.Ytjmfjgoehicgcaa
open Go.RowKit

theorem addAt_zero (zs : List Int) (i : Nat) : addAt zs i 0 = zs := by
  unfold addAt
  by_cases h : i < zs.length
  · rw [nth_eq _ _ h, Int.add_zero, List.set_getElem_self]
  · rw [List.set_eq_of_length_le (by omega)]

/-- Products of one part with the numbers before k, each added at its place. -/
def togIn (f : Nat → Nat) (x : Int) (ys zs : List Int) (k : Nat) : List Int := (List.range k).foldl (fun zs b => addAt zs (f b) (x * nth ys b)) zs

theorem togIn_succ (f : Nat → Nat) (x : Int) (ys zs : List Int) (k : Nat) : togIn f x ys zs (k + 1) = addAt (togIn f x ys zs k) (f k) (x * nth ys k) := by simp [togIn, List.range_succ]

theorem togIn_len (f : Nat → Nat) (x : Int) (ys zs : List Int) (k : Nat) : (togIn f x ys zs k).length = zs.length := by
  induction k with
  | zero => rfl
  | succ k ih => rw [togIn_succ, addAt_len, ih]

def togTo (f : Nat → Nat → Nat) (xs ys zs : List Int) (k : Nat) : List Int := (List.range k).foldl (fun zs a => togIn (f a) (nth xs a) ys zs ys.length) zs

theorem togTo_succ (f : Nat → Nat → Nat) (xs ys zs : List Int) (k : Nat) : togTo f xs ys zs (k + 1) = togIn (f k) (nth xs k) ys (togTo f xs ys zs k) ys.length := by simp [togTo, List.range_succ]

theorem togTo_len (f : Nat → Nat → Nat) (xs ys zs : List Int) (k : Nat) : (togTo f xs ys zs k).length = zs.length := by
  induction k with
  | zero => rfl
  | succ k ih => rw [togTo_succ, togIn_len, ih]

theorem prodL6 (a b A B : Int) (ha : 0 ≤ a) (hA : a ≤ A) (hb : 0 ≤ b) (hB : b ≤ B) : 0 ≤ a * b ∧ a * b ≤ A * B :=
  ⟨Int.mul_nonneg ha hb, Int.mul_le_mul hA hB hb (by omega)⟩

theorem togIn_all (f : Nat → Nat) (x : Int) (ys zs : List Int) (A : Int) (hx0 : 0 ≤ x) (hx1 : x ≤ 1000000) (hy : allB 0 1000000 ys = true) (hz : allB 0 A zs = true) (k : Nat) (hk : k ≤ ys.length) : allB 0 (A + 1000000000000 * k) (togIn f x ys zs k) = true := by
  induction k with
  | zero => simpa [togIn] using hz
  | succ k ih =>
    rw [togIn_succ]
    have h1 := allB_nth hy k (by omega)
    have h2 := prodL6 x (nth ys k) 1000000 1000000 hx0 hx1 h1.1 h1.2
    have h3 := addAt_all (f k) (ih (by omega)) h2.1 h2.2 (by omega)
    rw [show A + 1000000000000 * ((k + 1 : Nat) : Int) = A + 1000000000000 * k + 1000000 * 1000000 by omega]
    exact h3

theorem togTo_all (f : Nat → Nat → Nat) (xs ys zs : List Int) (hx : allB 0 1000000 xs = true) (hy : allB 0 1000000 ys = true) (hz : allB 0 0 zs = true) (hl : ys.length ≤ 16) (k : Nat) (hk : k ≤ xs.length) : allB 0 (16000000000000 * k) (togTo f xs ys zs k) = true := by
  induction k with
  | zero => simpa [togTo] using hz
  | succ k ih =>
    rw [togTo_succ]
    have h1 := allB_nth hx k (by omega)
    have h2 := togIn_all (f k) (nth xs k) ys _ _ h1.1 h1.2 hy (ih (by omega)) ys.length (Nat.le_refl _)
    exact allB_wider h2 (by omega) (by omega)

/-- All of a question's sets, sure of one. -/
def sureL (n a : Nat) : List Int := (zeros n).set a 1

theorem sureL_len (n a : Nat) : (sureL n a).length = n := by rw [sureL, List.length_set, zeros_len]

theorem zeros_nth (n k : Nat) : nth (zeros n) k = 0 := by
  by_cases h : k < n
  · rw [nth_eq _ _ (by rw [zeros_len]; exact h)]; simp [zeros]
  · simp [nth, zeros, List.getD, h]

theorem sureL_nth (n a k : Nat) (ha : a < n) : nth (sureL n a) k = if k = a then 1 else 0 := by
  by_cases h : k < n
  · rw [nth_eq _ _ (by rw [sureL_len]; exact h)]
    simp only [sureL, List.getElem_set]
    by_cases e : a = k
    · rw [if_pos e, if_pos e.symm]
    · rw [if_neg e, if_neg (fun x => e x.symm)]; simp [zeros]
  · rw [if_neg (by omega)]
    simp [nth, List.getD, List.getElem?_eq_none (l := sureL n a) (i := k) (by rw [sureL_len]; omega)]

theorem sureL_all (n a : Nat) (ha : a < n) : allB 0 1000000 (sureL n a) = true := by
  rw [allB_iff]
  intro k hk
  rw [sureL_nth _ _ _ ha]
  split <;> omega

theorem togIn_sure (f : Nat → Nat) (x : Int) (n a : Nat) (zs : List Int) (ha : a < n) (k : Nat) : togIn f x (sureL n a) zs k = if a < k then addAt zs (f a) x else zs := by
  induction k with
  | zero => rfl
  | succ k ih =>
    rw [togIn_succ, ih, sureL_nth _ _ _ ha]
    by_cases h1 : a < k
    · rw [if_pos h1, if_neg (by omega), if_pos (by omega), Int.mul_zero, addAt_zero]
    · rw [if_neg h1]
      by_cases h2 : k = a
      · rw [if_pos h2, if_pos (by omega), Int.mul_one, h2]
      · rw [if_neg h2, if_neg (by omega), Int.mul_zero, addAt_zero]

theorem togTo_sure (xs : List Int) (a n : Nat) (ha : a < n) (zs : List Int) (k : Nat) : togTo (fun b c => b &&& c) xs (sureL n a) zs k = accTo (fun b => a &&& b) xs zs k := by
  induction k with
  | zero => rfl
  | succ k ih => rw [togTo_succ, ih, togIn_sure _ _ _ _ _ ha, if_pos (by rw [sureL_len]; exact ha), accTo_succ, Nat.and_comm]

def nonP (L : List Int) : List Int := L.set 0 0

theorem nonP_len (L : List Int) : (nonP L).length = L.length := by rw [nonP, List.length_set]

theorem nonP_all {A : Int} {L : List Int} (hA : 0 ≤ A) (h : allB 0 A L = true) : allB 0 A (nonP L) = true := by
  rw [allB_iff] at h ⊢
  intro j hj
  rw [nonP_len] at hj
  have := h j hj
  rw [nth_eq _ _ (by rw [nonP_len]; exact hj)]
  simp only [nonP, List.getElem_set]
  rw [nth_eq _ _ hj] at this
  split <;> omega

theorem Own.form {B : Nat} {w : World} {v : Value} {xs : List Int} (h : Own B w v xs) (hn : 0 < xs.length) : ∃ g c, v = .slice (some ⟨g, 0, none⟩) xs.length c ∧ B ≤ g ∧ g < w.heap.size := by
  unfold Own at h
  rcases h.2 with ⟨rfl, h0⟩ | ⟨g, cap, cur, rfl, hb, hg, hnc, hcm, hcs, ht⟩
  · omega
  · exact ⟨g, cap, rfl, hb, (Array.getElem?_eq_some_iff.1 hg).1⟩

/-- Appending all numbers of a slice to one that the call owns. -/
theorem wpList_appendAll {ops : Array Oper} {rest : List Oper} {o : Oper} {a : Act} {Q : Exit → Act → World → Prop} (w : World) (hgd : o.guard = none) (s x : Operand)
    (ho : o.op = .call { callee := .builtin .append, args := #[s, x], argTypes := #[22, 22] }) (B : Nat) (v : Value) (xs ps : List Int) (hs : a.eval s = v) (hown : Own B w v xs)
    (b off c : Nat) (hx : a.eval x = .slice (some ⟨b, off, none⟩) ps.length c) (hr : Reads w (some ⟨b, off, none⟩) ps) (hlen : xs.length + ps.length ≤ 1048576) (h1 : 1 ≤ ps.length) (hB : B ≤ w.heap.size)
    (h : ∀ v' w', Own B w' v' (xs ++ ps) → Below B w w' → wpList Try.prog ops Q rest (a.put o.dst v') w') : wpList Try.prog ops Q (o :: rest) a w := by
  obtain ⟨i0, hi, hz0, hz1, hz2⟩ := info_parts Try.info3
  refine wpList_append_own w hgd s x 22 ho B 3 i0 (.int .i64 0) 1 8 Try.underlying22 hi hz0 hz1 hz2 rfl (by decide) v xs.length _ hs hown ⟨b, off, none⟩ ps.length c (ps.map (Value.int .i64)) hx (by simp) ?_ (by simp [Value.oneCell']) (by unfold maxLen; omega) (by omega) hB ?_
  · intro j u hj
    rw [List.getElem?_map] at hj
    obtain ⟨y, hy, rfl⟩ := Option.map_eq_some_iff.mp hj
    obtain ⟨hlt, he⟩ := List.getElem?_eq_some_iff.mp hy
    obtain ⟨b', off', e, _, hc⟩ := hr j hlt
    cases e
    rw [nth_eq _ _ hlt, he] at hc
    cases j with
    | zero => simpa [Addr.add] using hc
    | succ j => simpa [Addr.add] using hc
  · intro v' w' h1 h2 _
    refine h v' w' ?_ ((Below.refl _ _).grown h2 hB (fun k hk => (World.ownsRow.lt hown k hk).1))
    unfold Own; simpa using h1

theorem cellStoreL {w : World} {m o b k : Nat} {v x : Value} (h : w.cell? ⟨b, o, none⟩ = some v) (hne : m ≠ b) : (w.setCell ⟨m, k, none⟩ x).cell? ⟨b, o, none⟩ = some v := by
  rw [World.cell?_setCell_other _ _ _ _ (fun e => hne (by cases e; rfl))]; exact h

set_option maxHeartbeats 1000000 in
theorem together_any (fid : FuncId) (hfid : ∀ (args : Array Value) (W : World), Sem.run Try.prog (callFunc fid args) W = .ok (.enter fid args) W) (F : Nat → Nat → Nat) (s t : Int) (p q : Option Addr) (c d : Nat) (xs ys : List Int) (w : World)
    (hx : Reads w p xs) (hy : Reads w q ys) (hxm : xs.length ≤ 16) (hym : ys.length ≤ 16) (hrx : allB 0 1000000 xs = true) (hry : allB 0 1000000 ys = true) (hF : ∀ a b, a < xs.length → b < ys.length → F a b < xs.length)
    (hcl : Hid (∀ (a b : Nat) (wr : World), a < xs.length → b < ys.length → Calls Try.prog fid #[.int .i64 a, .int .i64 b] wr fun e w' => e = .returned (.int .i64 (F a b : Nat)) ∧ wr = w')) :
    Calls Try.prog 72 #[.agg #[.int .i64 s, .slice p xs.length c], .agg #[.int .i64 t, .slice q ys.length d], .func (Fn.func fid) #[] #[]] w fun e w' =>
      ∃ v, e = .returned v ∧ Own w.heap.size w' v (togTo F xs ys (zeros xs.length) xs.length) ∧ Below w.heap.size w w' := by
  obtain ⟨W, hW, hbW, hsz, c0, c1, c2, c3⟩ := box2 w s t p q xs.length ys.length c d
  have HRX := Lib.hid hrx
  have HRY := Lib.hid hry
  have HW := Lib.hid hW
  have HSZ := Lib.hid hsz
  have hxW := hx.below hbW
  have hyW := hy.below hbW
  clear hW hsz hrx hry
  go_enter Try.func72, Try.ntmps72
  go_wp2_with (at_make; (try rw [← HW.out]); refine wpList_makeInts _ rfl _ _ rfl (w.heap.size + 2) _ _ _ _ xs.length rfl rfl rfl rfl (by omega) (by have := HSZ.out; omega) ?_)
  intro w1 hown hb1 hlt1
  rw [HSZ.out] at hown hlt1
  replace c0 := cellKeep hb1 c0
  replace c1 := cellKeep hb1 c1
  replace c2 := cellKeep hb1 c2
  replace c3 := cellKeep hb1 c3
  have hbw1 := hbW.thenB hb1
  have hz1 := hb1.size
  have hz2 : w.heap.size + 2 ≤ w1.heap.size := by have := HSZ.out; omega
  clear hb1 hxW hyW hbW hz1
  go_wp2_with fail
  rw [HSZ.out]
  go_loopw [19] (fun i wr => ∃ k : Nat, k ≤ xs.length ∧ i = .int .i64 k ∧ Own (w.heap.size + 2) wr (.slice (some ⟨w.heap.size + 2, 0, none⟩) xs.length xs.length) (togTo F xs ys (zeros xs.length) k) ∧ wr.cell? ⟨w.heap.size, 0, none⟩ = some (.int .i64 s) ∧ wr.cell? ⟨w.heap.size, 1, none⟩ = some (.slice p xs.length c) ∧ wr.cell? ⟨w.heap.size + 1, 0, none⟩ = some (.int .i64 t) ∧ wr.cell? ⟨w.heap.size + 1, 1, none⟩ = some (.slice q ys.length d) ∧ Below w.heap.size w wr ∧ w.heap.size + 2 < wr.heap.size) (fun i _ => xs.length - (intOf i).toNat)
  case atStart => exact ⟨0, Nat.zero_le _, rfl, hown, c0, c1, c2, c3, hbw1, hlt1⟩
  case round =>
    clear hown c0 c1 c2 c3 hbw1 hlt1 hz2
    obtain ⟨k, hk, rfl, ho, m0, m1, n0, n1, hb, hlt1⟩ := hrel
    have hln := togTo_len F xs ys (zeros xs.length) k
    rw [zeros_len] at hln
    by_cases hlt : k < xs.length
    · obtain ⟨b, off, rfl, hbl, hc0⟩ := hx k hlt
      have hc := (hb.cell (p := ⟨b, off + k, none⟩) hbl).trans hc0
      have hs := Lib.hid (togTo_succ F xs ys (zeros xs.length) k)
      have hal := Lib.hid (togTo_all F xs ys (zeros xs.length) HRX.out HRY.out (zeros_all _) hym k hk)
      obtain ⟨d1, d2⟩ := allB_nth HRX.out k hlt
      have HLN := Lib.hid hln
      clear hc0 hln
      go_wp2_with fail
      have HB := Lib.hid hb
      go_loopw [27] (fun i wr => ∃ j : Nat, j ≤ ys.length ∧ i = .int .i64 j ∧ Own (w.heap.size + 2) wr (.slice (some ⟨w.heap.size + 2, 0, none⟩) xs.length xs.length) (togIn (F k) (nth xs k) ys (togTo F xs ys (zeros xs.length) k) j) ∧ wr.cell? ⟨w.heap.size, 0, none⟩ = some (.int .i64 s) ∧ wr.cell? ⟨w.heap.size, 1, none⟩ = some (.slice (some ⟨b, off, none⟩) xs.length c) ∧ wr.cell? ⟨w.heap.size + 1, 0, none⟩ = some (.int .i64 t) ∧ wr.cell? ⟨w.heap.size + 1, 1, none⟩ = some (.slice q ys.length d) ∧ Below w.heap.size w wr ∧ w.heap.size + 2 < wr.heap.size) (fun i _ => ys.length - (intOf i).toNat)
      case atStart => exact ⟨0, Nat.zero_le _, rfl, ho, m0, m1, n0, n1, hb, hlt1⟩
      case round =>
        clear ho m0 m1 n0 n1 hb hlt1 hc HB
        obtain ⟨j, hj, rfl, ho, m0, m1, n0, n1, hb, hlt1⟩ := hrel
        by_cases hlj : j < ys.length
        · obtain ⟨b2, off2, rfl, hbl2, hc0⟩ := hy j hlj
          have hc := (hb.cell (p := ⟨b2, off2 + j, none⟩) hbl2).trans hc0
          have hs2 := Lib.hid (togIn_succ (F k) (nth xs k) ys (togTo F xs ys (zeros xs.length) k) j)
          have hln2 : (togIn (F k) (nth xs k) ys (togTo F xs ys (zeros xs.length) k) j).length = xs.length := by rw [togIn_len]; exact HLN.out
          have hal2 := togIn_all (F k) (nth xs k) ys _ _ d1 d2 HRY.out hal.out j hj
          have hFk := hF k j hlt hlj
          obtain ⟨f1, f2⟩ := allB_nth hal2 (F k j) (by rw [hln2]; exact hFk)
          obtain ⟨e1, e2⟩ := allB_nth HRY.out j hlj
          obtain ⟨g1, g2⟩ := prodL6 (nth xs k) (nth ys j) 1000000 1000000 d1 d2 e1 e2
          obtain ⟨q1, q2⟩ := ho.cellAt hln2 (F k j) hFk
          have HST := Lib.hid (ho.storedAt hln2 (F k j) (nth (togIn (F k) (nth xs k) ys (togTo F xs ys (zeros xs.length) k) j) (F k j) + nth xs k * nth ys j))
          have hFn : ((F k j : Nat) : Int) < (xs.length : Int) := by omega
          have hF0 : (0 : Int) ≤ ((F k j : Nat) : Int) := by omega
          have hkk : (k : Int) < 16 := by omega
          have hjj : (j : Int) ≤ 16 := by omega
          have hw1 : wrap64 (nth xs k * nth ys j) = nth xs k * nth ys j := IntWalk.wrap64_in _ ⟨by omega, by omega⟩
          clear hal2 ho hc0 hln2 hx hy
          go_wp2_with fail
          refine (hcl.out k j _ hlt hlj).mono ?_
          rintro e w' ⟨rfl, rfl⟩
          go_wp2
          exact ⟨⟨j + 1, by omega, by go_num, by rw [hs2.out]; exact HST.out, cellStoreL m0 (by omega), cellStoreL m1 (by omega), cellStoreL n0 (by omega), cellStoreL n1 (by omega), hb.setCell (by show _ ≤ w.heap.size + 2; omega) _, by first | (simp; done) | (simp; omega)⟩, by simp [intOf]; omega⟩
        · have h1 : j = ys.length := by omega
          subst h1
          have HO := Lib.hid ho
          clear hx hy ho
          go_wp2
          exact ⟨⟨k + 1, by omega, by go_num, by rw [hs.out]; exact HO.out, m0, m1, n0, n1, hb, hlt1⟩, by simp [intOf]; omega⟩
    · have h1 : k = xs.length := by omega
      subst h1
      have HO := Lib.hid ho
      clear ho hx hy
      go_wp2
      go_ret
      exact ⟨_, rfl, HO.out.mono (by omega), hb⟩


theorem andIn_any (a b : Nat) (w : World) (ha : a < 16) (hb : b < 16) :
    Calls Try.prog 123 #[.int .i64 a, .int .i64 b] w fun e w' => e = .returned (.int .i64 (a &&& b : Nat)) ∧ w = w' := by
  have hbit := and_nat a b ha hb
  go_enter Try.func123, Try.ntmps123
  go_wp2
  go_ret
  exact ⟨rfl, rfl⟩

theorem conjoined_any (s t : Int) (p q : Option Addr) (c d : Nat) (xs ys : List Int) (w : World)
    (hx : Reads w p xs) (hy : Reads w q ys) (hxm : xs.length ≤ 16) (hym : ys.length ≤ 16) (hrx : allB 0 1000000 xs = true) (hry : allB 0 1000000 ys = true) :
    Calls Try.prog 90 #[.agg #[.int .i64 s, .slice p xs.length c], .agg #[.int .i64 t, .slice q ys.length d]] w fun e w' =>
      ∃ v, e = .returned v ∧ Own w.heap.size w' v (togTo (fun b c => b &&& c) xs ys (zeros xs.length) xs.length) ∧ Below w.heap.size w w' := by
  obtain ⟨W, hW, hbW, hsz, c0, c1, c2, c3⟩ := box2 w s t p q xs.length ys.length c d
  have HW := Lib.hid hW
  have HSZ := Lib.hid hsz
  have hxW := hx.below hbW
  have hyW := hy.below hbW
  clear hW hsz hx hy
  go_enter Try.func90, Try.ntmps90
  go_wp2_with fail
  rw [← HW.out]
  refine (together_any 123 (fun _ _ => by kernel_rfl) (fun b c => b &&& c) _ _ _ _ _ _ xs ys _ hxW hyW hxm hym hrx hry (fun a b ha hb => Nat.lt_of_le_of_lt Nat.and_le_left ha) (Lib.hid fun a b wr ha hb => andIn_any a b wr (by omega) (by omega))).mono ?_
  rintro e w2 ⟨v, rfl, ho, hb2⟩
  obtain ⟨p2, c2, rfl, hr2⟩ := ho.shape
  clear hr2
  go_wp2
  go_ret
  exact ⟨_, rfl, ho.mono (by have := HSZ.out; omega), hbW.thenB hb2⟩

set_option maxHeartbeats 1000000 in
theorem sureMass_any (s : Int) (a n : Nat) (w : World) (h1 : 1 ≤ s) (h4 : s ≤ 4) (hn : (n : Int) = pow2 s) (ha : a < n) (hn16 : n ≤ 16) :
    Calls Try.prog 84 #[.int .i64 s, .int .i64 a] w fun e w' => ∃ v, e = .returned (.agg #[.int .i64 s, v]) ∧ Own w.heap.size w' v (sureL n a) ∧ Below w.heap.size w w' := by
  have hpw := pow2_wrap s h1 h4
  rw [← hn] at hpw
  have HN := Lib.hid hn
  clear hn
  obtain ⟨W, hW⟩ : ∃ W : World, W = w.alloc (.cells #[.int .i64 0, .slice none 0 0] 27) := ⟨_, rfl⟩
  have hsz : W.heap.size = w.heap.size + 1 := by subst hW; simp
  have hbW : Below w.heap.size w W := by subst hW; exact belowAlloc _ _
  have hR : VarInv W w.heap.size 0 (.slice none 0 0) := by subst hW; exact VarInv.made _ _ _ _
  have HSZ := Lib.hid hsz
  have HW := Lib.hid hW
  clear hW hsz
  go_enter Try.func84, Try.ntmps84
  go_wp2_with (at_make; (try rw [← HW.out]); refine wpList_makeInts _ rfl _ _ rfl (w.heap.size + 1) _ _ _ _ n rfl rfl hpw hpw (by omega) (by have := HSZ.out; omega) ?_)
  intro w1 hown hb1 hlt1
  rw [HSZ.out] at hown hlt1
  have hR1 := hR.later hb1
  have hz1 : w.heap.size + 1 ≤ w1.heap.size := by have := hb1.size; have := HSZ.out; omega
  have hb2 := belowAlloc w1 (.cells #[.int .i64 s, .slice (some ⟨w.heap.size + 1, 0, none⟩) n n] 27)
  have hM := VarInv.made w1 s (.slice (some ⟨w.heap.size + 1, 0, none⟩) n n) 27
  have ho2 := hown.later hb2
  obtain ⟨q1, q2⟩ := ho2.cellAt (zeros_len n) a ha
  have HST := Lib.hid ((hown.storedAt (zeros_len n) a 1).later (belowAlloc (w1.setCell ⟨w.heap.size + 1, a, none⟩ (.int .i64 1)) (.cells #[.int .i64 s, .slice (some ⟨w.heap.size + 1, 0, none⟩) n n] 27)))
  have hM3 := VarInv.made (w1.setCell ⟨w.heap.size + 1, a, none⟩ (.int .i64 1)) s (.slice (some ⟨w.heap.size + 1, 0, none⟩) n n) 27
  rw [show (w1.setCell ⟨w.heap.size + 1, a, none⟩ (.int .i64 1)).heap.size = w1.heap.size by simp] at hM3
  have hR3 := (hR1.other ⟨w.heap.size + 1, a, none⟩ (by show w.heap.size + 1 ≠ w.heap.size; omega) (.int .i64 1)).later (belowAlloc (w1.setCell ⟨w.heap.size + 1, a, none⟩ (.int .i64 1)) (.cells #[.int .i64 s, .slice (some ⟨w.heap.size + 1, 0, none⟩) n n] 27))
  have m0 := hM.c0
  have m1 := hM.c1
  have m2 := hM3.c0
  have m3 := hM3.c1
  have s0 := hR3.c0
  have s1 := hR3.c1
  have s2 := hR3.f0
  have s3 := hR3.f1
  have han : (a : Int) < (n : Int) := by omega
  have HH := Lib.hid (And.intro hbW (And.intro hb1 hb2))
  rw [HSZ.out]
  clear hown ho2 hM hM3 hR hR1 hR3 hb1 hb2 hbW
  go_wp2
  refine bodyPost_ret (v := .agg #[.int .i64 s, .slice (some ⟨w.heap.size + 1, 0, none⟩) n n]) (by simp [results, Try.results84, go_sem, s0, s1, s2, s3]) rfl ⟨_, rfl, ?_, ?_⟩
  · exact ((HST.out.setBelow (by show w.heap.size < _; omega) _).setBelow (by show w.heap.size < _; omega) _).mono (by omega)
  · obtain ⟨u1, u2, u3⟩ := HH.out
    exact ((((u1.thenB u2).setCell (p := ⟨w.heap.size + 1, a, none⟩) (by show _ ≤ w.heap.size + 1; omega) (.int .i64 1)).thenB (belowAlloc _ _)).setCell (by show _ ≤ w.heap.size; omega) _).setCell (by show _ ≤ w.heap.size; omega) _

/-- The parts of what is learned. -/
def lnP (a : Nat) (xs : List Int) : List Int := nonP (cutP a xs)

theorem lnP_len (a : Nat) (xs : List Int) : (lnP a xs).length = xs.length := by rw [lnP, nonP_len, cutP_len]

theorem lnR_len (s : Int) (xs : List Int) (a : Int) (h : xs.length ≤ 1048576) : (gL (msB s xs a) s (lnP a.toNat xs)).length ≤ 1048576 := by
  have := gL_len (msB s xs a) s (lnP a.toNat xs)
  rw [lnP_len] at this
  omega

theorem together_cut (xs : List Int) (a : Nat) (ha : a < xs.length) : togTo (fun b c => b &&& c) xs (sureL xs.length a) (zeros xs.length) xs.length = cutP a xs := togTo_sure xs a xs.length ha _ _

end Go.Proofs.Ytjmfjgoehicgcaa
