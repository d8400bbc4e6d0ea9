/- What a mass tells if a set is learned: both packages. -/
import Derived.Test.YtmbipmdflbddbaaC7
set_option linter.unusedVariables false
set_option linter.unusedSimpArgs false
namespace Go.Proofs.Ytmbipmdflbddbaa
open Go.RowKit

theorem addAt_zero (zs : List Int) (i : Nat) : addAt zs i 0 = zs := by
  unfold addAt
  by_cases h : i < zs.length
  · rw [nth_eq _ _ h, Int.add_zero, List.set_getElem_self]
  · rw [List.set_eq_of_length_le (by omega)]

/-- Products of one part with the numbers before k, each added at its place. -/
def togIn (f : Nat → Nat) (x : Int) (ys zs : List Int) (k : Nat) : List Int := (List.range k).foldl (fun zs b => addAt zs (f b) (x * nth ys b)) zs

theorem togIn_succ (f : Nat → Nat) (x : Int) (ys zs : List Int) (k : Nat) : togIn f x ys zs (k + 1) = addAt (togIn f x ys zs k) (f k) (x * nth ys k) := by simp [togIn, List.range_succ]

theorem togIn_len (f : Nat → Nat) (x : Int) (ys zs : List Int) (k : Nat) : (togIn f x ys zs k).length = zs.length := by
  induction k with
  | zero => rfl
  | succ k ih => rw [togIn_succ, addAt_len, ih]

def togTo (f : Nat → Nat → Nat) (xs ys zs : List Int) (k : Nat) : List Int := (List.range k).foldl (fun zs a => togIn (f a) (nth xs a) ys zs ys.length) zs

theorem togTo_succ (f : Nat → Nat → Nat) (xs ys zs : List Int) (k : Nat) : togTo f xs ys zs (k + 1) = togIn (f k) (nth xs k) ys (togTo f xs ys zs k) ys.length := by simp [togTo, List.range_succ]

theorem togTo_len (f : Nat → Nat → Nat) (xs ys zs : List Int) (k : Nat) : (togTo f xs ys zs k).length = zs.length := by
  induction k with
  | zero => rfl
  | succ k ih => rw [togTo_succ, togIn_len, ih]

theorem prodL6 (a b A B : Int) (ha : 0 ≤ a) (hA : a ≤ A) (hb : 0 ≤ b) (hB : b ≤ B) : 0 ≤ a * b ∧ a * b ≤ A * B :=
  ⟨Int.mul_nonneg ha hb, Int.mul_le_mul hA hB hb (by omega)⟩

theorem togIn_all (f : Nat → Nat) (x : Int) (ys zs : List Int) (A : Int) (hx0 : 0 ≤ x) (hx1 : x ≤ 1000000) (hy : allB 0 1000000 ys = true) (hz : allB 0 A zs = true) (k : Nat) (hk : k ≤ ys.length) : allB 0 (A + 1000000000000 * k) (togIn f x ys zs k) = true := by
  induction k with
  | zero => simpa [togIn] using hz
  | succ k ih =>
    rw [togIn_succ]
    have h1 := allB_nth hy k (by omega)
    have h2 := prodL6 x (nth ys k) 1000000 1000000 hx0 hx1 h1.1 h1.2
    have h3 := addAt_all (f k) (ih (by omega)) h2.1 h2.2 (by omega)
    rw [show A + 1000000000000 * ((k + 1 : Nat) : Int) = A + 1000000000000 * k + 1000000 * 1000000 by omega]
    exact h3

theorem togTo_all (f : Nat → Nat → Nat) (xs ys zs : List Int) (hx : allB 0 1000000 xs = true) (hy : allB 0 1000000 ys = true) (hz : allB 0 0 zs = true) (hl : ys.length ≤ 16) (k : Nat) (hk : k ≤ xs.length) : allB 0 (16000000000000 * k) (togTo f xs ys zs k) = true := by
  induction k with
  | zero => simpa [togTo] using hz
  | succ k ih =>
    rw [togTo_succ]
    have h1 := allB_nth hx k (by omega)
    have h2 := togIn_all (f k) (nth xs k) ys _ _ h1.1 h1.2 hy (ih (by omega)) ys.length (Nat.le_refl _)
    exact allB_wider h2 (by omega) (by omega)

/-- All of a question's sets, sure of one. -/
def sureL (n a : Nat) : List Int := (zeros n).set a 1

theorem sureL_len (n a : Nat) : (sureL n a).length = n := by rw [sureL, List.length_set, zeros_len]

theorem zeros_nth (n k : Nat) : nth (zeros n) k = 0 := by
  by_cases h : k < n
  · rw [nth_eq _ _ (by rw [zeros_len]; exact h)]; simp [zeros]
  · simp [nth, zeros, List.getD, h]

theorem sureL_nth (n a k : Nat) (ha : a < n) : nth (sureL n a) k = if k = a then 1 else 0 := by
  by_cases h : k < n
  · rw [nth_eq _ _ (by rw [sureL_len]; exact h)]
    simp only [sureL, List.getElem_set]
    by_cases e : a = k
    · rw [if_pos e, if_pos e.symm]
    · rw [if_neg e, if_neg (fun x => e x.symm)]; simp [zeros]
  · rw [if_neg (by omega)]
    simp [nth, List.getD, List.getElem?_eq_none (l := sureL n a) (i := k) (by rw [sureL_len]; omega)]

theorem sureL_all (n a : Nat) (ha : a < n) : allB 0 1000000 (sureL n a) = true := by
  rw [allB_iff]
  intro k hk
  rw [sureL_nth _ _ _ ha]
  split <;> omega

theorem togIn_sure (f : Nat → Nat) (x : Int) (n a : Nat) (zs : List Int) (ha : a < n) (k : Nat) : togIn f x (sureL n a) zs k = if a < k then addAt zs (f a) x else zs := by
  induction k with
  | zero => rfl
  | succ k ih =>
    rw [togIn_succ, ih, sureL_nth _ _ _ ha]
    by_cases h1 : a < k
    · rw [if_pos h1, if_neg (by omega), if_pos (by omega), Int.mul_zero, addAt_zero]
    · rw [if_neg h1]
      by_cases h2 : k = a
      · rw [if_pos h2, if_pos (by omega), Int.mul_one, h2]
      · rw [if_neg h2, if_neg (by omega), Int.mul_zero, addAt_zero]

theorem togTo_sure (xs : List Int) (a n : Nat) (ha : a < n) (zs : List Int) (k : Nat) : togTo (fun b c => b &&& c) xs (sureL n a) zs k = accTo (fun b => a &&& b) xs zs k := by
  induction k with
  | zero => rfl
  | succ k ih => rw [togTo_succ, ih, togIn_sure _ _ _ _ _ ha, if_pos (by rw [sureL_len]; exact ha), accTo_succ, Nat.and_comm]

def nonP (L : List Int) : List Int := L.set 0 0

theorem nonP_len (L : List Int) : (nonP L).length = L.length := by rw [nonP, List.length_set]

theorem nonP_all {A : Int} {L : List Int} (hA : 0 ≤ A) (h : allB 0 A L = true) : allB 0 A (nonP L) = true := by
  rw [allB_iff] at h ⊢
  intro j hj
  rw [nonP_len] at hj
  have := h j hj
  rw [nth_eq _ _ (by rw [nonP_len]; exact hj)]
  simp only [nonP, List.getElem_set]
  rw [nth_eq _ _ hj] at this
  split <;> omega

theorem Own.form {B : Nat} {w : World} {v : Value} {xs : List Int} (h : Own B w v xs) (hn : 0 < xs.length) : ∃ g c, v = .slice (some ⟨g, 0, none⟩) xs.length c ∧ B ≤ g ∧ g < w.heap.size := by
  unfold Own at h
  rcases h.2 with ⟨rfl, h0⟩ | ⟨g, cap, cur, rfl, hb, hg, hnc, hcm, hcs, ht⟩
  · omega
  · exact ⟨g, cap, rfl, hb, (Array.getElem?_eq_some_iff.1 hg).1⟩

/-- Appending all numbers of a slice to one that the call owns. -/
theorem wpList_appendAll {ops : Array Oper} {rest : List Oper} {o : Oper} {a : Act} {Q : Exit → Act → World → Prop} (w : World) (hgd : o.guard = none) (s x : Operand)
    (ho : o.op = .call { callee := .builtin .append, args := #[s, x], argTypes := #[22, 22] }) (B : Nat) (v : Value) (xs ps : List Int) (hs : a.eval s = v) (hown : Own B w v xs)
    (b off c : Nat) (hx : a.eval x = .slice (some ⟨b, off, none⟩) ps.length c) (hr : Reads w (some ⟨b, off, none⟩) ps) (hlen : xs.length + ps.length ≤ 1048576) (h1 : 1 ≤ ps.length) (hB : B ≤ w.heap.size)
    (h : ∀ v' w', Own B w' v' (xs ++ ps) → Below B w w' → wpList Try.prog ops Q rest (a.put o.dst v') w') : wpList Try.prog ops Q (o :: rest) a w := by
  obtain ⟨i0, hi, hz0, hz1, hz2⟩ := info_parts Try.info3
  refine wpList_append_own w hgd s x 22 ho B 3 i0 (.int .i64 0) 1 8 Try.underlying22 hi hz0 hz1 hz2 rfl (by decide) v xs.length _ hs hown ⟨b, off, none⟩ ps.length c (ps.map (Value.int .i64)) hx (by simp) ?_ (by simp [Value.oneCell']) (by unfold maxLen; omega) (by omega) hB ?_
  · intro j u hj
    rw [List.getElem?_map] at hj
    obtain ⟨y, hy, rfl⟩ := Option.map_eq_some_iff.mp hj
    obtain ⟨hlt, he⟩ := List.getElem?_eq_some_iff.mp hy
    obtain ⟨b', off', e, _, hc⟩ := hr j hlt
    cases e
    rw [nth_eq _ _ hlt, he] at hc
    cases j with
    | zero => simpa [Addr.add] using hc
    | succ j => simpa [Addr.add] using hc
  · intro v' w' h1 h2 _
    refine h v' w' ?_ ((Below.refl _ _).grown h2 hB (fun k hk => (World.ownsRow.lt hown k hk).1))
    unfold Own; simpa using h1

set_option maxHeartbeats 1000000 in
set_option maxRecDepth 100000 in
theorem l6Normal_n (s : Int) (a : Option Addr) (c n : Nat) (ps : List Int) (w : World) (hn : ps.length = n) (hx : Reads w a ps) (hxm : ps.length ≤ 16) (h1 : 1 ≤ ps.length) (hr : allB 0 4611686018427387904 ps = true) :
    Calls Try.prog 100 #[.int .i64 s, .slice a n c] w fun e w' => ∃ v, e = .returned (.tuple #[.agg #[.int .i64 (mkS s (nonP ps)), v], .bool (mkOk s (nonP ps))]) ∧ Own w.heap.size w' v (mkL s (nonP ps)) ∧ Below w.heap.size w w' := by
  subst hn
  obtain ⟨b, off, rfl, hbl, hc⟩ := hx 0 (by omega)
  have hR := VarInv.made w 0 (.slice none 0 0) 24
  have hbW := belowAlloc w (.cells #[.int .i64 0, .slice none 0 0] 24)
  have hx0 := hx.below hbW
  have HR := Lib.hid (nonP_all (by omega) hr)
  have HL := Lib.hid (nonP_len ps)
  clear hc hx hr
  go_enter Try.func100, Try.ntmps100
  obtain ⟨W, hW⟩ : ∃ W : World, W = w.alloc (.cells #[.int .i64 0, .slice none 0 0] 24) := ⟨_, rfl⟩
  have hsz : W.heap.size = w.heap.size + 1 := by subst hW; simp
  have HSZ := Lib.hid hsz
  rw [← hW] at hR hbW hx0
  have HW := Lib.hid hW
  have hO0 : Own (w.heap.size + 1) (W.alloc (.cells #[] 3)) (.slice (some ⟨w.heap.size + 1, 0, none⟩) 0 0) [] := by have h := Own.made W (w.heap.size + 1) (by omega); rw [hsz] at h; exact h
  clear hW hsz
  have hbA := belowAlloc W (.cells #[] 3)
  go_wp2_with (at_builtin; (try rw [← HW.out]); refine wpList_appendAll _ rfl _ _ rfl (w.heap.size + 1) _ [] ps rfl hO0 b off c rfl (hx0.below hbA) (by simp; omega) h1 (by have := HSZ.out; simp; omega) ?_; intro v1 w1 ho1 hba)
  rw [List.nil_append] at ho1
  obtain ⟨g, c1, rfl, hgB, hgl⟩ := ho1.form (by omega)
  obtain ⟨q1, q2⟩ := ho1.cellAt rfl 0 (by omega)
  have hb1 := hbA.trans (hba.mono (by have := HSZ.out; omega))
  have hR1 := hR.keep hb1 (by have := HSZ.out; omega)
  have HST := Lib.hid (ho1.storedAt rfl 0 0)
  have hbf := hbW.thenB hb1
  have hz1 := hb1.size
  have h0l : 0 < ps.length := by omega
  clear ho1 hba hb1 hR hx0 hO0
  go_simp
  go_wp2_with fail
  have jR0 := hR1.other ⟨g, 0, none⟩ (by show g ≠ w.heap.size; omega) (.int .i64 0)
  have HN := Lib.hid (show Own (w.heap.size + 1) (w1.setCell ⟨g, 0, none⟩ (.int .i64 0)) (.slice (some ⟨g, 0, none⟩) ps.length c1) (nonP ps) from HST.out)
  refine (l3Made_n _ _ _ _ (nonP ps) _ HL.out HN.out.reads (by rw [HL.out]; omega) HR.out).mono ?_
  rintro e w3 ⟨v, rfl, ho2, hb3⟩
  obtain ⟨p2, c2, rfl, hr2⟩ := ho2.shape
  clear hr2
  have jR := jR0.later hb3
  have s0 := jR.c0
  have s1 := jR.c1
  have s2 := jR.f0
  have s3 := jR.f1
  have hbs := (hbf.setCell (p := ⟨g, 0, none⟩) (by show _ ≤ g; omega) (.int .i64 0)).thenB hb3
  have hz3 : w1.heap.size ≤ w3.heap.size := by simpa using hb3.size
  go_wp2
  refine bodyPost_ret (v := .tuple #[.agg #[.int .i64 (mkS s (nonP ps)), .slice p2 (mkL s (nonP ps)).length c2], .bool (mkOk s (nonP ps))]) (by simp [results, Try.results100, go_sem, s0, s1, s2, s3]) rfl ⟨_, rfl, ?_, ?_⟩
  · exact ((ho2.setBelow (by show w.heap.size < _; simp; omega) _).setBelow (by show w.heap.size < _; simp; omega) _).mono (by simp; omega)
  · exact (hbs.setCell (by show _ ≤ w.heap.size; omega) _).setCell (by show _ ≤ w.heap.size; omega) _

theorem cellStoreL {w : World} {m o b k : Nat} {v x : Value} (h : w.cell? ⟨b, o, none⟩ = some v) (hne : m ≠ b) : (w.setCell ⟨m, k, none⟩ x).cell? ⟨b, o, none⟩ = some v := by
  rw [World.cell?_setCell_other _ _ _ _ (fun e => hne (by cases e; rfl))]; exact h

/-- The parts of what is learned. -/
def lnP (a : Nat) (xs : List Int) : List Int := nonP (cutP a xs)

theorem lnP_len (a : Nat) (xs : List Int) : (lnP a xs).length = xs.length := by rw [lnP, nonP_len, cutP_len]

theorem lnR_len (s : Int) (xs : List Int) (a : Int) (h : xs.length ≤ 1048576) : (gL (msB s xs a) s (lnP a.toNat xs)).length ≤ 1048576 := by
  have := gL_len (msB s xs a) s (lnP a.toNat xs)
  rw [lnP_len] at this
  omega

theorem together_cut (xs : List Int) (a : Nat) (ha : a < xs.length) : togTo (fun b c => b &&& c) xs (sureL xs.length a) (zeros xs.length) xs.length = cutP a xs := togTo_sure xs a xs.length ha _ _

end Go.Proofs.Ytmbipmdflbddbaa
