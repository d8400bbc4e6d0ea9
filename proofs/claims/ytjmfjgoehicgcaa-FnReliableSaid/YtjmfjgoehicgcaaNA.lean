/- Masses that are negated. -/
import Derived.Test.YtjmfjgoehicgcaaMZ
import Derived.Test.YtjmfjgoehicgcaaE2
import Derived.Test.YtjmfjgoehicgcaaZ1
set_option linter.unusedVariables false
set_option linter.unusedSimpArgs false
namespace Go.Proofs.Ytjmfjgoehicgcaa
open Go.RowKit

theorem nth_rev (xs : List Int) (a : Nat) (ha : a < xs.length) : nth xs.reverse a = nth xs (xs.length - 1 - a) := by
  rw [nth_eq _ _ (by rw [List.length_reverse]; exact ha), nth_eq _ _ (by omega), List.getElem_reverse]

theorem nth_snoc (P : List Int) (z : Int) (a : Nat) : nth (P ++ [z]) a = if a < P.length then nth P a else if a = P.length then z else 0 := by
  by_cases h : a < P.length
  · rw [if_pos h]; simp [nth, List.getD, List.getElem?_append, h]
  · rw [if_neg h]
    by_cases e : a = P.length
    · rw [if_pos e]; subst e; simp [nth, List.getD]
    · rw [if_neg e]; simp [nth, List.getD, List.getElem?_append, h, show a - P.length ≠ 0 by omega]

theorem rev_done {xs P : List Int} (hl : P.length = xs.length) (h : ∀ a, a < xs.length → nth P a = nth xs (xs.length - 1 - a)) : P = xs.reverse :=
  nth_ext2 _ _ (by rw [hl, List.length_reverse]) fun a ha => by rw [h a (by omega), nth_rev _ _ (by omega)]

set_option maxHeartbeats 2000000 in
set_option maxRecDepth 100000 in
theorem negated_any (s : Int) (p : Option Addr) (c : Nat) (xs : List Int) (w : World) (hx : Reads w p xs) (hk : MassOk s xs) :
    Calls Try.prog 64 #[.agg #[.int .i64 s, .slice p xs.length c]] w fun e w' => ∃ v, e = .returned (.agg #[.int .i64 s, v]) ∧ Own w.heap.size w' v xs.reverse ∧ Below w.heap.size w w' := by
  obtain ⟨W, hW, bW, hsz, hM, hR⟩ := boxR w s p xs.length c
  have k1 := hk.s1
  have k4 := hk.s4
  have hl16 := hk.l16
  have HLP := Lib.hid hk.len
  have hl2 : 2 ≤ xs.length := by have := hk.len; have := pow2_bd s k1 k4; omega
  clear hk
  have bA := belowAlloc W (.cells #[.int .i64 s, .slice none 0 0] 27)
  have hM0 := hM.later bA
  have hR0 := hR.later bA
  have hV0 : VarInv (W.alloc (.cells #[.int .i64 s, .slice none 0 0] 27)) (w.heap.size + 2) s (.slice none 0 0) := by rw [← hsz]; exact VarInv.made _ _ _ _
  have b0 := bW.thenB bA
  have HW := Lib.hid hW
  have HSZ := Lib.hid hsz
  have m0 := hM.c0
  have m1 := hM.c1
  clear hW hR bA bW
  have hwx : IntKind.i64.wrap ((xs.length : Int) - 1) = (xs.length : Int) - 1 := IntWalk.i64_in _ (by omega)
  go_enter Try.func64, Try.ntmps64
  go_wp2_with fail
  rw [← HW.out]
  clear m0 m1 hM
  go_loopw [4, 11] (fun _ i wr => ∃ (k : Nat) (P : List Int) (v : Value), k ≤ xs.length ∧ i = .int .i64 k ∧ P.length = k ∧ (∀ a, a < k → nth P a = nth xs (xs.length - 1 - a)) ∧ Own (w.heap.size + 3) wr v P ∧ VarInv wr w.heap.size s (.slice p xs.length c) ∧ VarInv wr (w.heap.size + 1) 0 (.slice none 0 0) ∧ VarInv wr (w.heap.size + 2) s v ∧ Below w.heap.size w wr) (fun _ i _ => xs.length - (intOf i).toNat)
  case atStart => exact ⟨0, [], _, Nat.zero_le _, rfl, rfl, fun a ha => absurd ha (Nat.not_lt_zero _), Own.nil _ _, hM0, hR0, hV0, b0⟩
  case round =>
    clear hM0 hR0 hV0 b0
    obtain ⟨k, P, v, hk, rfl, hPl, hP, ho, iM, iR, iV, hb⟩ := hrel
    have HPL := Lib.hid hPl
    have HP := Lib.hid hP
    have zw := iV.lt
    have m0 := iM.c0
    have m1 := iM.c1
    clear hPl hP
    by_cases hlt : k < xs.length
    · obtain ⟨q, hq⟩ : ∃ q, q = xs.length - 1 - k := ⟨_, rfl⟩
      have hqx : q < xs.length := by omega
      obtain ⟨b, off, hpe, hbl, hc0⟩ := hx q hqx
      subst hpe
      have hc := (hb.cell (p := ⟨b, off + q, none⟩) hbl).trans hc0
      have hq0 : (0 : Int) ≤ (q : Int) := by omega
      have hqi : (q : Int) < (xs.length : Int) := by omega
      have HP2 : Hid (∀ a, a < k + 1 → nth (P ++ [nth xs q]) a = nth xs (xs.length - 1 - a)) := Lib.hid (by
        intro a ha
        rw [nth_snoc, HPL.out]
        by_cases e : a < k
        · rw [if_pos e, HP.out a e]
        · rw [if_neg e, if_pos (by omega), hq, show a = k by omega])
      have HPL2 : Hid ((P ++ [nth xs q]).length = k + 1) := Lib.hid (by simp [HPL.out])
      have HQ := Lib.hid hq
      have r1 := iV.c1
      have r2 := iV.f1
      have hxo := xorPow2 s k k1 k4 (by have := HLP.out; omega)
      have hxq : bits .xor .i64 (pow2 s - 1) (k : Int) = (q : Int) := by rw [hxo]; have := HLP.out; omega
      clear hx hc0 hxo hq
      go_wp2_with fail
      go_region_law (first | (refine step_append1 _ (by rfl) _ _ (by rfl) (w.heap.size + 3) _ _ (by rfl) (ho.later (by exact ((Below.refl _ _).alloc (Nat.le_refl _) _).drew)) ⟨wr.heap.size, 0, none⟩ 1 (nth xs q) (by rfl) (by simp) (by have := HPL.out; omega) (by simp; omega) ?_; intro v1 w1 ho1 hba; obtain ⟨p1, k1', rfl, _hr⟩ := ho1.shape; clear _hr; have iV1 := (iV.later (((Below.refl _ _).alloc (Nat.le_refl _) _).drew)).keep hba (by omega); have q1 := iV1.c1; have q2 := iV1.f1) | (go_simp; go_at_call 85; (with_reducible refine (fullSetR_any s _ k1 k4).mono ?_); rintro e w' ⟨rfl, rfl⟩))
      all_goals go_wp2
      all_goals
        have iW : Below wr.heap.size wr (wr.alloc (.cells #[.int .i64 (nth xs q)] 3)).drew := ((Below.refl _ _).alloc (Nat.le_refl _) _).drew
        have iR1 := (iR.later iW).keep hba (by omega)
        have iM1 := (iM.later iW).keep hba (by omega)
        have bB := (hb.thenB iW).trans (hba.mono (by omega))
        have e1 : (P ++ [nth xs q]).length = P.length + 1 := by simp
        rw [e1] at ho1
        exact ⟨⟨k + 1, P ++ [nth xs q], .slice p1 (P.length + 1) k1', by omega, by go_num, by rw [HPL2.out], HP2.out, ho1.setBelow (by show w.heap.size + 2 < _; omega) _, iM1.other _ (by show w.heap.size + 2 ≠ _; omega) _, iR1.other _ (by show w.heap.size + 2 ≠ _; omega) _, iV1.store _, bB.setCell (by show _ ≤ w.heap.size + 2; omega) _⟩, by first | (simp [intOf]; done) | (simp [intOf]; omega)⟩
    · have hkn : k = xs.length := by omega
      subst hkn
      have hPe : P = xs.reverse := rev_done HPL.out HP.out
      subst hPe
      obtain ⟨p2, c2, rfl, _hr⟩ := ho.shape
      clear hx _hr
      have s0 := iR.c0
      have s1 := iR.c1
      have s2 := iR.f0
      have s3 := iR.f1
      have v0 := iV.c0
      have v1 := iV.c1
      go_wp2
      refine bodyPost_ret (v := .agg #[.int .i64 s, .slice p2 xs.reverse.length c2]) (by simp [results, Try.results64, go_sem, s0, s1, s2, s3]) rfl ⟨_, rfl, ?_, ?_⟩
      · exact ((ho.setBelow (by show w.heap.size + 1 < _; omega) _).setBelow (by show w.heap.size + 1 < _; omega) _).mono (by omega)
      · exact (hb.setCell (by show _ ≤ w.heap.size + 1; omega) _).setCell (by show _ ≤ w.heap.size + 1; omega) _

set_option maxHeartbeats 2000000 in
set_option maxRecDepth 100000 in
theorem l6Negate_any (s : Int) (p : Option Addr) (c : Nat) (xs : List Int) (w : World) (hx : Reads w p xs) (hk : MassOk s xs) :
    Calls Try.prog 67 #[.agg #[.int .i64 s, .slice p xs.length c]] w fun e w' => ∃ v, e = .returned (.agg #[.int .i64 s, v]) ∧ Own w.heap.size w' v xs.reverse ∧ Below w.heap.size w w' := by
  obtain ⟨W, hW, bW, hsz, hM, hR⟩ := boxR w s p xs.length c
  have k1 := hk.s1
  have k4 := hk.s4
  have hl16 := hk.l16
  have HLP := Lib.hid hk.len
  have hl2 : 2 ≤ xs.length := by have := hk.len; have := pow2_bd s k1 k4; omega
  clear hk
  have bA := belowAlloc W (.cells #[.int .i64 s, .slice none 0 0] 27)
  have hM0 := hM.later bA
  have hR0 := hR.later bA
  have hV0 : VarInv (W.alloc (.cells #[.int .i64 s, .slice none 0 0] 27)) (w.heap.size + 2) s (.slice none 0 0) := by rw [← hsz]; exact VarInv.made _ _ _ _
  have b0 := bW.thenB bA
  have HW := Lib.hid hW
  have HSZ := Lib.hid hsz
  have m0 := hM.c0
  have m1 := hM.c1
  clear hW hR bA bW
  have hwx : IntKind.i64.wrap ((xs.length : Int) - 1) = (xs.length : Int) - 1 := IntWalk.i64_in _ (by omega)
  go_enter Try.func67, Try.ntmps67
  go_wp2_with fail
  rw [← HW.out]
  clear m0 m1 hM
  go_loopw [4] (fun i wr => ∃ (j : Nat) (P : List Int) (v : Value), j ≤ xs.length ∧ i = .int .i64 ((j : Int) - 1) ∧ P.length = xs.length - j ∧ (∀ a, a < xs.length - j → nth P a = nth xs (xs.length - 1 - a)) ∧ Own (w.heap.size + 3) wr v P ∧ VarInv wr w.heap.size s (.slice p xs.length c) ∧ VarInv wr (w.heap.size + 1) 0 (.slice none 0 0) ∧ VarInv wr (w.heap.size + 2) s v ∧ Below w.heap.size w wr) (fun i _ => (intOf i + 1).toNat)
  case atStart => exact ⟨xs.length, [], _, Nat.le_refl _, rfl, by simp, fun a ha => by omega, Own.nil _ _, hM0, hR0, hV0, b0⟩
  case round =>
    clear hM0 hR0 hV0 b0
    obtain ⟨j, P, v, hj, rfl, hPl, hP, ho, iM, iR, iV, hb⟩ := hrel
    have HPL := Lib.hid hPl
    have HP := Lib.hid hP
    have zw := iV.lt
    have m0 := iM.c0
    have m1 := iM.c1
    clear hPl hP
    rcases Nat.eq_zero_or_pos j with hj0 | hj0
    rotate_left
    · obtain ⟨q, rfl⟩ : ∃ q, j = q + 1 := ⟨j - 1, by omega⟩
      rw [show ((q + 1 : Nat) : Int) - 1 = (q : Int) by omega]
      obtain ⟨k, hk0⟩ : ∃ k, k = xs.length - (q + 1) := ⟨_, rfl⟩
      have hq : q = xs.length - 1 - k := by omega
      have hlt : k < xs.length := by omega
      have hkq : xs.length - q = k + 1 := by omega
      rw [← hk0] at HPL HP
      have hqx : q < xs.length := by omega
      obtain ⟨b, off, hpe, hbl, hc0⟩ := hx q hqx
      subst hpe
      have hc := (hb.cell (p := ⟨b, off + q, none⟩) hbl).trans hc0
      have hq0 : (0 : Int) ≤ (q : Int) := by omega
      have hqi : (q : Int) < (xs.length : Int) := by omega
      have HP2 : Hid (∀ a, a < k + 1 → nth (P ++ [nth xs q]) a = nth xs (xs.length - 1 - a)) := Lib.hid (by
        intro a ha
        rw [nth_snoc, HPL.out]
        by_cases e : a < k
        · rw [if_pos e, HP.out a e]
        · rw [if_neg e, if_pos (by omega), hq, show a = k by omega])
      have HPL2 : Hid ((P ++ [nth xs q]).length = k + 1) := Lib.hid (by simp [HPL.out])
      have HQ := Lib.hid hq
      have r1 := iV.c1
      have r2 := iV.f1
      clear hx hc0 hq
      go_wp2_with fail
      go_region_law (first | (refine step_append1 _ (by rfl) _ _ (by rfl) (w.heap.size + 3) _ _ (by rfl) (ho.later (by exact ((Below.refl _ _).alloc (Nat.le_refl _) _).drew)) ⟨wr.heap.size, 0, none⟩ 1 (nth xs q) (by rfl) (by simp) (by have := HPL.out; omega) (by simp; omega) ?_; intro v1 w1 ho1 hba; obtain ⟨p1, k1', rfl, _hr⟩ := ho1.shape; clear _hr; have iV1 := (iV.later (((Below.refl _ _).alloc (Nat.le_refl _) _).drew)).keep hba (by omega); have q1 := iV1.c1; have q2 := iV1.f1))
      all_goals go_wp2
      all_goals
        have iW : Below wr.heap.size wr (wr.alloc (.cells #[.int .i64 (nth xs q)] 3)).drew := ((Below.refl _ _).alloc (Nat.le_refl _) _).drew
        have iR1 := (iR.later iW).keep hba (by omega)
        have iM1 := (iM.later iW).keep hba (by omega)
        have bB := (hb.thenB iW).trans (hba.mono (by omega))
        have e1 : (P ++ [nth xs q]).length = P.length + 1 := by simp
        rw [e1] at ho1
        exact ⟨⟨q, P ++ [nth xs q], .slice p1 (P.length + 1) k1', by omega, by go_num, by rw [HPL2.out, hkq], by rw [hkq]; exact HP2.out, ho1.setBelow (by show w.heap.size + 2 < _; omega) _, iM1.other _ (by show w.heap.size + 2 ≠ _; omega) _, iR1.other _ (by show w.heap.size + 2 ≠ _; omega) _, iV1.store _, bB.setCell (by show _ ≤ w.heap.size + 2; omega) _⟩, by first | (simp [intOf]; done) | (simp [intOf]; omega)⟩
    · subst hj0
      simp only [Nat.sub_zero] at HPL HP
      have hPe : P = xs.reverse := rev_done HPL.out HP.out
      subst hPe
      obtain ⟨p2, c2, rfl, _hr⟩ := ho.shape
      clear hx _hr
      have s0 := iR.c0
      have s1 := iR.c1
      have s2 := iR.f0
      have s3 := iR.f1
      have v0 := iV.c0
      have v1 := iV.c1
      go_wp2
      refine bodyPost_ret (v := .agg #[.int .i64 s, .slice p2 xs.reverse.length c2]) (by simp [results, Try.results67, go_sem, s0, s1, s2, s3]) rfl ⟨_, rfl, ?_, ?_⟩
      · exact ((ho.setBelow (by show w.heap.size + 1 < _; omega) _).setBelow (by show w.heap.size + 1 < _; omega) _).mono (by omega)
      · exact (hb.setCell (by show _ ≤ w.heap.size + 1; omega) _).setCell (by show _ ≤ w.heap.size + 1; omega) _

end Go.Proofs.Ytjmfjgoehicgcaa
