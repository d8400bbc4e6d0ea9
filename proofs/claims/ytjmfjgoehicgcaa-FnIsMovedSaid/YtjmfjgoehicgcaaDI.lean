/- Two masses and a list that are drawn. -/
import Derived.Test.YtjmfjgoehicgcaaMgDD
import Derived.Test.YtjmfjgoehicgcaaMgJK
set_option linter.unusedVariables false
set_option linter.unusedSimpArgs false
namespace Go.Proofs.Ytjmfjgoehicgcaa
open Go.RowKit

/-- Two masses and a list, opened. -/
def OutMoved (w : World) (e : Ending) (w' : World) : Prop := ∃ (s : Int) (p : Option Addr) (c : Nat) (xs : List Int) (t : Int) (q : Option Addr) (d : Nat) (ys : List Int) (r : Option Addr) (k : Nat) (ls : List Int), e = .returned (.tuple #[.agg #[.int .i64 s, .slice p xs.length c], .agg #[.int .i64 t, .slice q ys.length d], .slice r ls.length k]) ∧ xs.length ≤ 17 ∧ ys.length ≤ 17 ∧ ls.length ≤ 257 ∧ Reads w' p xs ∧ Reads w' q ys ∧ Reads w' r ls ∧ Below w.heap.size w w'

theorem twoM (w : World) (s t : Int) (u v : Value) : ∃ W : World, W = (w.alloc (.cells #[.int .i64 s, u] 27)).alloc (.cells #[.int .i64 t, v] 27) ∧ W.heap.size = w.heap.size + 2 ∧ Below w.heap.size w W ∧ VarInv W w.heap.size s u ∧ VarInv W (w.heap.size + 1) t v := by
  refine ⟨_, rfl, by simp, (belowAlloc _ _).thenB (belowAlloc _ _), (VarInv.made _ _ _ _).later (belowAlloc _ _), ?_⟩
  have h := VarInv.made (w.alloc (.cells #[.int .i64 s, u] 27)) t v 27
  rw [show (w.alloc (.cells #[.int .i64 s, u] 27)).heap.size = w.heap.size + 1 by simp] at h
  exact h

set_option maxHeartbeats 8000000 in
theorem DrawIsMoved_any (a0 : Option Addr) (c0 : Nat) (bs : List Int) (w : World) (hx : ReadsK .u8 w a0 bs) (hwf : ∀ n ∈ bs, (Lit.int .u8 n).wf = true) (hl : bs.length ≤ maxLen) (hc : bs.length ≤ c0) :
    Calls Try.prog 48 #[.slice a0 bs.length c0] w (OutMoved w) := by
  obtain ⟨W, hW, hsz, hbW, hV, hU⟩ := twoV w
  have hxW := hx.below hbW
  have HSZ := Lib.hid hsz
  have HW := Lib.hid hW
  clear hW hsz hx
  have HO := Lib.hid (l14Open_any a0 c0 bs W hxW hwf hl hc)
  unfold maxLen at hl
  clear hxW hwf
  go_enter Try.func48, Try.ntmps48
  go_wp2_with fail
  rw [← HW.out]
  refine HO.out.mono ?_
  rintro e w1 ⟨rfl, hR1, b1⟩
  clear HO
  have hV1 := hV.later b1
  have hU1 := hU.later b1
  have bb1 := hbW.thenB b1
  have z1 := b1.size
  obtain ⟨R, hRe⟩ : ∃ R, R = W.heap.size := ⟨_, rfl⟩
  rw [← hRe] at hR1 ⊢
  have HR := Lib.hid hRe
  clear hRe hV hU hbW b1 hc
  have hRlt := hR1.lt
  go_wp2_with fail
  refine (l8Pair_any R 0 w1 hR1 (by omega)).mono ?_
  rintro e w2 ⟨s, v, xs, t, u, ys, rfl, hxl, hyl, hO, hY, hR2, hD2⟩
  obtain ⟨p, c, rfl, hr⟩ := hO.shape
  obtain ⟨q, d, rfl, hr2⟩ := hY.shape
  have hV2 := hV1.drB hD2 (by have := HSZ.out; omega) (by have := HR.out; have := HSZ.out; omega)
  have hU2 := hU1.drB hD2 (by have := HSZ.out; omega) (by have := HR.out; have := HSZ.out; omega)
  have bb2 := bb1.trans ((hD2.mono (show w.heap.size ≤ w1.heap.size by have := HSZ.out; omega)).below (by have := HR.out; have := HSZ.out; omega))
  have z2 := hD2.size
  have zR := hR2.lt
  obtain ⟨W2, hW2, hs2, hb2, hM, hN⟩ := twoM w2 s t (.slice p xs.length c) (.slice q ys.length d)
  have hO2 := hO.later hb2
  have hY2 := hY.later hb2
  have hRW := hR2.later hb2
  have rx := hO2.reads
  have ry := hY2.reads
  have hV3 := hV2.later hb2
  have hU3 := hU2.later hb2
  have bb3 := bb2.thenB hb2
  have FIN : Hid (∀ w' : World, Dr W2.heap.size R W2 w' → VarInv w' w.heap.size 0 (.slice none 0 0) ∧ VarInv w' (w.heap.size + 1) 0 (.slice none 0 0) ∧ VarInv w' w2.heap.size s (.slice p xs.length c) ∧ VarInv w' (w2.heap.size + 1) t (.slice q ys.length d) ∧ Own w1.heap.size w' (.slice p xs.length c) xs ∧ Own w1.heap.size w' (.slice q ys.length d) ys ∧ Below w.heap.size w w') := Lib.hid (fun w' de => by
    have e1 := HSZ.out
    have e2 := HR.out
    exact ⟨hV3.drB de (by omega) (by omega), hU3.drB de (by omega) (by omega), hM.drB de (by omega) (by omega), hN.drB de (by omega) (by omega), hO2.dr de hRlt, hY2.dr de hRlt, bb3.trans ((de.mono (show w.heap.size ≤ W2.heap.size by omega)).below (by omega))⟩)
  obtain ⟨SP, hSP⟩ : ∃ x, x = spB s xs t ys := ⟨_, rfl⟩
  obtain ⟨M, hMe⟩ : ∃ x, x = mvL s xs t ys := ⟨_, rfl⟩
  have hMl : M.length ≤ 256 := by rw [hMe]; exact mvL_len16 _ _ _ _
  have hF := sMovedParts_any s p c xs t q d ys W2 rx ry (by omega) (by omega)
  rw [← hSP, ← hMe] at hF
  have HF := Lib.hid hF
  have HW2 := Lib.hid hW2
  have HS2 := Lib.hid hs2
  have hRW2 : R < W2.heap.size := by omega
  have wlt : w1.heap.size ≤ W2.heap.size := by omega
  clear hr hr2 hV1 hU1 hD2 hR1 hR2 bb1 hO hY hV2 hU2 bb2 hO2 hY2 rx ry hV3 hU3 bb3 hM hN hb2 hF hSP hMe hW2 hs2
  go_wp2_with fail
  rw [← HW2.out]
  refine HF.out.mono ?_
  rintro e w4 ⟨v, rfl, oM, b4⟩
  have hR4 := hRW.later b4
  have d4 : Dr W2.heap.size R W2 w4 := Dr.ofBelow b4
  have z4 := b4.size
  clear b4 hRW HF
  obtain ⟨r, k, rfl, _r⟩ := oM.shape
  clear _r
  go_wp2_with fail
  refine (pick_any R 100 6 w4 hR4 (by omega) (by omega) (by omega)).mono ?_
  rintro e w5 ⟨x, rfl, hx, hR5, hD5⟩
  have oM5 := oM.dr hD5 hRW2
  have d5 := d4.then z4 hD5
  have z5 := hD5.size
  clear d4 oM hR4 hD5
  rcases (show x = 0 ∨ x = 1 ∨ 1 < x by omega) with rfl | rfl | hx1
  · skip
    go_wp2_with (at_builtin; refine wpList_append1 _ rfl _ _ rfl W2.heap.size _ _ (by rfl) (oM5.later (belowAlloc _ _)) ⟨w5.heap.size, 0, none⟩ 1 0 (by rfl) (newCell _ _ _) (by omega) (by simp; omega) ?_; intro v1 w6 ho6 hb6; obtain ⟨g6, c6, rfl, _g, _g2⟩ := ho6.form (by simp); (have d6 : Dr W2.heap.size R W2 w6 := (d5.trans (Dr.ofBelow ((belowAlloc w5 (.cells #[.int .i64 0] 3)).mono (show W2.heap.size ≤ w5.heap.size by omega)))).trans (Dr.ofBelow hb6)); (have hL6 : (M ++ [0]).length ≤ 257 := by simp; omega); generalize M ++ [0] = L at ho6 hL6 ⊢; clear oM5 d5 hR5 hb6 _g _g2; (obtain ⟨tV, tU, tM, tN, tO, tY, tB⟩ := FIN.out w6 d6); (have m0 := tM.c0); (have m1 := tM.c1); (have n0 := tN.c0); (have n1 := tN.c1); (have s0 := tV.c0); (have s1 := tV.c1); (have s2 := tV.f0); (have s3 := tV.f1); (have u0 := tU.c0); (have u1 := tU.c1); (have u2 := tU.f0); (have u3 := tU.f1))
    have e1 : w.heap.size < w2.heap.size := by have := HSZ.out; omega
    have e2 : w.heap.size + 1 < w2.heap.size := by have := HSZ.out; omega
    have e3 : w.heap.size < w2.heap.size + 1 := by omega
    have e4 : w.heap.size + 1 < w2.heap.size + 1 := by omega
    have hLL : L.length = L.length ∧ L.length ≤ 257 := ⟨rfl, hL6⟩
    have HPK := Lib.hid (And.intro tO (And.intro tY (And.intro ho6 (And.intro tB hLL))))
    clear tV tU tM tN tO tY tB ho6 hLL
    go_region
    all_goals obtain ⟨tO, tY, oL, tB, hLL⟩ := HPK.out
    all_goals go_wp2
    all_goals refine bodyPost_ret (v := .tuple #[.agg #[.int .i64 s, .slice p xs.length c], .agg #[.int .i64 t, .slice q ys.length d], .slice (some ⟨g6, 0, none⟩) L.length c6]) (by simp [results, Try.results48, go_sem, s0, s1, s2, s3, u0, u1, u2, u3]) rfl ⟨s, p, c, xs, t, q, d, ys, (some ⟨g6, 0, none⟩), c6, L, by first | rfl | rw [hLL.1], hxl, hyl, hLL.2, ?_, ?_, ?_, ?_⟩
    all_goals first
      | exact ((((tO.setBelow (by have := HSZ.out; have := HS2.out; first | omega | (simp; omega)) _).setBelow (by have := HSZ.out; have := HS2.out; first | omega | (simp; omega)) _).setBelow (by have := HSZ.out; have := HS2.out; first | omega | (simp; omega)) _).setBelow (by have := HSZ.out; have := HS2.out; first | omega | (simp; omega)) _).reads
      | exact ((((tY.setBelow (by have := HSZ.out; have := HS2.out; first | omega | (simp; omega)) _).setBelow (by have := HSZ.out; have := HS2.out; first | omega | (simp; omega)) _).setBelow (by have := HSZ.out; have := HS2.out; first | omega | (simp; omega)) _).setBelow (by have := HSZ.out; have := HS2.out; first | omega | (simp; omega)) _).reads
      | exact ((((oL.setBelow (by have := HSZ.out; have := HS2.out; first | omega | (simp; omega)) _).setBelow (by have := HSZ.out; have := HS2.out; first | omega | (simp; omega)) _).setBelow (by have := HSZ.out; have := HS2.out; first | omega | (simp; omega)) _).setBelow (by have := HSZ.out; have := HS2.out; first | omega | (simp; omega)) _).reads
      | exact (((tB.setCell (by first | omega | simp) _).setCell (by first | omega | simp) _).setCell (by first | omega | simp) _).setCell (by first | omega | simp) _
      | exact ReadsK.drew ((((tO.setBelow (a := ⟨w.heap.size, 0, none⟩) (by show w.heap.size < _; have := HSZ.out; have := HS2.out; omega) _).setBelow (a := ⟨w.heap.size, 1, none⟩) (by show w.heap.size < _; have := HSZ.out; have := HS2.out; omega) _).setBelow (a := ⟨w.heap.size + 1, 0, none⟩) (by show w.heap.size + 1 < _; have := HSZ.out; have := HS2.out; omega) _).setBelow (a := ⟨w.heap.size + 1, 1, none⟩) (by show w.heap.size + 1 < _; have := HSZ.out; have := HS2.out; omega) _).reads
      | exact ReadsK.drew ((((tY.setBelow (a := ⟨w.heap.size, 0, none⟩) (by show w.heap.size < _; have := HSZ.out; have := HS2.out; omega) _).setBelow (a := ⟨w.heap.size, 1, none⟩) (by show w.heap.size < _; have := HSZ.out; have := HS2.out; omega) _).setBelow (a := ⟨w.heap.size + 1, 0, none⟩) (by show w.heap.size + 1 < _; have := HSZ.out; have := HS2.out; omega) _).setBelow (a := ⟨w.heap.size + 1, 1, none⟩) (by show w.heap.size + 1 < _; have := HSZ.out; have := HS2.out; omega) _).reads
      | exact ReadsK.drew ((((oL.setBelow (a := ⟨w.heap.size, 0, none⟩) (by show w.heap.size < _; have := HSZ.out; have := HS2.out; omega) _).setBelow (a := ⟨w.heap.size, 1, none⟩) (by show w.heap.size < _; have := HSZ.out; have := HS2.out; omega) _).setBelow (a := ⟨w.heap.size + 1, 0, none⟩) (by show w.heap.size + 1 < _; have := HSZ.out; have := HS2.out; omega) _).setBelow (a := ⟨w.heap.size + 1, 1, none⟩) (by show w.heap.size + 1 < _; have := HSZ.out; have := HS2.out; omega) _).reads
      | exact drewAll ((((tB.setCell (p := ⟨w.heap.size, 0, none⟩) (by show w.heap.size ≤ w.heap.size; omega) _).setCell (p := ⟨w.heap.size, 1, none⟩) (by show w.heap.size ≤ w.heap.size; omega) _).setCell (p := ⟨w.heap.size + 1, 0, none⟩) (by show w.heap.size ≤ w.heap.size + 1; omega) _).setCell (p := ⟨w.heap.size + 1, 1, none⟩) (by show w.heap.size ≤ w.heap.size + 1; omega) _)
  · by_cases h0 : M.length = 0
    · obtain rfl : M = [] := List.length_eq_zero_iff.1 h0
      clear h0 hMl
      have oM5 : Own W2.heap.size w5 (.slice r 0 k) [] := oM5
      obtain ⟨tV, tU, tM, tN, tO, tY, tB⟩ := FIN.out w5 d5
      have m0 := tM.c0
      have m1 := tM.c1
      have n0 := tN.c0
      have n1 := tN.c1
      have s0 := tV.c0
      have s1 := tV.c1
      have s2 := tV.f0
      have s3 := tV.f1
      have u0 := tU.c0
      have u1 := tU.c1
      have u2 := tU.f0
      have u3 := tU.f1
      go_wp2_with fail
      have e1 : w.heap.size < w2.heap.size := by have := HSZ.out; omega
      have e2 : w.heap.size + 1 < w2.heap.size := by have := HSZ.out; omega
      have e3 : w.heap.size < w2.heap.size + 1 := by omega
      have e4 : w.heap.size + 1 < w2.heap.size + 1 := by omega
      have hLL : 0 = ([] : List Int).length ∧ ([] : List Int).length ≤ 257 := ⟨rfl, by simp⟩
      have HPK := Lib.hid (And.intro tO (And.intro tY (And.intro oM5 (And.intro tB hLL))))
      clear tV tU tM tN tO tY tB oM5 hLL
      go_region
      all_goals obtain ⟨tO, tY, oL, tB, hLL⟩ := HPK.out
      all_goals go_wp2
      all_goals refine bodyPost_ret (v := .tuple #[.agg #[.int .i64 s, .slice p xs.length c], .agg #[.int .i64 t, .slice q ys.length d], .slice r 0 k]) (by simp [results, Try.results48, go_sem, s0, s1, s2, s3, u0, u1, u2, u3]) rfl ⟨s, p, c, xs, t, q, d, ys, r, k, ([] : List Int), by first | rfl | rw [hLL.1], hxl, hyl, hLL.2, ?_, ?_, ?_, ?_⟩
      all_goals first
        | exact ((((tO.setBelow (by have := HSZ.out; have := HS2.out; first | omega | (simp; omega)) _).setBelow (by have := HSZ.out; have := HS2.out; first | omega | (simp; omega)) _).setBelow (by have := HSZ.out; have := HS2.out; first | omega | (simp; omega)) _).setBelow (by have := HSZ.out; have := HS2.out; first | omega | (simp; omega)) _).reads
        | exact ((((tY.setBelow (by have := HSZ.out; have := HS2.out; first | omega | (simp; omega)) _).setBelow (by have := HSZ.out; have := HS2.out; first | omega | (simp; omega)) _).setBelow (by have := HSZ.out; have := HS2.out; first | omega | (simp; omega)) _).setBelow (by have := HSZ.out; have := HS2.out; first | omega | (simp; omega)) _).reads
        | exact ((((oL.setBelow (by have := HSZ.out; have := HS2.out; first | omega | (simp; omega)) _).setBelow (by have := HSZ.out; have := HS2.out; first | omega | (simp; omega)) _).setBelow (by have := HSZ.out; have := HS2.out; first | omega | (simp; omega)) _).setBelow (by have := HSZ.out; have := HS2.out; first | omega | (simp; omega)) _).reads
        | exact (((tB.setCell (by first | omega | simp) _).setCell (by first | omega | simp) _).setCell (by first | omega | simp) _).setCell (by first | omega | simp) _
        | exact ReadsK.drew ((((tO.setBelow (a := ⟨w.heap.size, 0, none⟩) (by show w.heap.size < _; have := HSZ.out; have := HS2.out; omega) _).setBelow (a := ⟨w.heap.size, 1, none⟩) (by show w.heap.size < _; have := HSZ.out; have := HS2.out; omega) _).setBelow (a := ⟨w.heap.size + 1, 0, none⟩) (by show w.heap.size + 1 < _; have := HSZ.out; have := HS2.out; omega) _).setBelow (a := ⟨w.heap.size + 1, 1, none⟩) (by show w.heap.size + 1 < _; have := HSZ.out; have := HS2.out; omega) _).reads
        | exact ReadsK.drew ((((tY.setBelow (a := ⟨w.heap.size, 0, none⟩) (by show w.heap.size < _; have := HSZ.out; have := HS2.out; omega) _).setBelow (a := ⟨w.heap.size, 1, none⟩) (by show w.heap.size < _; have := HSZ.out; have := HS2.out; omega) _).setBelow (a := ⟨w.heap.size + 1, 0, none⟩) (by show w.heap.size + 1 < _; have := HSZ.out; have := HS2.out; omega) _).setBelow (a := ⟨w.heap.size + 1, 1, none⟩) (by show w.heap.size + 1 < _; have := HSZ.out; have := HS2.out; omega) _).reads
        | exact ReadsK.drew ((((oL.setBelow (a := ⟨w.heap.size, 0, none⟩) (by show w.heap.size < _; have := HSZ.out; have := HS2.out; omega) _).setBelow (a := ⟨w.heap.size, 1, none⟩) (by show w.heap.size < _; have := HSZ.out; have := HS2.out; omega) _).setBelow (a := ⟨w.heap.size + 1, 0, none⟩) (by show w.heap.size + 1 < _; have := HSZ.out; have := HS2.out; omega) _).setBelow (a := ⟨w.heap.size + 1, 1, none⟩) (by show w.heap.size + 1 < _; have := HSZ.out; have := HS2.out; omega) _).reads
        | exact drewAll ((((tB.setCell (p := ⟨w.heap.size, 0, none⟩) (by show w.heap.size ≤ w.heap.size; omega) _).setCell (p := ⟨w.heap.size, 1, none⟩) (by show w.heap.size ≤ w.heap.size; omega) _).setCell (p := ⟨w.heap.size + 1, 0, none⟩) (by show w.heap.size ≤ w.heap.size + 1; omega) _).setCell (p := ⟨w.heap.size + 1, 1, none⟩) (by show w.heap.size ≤ w.heap.size + 1; omega) _)
    · obtain ⟨g, k', e, hg1, hg2⟩ := oM5.form (by omega)
      cases e
      have e0 : ((0 : Int) < (M.length : Int)) = True := eq_true (by omega)
      go_wp2_with fail
      refine (pick_any R 101 (M.length : Int) w5 hR5 (by omega) (by omega) (by omega)).mono ?_
      rintro e w6 ⟨y, rfl, hy, hR6, hD6⟩
      have oM6 := oM5.dr hD6 hRW2
      have d6 := d5.then (by omega) hD6
      have z6 := hD6.size
      have hyM : y < M.length := by omega
      clear d5 oM5 hR5 hD6 e0
      have hrd : Reads (w6.alloc (.cells #[.int .i64 0, .int .i64 1, .int .i64 (-1), .int .i64 9223372036854775807] 3)) (some ⟨w6.heap.size, 0, none⟩) [0, 1, -1, 9223372036854775807] := reads_lit w6 [0, 1, -1, 9223372036854775807] _
      go_wp2_with fail
      refine (num_any R 102 _ _ [0, 1, -1, 9223372036854775807] 4 rfl _ (hR6.later (belowAlloc _ _)) (by omega) hrd (by intro a ha; cases ha; simp; have := hR6.lt; omega) (by simp) (by simp)).mono ?_
      rintro e w7 ⟨z, hz, rfl, hR7, hD7⟩
      have bA := belowAlloc w6 (.cells #[.int .i64 0, .int .i64 1, .int .i64 (-1), .int .i64 9223372036854775807] 3)
      have zA : w6.heap.size + 1 = (w6.alloc (.cells #[.int .i64 0, .int .i64 1, .int .i64 (-1), .int .i64 9223372036854775807] 3)).heap.size := by simp
      have oM7 := (oM6.later bA).dr hD7 hRW2
      have d7 := (d6.thenB (by omega) bA).then (by omega) hD7
      obtain ⟨q1, q2⟩ := oM7.cellAt rfl y hyM
      have hN0 : (0 : Int) ≤ (y : Int) := by omega
      have hN1 : (y : Int) < (M.length : Int) := by omega
      have oL := oM7.storedAt rfl y z
      have dL := d7.setCell ⟨g, y, none⟩ (.inl hg1) (.int .i64 z)
      have hL : (M.set y z).length = M.length := by simp
      clear d6 oM6 hR6 hD7 hR7 hz bA zA hrd oM7 d7
      obtain ⟨tV, tU, tM, tN, tO, tY, tB⟩ := FIN.out (w7.setCell ⟨g, y, none⟩ (.int .i64 z)) dL
      have m0 := tM.c0
      have m1 := tM.c1
      have n0 := tN.c0
      have n1 := tN.c1
      have s0 := tV.c0
      have s1 := tV.c1
      have s2 := tV.f0
      have s3 := tV.f1
      have u0 := tU.c0
      have u1 := tU.c1
      have u2 := tU.f0
      have u3 := tU.f1
      have HL := Lib.hid hL
      clear hL dL
      go_wp2_with fail
      generalize w7.setCell ⟨g, y, none⟩ (.int .i64 z) = w8 at *
      have e1 : w.heap.size < w2.heap.size := by have := HSZ.out; omega
      have e2 : w.heap.size + 1 < w2.heap.size := by have := HSZ.out; omega
      have e3 : w.heap.size < w2.heap.size + 1 := by omega
      have e4 : w.heap.size + 1 < w2.heap.size + 1 := by omega
      have hLL : M.length = (M.set y z).length ∧ (M.set y z).length ≤ 257 := ⟨HL.out.symm, by rw [HL.out]; omega⟩
      have HPK := Lib.hid (And.intro tO (And.intro tY (And.intro oL (And.intro tB hLL))))
      clear tV tU tM tN tO tY tB oL hLL
      go_region
      all_goals obtain ⟨tO, tY, oL, tB, hLL⟩ := HPK.out
      all_goals go_wp2
      all_goals refine bodyPost_ret (v := .tuple #[.agg #[.int .i64 s, .slice p xs.length c], .agg #[.int .i64 t, .slice q ys.length d], .slice (some ⟨g, 0, none⟩) M.length k]) (by simp [results, Try.results48, go_sem, s0, s1, s2, s3, u0, u1, u2, u3]) rfl ⟨s, p, c, xs, t, q, d, ys, (some ⟨g, 0, none⟩), k, (M.set y z), by first | rfl | rw [hLL.1], hxl, hyl, hLL.2, ?_, ?_, ?_, ?_⟩
      all_goals first
        | exact ((((tO.setBelow (by have := HSZ.out; have := HS2.out; first | omega | (simp; omega)) _).setBelow (by have := HSZ.out; have := HS2.out; first | omega | (simp; omega)) _).setBelow (by have := HSZ.out; have := HS2.out; first | omega | (simp; omega)) _).setBelow (by have := HSZ.out; have := HS2.out; first | omega | (simp; omega)) _).reads
        | exact ((((tY.setBelow (by have := HSZ.out; have := HS2.out; first | omega | (simp; omega)) _).setBelow (by have := HSZ.out; have := HS2.out; first | omega | (simp; omega)) _).setBelow (by have := HSZ.out; have := HS2.out; first | omega | (simp; omega)) _).setBelow (by have := HSZ.out; have := HS2.out; first | omega | (simp; omega)) _).reads
        | exact ((((oL.setBelow (by have := HSZ.out; have := HS2.out; first | omega | (simp; omega)) _).setBelow (by have := HSZ.out; have := HS2.out; first | omega | (simp; omega)) _).setBelow (by have := HSZ.out; have := HS2.out; first | omega | (simp; omega)) _).setBelow (by have := HSZ.out; have := HS2.out; first | omega | (simp; omega)) _).reads
        | exact (((tB.setCell (by first | omega | simp) _).setCell (by first | omega | simp) _).setCell (by first | omega | simp) _).setCell (by first | omega | simp) _
        | exact ReadsK.drew ((((tO.setBelow (a := ⟨w.heap.size, 0, none⟩) (by show w.heap.size < _; have := HSZ.out; have := HS2.out; omega) _).setBelow (a := ⟨w.heap.size, 1, none⟩) (by show w.heap.size < _; have := HSZ.out; have := HS2.out; omega) _).setBelow (a := ⟨w.heap.size + 1, 0, none⟩) (by show w.heap.size + 1 < _; have := HSZ.out; have := HS2.out; omega) _).setBelow (a := ⟨w.heap.size + 1, 1, none⟩) (by show w.heap.size + 1 < _; have := HSZ.out; have := HS2.out; omega) _).reads
        | exact ReadsK.drew ((((tY.setBelow (a := ⟨w.heap.size, 0, none⟩) (by show w.heap.size < _; have := HSZ.out; have := HS2.out; omega) _).setBelow (a := ⟨w.heap.size, 1, none⟩) (by show w.heap.size < _; have := HSZ.out; have := HS2.out; omega) _).setBelow (a := ⟨w.heap.size + 1, 0, none⟩) (by show w.heap.size + 1 < _; have := HSZ.out; have := HS2.out; omega) _).setBelow (a := ⟨w.heap.size + 1, 1, none⟩) (by show w.heap.size + 1 < _; have := HSZ.out; have := HS2.out; omega) _).reads
        | exact ReadsK.drew ((((oL.setBelow (a := ⟨w.heap.size, 0, none⟩) (by show w.heap.size < _; have := HSZ.out; have := HS2.out; omega) _).setBelow (a := ⟨w.heap.size, 1, none⟩) (by show w.heap.size < _; have := HSZ.out; have := HS2.out; omega) _).setBelow (a := ⟨w.heap.size + 1, 0, none⟩) (by show w.heap.size + 1 < _; have := HSZ.out; have := HS2.out; omega) _).setBelow (a := ⟨w.heap.size + 1, 1, none⟩) (by show w.heap.size + 1 < _; have := HSZ.out; have := HS2.out; omega) _).reads
        | exact drewAll ((((tB.setCell (p := ⟨w.heap.size, 0, none⟩) (by show w.heap.size ≤ w.heap.size; omega) _).setCell (p := ⟨w.heap.size, 1, none⟩) (by show w.heap.size ≤ w.heap.size; omega) _).setCell (p := ⟨w.heap.size + 1, 0, none⟩) (by show w.heap.size ≤ w.heap.size + 1; omega) _).setCell (p := ⟨w.heap.size + 1, 1, none⟩) (by show w.heap.size ≤ w.heap.size + 1; omega) _)
  · have t0 : ((x : Int) == 0) = false := by simp; omega
    have t1 : ((x : Int) == 1) = false := by simp; omega
    obtain ⟨tV, tU, tM, tN, tO, tY, tB⟩ := FIN.out w5 d5
    have m0 := tM.c0
    have m1 := tM.c1
    have n0 := tN.c0
    have n1 := tN.c1
    have s0 := tV.c0
    have s1 := tV.c1
    have s2 := tV.f0
    have s3 := tV.f1
    have u0 := tU.c0
    have u1 := tU.c1
    have u2 := tU.f0
    have u3 := tU.f1
    go_wp2_with fail
    have e1 : w.heap.size < w2.heap.size := by have := HSZ.out; omega
    have e2 : w.heap.size + 1 < w2.heap.size := by have := HSZ.out; omega
    have e3 : w.heap.size < w2.heap.size + 1 := by omega
    have e4 : w.heap.size + 1 < w2.heap.size + 1 := by omega
    have hLL : M.length = M.length ∧ M.length ≤ 257 := ⟨rfl, by omega⟩
    have HPK := Lib.hid (And.intro tO (And.intro tY (And.intro oM5 (And.intro tB hLL))))
    clear tV tU tM tN tO tY tB oM5 hLL
    go_region
    all_goals obtain ⟨tO, tY, oL, tB, hLL⟩ := HPK.out
    all_goals go_wp2
    all_goals refine bodyPost_ret (v := .tuple #[.agg #[.int .i64 s, .slice p xs.length c], .agg #[.int .i64 t, .slice q ys.length d], .slice r M.length k]) (by simp [results, Try.results48, go_sem, s0, s1, s2, s3, u0, u1, u2, u3]) rfl ⟨s, p, c, xs, t, q, d, ys, r, k, M, by first | rfl | rw [hLL.1], hxl, hyl, hLL.2, ?_, ?_, ?_, ?_⟩
    all_goals first
      | exact ((((tO.setBelow (by have := HSZ.out; have := HS2.out; first | omega | (simp; omega)) _).setBelow (by have := HSZ.out; have := HS2.out; first | omega | (simp; omega)) _).setBelow (by have := HSZ.out; have := HS2.out; first | omega | (simp; omega)) _).setBelow (by have := HSZ.out; have := HS2.out; first | omega | (simp; omega)) _).reads
      | exact ((((tY.setBelow (by have := HSZ.out; have := HS2.out; first | omega | (simp; omega)) _).setBelow (by have := HSZ.out; have := HS2.out; first | omega | (simp; omega)) _).setBelow (by have := HSZ.out; have := HS2.out; first | omega | (simp; omega)) _).setBelow (by have := HSZ.out; have := HS2.out; first | omega | (simp; omega)) _).reads
      | exact ((((oL.setBelow (by have := HSZ.out; have := HS2.out; first | omega | (simp; omega)) _).setBelow (by have := HSZ.out; have := HS2.out; first | omega | (simp; omega)) _).setBelow (by have := HSZ.out; have := HS2.out; first | omega | (simp; omega)) _).setBelow (by have := HSZ.out; have := HS2.out; first | omega | (simp; omega)) _).reads
      | exact (((tB.setCell (by first | omega | simp) _).setCell (by first | omega | simp) _).setCell (by first | omega | simp) _).setCell (by first | omega | simp) _
      | exact ReadsK.drew ((((tO.setBelow (a := ⟨w.heap.size, 0, none⟩) (by show w.heap.size < _; have := HSZ.out; have := HS2.out; omega) _).setBelow (a := ⟨w.heap.size, 1, none⟩) (by show w.heap.size < _; have := HSZ.out; have := HS2.out; omega) _).setBelow (a := ⟨w.heap.size + 1, 0, none⟩) (by show w.heap.size + 1 < _; have := HSZ.out; have := HS2.out; omega) _).setBelow (a := ⟨w.heap.size + 1, 1, none⟩) (by show w.heap.size + 1 < _; have := HSZ.out; have := HS2.out; omega) _).reads
      | exact ReadsK.drew ((((tY.setBelow (a := ⟨w.heap.size, 0, none⟩) (by show w.heap.size < _; have := HSZ.out; have := HS2.out; omega) _).setBelow (a := ⟨w.heap.size, 1, none⟩) (by show w.heap.size < _; have := HSZ.out; have := HS2.out; omega) _).setBelow (a := ⟨w.heap.size + 1, 0, none⟩) (by show w.heap.size + 1 < _; have := HSZ.out; have := HS2.out; omega) _).setBelow (a := ⟨w.heap.size + 1, 1, none⟩) (by show w.heap.size + 1 < _; have := HSZ.out; have := HS2.out; omega) _).reads
      | exact ReadsK.drew ((((oL.setBelow (a := ⟨w.heap.size, 0, none⟩) (by show w.heap.size < _; have := HSZ.out; have := HS2.out; omega) _).setBelow (a := ⟨w.heap.size, 1, none⟩) (by show w.heap.size < _; have := HSZ.out; have := HS2.out; omega) _).setBelow (a := ⟨w.heap.size + 1, 0, none⟩) (by show w.heap.size + 1 < _; have := HSZ.out; have := HS2.out; omega) _).setBelow (a := ⟨w.heap.size + 1, 1, none⟩) (by show w.heap.size + 1 < _; have := HSZ.out; have := HS2.out; omega) _).reads
      | exact drewAll ((((tB.setCell (p := ⟨w.heap.size, 0, none⟩) (by show w.heap.size ≤ w.heap.size; omega) _).setCell (p := ⟨w.heap.size, 1, none⟩) (by show w.heap.size ≤ w.heap.size; omega) _).setCell (p := ⟨w.heap.size + 1, 0, none⟩) (by show w.heap.size ≤ w.heap.size + 1; omega) _).setCell (p := ⟨w.heap.size + 1, 1, none⟩) (by show w.heap.size ≤ w.heap.size + 1; omega) _)

end Go.Proofs.Ytjmfjgoehicgcaa
