/- Two masses that are drawn. -/
import Derived.Test.YtkpnenbkfphldaaD5
import Derived.Test.YtkpnenbkfphldaaV7
set_option linter.unusedVariables false
set_option linter.unusedSimpArgs false
namespace Go.Proofs.Ytkpnenbkfphldaa
open Go.RowKit

def MsPair (B R P : Nat) (w : World) (e : Ending) (w' : World) : Prop := ∃ (s : Int) (v : Value) (xs : List Int) (t : Int) (u : Value) (ys : List Int), e = .returned (.tuple #[.agg #[.int .i64 s, v], .agg #[.int .i64 t, u]]) ∧ xs.length ≤ 17 ∧ ys.length ≤ 17 ∧ Own B w' v xs ∧ Own B w' u ys ∧ Rdr R P w' ∧ Dr B R w w'

theorem Own.drO {B B' R : Nat} {w w' : World} {v : Value} {xs : List Int} (h : Own B w v xs) (hb : Dr B' R w w') (hR : R < B) (hlt : ∀ g, v.ownBlock = some g → B ≤ g ∧ g < B') : Own B w' v xs := by
  refine ⟨h.1, ?_⟩
  rcases h.2 with h2 | ⟨g, cap, cur, a, b, hg, r⟩
  · exact .inl h2
  · exact .inr ⟨g, cap, cur, a, b, by rw [hb.block g (hlt g (by rw [a]; rfl)).2 (by omega)]; exact hg, r⟩

theorem twoV (w : World) : ∃ W : World, W = (w.alloc (.cells #[.int .i64 0, .slice none 0 0] 25)).alloc (.cells #[.int .i64 0, .slice none 0 0] 25) ∧ W.heap.size = w.heap.size + 2 ∧ Below w.heap.size w W ∧ VarInv W w.heap.size 0 (.slice none 0 0) ∧ VarInv W (w.heap.size + 1) 0 (.slice none 0 0) := by
  refine ⟨_, rfl, by simp, (belowAlloc _ _).thenB (belowAlloc _ _), (VarInv.made w _ _ _).later (belowAlloc _ _), ?_⟩
  have h := VarInv.made (w.alloc (.cells #[.int .i64 0, .slice none 0 0] 25)) 0 (.slice none 0 0) 25
  rw [show (w.alloc (.cells #[.int .i64 0, .slice none 0 0] 25)).heap.size = w.heap.size + 1 by simp] at h
  exact h

set_option maxHeartbeats 4000000 in
theorem l3Pair_any (R P : Nat) (w : World) (h : Rdr R P w) (hP : P ≤ 40000) :
    Calls Try.prog 90 #[.pointer (some ⟨R, 0, none⟩)] w (MsPair w.heap.size R (P + 60) w) := by
  have hRlt := h.lt
  obtain ⟨W, hW, hsz, hbW, hV, hU⟩ := twoV w
  have hRW : Rdr R P W := h.later hbW
  have HSZ := Lib.hid hsz
  have HW := Lib.hid hW
  clear hW hsz h
  go_enter Try.func90, Try.ntmps90
  go_wp2_with fail
  rw [← HW.out]
  refine (l3Open_any R P W hRW (by omega)).mono ?_
  rintro e w1 ⟨s, v, xs, rfl, hxl, hO, hR1, hD1⟩
  obtain ⟨p, c, rfl, hr⟩ := hO.shape
  have hV1 := hV.dr (B := 0) hD1 (by omega)
  have hU1 := hU.dr (B := 0) hD1 (by omega)
  have hDw := (Dr.ofBelow hbW).then (by have := HSZ.out; omega) hD1
  have z1 : w.heap.size + 2 ≤ w1.heap.size := by have := hD1.size; have := HSZ.out; omega
  have b1 := belowAlloc w1 (.cells #[.int .i64 s, .slice p xs.length c] 25)
  have hM := VarInv.made w1 s (.slice p xs.length c) 25
  have hV2 := hV1.later b1
  have hU2 := hU1.later b1
  have hO2 := hO.later b1
  have hR2 := hR1.later b1
  have hDw2 := hDw.thenB (by omega) b1
  have hmR : w1.heap.size ≠ R := by have := hR1.lt; omega
  have z2 : w1.heap.size + 1 ≤ (w1.alloc (.cells #[.int .i64 s, .slice p xs.length c] 25)).heap.size := by simp
  have m0 := hM.c0
  have m1 := hM.c1
  clear hr hV hV1 hU hU1 hO hDw hD1 b1 hR1 hbW hRW
  go_wp2_with fail
  clear m0 m1
  generalize w1.alloc (.cells #[.int .i64 s, .slice p xs.length c] 25) = w2 at *
  refine (MassValid_any s p c xs w2 hO2.reads (by omega)).mono ?_
  rintro e w3 ⟨rfl, b3⟩
  replace hM := hM.later b3
  have hV := hV2.later b3
  have hU := hU2.later b3
  have hO := hO2.later b3
  have hR := hR2.later b3
  have hDw := hDw2.thenB (by omega) b3
  have z3 := b3.size
  clear hV2 hU2 hO2 hR2 hDw2 b3

  cases hv : massB s xs
  · skip
    go_wp2_with fail
    replace hM := hM.drew
    replace hV := hV.drew
    replace hU := hU.drew
    replace hO := hO.drew
    replace hR := hR.drew
    replace hDw := hDw.drew
    have m0 := hM.c0
    have m1 := hM.c1
    have s0 := hV.c0
    have s1 := hV.c1
    have s2 := hV.f0
    have s3 := hV.f1
    have u0 := hU.c0
    have u1 := hU.c1
    have u2 := hU.f0
    have u3 := hU.f1
    have zz : w3.drew.heap.size = w3.heap.size := rfl
    have tk : True := trivial
    go_region_held3 (fun w' => w'.cell? ⟨w1.heap.size, 0, none⟩ = some (.int .i64 s) ∧ w'.cell? ⟨w1.heap.size, 1, none⟩ = some (.slice p xs.length c))
      (first | exact ⟨m0, m1⟩ | (refine ⟨cellStore2 m0 ?_, cellStore2 m1 ?_⟩ <;> omega) | (refine ⟨cellStore2 (cellStore2 m0 ?_) ?_, cellStore2 (cellStore2 m1 ?_) ?_⟩ <;> omega))
      (first
        | (go_at_call 91; have _t := tk; (with_reducible refine (l3Open_any R (P + 23) _ hR (by omega)).mono ?_); rintro e w9 ⟨t, u, ys, rfl, hyl, hY, hR9, hD9⟩; obtain ⟨q, d, rfl, hq⟩ := hY.shape; (replace hM := hM.dr (B := 0) hD9 hmR); (replace hV := hV.dr (B := 0) hD9 (by omega)); (replace hU := hU.dr (B := 0) hD9 (by omega)); (replace hO := hO.dr hD9 (by have := HSZ.out; omega)); (replace hDw := hDw.then (by omega) hD9); clear m0 m1 s0 s1 s2 s3 u0 u1 u2 u3; (have m0 := hM.c0); (have m1 := hM.c1); (have s0 := hV.c0); (have s1 := hV.c1); (have s2 := hV.f0); (have s3 := hV.f1); (have u0 := hU.c0); (have u1 := hU.c1); (have u2 := hU.f0); (have u3 := hU.f1); (have z9 := hD9.size); clear hq hD9 tk _t))
    all_goals go_wp2
    all_goals refine bodyPost_ret (v := .tuple #[.agg #[.int .i64 s, .slice p xs.length c], .agg #[.int .i64 t, .slice q ys.length d]]) (by simp [results, Try.results90, go_sem, s0, s1, s2, s3, u0, u1, u2, u3]) rfl ⟨s, _, xs, t, _, ys, rfl, hxl, hyl, ?_, ?_, ?_, ?_⟩
    all_goals first
      | exact ((((hO.setBelow (by have := HSZ.out; first | omega | (simp; omega)) _).setBelow (by have := HSZ.out; first | omega | (simp; omega)) _).setBelow (by have := HSZ.out; first | omega | (simp; omega)) _).setBelow (by have := HSZ.out; first | omega | (simp; omega)) _).mono (by have := HSZ.out; omega)
      | exact ((((hY.setBelow (by have := HSZ.out; first | omega | (simp; omega)) _).setBelow (by have := HSZ.out; first | omega | (simp; omega)) _).setBelow (by have := HSZ.out; first | omega | (simp; omega)) _).setBelow (by have := HSZ.out; first | omega | (simp; omega)) _).mono (by have := HSZ.out; omega)
      | exact ((((hR9.setCell _ (by have := HSZ.out; first | omega | (simp; omega)) _).setCell _ (by have := HSZ.out; first | omega | (simp; omega)) _).setCell _ (by have := HSZ.out; first | omega | (simp; omega)) _).setCell _ (by have := HSZ.out; first | omega | (simp; omega)) _).more (by omega)
      | exact ((((hDw.setCell _ (.inl (by first | omega | simp)) _).setCell _ (.inl (by first | omega | simp)) _).setCell _ (.inl (by first | omega | simp)) _).setCell _ (.inl (by first | omega | simp)) _)
  · have hk := massB_ok hv
    have k1 := hk.s1
    have k4 := hk.s4
    clear hk
    have m0 := hM.c0
    have m1 := hM.c1
    go_wp2_with fail
    clear m0 m1
    refine (pick_any R (P + 23) 16 w3 hR (by omega) (by omega) (by omega)).mono ?_
    rintro e w4 ⟨x, rfl, hx, hR4, hD4⟩
    replace hM := hM.dr (B := 0) hD4 hmR
    replace hV := hV.dr (B := 0) hD4 (by omega)
    replace hU := hU.dr (B := 0) hD4 (by omega)
    replace hO := hO.dr hD4 (by have := HSZ.out; omega)
    replace hDw := hDw.then (by omega) hD4
    have z4 := hD4.size
    replace hR := hR4
    clear hR4 hD4
    by_cases h0 : x = 0
    · subst h0
      go_wp2_with fail
      replace hM := hM.drew
      replace hV := hV.drew
      replace hU := hU.drew
      replace hO := hO.drew
      replace hR := hR.drew
      replace hDw := hDw.drew
      have m0 := hM.c0
      have m1 := hM.c1
      have s0 := hV.c0
      have s1 := hV.c1
      have s2 := hV.f0
      have s3 := hV.f1
      have u0 := hU.c0
      have u1 := hU.c1
      have u2 := hU.f0
      have u3 := hU.f1
      have zz : w4.drew.heap.size = w4.heap.size := rfl
      have tk : True := trivial
      go_region_held3 (fun w' => w'.cell? ⟨w1.heap.size, 0, none⟩ = some (.int .i64 s) ∧ w'.cell? ⟨w1.heap.size, 1, none⟩ = some (.slice p xs.length c))
        (first | exact ⟨m0, m1⟩ | (refine ⟨cellStore2 m0 ?_, cellStore2 m1 ?_⟩ <;> omega) | (refine ⟨cellStore2 (cellStore2 m0 ?_) ?_, cellStore2 (cellStore2 m1 ?_) ?_⟩ <;> omega))
        (first
          | (go_at_call 91; have _t := tk; (with_reducible refine (l3Open_any R (P + 23 + 1) _ hR (by omega)).mono ?_); rintro e w9 ⟨t, u, ys, rfl, hyl, hY, hR9, hD9⟩; obtain ⟨q, d, rfl, hq⟩ := hY.shape; (replace hM := hM.dr (B := 0) hD9 hmR); (replace hV := hV.dr (B := 0) hD9 (by omega)); (replace hU := hU.dr (B := 0) hD9 (by omega)); (replace hO := hO.dr hD9 (by have := HSZ.out; omega)); (replace hDw := hDw.then (by omega) hD9); clear m0 m1 s0 s1 s2 s3 u0 u1 u2 u3; (have m0 := hM.c0); (have m1 := hM.c1); (have s0 := hV.c0); (have s1 := hV.c1); (have s2 := hV.f0); (have s3 := hV.f1); (have u0 := hU.c0); (have u1 := hU.c1); (have u2 := hU.f0); (have u3 := hU.f1); (have z9 := hD9.size); clear hq hD9 tk _t))
      all_goals go_wp2
      all_goals refine bodyPost_ret (v := .tuple #[.agg #[.int .i64 s, .slice p xs.length c], .agg #[.int .i64 t, .slice q ys.length d]]) (by simp [results, Try.results90, go_sem, s0, s1, s2, s3, u0, u1, u2, u3]) rfl ⟨s, _, xs, t, _, ys, rfl, hxl, hyl, ?_, ?_, ?_, ?_⟩
      all_goals first
        | exact ((((hO.setBelow (by have := HSZ.out; first | omega | (simp; omega)) _).setBelow (by have := HSZ.out; first | omega | (simp; omega)) _).setBelow (by have := HSZ.out; first | omega | (simp; omega)) _).setBelow (by have := HSZ.out; first | omega | (simp; omega)) _).mono (by have := HSZ.out; omega)
        | exact ((((hY.setBelow (by have := HSZ.out; first | omega | (simp; omega)) _).setBelow (by have := HSZ.out; first | omega | (simp; omega)) _).setBelow (by have := HSZ.out; first | omega | (simp; omega)) _).setBelow (by have := HSZ.out; first | omega | (simp; omega)) _).mono (by have := HSZ.out; omega)
        | exact ((((hR9.setCell _ (by have := HSZ.out; first | omega | (simp; omega)) _).setCell _ (by have := HSZ.out; first | omega | (simp; omega)) _).setCell _ (by have := HSZ.out; first | omega | (simp; omega)) _).setCell _ (by have := HSZ.out; first | omega | (simp; omega)) _).more (by omega)
        | exact ((((hDw.setCell _ (.inl (by first | omega | simp)) _).setCell _ (.inl (by first | omega | simp)) _).setCell _ (.inl (by first | omega | simp)) _).setCell _ (.inl (by first | omega | simp)) _)
    · have hx1 : (0 : Int) < (x : Int) := by omega
      go_wp2_with fail
      replace hM := hM.drew
      replace hV := hV.drew
      replace hU := hU.drew
      replace hO := hO.drew
      replace hR := hR.drew
      replace hDw := hDw.drew
      have m0 := hM.c0
      have m1 := hM.c1
      have s0 := hV.c0
      have s1 := hV.c1
      have s2 := hV.f0
      have s3 := hV.f1
      have u0 := hU.c0
      have u1 := hU.c1
      have u2 := hU.f0
      have u3 := hU.f1
      have zz : w4.drew.heap.size = w4.heap.size := rfl
      have hOl := hO.blockLt
      have tk : True := trivial
      have tk2 : True := trivial
      go_region_held3 (fun w' => w'.cell? ⟨w1.heap.size, 0, none⟩ = some (.int .i64 s) ∧ w'.cell? ⟨w1.heap.size, 1, none⟩ = some (.slice p xs.length c))
        (first | exact ⟨m0, m1⟩ | (refine ⟨cellStore2 m0 ?_, cellStore2 m1 ?_⟩ <;> omega) | (refine ⟨cellStore2 (cellStore2 m0 ?_) ?_, cellStore2 (cellStore2 m1 ?_) ?_⟩ <;> omega))
        (first
          | (go_at_call 131; have _t := tk; (with_reducible refine (l3Draw_any R (P + 23 + 1) s _ hR (by omega) k1 k4).mono ?_); rintro e w5 ⟨v5, zs, rfl, hmz, hZ, hR5, hD5⟩; (have hl5 : 0 < zs.length := by have hk5 := massB_ok hmz; have := hk5.len; have := pow2_bd s k1 k4; omega); obtain ⟨g5, c5, rfl, hg5, hg6⟩ := hZ.form hl5; (replace hM := hM.dr (B := 0) hD5 hmR); (replace hV := hV.dr (B := 0) hD5 (by omega)); (replace hU := hU.dr (B := 0) hD5 (by omega)); (replace hO := hO.dr hD5 (by have := HSZ.out; omega)); (replace hDw := hDw.then (by omega) hD5); clear m0 m1 s0 s1 s2 s3 u0 u1 u2 u3; (have m0 := hM.c0); (have m1 := hM.c1); (have s0 := hV.c0); (have s1 := hV.c1); (have s2 := hV.f0); (have s3 := hV.f1); (have u0 := hU.c0); (have u1 := hU.c1); (have u2 := hU.f0); (have u3 := hU.f1); (have z5 := hD5.size); clear hD5 tk _t)
          | (go_at_call 130; have _t := tk2; (with_reducible refine (l3Bad_any w4.drew.heap.size R (P + 23 + 1 + 20) s g5 zs.length c5 zs _ hR5 (by omega) hmz rfl hZ (by have := hR.lt; omega) z5).mono ?_); rintro e w9 ⟨t, u, ys, rfl, hyl, hY, hR9, hD9'⟩; (have z9 := hD9'.size); (have z8 := hR.lt); obtain ⟨q, d, rfl, hq⟩ := hY.shape; (replace hM := hM.drB hD9' (by omega) hmR); (replace hV := hV.drB hD9' (by omega) (by omega)); (replace hU := hU.drB hD9' (by omega) (by omega)); (replace hO := hO.drO hD9' (by have := HSZ.out; omega) hOl); (replace hDw := hDw.trans (hD9'.mono (by omega))); clear m0 m1 s0 s1 s2 s3 u0 u1 u2 u3; (have m0 := hM.c0); (have m1 := hM.c1); (have s0 := hV.c0); (have s1 := hV.c1); (have s2 := hV.f0); (have s3 := hV.f1); (have u0 := hU.c0); (have u1 := hU.c1); (have u2 := hU.f0); (have u3 := hU.f1); clear hq hD9' tk2 _t))
      all_goals go_wp2
      all_goals refine bodyPost_ret (v := .tuple #[.agg #[.int .i64 s, .slice p xs.length c], .agg #[.int .i64 t, .slice q ys.length d]]) (by simp [results, Try.results90, go_sem, s0, s1, s2, s3, u0, u1, u2, u3]) rfl ⟨s, _, xs, t, _, ys, rfl, hxl, hyl, ?_, ?_, ?_, ?_⟩
      all_goals first
        | exact ((((hO.setBelow (by have := HSZ.out; first | omega | (simp; omega)) _).setBelow (by have := HSZ.out; first | omega | (simp; omega)) _).setBelow (by have := HSZ.out; first | omega | (simp; omega)) _).setBelow (by have := HSZ.out; first | omega | (simp; omega)) _).mono (by have := HSZ.out; omega)
        | exact ((((hY.setBelow (by have := HSZ.out; first | omega | (simp; omega)) _).setBelow (by have := HSZ.out; first | omega | (simp; omega)) _).setBelow (by have := HSZ.out; first | omega | (simp; omega)) _).setBelow (by have := HSZ.out; first | omega | (simp; omega)) _).mono (by have := HSZ.out; omega)
        | exact ((((hR9.setCell _ (by have := HSZ.out; first | omega | (simp; omega)) _).setCell _ (by have := HSZ.out; first | omega | (simp; omega)) _).setCell _ (by have := HSZ.out; first | omega | (simp; omega)) _).setCell _ (by have := HSZ.out; first | omega | (simp; omega)) _).more (by omega)
        | exact ((((hDw.setCell _ (.inl (by first | omega | simp)) _).setCell _ (.inl (by first | omega | simp)) _).setCell _ (.inl (by first | omega | simp)) _).setCell _ (.inl (by first | omega | simp)) _)

end Go.Proofs.Ytkpnenbkfphldaa
