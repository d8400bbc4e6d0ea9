/- Two masses, one of which is often a specialization of the other one, drawn. -/
import Derived.Test.YtjmfjgoehicgcaaMgDC
import Derived.Test.YtjmfjgoehicgcaaMgDJ
import Derived.Test.YtjmfjgoehicgcaaMZ
set_option linter.unusedVariables false
set_option linter.unusedSimpArgs false
namespace Go.Proofs.Ytjmfjgoehicgcaa
open Go.RowKit

theorem Own.setOff {B : Nat} {w : World} {v : Value} {xs : List Int} (h : Own B w v xs) (p : Addr) (hne : ∀ k, v.ownBlock = some k → k ≠ p.block) (u : Value) : Own B (w.setCell p u) v xs := by
  refine ⟨h.1, ?_⟩
  rcases h.2 with hn | ⟨g, cap, cur, e, hb, hgg, rest⟩
  · exact .inl hn
  · refine .inr ⟨g, cap, cur, e, hb, ?_, rest⟩
    rw [Below.heap_setCell w p u g (hne g (by rw [e]; rfl))]
    exact hgg

/-- Some mass that a call makes. -/
def OneMass (w : World) (e : Ending) (w' : World) : Prop := ∃ (S : Int) (v : Value) (K : List Int) (ok : Bool), e = .returned (.tuple #[.agg #[.int .i64 S, v], .bool ok]) ∧ K.length ≤ 17 ∧ Own w.heap.size w' v K ∧ Below w.heap.size w w'

theorem conjA (s : Int) (p : Option Addr) (c : Nat) (xs : List Int) (t : Int) (q : Option Addr) (d n : Nat) (ys : List Int) (hn : ys.length = n) (w : World) (hx : Reads w p xs) (hy : Reads w q ys) (hxm : xs.length ≤ 17) (hym : ys.length ≤ 17) :
    Calls Try.prog 109 #[.agg #[.int .i64 s, .slice p xs.length c], .agg #[.int .i64 t, .slice q n d]] w (OneMass w) := by
  subst hn
  exact (sConjoin_any s p c xs t q d ys w hx hy (by omega) (by omega)).mono fun e w' ⟨v, he, ho, hb⟩ => ⟨_, v, _, _, he, by have := gL_len (bothB s xs t ys) s (cjP xs ys); rw [cjP_len] at this; omega, ho, hb⟩

theorem cutA (s : Int) (p : Option Addr) (c : Nat) (xs : List Int) (a : Int) (w : World) (hx : Reads w p xs) (hxm : xs.length ≤ 17) :
    Calls Try.prog 110 #[.agg #[.int .i64 s, .slice p xs.length c], .int .i64 a] w (OneMass w) :=
  (sCutMass_any s p c xs a w hx (by omega)).mono fun e w' ⟨v, he, ho, hb⟩ => ⟨_, v, _, _, he, by have := gL_len (msB s xs a) s (cutP a.toNat xs); rw [cutP_len] at this; omega, ho, hb⟩

theorem discA (s : Int) (p : Option Addr) (c : Nat) (xs : List Int) (n d : Int) (w : World) (hx : Reads w p xs) (hxm : xs.length ≤ 17) :
    Calls Try.prog 111 #[.agg #[.int .i64 s, .slice p xs.length c], .agg #[.int .i64 n, .int .i64 d]] w (OneMass w) :=
  (sDisc_any s p c xs n d w hx (by omega)).mono fun e w' ⟨v, he, ho, hb⟩ => ⟨_, v, _, _, he, by have := gL_len (mixG s xs s (fuL xs) n d) s (mixP xs (fuL xs) n d); rw [mixP_len] at this; omega, ho, hb⟩

set_option maxHeartbeats 16000000 in
set_option maxRecDepth 100000 in
theorem l8Pair_any (R P : Nat) (w : World) (h : Rdr R P w) (hP : P ≤ 40000) :
    Calls Try.prog 74 #[.pointer (some ⟨R, 0, none⟩)] w (MsPair w.heap.size R (P + 100) w) := by
  have hRlt := h.lt
  obtain ⟨W, hW, hsz, hbW, hV, hU⟩ := twoV w
  have hRW : Rdr R P W := h.later hbW
  have HSZ := Lib.hid hsz
  have HW := Lib.hid hW
  clear hW hsz h
  have b1 := belowAlloc W (.cells #[.int .i64 2, .int .i64 3, .int .i64 2, .int .i64 1] 3)
  have hrd : Reads (W.alloc (.cells #[.int .i64 2, .int .i64 3, .int .i64 2, .int .i64 1] 3)) (some ⟨w.heap.size + 2, 0, none⟩) [2, 3, 2, 1] := by rw [← HSZ.out]; exact reads_lit W [2, 3, 2, 1] _
  go_enter Try.func74, Try.ntmps74
  go_wp2_with fail
  rw [← HW.out]
  refine (num_any R P _ _ [2, 3, 2, 1] 4 rfl _ (hRW.later b1) (by omega) hrd (by intro a ha; cases ha; simp; omega) (by simp) (by simp)).mono ?_
  rintro e wa ⟨y, hy, rfl, hRa, hDa⟩
  have hyb : 1 ≤ y ∧ y ≤ 4 := by simp at hy; omega
  replace hV := (hV.later b1).dr (B := 0) hDa (by omega)
  replace hU := (hU.later b1).dr (B := 0) hDa (by omega)
  have hDw : Dr w.heap.size R w wa := (Dr.ofBelow (hbW.thenB b1)).then (by simp; have := HSZ.out; omega) hDa
  have za : w.heap.size + 2 ≤ wa.heap.size := by have := hDa.size; simp at this; have := HSZ.out; omega
  clear hDa b1 hrd hRW hbW hy
  go_wp2_with fail
  refine (l3Draw_any R (P + 1) y wa hRa (by omega) hyb.1 hyb.2).mono ?_
  rintro e wb ⟨vb, xb, rfl, hmb, hOb, hRb, hDb⟩
  have hlb : 0 < xb.length := by have hk5 := massB_ok hmb; have := hk5.len; have := pow2_bd y hyb.1 hyb.2; omega
  obtain ⟨gb, cb, rfl, hgb, hgb2⟩ := hOb.form hlb
  replace hV := hV.dr (B := 0) hDb (by omega)
  replace hU := hU.dr (B := 0) hDb (by omega)
  replace hDw := hDw.then (by omega) hDb
  have zb := hDb.size
  have hRlb := hRa.lt
  clear hDb
  go_wp2_with fail
  refine (l3Bad_any wa.heap.size R (P + 1 + 20) y gb xb.length cb xb wb hRb (by omega) hmb rfl hOb hRlb zb).mono ?_
  rintro e w1 ⟨s, v, xs, rfl, hxl, hO, hR1, hD1⟩
  obtain ⟨p, c, rfl, hr⟩ := hO.shape
  have hV1 := hV.drB hD1 (by omega) (by omega)
  have hU1 := hU.drB hD1 (by omega) (by omega)
  replace hDw := hDw.trans (hD1.mono (by omega))
  have z1 := hD1.size
  have b1 := belowAlloc w1 (.cells #[.int .i64 s, .slice p xs.length c] 27)
  have hM := VarInv.made w1 s (.slice p xs.length c) 27
  have hV2 := hV1.later b1
  have hU2 := hU1.later b1
  have hO2 := hO.later b1
  have hR2 := hR1.later b1
  have hDw2 := hDw.thenB (by omega) b1
  have hmR : w1.heap.size ≠ R := by have := hR1.lt; omega
  have z2 : w1.heap.size + 1 ≤ (w1.alloc (.cells #[.int .i64 s, .slice p xs.length c] 27)).heap.size := by simp
  have m0 := hM.c0
  have m1 := hM.c1
  clear hr hV hV1 hU hU1 hO hDw hD1 b1 hR1 hOb hmb hgb hgb2 hRb hlb hRa
  go_wp2_with fail
  clear m0 m1
  generalize w1.alloc (.cells #[.int .i64 s, .slice p xs.length c] 27) = w2 at *
  refine (MassValid_any s p c xs w2 hO2.reads (by omega)).mono ?_
  rintro e w3 ⟨rfl, b3⟩
  replace hM := hM.later b3
  have hV := hV2.later b3
  have hU := hU2.later b3
  have hO := hO2.later b3
  have hR := hR2.later b3
  have hDw := hDw2.thenB (by omega) b3
  have z3 := b3.size
  clear hV2 hU2 hO2 hR2 hDw2 b3
  cases hv : massB s xs
  · skip
    go_wp2_with fail
    replace hM := hM.drew
    replace hV := hV.drew
    replace hU := hU.drew
    replace hO := hO.drew
    replace hR := hR.drew
    replace hDw := hDw.drew
    have m0 := hM.c0
    have m1 := hM.c1
    have s0 := hV.c0
    have s1 := hV.c1
    have s2 := hV.f0
    have s3 := hV.f1
    have u0 := hU.c0
    have u1 := hU.c1
    have u2 := hU.f0
    have u3 := hU.f1
    have zz : w3.drew.heap.size = w3.heap.size := rfl
    have tk : True := trivial
    go_region_held3 (fun w' => w'.cell? ⟨w1.heap.size, 0, none⟩ = some (.int .i64 s) ∧ w'.cell? ⟨w1.heap.size, 1, none⟩ = some (.slice p xs.length c))
      (first | exact ⟨m0, m1⟩ | (refine ⟨cellStore2 m0 ?_, cellStore2 m1 ?_⟩ <;> omega) | (refine ⟨cellStore2 (cellStore2 m0 ?_) ?_, cellStore2 (cellStore2 m1 ?_) ?_⟩ <;> omega))
      (first
        | (go_at_call 97; have _t := tk; (with_reducible refine (l3Open_any R (P + 1 + 20 + 2) _ hR (by omega)).mono ?_); rintro e w9 ⟨t, u, ys, rfl, hyl, hY, hR9, hD9⟩; obtain ⟨q, d, rfl, hq⟩ := hY.shape; (replace hM := hM.dr (B := 0) hD9 hmR); (replace hV := hV.dr (B := 0) hD9 (by omega)); (replace hU := hU.dr (B := 0) hD9 (by omega)); (replace hO := hO.dr hD9 (by have := HSZ.out; omega)); (replace hDw := hDw.then (by omega) hD9); clear m0 m1 s0 s1 s2 s3 u0 u1 u2 u3; (have m0 := hM.c0); (have m1 := hM.c1); (have s0 := hV.c0); (have s1 := hV.c1); (have s2 := hV.f0); (have s3 := hV.f1); (have u0 := hU.c0); (have u1 := hU.c1); (have u2 := hU.f0); (have u3 := hU.f1); (have z9 := hD9.size); clear hq hD9 tk _t))
    all_goals go_wp2
    all_goals refine bodyPost_ret (v := .tuple #[.agg #[.int .i64 t, .slice q ys.length d], .agg #[.int .i64 s, .slice p xs.length c]]) (by simp [results, Try.results74, go_sem, s0, s1, s2, s3, u0, u1, u2, u3]) rfl ⟨t, _, ys, s, _, xs, rfl, hyl, hxl, ?_, ?_, ?_, ?_⟩
    all_goals first
      | exact ((((hO.setBelow (by have := HSZ.out; first | omega | (simp; omega)) _).setBelow (by have := HSZ.out; first | omega | (simp; omega)) _).setBelow (by have := HSZ.out; first | omega | (simp; omega)) _).setBelow (by have := HSZ.out; first | omega | (simp; omega)) _).mono (by have := HSZ.out; omega)
      | exact ((((hY.setBelow (by have := HSZ.out; first | omega | (simp; omega)) _).setBelow (by have := HSZ.out; first | omega | (simp; omega)) _).setBelow (by have := HSZ.out; first | omega | (simp; omega)) _).setBelow (by have := HSZ.out; first | omega | (simp; omega)) _).mono (by have := HSZ.out; omega)
      | exact ((((hR9.setCell _ (by have := HSZ.out; first | omega | (simp; omega)) _).setCell _ (by have := HSZ.out; first | omega | (simp; omega)) _).setCell _ (by have := HSZ.out; first | omega | (simp; omega)) _).setCell _ (by have := HSZ.out; first | omega | (simp; omega)) _).more (by omega)
      | exact ((((hDw.setCell _ (.inl (by first | omega | simp)) _).setCell _ (.inl (by first | omega | simp)) _).setCell _ (.inl (by first | omega | simp)) _).setCell _ (.inl (by first | omega | simp)) _)
      | exact Dr.drew ((((hDw.setCell ⟨w.heap.size, 0, none⟩ (.inl (by show w.heap.size ≤ w.heap.size; omega)) _).setCell ⟨w.heap.size, 1, none⟩ (.inl (by show w.heap.size ≤ w.heap.size; omega)) _).setCell ⟨w.heap.size + 1, 0, none⟩ (.inl (by show w.heap.size ≤ w.heap.size + 1; omega)) _).setCell ⟨w.heap.size + 1, 1, none⟩ (.inl (by show w.heap.size ≤ w.heap.size + 1; omega)) _)
      | exact Own.drew (((((hO.setBelow (a := ⟨w.heap.size, 0, none⟩) (by show w.heap.size < _; have := HSZ.out; omega) _).setBelow (a := ⟨w.heap.size, 1, none⟩) (by show w.heap.size < _; have := HSZ.out; omega) _).setBelow (a := ⟨w.heap.size + 1, 0, none⟩) (by show w.heap.size + 1 < _; have := HSZ.out; omega) _).setBelow (a := ⟨w.heap.size + 1, 1, none⟩) (by show w.heap.size + 1 < _; have := HSZ.out; omega) _).mono (by have := HSZ.out; omega))
      | exact Own.drew (((((hY.setBelow (a := ⟨w.heap.size, 0, none⟩) (by show w.heap.size < _; have := HSZ.out; omega) _).setBelow (a := ⟨w.heap.size, 1, none⟩) (by show w.heap.size < _; have := HSZ.out; omega) _).setBelow (a := ⟨w.heap.size + 1, 0, none⟩) (by show w.heap.size + 1 < _; have := HSZ.out; omega) _).setBelow (a := ⟨w.heap.size + 1, 1, none⟩) (by show w.heap.size + 1 < _; have := HSZ.out; omega) _).mono (by have := HSZ.out; omega))
  · have hk := massB_ok hv
    have k1 := hk.s1
    have k4 := hk.s4
    have hx1 : 1 ≤ xs.length := by have := hk.len; have := pow2_bd s hk.s1 hk.s4; omega
    clear hk
    have m0 := hM.c0
    have m1 := hM.c1
    go_wp2_with fail
    clear m0 m1
    refine (pick_any R (P + 1 + 20 + 2) 4 w3 hR (by omega) (by omega) (by omega)).mono ?_
    rintro e w4 ⟨x, rfl, hx, hR4, hD4⟩
    replace hM := hM.dr (B := 0) hD4 hmR
    replace hV := hV.dr (B := 0) hD4 (by omega)
    replace hU := hU.dr (B := 0) hD4 (by omega)
    replace hO := hO.dr hD4 (by have := HSZ.out; omega)
    replace hDw := hDw.then (by omega) hD4
    have z4 := hD4.size
    replace hR := hR4
    clear hR4 hD4
    rcases (show x = 0 ∨ x = 1 ∨ x = 2 ∨ x = 3 by omega) with rfl | rfl | rfl | rfl
    · skip
      go_wp2_with fail
      replace hM := hM.drew
      replace hV := hV.drew
      replace hU := hU.drew
      replace hO := hO.drew
      replace hR := hR.drew
      replace hDw := hDw.drew
      have m0 := hM.c0
      have m1 := hM.c1
      have s0 := hV.c0
      have s1 := hV.c1
      have s2 := hV.f0
      have s3 := hV.f1
      have u0 := hU.c0
      have u1 := hU.c1
      have u2 := hU.f0
      have u3 := hU.f1
      have zz : w4.drew.heap.size = w4.heap.size := rfl
      have hOl := hO.blockLt
      have zR := hR.lt
      have tkA : True := trivial
      have tkB : True := trivial
      go_region_held3 (fun w' => w'.cell? ⟨w1.heap.size, 0, none⟩ = some (.int .i64 s) ∧ w'.cell? ⟨w1.heap.size, 1, none⟩ = some (.slice p xs.length c))
        (first | exact ⟨m0, m1⟩ | exact ⟨cellKeep (belowAlloc _ _) m0, cellKeep (belowAlloc _ _) m1⟩ | (refine ⟨cellStore2 m0 ?_, cellStore2 m1 ?_⟩ <;> omega) | (refine ⟨cellStore2 (cellKeep (belowAlloc _ _) m0) ?_, cellStore2 (cellKeep (belowAlloc _ _) m1) ?_⟩ <;> omega))
        (first
          | (go_at_call 108; have _t := tkA; (with_reducible refine (l3Draw_any R (P + 1 + 20 + 2 + 1) s _ hR (by omega) k1 k4).mono ?_); rintro e w5 ⟨v5, zs, rfl, hmz, hZ, hR5, hD5⟩; (have hl5 : 0 < zs.length := by have hk5 := massB_ok hmz; have := hk5.len; have := pow2_bd s k1 k4; omega); (have hl6 : zs.length ≤ 17 := by have hk5 := massB_ok hmz; have := hk5.l16; omega); obtain ⟨g5, c5, rfl, hg5, hg6⟩ := hZ.form hl5; (replace hM := hM.dr (B := 0) hD5 hmR); (replace hV := hV.dr (B := 0) hD5 (by omega)); (replace hU := hU.dr (B := 0) hD5 (by omega)); (replace hO := hO.dr hD5 (by have := HSZ.out; omega)); (replace hDw := hDw.then (by omega) hD5); clear m0 m1 s0 s1 s2 s3 u0 u1 u2 u3; (have m0 := hM.c0); (have m1 := hM.c1); (have s0 := hV.c0); (have s1 := hV.c1); (have s2 := hV.f0); (have s3 := hV.f1); (have u0 := hU.c0); (have u1 := hU.c1); (have u2 := hU.f0); (have u3 := hU.f1); (have z5 := hD5.size); (replace hR := hR5); clear hR5 hD5 tkA _t)
          | (go_at_call 108; have _t := tkA; (have hA : Below w4.drew.heap.size w4.drew ((w4.alloc (.cells #[.int .i64 0, .slice none 0 0] 27)).drew) := belowAlloc w4.drew _); (replace hM := hM.later hA); (replace hV := hV.later hA); (replace hU := hU.later hA); (replace hO := hO.later hA); (replace hR := hR.later hA); (replace hDw := hDw.thenB (by omega) hA); clear m0 m1 s0 s1 s2 s3 u0 u1 u2 u3; (have m0 := hM.c0); (have m1 := hM.c1); (have s0 := hV.c0); (have s1 := hV.c1); (have s2 := hV.f0); (have s3 := hV.f1); (have u0 := hU.c0); (have u1 := hU.c1); (have u2 := hU.f0); (have u3 := hU.f1); (have zA := hA.size); (have zA2 : w4.heap.size + 1 = ((w4.alloc (.cells #[.int .i64 0, .slice none 0 0] 27)).drew).heap.size := by simp); (have hX : VarInv (w4.alloc (.cells #[.int .i64 0, .slice none 0 0] 27)).drew (w4.heap.size) 0 (.slice none 0 0) := (VarInv.made w4 0 (.slice none 0 0) 27).drew); (have F0 := hX.c0); (have F1 := hX.c1); (have F2 := hX.f0); (have F3 := hX.f1); clear hA; (with_reducible refine (l3Draw_any R (P + 1 + 20 + 2 + 1) s _ hR (by omega) k1 k4).mono ?_); rintro e w5 ⟨v5, zs, rfl, hmz, hZ, hR5, hD5⟩; (have hl5 : 0 < zs.length := by have hk5 := massB_ok hmz; have := hk5.len; have := pow2_bd s k1 k4; omega); (have hl6 : zs.length ≤ 17 := by have hk5 := massB_ok hmz; have := hk5.l16; omega); obtain ⟨g5, c5, rfl, hg5, hg6⟩ := hZ.form hl5; (replace hM := hM.dr (B := 0) hD5 hmR); (replace hV := hV.dr (B := 0) hD5 (by omega)); (replace hU := hU.dr (B := 0) hD5 (by omega)); (replace hO := hO.dr hD5 (by have := HSZ.out; omega)); (replace hDw := hDw.then (by omega) hD5); clear m0 m1 s0 s1 s2 s3 u0 u1 u2 u3; (have m0 := hM.c0); (have m1 := hM.c1); (have s0 := hV.c0); (have s1 := hV.c1); (have s2 := hV.f0); (have s3 := hV.f1); (have u0 := hU.c0); (have u1 := hU.c1); (have u2 := hU.f0); (have u3 := hU.f1); (replace hX := hX.dr (B := 0) hD5 (by omega)); clear F0 F1 F2 F3; (have F0 := hX.c0); (have F1 := hX.c1); (have F2 := hX.f0); (have F3 := hX.f1); (have z5 := hD5.size); (replace hR := hR5); clear hR5 hD5 tkA _t)
          | (go_at_call 109; have _t := tkB; (have _q := hX); (with_reducible refine (conjA s p c xs s (some ⟨g5, 0, none⟩) c5 zs.length zs rfl _ hO.reads hZ.reads hxl hl6).mono ?_); rintro e w6 ⟨S6, v6, K6, O6, rfl, hK6, o6, hb⟩; (replace hM := hM.later hb); (replace hV := hV.later hb); (replace hU := hU.later hb); (replace hO := hO.later hb); (replace hR := hR.later hb); (replace hDw := hDw.thenB (by omega) hb); clear m0 m1 s0 s1 s2 s3 u0 u1 u2 u3; (have m0 := hM.c0); (have m1 := hM.c1); (have s0 := hV.c0); (have s1 := hV.c1); (have s2 := hV.f0); (have s3 := hV.f1); (have u0 := hU.c0); (have u1 := hU.c1); (have u2 := hU.f0); (have u3 := hU.f1); (replace hX := hX.later hb); clear F0 F1 F2 F3 _q; (have F0 := hX.c0); (have F1 := hX.c1); (have F2 := hX.f0); (have F3 := hX.f1); (have z6 := hb.size); obtain ⟨p6, c6, rfl, _hr6⟩ := o6.shape; clear hb _hr6 tkB _t)
          | (go_at_call 109; have _t := tkB; (with_reducible refine (conjA s p c xs s (some ⟨g5, 0, none⟩) c5 zs.length zs rfl _ hO.reads hZ.reads hxl hl6).mono ?_); rintro e w6 ⟨S6, v6, K6, O6, rfl, hK6, o6, hb⟩; (replace hM := hM.later hb); (replace hV := hV.later hb); (replace hU := hU.later hb); (replace hO := hO.later hb); (replace hR := hR.later hb); (replace hDw := hDw.thenB (by omega) hb); clear m0 m1 s0 s1 s2 s3 u0 u1 u2 u3; (have m0 := hM.c0); (have m1 := hM.c1); (have s0 := hV.c0); (have s1 := hV.c1); (have s2 := hV.f0); (have s3 := hV.f1); (have u0 := hU.c0); (have u1 := hU.c1); (have u2 := hU.f0); (have u3 := hU.f1); (have z6 := hb.size); obtain ⟨p6, c6, rfl, _hr6⟩ := o6.shape; clear hb _hr6 tkB _t)
          | (go_at_call 109; have _t := tkB; (have hA : Below w5.heap.size w5 (w5.alloc (.cells #[.int .i64 0, .slice none 0 0] 27)) := belowAlloc w5 _); (replace hM := hM.later hA); (replace hV := hV.later hA); (replace hU := hU.later hA); (replace hO := hO.later hA); (replace hR := hR.later hA); (replace hDw := hDw.thenB (by omega) hA); clear m0 m1 s0 s1 s2 s3 u0 u1 u2 u3; (have m0 := hM.c0); (have m1 := hM.c1); (have s0 := hV.c0); (have s1 := hV.c1); (have s2 := hV.f0); (have s3 := hV.f1); (have u0 := hU.c0); (have u1 := hU.c1); (have u2 := hU.f0); (have u3 := hU.f1); (replace hZ := hZ.later hA); (have zA := hA.size); (have zA2 : w5.heap.size + 1 = (w5.alloc (.cells #[.int .i64 0, .slice none 0 0] 27)).heap.size := by simp); (have hX := VarInv.made w5 0 (.slice none 0 0) 27); clear hA; (with_reducible refine (conjA s p c xs s (some ⟨g5, 0, none⟩) c5 zs.length zs rfl _ hO.reads hZ.reads hxl hl6).mono ?_); rintro e w6 ⟨S6, v6, K6, O6, rfl, hK6, o6, hb⟩; (replace hM := hM.later hb); (replace hV := hV.later hb); (replace hU := hU.later hb); (replace hO := hO.later hb); (replace hR := hR.later hb); (replace hDw := hDw.thenB (by omega) hb); clear m0 m1 s0 s1 s2 s3 u0 u1 u2 u3; (have m0 := hM.c0); (have m1 := hM.c1); (have s0 := hV.c0); (have s1 := hV.c1); (have s2 := hV.f0); (have s3 := hV.f1); (have u0 := hU.c0); (have u1 := hU.c1); (have u2 := hU.f0); (have u3 := hU.f1); (replace hX := hX.later hb); (have F0 := hX.c0); (have F1 := hX.c1); (have F2 := hX.f0); (have F3 := hX.f1); (have z6 := hb.size); obtain ⟨p6, c6, rfl, _hr6⟩ := o6.shape; clear hb _hr6 tkB _t))
      · skip
        clear m0 m1 s0 s1 s2 s3 u0 u1 u2 u3
        have hb := belowAlloc w6 (.cells #[.int .i64 S6, .slice p6 K6.length c6] 27)
        (replace hM := hM.later hb)
        (replace hV := hV.later hb)
        (replace hU := hU.later hb)
        (replace hO := hO.later hb)
        (replace hR := hR.later hb)
        (replace hDw := hDw.thenB (by omega) hb)
        replace o6 := o6.later hb
        have hX := VarInv.made w6 S6 (.slice p6 K6.length c6) 27
        obtain ⟨xB, hxB⟩ : ∃ x, x = w6.heap.size := ⟨_, rfl⟩
        have zN : w6.heap.size + 1 = (w6.alloc (.cells #[.int .i64 S6, .slice p6 K6.length c6] 27)).heap.size := by simp
        rw [← hxB] at hX ⊢
        generalize w6.alloc (.cells #[.int .i64 S6, .slice p6 K6.length c6] 27) = wN at *
        clear hb
        have hxB2 : w4.heap.size ≤ xB := by omega
        have hxN : xB < wN.heap.size := hX.lt
        clear hOl
        try clear hZ hg5 hg6 hmz hl5 hl6
        try clear hy5
        have zB : w.heap.size + 2 ≤ xB := by omega
        have o6B : w.heap.size + 2 ≤ w6.heap.size := by omega
        replace o6 := o6.mono (show w.heap.size + 2 ≤ _ by omega)
        have zW : w1.heap.size < wN.heap.size := hM.lt
        replace zN := Nat.le_of_eq zN
        clear hxB
        cases O6
        · skip
          clear hX o6 hK6
          go_wp2_with fail
          replace hM := hM.drew
          replace hV := hV.drew
          replace hU := hU.drew
          replace hO := hO.drew
          replace hR := hR.drew
          replace hDw := hDw.drew
          have m0 := hM.c0
          have m1 := hM.c1
          have s0 := hV.c0
          have s1 := hV.c1
          have s2 := hV.f0
          have s3 := hV.f1
          have u0 := hU.c0
          have u1 := hU.c1
          have u2 := hU.f0
          have u3 := hU.f1
          have zz : wN.drew.heap.size = wN.heap.size := rfl
          have hOl := hO.blockLt
          have tk : True := trivial
          have tk2 : True := trivial
          go_region_held3 (fun w' => w'.cell? ⟨w1.heap.size, 0, none⟩ = some (.int .i64 s) ∧ w'.cell? ⟨w1.heap.size, 1, none⟩ = some (.slice p xs.length c))
            (first | exact ⟨m0, m1⟩ | (refine ⟨cellStore2 m0 ?_, cellStore2 m1 ?_⟩ <;> omega) | (refine ⟨cellStore2 (cellStore2 m0 ?_) ?_, cellStore2 (cellStore2 m1 ?_) ?_⟩ <;> omega))
            (first
              | (go_at_call 108; have _t := tk; (with_reducible refine (l3Draw_any R ((P + 1 + 20 + 2 + 1) + 20) s _ hR (by omega) k1 k4).mono ?_); rintro e w5 ⟨v5, zs, rfl, hmz, hZ, hR5, hD5⟩; (have hl5 : 0 < zs.length := by have hk5 := massB_ok hmz; have := hk5.len; have := pow2_bd s k1 k4; omega); obtain ⟨g5, c5, rfl, hg5, hg6⟩ := hZ.form hl5; (replace hM := hM.dr (B := 0) hD5 hmR); (replace hV := hV.dr (B := 0) hD5 (by omega)); (replace hU := hU.dr (B := 0) hD5 (by omega)); (replace hO := hO.dr hD5 (by have := HSZ.out; omega)); (replace hDw := hDw.then (by omega) hD5); clear m0 m1 s0 s1 s2 s3 u0 u1 u2 u3; (have m0 := hM.c0); (have m1 := hM.c1); (have s0 := hV.c0); (have s1 := hV.c1); (have s2 := hV.f0); (have s3 := hV.f1); (have u0 := hU.c0); (have u1 := hU.c1); (have u2 := hU.f0); (have u3 := hU.f1); (have z5 := hD5.size); clear hD5 tk _t)
              | (go_at_call 107; have _t := tk2; (with_reducible refine (l3Bad_any wN.drew.heap.size R (((P + 1 + 20 + 2 + 1) + 20) + 20) s g5 zs.length c5 zs _ hR5 (by omega) hmz rfl hZ (by have := hR.lt; omega) z5).mono ?_); rintro e w9 ⟨t, u, ys, rfl, hyl, hY, hR9, hD9'⟩; (have z9 := hD9'.size); (have z8 := hR.lt); obtain ⟨q, d, rfl, hq⟩ := hY.shape; (replace hM := hM.drB hD9' (by omega) hmR); (replace hV := hV.drB hD9' (by omega) (by omega)); (replace hU := hU.drB hD9' (by omega) (by omega)); (replace hO := hO.drO hD9' (by have := HSZ.out; omega) hOl); (replace hDw := hDw.trans (hD9'.mono (by omega))); clear m0 m1 s0 s1 s2 s3 u0 u1 u2 u3; (have m0 := hM.c0); (have m1 := hM.c1); (have s0 := hV.c0); (have s1 := hV.c1); (have s2 := hV.f0); (have s3 := hV.f1); (have u0 := hU.c0); (have u1 := hU.c1); (have u2 := hU.f0); (have u3 := hU.f1); clear hq hD9' tk2 _t))
          all_goals go_wp2
          all_goals refine bodyPost_ret (v := .tuple #[.agg #[.int .i64 t, .slice q ys.length d], .agg #[.int .i64 s, .slice p xs.length c]]) (by simp [results, Try.results74, go_sem, s0, s1, s2, s3, u0, u1, u2, u3]) rfl ⟨t, _, ys, s, _, xs, rfl, hyl, hxl, ?_, ?_, ?_, ?_⟩
          all_goals first
            | exact ((((hO.setBelow (by have := HSZ.out; first | omega | (simp; omega)) _).setBelow (by have := HSZ.out; first | omega | (simp; omega)) _).setBelow (by have := HSZ.out; first | omega | (simp; omega)) _).setBelow (by have := HSZ.out; first | omega | (simp; omega)) _).mono (by have := HSZ.out; omega)
            | exact ((((hY.setBelow (by have := HSZ.out; first | omega | (simp; omega)) _).setBelow (by have := HSZ.out; first | omega | (simp; omega)) _).setBelow (by have := HSZ.out; first | omega | (simp; omega)) _).setBelow (by have := HSZ.out; first | omega | (simp; omega)) _).mono (by have := HSZ.out; omega)
            | exact ((((hR9.setCell _ (by have := HSZ.out; first | omega | (simp; omega)) _).setCell _ (by have := HSZ.out; first | omega | (simp; omega)) _).setCell _ (by have := HSZ.out; first | omega | (simp; omega)) _).setCell _ (by have := HSZ.out; first | omega | (simp; omega)) _).more (by omega)
            | exact ((((hDw.setCell _ (.inl (by first | omega | simp)) _).setCell _ (.inl (by first | omega | simp)) _).setCell _ (.inl (by first | omega | simp)) _).setCell _ (.inl (by first | omega | simp)) _)
            | exact Dr.drew ((((hDw.setCell ⟨w.heap.size, 0, none⟩ (.inl (by show w.heap.size ≤ w.heap.size; omega)) _).setCell ⟨w.heap.size, 1, none⟩ (.inl (by show w.heap.size ≤ w.heap.size; omega)) _).setCell ⟨w.heap.size + 1, 0, none⟩ (.inl (by show w.heap.size ≤ w.heap.size + 1; omega)) _).setCell ⟨w.heap.size + 1, 1, none⟩ (.inl (by show w.heap.size ≤ w.heap.size + 1; omega)) _)
            | exact Own.drew (((((hO.setBelow (a := ⟨w.heap.size, 0, none⟩) (by show w.heap.size < _; have := HSZ.out; omega) _).setBelow (a := ⟨w.heap.size, 1, none⟩) (by show w.heap.size < _; have := HSZ.out; omega) _).setBelow (a := ⟨w.heap.size + 1, 0, none⟩) (by show w.heap.size + 1 < _; have := HSZ.out; omega) _).setBelow (a := ⟨w.heap.size + 1, 1, none⟩) (by show w.heap.size + 1 < _; have := HSZ.out; omega) _).mono (by have := HSZ.out; omega))
            | exact Own.drew (((((hY.setBelow (a := ⟨w.heap.size, 0, none⟩) (by show w.heap.size < _; have := HSZ.out; omega) _).setBelow (a := ⟨w.heap.size, 1, none⟩) (by show w.heap.size < _; have := HSZ.out; omega) _).setBelow (a := ⟨w.heap.size + 1, 0, none⟩) (by show w.heap.size + 1 < _; have := HSZ.out; omega) _).setBelow (a := ⟨w.heap.size + 1, 1, none⟩) (by show w.heap.size + 1 < _; have := HSZ.out; omega) _).mono (by have := HSZ.out; omega))
        · skip
          go_wp2_with fail
          have m0 := hM.c0
          have m1 := hM.c1
          have s0 := hV.c0
          have s1 := hV.c1
          have s2 := hV.f0
          have s3 := hV.f1
          have u0 := hU.c0
          have u1 := hU.c1
          have u2 := hU.f0
          have u3 := hU.f1
          have x0 := hX.c0
          have x1 := hX.c1
          have e1 : w.heap.size < w1.heap.size := by omega
          have e2 : w.heap.size + 1 < w1.heap.size := by omega
          have e3 : w.heap.size < xB := by omega
          have e4 : w.heap.size + 1 < xB := by omega
          replace hO := hO.mono za
          have HPK := Lib.hid (And.intro hM (And.intro hV (And.intro hU (And.intro hO (And.intro hR (And.intro hDw (And.intro hX (And.intro o6 (And.intro hxl (And.intro hK6 (And.intro hRlt (And.intro zW (And.intro zB hxB2)))))))))))))
          clear hM hV hU hO hR hDw hX o6 hxl hK6 hRlt zW zB hxB2
          try clear hxN zN
          try clear hxB3
          clear hx1 hmR z1 z2 z3 z4 z6 za zb hRlb k1 k4 hyb
          try clear hx
          go_region
          all_goals obtain ⟨hM, hV, hU, hO, hR, hDw, hX, o6, hxl, hK6, hRlt, zW, zB, hxB2⟩ := HPK.out
          all_goals go_wp2
          all_goals refine bodyPost_ret (v := .tuple #[.agg #[.int .i64 S6, .slice p6 K6.length c6], .agg #[.int .i64 s, .slice p xs.length c]]) (by simp [results, Try.results74, go_sem, s0, s1, s2, s3, u0, u1, u2, u3]) rfl ⟨S6, _, K6, s, _, xs, rfl, hK6, hxl, ?_, ?_, ?_, ?_⟩
          all_goals first
            | exact ((((hO.setBelow (by have := HSZ.out; first | omega | (simp; omega)) _).setBelow (by have := HSZ.out; first | omega | (simp; omega)) _).setBelow (by have := HSZ.out; first | omega | (simp; omega)) _).setBelow (by have := HSZ.out; first | omega | (simp; omega)) _).mono (by have := HSZ.out; omega)
            | exact ((((o6.setBelow (by have := HSZ.out; first | omega | (simp; omega)) _).setBelow (by have := HSZ.out; first | omega | (simp; omega)) _).setBelow (by have := HSZ.out; first | omega | (simp; omega)) _).setBelow (by have := HSZ.out; first | omega | (simp; omega)) _).mono (by have := HSZ.out; omega)
            | exact ((((hR.setCell _ (by have := HSZ.out; first | omega | (simp; omega)) _).setCell _ (by have := HSZ.out; first | omega | (simp; omega)) _).setCell _ (by have := HSZ.out; first | omega | (simp; omega)) _).setCell _ (by have := HSZ.out; first | omega | (simp; omega)) _).more (by omega)
            | exact ((((hDw.setCell _ (.inl (by first | omega | simp)) _).setCell _ (.inl (by first | omega | simp)) _).setCell _ (.inl (by first | omega | simp)) _).setCell _ (.inl (by first | omega | simp)) _)
            | exact Dr.drew ((((hDw.setCell ⟨w.heap.size, 0, none⟩ (.inl (by show w.heap.size ≤ w.heap.size; omega)) _).setCell ⟨w.heap.size, 1, none⟩ (.inl (by show w.heap.size ≤ w.heap.size; omega)) _).setCell ⟨w.heap.size + 1, 0, none⟩ (.inl (by show w.heap.size ≤ w.heap.size + 1; omega)) _).setCell ⟨w.heap.size + 1, 1, none⟩ (.inl (by show w.heap.size ≤ w.heap.size + 1; omega)) _)
            | exact Own.drew (((((hO.setBelow (a := ⟨w.heap.size, 0, none⟩) (by show w.heap.size < _; have := HSZ.out; omega) _).setBelow (a := ⟨w.heap.size, 1, none⟩) (by show w.heap.size < _; have := HSZ.out; omega) _).setBelow (a := ⟨w.heap.size + 1, 0, none⟩) (by show w.heap.size + 1 < _; have := HSZ.out; omega) _).setBelow (a := ⟨w.heap.size + 1, 1, none⟩) (by show w.heap.size + 1 < _; have := HSZ.out; omega) _).mono (by have := HSZ.out; omega))
            | exact Own.drew (((((o6.setBelow (a := ⟨w.heap.size, 0, none⟩) (by show w.heap.size < _; have := HSZ.out; omega) _).setBelow (a := ⟨w.heap.size, 1, none⟩) (by show w.heap.size < _; have := HSZ.out; omega) _).setBelow (a := ⟨w.heap.size + 1, 0, none⟩) (by show w.heap.size + 1 < _; have := HSZ.out; omega) _).setBelow (a := ⟨w.heap.size + 1, 1, none⟩) (by show w.heap.size + 1 < _; have := HSZ.out; omega) _).mono (by have := HSZ.out; omega))
      · skip
        clear m0 m1 s0 s1 s2 s3 u0 u1 u2 u3
        clear F0 F1 F2 F3
        obtain ⟨xB, hxB⟩ : ∃ x, x = w5.heap.size := ⟨_, rfl⟩
        rw [← hxB] at hX ⊢
        have hxB2 : w4.heap.size ≤ xB := by omega
        have hxB3 : xB < w6.heap.size := hX.lt
        replace hM := hM.other2 xB (by omega) (.int .i64 S6) (.slice p6 K6.length c6)
        replace hV := hV.other2 xB (by omega) (.int .i64 S6) (.slice p6 K6.length c6)
        replace hU := hU.other2 xB (by omega) (.int .i64 S6) (.slice p6 K6.length c6)
        have hOo : ∀ k, (Value.slice p xs.length c).ownBlock = some k → k ≠ xB := fun k hk => by have := hOl k hk; have := zz; omega
        replace hO := (hO.setOff ⟨xB, 0, none⟩ hOo (.int .i64 S6)).setOff ⟨xB, 1, none⟩ hOo (.slice p6 K6.length c6)
        replace o6 := (o6.setBelow (a := ⟨xB, 0, none⟩) (by show xB < _; omega) (.int .i64 S6)).setBelow (a := ⟨xB, 1, none⟩) (by show xB < _; omega) (.slice p6 K6.length c6)
        replace hR := (hR.setCell ⟨xB, 0, none⟩ (by show R < xB; omega) (.int .i64 S6)).setCell ⟨xB, 1, none⟩ (by show R < xB; omega) (.slice p6 K6.length c6)
        replace hDw := (hDw.setCell ⟨xB, 0, none⟩ (.inl (by show _ ≤ xB; omega)) (.int .i64 S6)).setCell ⟨xB, 1, none⟩ (.inl (by show _ ≤ xB; omega)) (.slice p6 K6.length c6)
        replace hX := hX.two S6 (.slice p6 K6.length c6)
        have zN : w6.heap.size ≤ ((w6.setCell ⟨xB, 0, none⟩ (.int .i64 S6)).setCell ⟨xB, 1, none⟩ (.slice p6 K6.length c6)).heap.size := by simp
        generalize (w6.setCell ⟨xB, 0, none⟩ (.int .i64 S6)).setCell ⟨xB, 1, none⟩ (.slice p6 K6.length c6) = wN at *
        clear hOl hOo
        try clear hZ hg5 hg6 hmz hl5 hl6
        try clear hy5
        have zB : w.heap.size + 2 ≤ xB := by omega
        have o6B : w.heap.size + 2 ≤ w6.heap.size := by omega
        replace o6 := o6.mono (show w.heap.size + 2 ≤ _ by omega)
        have zW : w1.heap.size < wN.heap.size := hM.lt
        clear hxB
        cases O6
        · skip
          clear hX o6 hK6
          go_wp2_with fail
          replace hM := hM.drew
          replace hV := hV.drew
          replace hU := hU.drew
          replace hO := hO.drew
          replace hR := hR.drew
          replace hDw := hDw.drew
          have m0 := hM.c0
          have m1 := hM.c1
          have s0 := hV.c0
          have s1 := hV.c1
          have s2 := hV.f0
          have s3 := hV.f1
          have u0 := hU.c0
          have u1 := hU.c1
          have u2 := hU.f0
          have u3 := hU.f1
          have zz : wN.drew.heap.size = wN.heap.size := rfl
          have hOl := hO.blockLt
          have tk : True := trivial
          have tk2 : True := trivial
          go_region_held3 (fun w' => w'.cell? ⟨w1.heap.size, 0, none⟩ = some (.int .i64 s) ∧ w'.cell? ⟨w1.heap.size, 1, none⟩ = some (.slice p xs.length c))
            (first | exact ⟨m0, m1⟩ | (refine ⟨cellStore2 m0 ?_, cellStore2 m1 ?_⟩ <;> omega) | (refine ⟨cellStore2 (cellStore2 m0 ?_) ?_, cellStore2 (cellStore2 m1 ?_) ?_⟩ <;> omega))
            (first
              | (go_at_call 108; have _t := tk; (with_reducible refine (l3Draw_any R ((P + 1 + 20 + 2 + 1) + 20) s _ hR (by omega) k1 k4).mono ?_); rintro e w5 ⟨v5, zs, rfl, hmz, hZ, hR5, hD5⟩; (have hl5 : 0 < zs.length := by have hk5 := massB_ok hmz; have := hk5.len; have := pow2_bd s k1 k4; omega); obtain ⟨g5, c5, rfl, hg5, hg6⟩ := hZ.form hl5; (replace hM := hM.dr (B := 0) hD5 hmR); (replace hV := hV.dr (B := 0) hD5 (by omega)); (replace hU := hU.dr (B := 0) hD5 (by omega)); (replace hO := hO.dr hD5 (by have := HSZ.out; omega)); (replace hDw := hDw.then (by omega) hD5); clear m0 m1 s0 s1 s2 s3 u0 u1 u2 u3; (have m0 := hM.c0); (have m1 := hM.c1); (have s0 := hV.c0); (have s1 := hV.c1); (have s2 := hV.f0); (have s3 := hV.f1); (have u0 := hU.c0); (have u1 := hU.c1); (have u2 := hU.f0); (have u3 := hU.f1); (have z5 := hD5.size); clear hD5 tk _t)
              | (go_at_call 107; have _t := tk2; (with_reducible refine (l3Bad_any wN.drew.heap.size R (((P + 1 + 20 + 2 + 1) + 20) + 20) s g5 zs.length c5 zs _ hR5 (by omega) hmz rfl hZ (by have := hR.lt; omega) z5).mono ?_); rintro e w9 ⟨t, u, ys, rfl, hyl, hY, hR9, hD9'⟩; (have z9 := hD9'.size); (have z8 := hR.lt); obtain ⟨q, d, rfl, hq⟩ := hY.shape; (replace hM := hM.drB hD9' (by omega) hmR); (replace hV := hV.drB hD9' (by omega) (by omega)); (replace hU := hU.drB hD9' (by omega) (by omega)); (replace hO := hO.drO hD9' (by have := HSZ.out; omega) hOl); (replace hDw := hDw.trans (hD9'.mono (by omega))); clear m0 m1 s0 s1 s2 s3 u0 u1 u2 u3; (have m0 := hM.c0); (have m1 := hM.c1); (have s0 := hV.c0); (have s1 := hV.c1); (have s2 := hV.f0); (have s3 := hV.f1); (have u0 := hU.c0); (have u1 := hU.c1); (have u2 := hU.f0); (have u3 := hU.f1); clear hq hD9' tk2 _t))
          all_goals go_wp2
          all_goals refine bodyPost_ret (v := .tuple #[.agg #[.int .i64 t, .slice q ys.length d], .agg #[.int .i64 s, .slice p xs.length c]]) (by simp [results, Try.results74, go_sem, s0, s1, s2, s3, u0, u1, u2, u3]) rfl ⟨t, _, ys, s, _, xs, rfl, hyl, hxl, ?_, ?_, ?_, ?_⟩
          all_goals first
            | exact ((((hO.setBelow (by have := HSZ.out; first | omega | (simp; omega)) _).setBelow (by have := HSZ.out; first | omega | (simp; omega)) _).setBelow (by have := HSZ.out; first | omega | (simp; omega)) _).setBelow (by have := HSZ.out; first | omega | (simp; omega)) _).mono (by have := HSZ.out; omega)
            | exact ((((hY.setBelow (by have := HSZ.out; first | omega | (simp; omega)) _).setBelow (by have := HSZ.out; first | omega | (simp; omega)) _).setBelow (by have := HSZ.out; first | omega | (simp; omega)) _).setBelow (by have := HSZ.out; first | omega | (simp; omega)) _).mono (by have := HSZ.out; omega)
            | exact ((((hR9.setCell _ (by have := HSZ.out; first | omega | (simp; omega)) _).setCell _ (by have := HSZ.out; first | omega | (simp; omega)) _).setCell _ (by have := HSZ.out; first | omega | (simp; omega)) _).setCell _ (by have := HSZ.out; first | omega | (simp; omega)) _).more (by omega)
            | exact ((((hDw.setCell _ (.inl (by first | omega | simp)) _).setCell _ (.inl (by first | omega | simp)) _).setCell _ (.inl (by first | omega | simp)) _).setCell _ (.inl (by first | omega | simp)) _)
            | exact Dr.drew ((((hDw.setCell ⟨w.heap.size, 0, none⟩ (.inl (by show w.heap.size ≤ w.heap.size; omega)) _).setCell ⟨w.heap.size, 1, none⟩ (.inl (by show w.heap.size ≤ w.heap.size; omega)) _).setCell ⟨w.heap.size + 1, 0, none⟩ (.inl (by show w.heap.size ≤ w.heap.size + 1; omega)) _).setCell ⟨w.heap.size + 1, 1, none⟩ (.inl (by show w.heap.size ≤ w.heap.size + 1; omega)) _)
            | exact Own.drew (((((hO.setBelow (a := ⟨w.heap.size, 0, none⟩) (by show w.heap.size < _; have := HSZ.out; omega) _).setBelow (a := ⟨w.heap.size, 1, none⟩) (by show w.heap.size < _; have := HSZ.out; omega) _).setBelow (a := ⟨w.heap.size + 1, 0, none⟩) (by show w.heap.size + 1 < _; have := HSZ.out; omega) _).setBelow (a := ⟨w.heap.size + 1, 1, none⟩) (by show w.heap.size + 1 < _; have := HSZ.out; omega) _).mono (by have := HSZ.out; omega))
            | exact Own.drew (((((hY.setBelow (a := ⟨w.heap.size, 0, none⟩) (by show w.heap.size < _; have := HSZ.out; omega) _).setBelow (a := ⟨w.heap.size, 1, none⟩) (by show w.heap.size < _; have := HSZ.out; omega) _).setBelow (a := ⟨w.heap.size + 1, 0, none⟩) (by show w.heap.size + 1 < _; have := HSZ.out; omega) _).setBelow (a := ⟨w.heap.size + 1, 1, none⟩) (by show w.heap.size + 1 < _; have := HSZ.out; omega) _).mono (by have := HSZ.out; omega))
        · skip
          go_wp2_with fail
          have m0 := hM.c0
          have m1 := hM.c1
          have s0 := hV.c0
          have s1 := hV.c1
          have s2 := hV.f0
          have s3 := hV.f1
          have u0 := hU.c0
          have u1 := hU.c1
          have u2 := hU.f0
          have u3 := hU.f1
          have x0 := hX.c0
          have x1 := hX.c1
          have e1 : w.heap.size < w1.heap.size := by omega
          have e2 : w.heap.size + 1 < w1.heap.size := by omega
          have e3 : w.heap.size < xB := by omega
          have e4 : w.heap.size + 1 < xB := by omega
          replace hO := hO.mono za
          have HPK := Lib.hid (And.intro hM (And.intro hV (And.intro hU (And.intro hO (And.intro hR (And.intro hDw (And.intro hX (And.intro o6 (And.intro hxl (And.intro hK6 (And.intro hRlt (And.intro zW (And.intro zB hxB2)))))))))))))
          clear hM hV hU hO hR hDw hX o6 hxl hK6 hRlt zW zB hxB2
          try clear hxN zN
          try clear hxB3
          clear hx1 hmR z1 z2 z3 z4 z6 za zb hRlb k1 k4 hyb
          try clear hx
          go_region
          all_goals obtain ⟨hM, hV, hU, hO, hR, hDw, hX, o6, hxl, hK6, hRlt, zW, zB, hxB2⟩ := HPK.out
          all_goals go_wp2
          all_goals refine bodyPost_ret (v := .tuple #[.agg #[.int .i64 S6, .slice p6 K6.length c6], .agg #[.int .i64 s, .slice p xs.length c]]) (by simp [results, Try.results74, go_sem, s0, s1, s2, s3, u0, u1, u2, u3]) rfl ⟨S6, _, K6, s, _, xs, rfl, hK6, hxl, ?_, ?_, ?_, ?_⟩
          all_goals first
            | exact ((((hO.setBelow (by have := HSZ.out; first | omega | (simp; omega)) _).setBelow (by have := HSZ.out; first | omega | (simp; omega)) _).setBelow (by have := HSZ.out; first | omega | (simp; omega)) _).setBelow (by have := HSZ.out; first | omega | (simp; omega)) _).mono (by have := HSZ.out; omega)
            | exact ((((o6.setBelow (by have := HSZ.out; first | omega | (simp; omega)) _).setBelow (by have := HSZ.out; first | omega | (simp; omega)) _).setBelow (by have := HSZ.out; first | omega | (simp; omega)) _).setBelow (by have := HSZ.out; first | omega | (simp; omega)) _).mono (by have := HSZ.out; omega)
            | exact ((((hR.setCell _ (by have := HSZ.out; first | omega | (simp; omega)) _).setCell _ (by have := HSZ.out; first | omega | (simp; omega)) _).setCell _ (by have := HSZ.out; first | omega | (simp; omega)) _).setCell _ (by have := HSZ.out; first | omega | (simp; omega)) _).more (by omega)
            | exact ((((hDw.setCell _ (.inl (by first | omega | simp)) _).setCell _ (.inl (by first | omega | simp)) _).setCell _ (.inl (by first | omega | simp)) _).setCell _ (.inl (by first | omega | simp)) _)
            | exact Dr.drew ((((hDw.setCell ⟨w.heap.size, 0, none⟩ (.inl (by show w.heap.size ≤ w.heap.size; omega)) _).setCell ⟨w.heap.size, 1, none⟩ (.inl (by show w.heap.size ≤ w.heap.size; omega)) _).setCell ⟨w.heap.size + 1, 0, none⟩ (.inl (by show w.heap.size ≤ w.heap.size + 1; omega)) _).setCell ⟨w.heap.size + 1, 1, none⟩ (.inl (by show w.heap.size ≤ w.heap.size + 1; omega)) _)
            | exact Own.drew (((((hO.setBelow (a := ⟨w.heap.size, 0, none⟩) (by show w.heap.size < _; have := HSZ.out; omega) _).setBelow (a := ⟨w.heap.size, 1, none⟩) (by show w.heap.size < _; have := HSZ.out; omega) _).setBelow (a := ⟨w.heap.size + 1, 0, none⟩) (by show w.heap.size + 1 < _; have := HSZ.out; omega) _).setBelow (a := ⟨w.heap.size + 1, 1, none⟩) (by show w.heap.size + 1 < _; have := HSZ.out; omega) _).mono (by have := HSZ.out; omega))
            | exact Own.drew (((((o6.setBelow (a := ⟨w.heap.size, 0, none⟩) (by show w.heap.size < _; have := HSZ.out; omega) _).setBelow (a := ⟨w.heap.size, 1, none⟩) (by show w.heap.size < _; have := HSZ.out; omega) _).setBelow (a := ⟨w.heap.size + 1, 0, none⟩) (by show w.heap.size + 1 < _; have := HSZ.out; omega) _).setBelow (a := ⟨w.heap.size + 1, 1, none⟩) (by show w.heap.size + 1 < _; have := HSZ.out; omega) _).mono (by have := HSZ.out; omega))
      · skip
        clear m0 m1 s0 s1 s2 s3 u0 u1 u2 u3
        clear F0 F1 F2 F3
        obtain ⟨xB, hxB⟩ : ∃ x, x = w4.heap.size := ⟨_, rfl⟩
        rw [← hxB] at hX ⊢
        have hxB2 : w4.heap.size ≤ xB := by omega
        have hxB3 : xB < w6.heap.size := hX.lt
        replace hM := hM.other2 xB (by omega) (.int .i64 S6) (.slice p6 K6.length c6)
        replace hV := hV.other2 xB (by omega) (.int .i64 S6) (.slice p6 K6.length c6)
        replace hU := hU.other2 xB (by omega) (.int .i64 S6) (.slice p6 K6.length c6)
        have hOo : ∀ k, (Value.slice p xs.length c).ownBlock = some k → k ≠ xB := fun k hk => by have := hOl k hk; have := zz; omega
        replace hO := (hO.setOff ⟨xB, 0, none⟩ hOo (.int .i64 S6)).setOff ⟨xB, 1, none⟩ hOo (.slice p6 K6.length c6)
        replace o6 := (o6.setBelow (a := ⟨xB, 0, none⟩) (by show xB < _; omega) (.int .i64 S6)).setBelow (a := ⟨xB, 1, none⟩) (by show xB < _; omega) (.slice p6 K6.length c6)
        replace hR := (hR.setCell ⟨xB, 0, none⟩ (by show R < xB; omega) (.int .i64 S6)).setCell ⟨xB, 1, none⟩ (by show R < xB; omega) (.slice p6 K6.length c6)
        replace hDw := (hDw.setCell ⟨xB, 0, none⟩ (.inl (by show _ ≤ xB; omega)) (.int .i64 S6)).setCell ⟨xB, 1, none⟩ (.inl (by show _ ≤ xB; omega)) (.slice p6 K6.length c6)
        replace hX := hX.two S6 (.slice p6 K6.length c6)
        have zN : w6.heap.size ≤ ((w6.setCell ⟨xB, 0, none⟩ (.int .i64 S6)).setCell ⟨xB, 1, none⟩ (.slice p6 K6.length c6)).heap.size := by simp
        generalize (w6.setCell ⟨xB, 0, none⟩ (.int .i64 S6)).setCell ⟨xB, 1, none⟩ (.slice p6 K6.length c6) = wN at *
        clear hOl hOo
        try clear hZ hg5 hg6 hmz hl5 hl6
        try clear hy5
        have zB : w.heap.size + 2 ≤ xB := by omega
        have o6B : w.heap.size + 2 ≤ w6.heap.size := by omega
        replace o6 := o6.mono (show w.heap.size + 2 ≤ _ by omega)
        have zW : w1.heap.size < wN.heap.size := hM.lt
        clear hxB
        cases O6
        · skip
          clear hX o6 hK6
          go_wp2_with fail
          replace hM := hM.drew
          replace hV := hV.drew
          replace hU := hU.drew
          replace hO := hO.drew
          replace hR := hR.drew
          replace hDw := hDw.drew
          have m0 := hM.c0
          have m1 := hM.c1
          have s0 := hV.c0
          have s1 := hV.c1
          have s2 := hV.f0
          have s3 := hV.f1
          have u0 := hU.c0
          have u1 := hU.c1
          have u2 := hU.f0
          have u3 := hU.f1
          have zz : wN.drew.heap.size = wN.heap.size := rfl
          have hOl := hO.blockLt
          have tk : True := trivial
          have tk2 : True := trivial
          go_region_held3 (fun w' => w'.cell? ⟨w1.heap.size, 0, none⟩ = some (.int .i64 s) ∧ w'.cell? ⟨w1.heap.size, 1, none⟩ = some (.slice p xs.length c))
            (first | exact ⟨m0, m1⟩ | (refine ⟨cellStore2 m0 ?_, cellStore2 m1 ?_⟩ <;> omega) | (refine ⟨cellStore2 (cellStore2 m0 ?_) ?_, cellStore2 (cellStore2 m1 ?_) ?_⟩ <;> omega))
            (first
              | (go_at_call 108; have _t := tk; (with_reducible refine (l3Draw_any R ((P + 1 + 20 + 2 + 1) + 20) s _ hR (by omega) k1 k4).mono ?_); rintro e w5 ⟨v5, zs, rfl, hmz, hZ, hR5, hD5⟩; (have hl5 : 0 < zs.length := by have hk5 := massB_ok hmz; have := hk5.len; have := pow2_bd s k1 k4; omega); obtain ⟨g5, c5, rfl, hg5, hg6⟩ := hZ.form hl5; (replace hM := hM.dr (B := 0) hD5 hmR); (replace hV := hV.dr (B := 0) hD5 (by omega)); (replace hU := hU.dr (B := 0) hD5 (by omega)); (replace hO := hO.dr hD5 (by have := HSZ.out; omega)); (replace hDw := hDw.then (by omega) hD5); clear m0 m1 s0 s1 s2 s3 u0 u1 u2 u3; (have m0 := hM.c0); (have m1 := hM.c1); (have s0 := hV.c0); (have s1 := hV.c1); (have s2 := hV.f0); (have s3 := hV.f1); (have u0 := hU.c0); (have u1 := hU.c1); (have u2 := hU.f0); (have u3 := hU.f1); (have z5 := hD5.size); clear hD5 tk _t)
              | (go_at_call 107; have _t := tk2; (with_reducible refine (l3Bad_any wN.drew.heap.size R (((P + 1 + 20 + 2 + 1) + 20) + 20) s g5 zs.length c5 zs _ hR5 (by omega) hmz rfl hZ (by have := hR.lt; omega) z5).mono ?_); rintro e w9 ⟨t, u, ys, rfl, hyl, hY, hR9, hD9'⟩; (have z9 := hD9'.size); (have z8 := hR.lt); obtain ⟨q, d, rfl, hq⟩ := hY.shape; (replace hM := hM.drB hD9' (by omega) hmR); (replace hV := hV.drB hD9' (by omega) (by omega)); (replace hU := hU.drB hD9' (by omega) (by omega)); (replace hO := hO.drO hD9' (by have := HSZ.out; omega) hOl); (replace hDw := hDw.trans (hD9'.mono (by omega))); clear m0 m1 s0 s1 s2 s3 u0 u1 u2 u3; (have m0 := hM.c0); (have m1 := hM.c1); (have s0 := hV.c0); (have s1 := hV.c1); (have s2 := hV.f0); (have s3 := hV.f1); (have u0 := hU.c0); (have u1 := hU.c1); (have u2 := hU.f0); (have u3 := hU.f1); clear hq hD9' tk2 _t))
          all_goals go_wp2
          all_goals refine bodyPost_ret (v := .tuple #[.agg #[.int .i64 t, .slice q ys.length d], .agg #[.int .i64 s, .slice p xs.length c]]) (by simp [results, Try.results74, go_sem, s0, s1, s2, s3, u0, u1, u2, u3]) rfl ⟨t, _, ys, s, _, xs, rfl, hyl, hxl, ?_, ?_, ?_, ?_⟩
          all_goals first
            | exact ((((hO.setBelow (by have := HSZ.out; first | omega | (simp; omega)) _).setBelow (by have := HSZ.out; first | omega | (simp; omega)) _).setBelow (by have := HSZ.out; first | omega | (simp; omega)) _).setBelow (by have := HSZ.out; first | omega | (simp; omega)) _).mono (by have := HSZ.out; omega)
            | exact ((((hY.setBelow (by have := HSZ.out; first | omega | (simp; omega)) _).setBelow (by have := HSZ.out; first | omega | (simp; omega)) _).setBelow (by have := HSZ.out; first | omega | (simp; omega)) _).setBelow (by have := HSZ.out; first | omega | (simp; omega)) _).mono (by have := HSZ.out; omega)
            | exact ((((hR9.setCell _ (by have := HSZ.out; first | omega | (simp; omega)) _).setCell _ (by have := HSZ.out; first | omega | (simp; omega)) _).setCell _ (by have := HSZ.out; first | omega | (simp; omega)) _).setCell _ (by have := HSZ.out; first | omega | (simp; omega)) _).more (by omega)
            | exact ((((hDw.setCell _ (.inl (by first | omega | simp)) _).setCell _ (.inl (by first | omega | simp)) _).setCell _ (.inl (by first | omega | simp)) _).setCell _ (.inl (by first | omega | simp)) _)
            | exact Dr.drew ((((hDw.setCell ⟨w.heap.size, 0, none⟩ (.inl (by show w.heap.size ≤ w.heap.size; omega)) _).setCell ⟨w.heap.size, 1, none⟩ (.inl (by show w.heap.size ≤ w.heap.size; omega)) _).setCell ⟨w.heap.size + 1, 0, none⟩ (.inl (by show w.heap.size ≤ w.heap.size + 1; omega)) _).setCell ⟨w.heap.size + 1, 1, none⟩ (.inl (by show w.heap.size ≤ w.heap.size + 1; omega)) _)
            | exact Own.drew (((((hO.setBelow (a := ⟨w.heap.size, 0, none⟩) (by show w.heap.size < _; have := HSZ.out; omega) _).setBelow (a := ⟨w.heap.size, 1, none⟩) (by show w.heap.size < _; have := HSZ.out; omega) _).setBelow (a := ⟨w.heap.size + 1, 0, none⟩) (by show w.heap.size + 1 < _; have := HSZ.out; omega) _).setBelow (a := ⟨w.heap.size + 1, 1, none⟩) (by show w.heap.size + 1 < _; have := HSZ.out; omega) _).mono (by have := HSZ.out; omega))
            | exact Own.drew (((((hY.setBelow (a := ⟨w.heap.size, 0, none⟩) (by show w.heap.size < _; have := HSZ.out; omega) _).setBelow (a := ⟨w.heap.size, 1, none⟩) (by show w.heap.size < _; have := HSZ.out; omega) _).setBelow (a := ⟨w.heap.size + 1, 0, none⟩) (by show w.heap.size + 1 < _; have := HSZ.out; omega) _).setBelow (a := ⟨w.heap.size + 1, 1, none⟩) (by show w.heap.size + 1 < _; have := HSZ.out; omega) _).mono (by have := HSZ.out; omega))
        · skip
          go_wp2_with fail
          have m0 := hM.c0
          have m1 := hM.c1
          have s0 := hV.c0
          have s1 := hV.c1
          have s2 := hV.f0
          have s3 := hV.f1
          have u0 := hU.c0
          have u1 := hU.c1
          have u2 := hU.f0
          have u3 := hU.f1
          have x0 := hX.c0
          have x1 := hX.c1
          have e1 : w.heap.size < w1.heap.size := by omega
          have e2 : w.heap.size + 1 < w1.heap.size := by omega
          have e3 : w.heap.size < xB := by omega
          have e4 : w.heap.size + 1 < xB := by omega
          replace hO := hO.mono za
          have HPK := Lib.hid (And.intro hM (And.intro hV (And.intro hU (And.intro hO (And.intro hR (And.intro hDw (And.intro hX (And.intro o6 (And.intro hxl (And.intro hK6 (And.intro hRlt (And.intro zW (And.intro zB hxB2)))))))))))))
          clear hM hV hU hO hR hDw hX o6 hxl hK6 hRlt zW zB hxB2
          try clear hxN zN
          try clear hxB3
          clear hx1 hmR z1 z2 z3 z4 z6 za zb hRlb k1 k4 hyb
          try clear hx
          go_region
          all_goals obtain ⟨hM, hV, hU, hO, hR, hDw, hX, o6, hxl, hK6, hRlt, zW, zB, hxB2⟩ := HPK.out
          all_goals go_wp2
          all_goals refine bodyPost_ret (v := .tuple #[.agg #[.int .i64 S6, .slice p6 K6.length c6], .agg #[.int .i64 s, .slice p xs.length c]]) (by simp [results, Try.results74, go_sem, s0, s1, s2, s3, u0, u1, u2, u3]) rfl ⟨S6, _, K6, s, _, xs, rfl, hK6, hxl, ?_, ?_, ?_, ?_⟩
          all_goals first
            | exact ((((hO.setBelow (by have := HSZ.out; first | omega | (simp; omega)) _).setBelow (by have := HSZ.out; first | omega | (simp; omega)) _).setBelow (by have := HSZ.out; first | omega | (simp; omega)) _).setBelow (by have := HSZ.out; first | omega | (simp; omega)) _).mono (by have := HSZ.out; omega)
            | exact ((((o6.setBelow (by have := HSZ.out; first | omega | (simp; omega)) _).setBelow (by have := HSZ.out; first | omega | (simp; omega)) _).setBelow (by have := HSZ.out; first | omega | (simp; omega)) _).setBelow (by have := HSZ.out; first | omega | (simp; omega)) _).mono (by have := HSZ.out; omega)
            | exact ((((hR.setCell _ (by have := HSZ.out; first | omega | (simp; omega)) _).setCell _ (by have := HSZ.out; first | omega | (simp; omega)) _).setCell _ (by have := HSZ.out; first | omega | (simp; omega)) _).setCell _ (by have := HSZ.out; first | omega | (simp; omega)) _).more (by omega)
            | exact ((((hDw.setCell _ (.inl (by first | omega | simp)) _).setCell _ (.inl (by first | omega | simp)) _).setCell _ (.inl (by first | omega | simp)) _).setCell _ (.inl (by first | omega | simp)) _)
            | exact Dr.drew ((((hDw.setCell ⟨w.heap.size, 0, none⟩ (.inl (by show w.heap.size ≤ w.heap.size; omega)) _).setCell ⟨w.heap.size, 1, none⟩ (.inl (by show w.heap.size ≤ w.heap.size; omega)) _).setCell ⟨w.heap.size + 1, 0, none⟩ (.inl (by show w.heap.size ≤ w.heap.size + 1; omega)) _).setCell ⟨w.heap.size + 1, 1, none⟩ (.inl (by show w.heap.size ≤ w.heap.size + 1; omega)) _)
            | exact Own.drew (((((hO.setBelow (a := ⟨w.heap.size, 0, none⟩) (by show w.heap.size < _; have := HSZ.out; omega) _).setBelow (a := ⟨w.heap.size, 1, none⟩) (by show w.heap.size < _; have := HSZ.out; omega) _).setBelow (a := ⟨w.heap.size + 1, 0, none⟩) (by show w.heap.size + 1 < _; have := HSZ.out; omega) _).setBelow (a := ⟨w.heap.size + 1, 1, none⟩) (by show w.heap.size + 1 < _; have := HSZ.out; omega) _).mono (by have := HSZ.out; omega))
            | exact Own.drew (((((o6.setBelow (a := ⟨w.heap.size, 0, none⟩) (by show w.heap.size < _; have := HSZ.out; omega) _).setBelow (a := ⟨w.heap.size, 1, none⟩) (by show w.heap.size < _; have := HSZ.out; omega) _).setBelow (a := ⟨w.heap.size + 1, 0, none⟩) (by show w.heap.size + 1 < _; have := HSZ.out; omega) _).setBelow (a := ⟨w.heap.size + 1, 1, none⟩) (by show w.heap.size + 1 < _; have := HSZ.out; omega) _).mono (by have := HSZ.out; omega))
    · skip
      go_wp2_with fail
      replace hM := hM.drew
      replace hV := hV.drew
      replace hU := hU.drew
      replace hO := hO.drew
      replace hR := hR.drew
      replace hDw := hDw.drew
      have m0 := hM.c0
      have m1 := hM.c1
      have s0 := hV.c0
      have s1 := hV.c1
      have s2 := hV.f0
      have s3 := hV.f1
      have u0 := hU.c0
      have u1 := hU.c1
      have u2 := hU.f0
      have u3 := hU.f1
      have zz : w4.drew.heap.size = w4.heap.size := rfl
      have hOl := hO.blockLt
      have zR := hR.lt
      have tkA : True := trivial
      have tkB : True := trivial
      go_region_held3 (fun w' => w'.cell? ⟨w1.heap.size, 0, none⟩ = some (.int .i64 s) ∧ w'.cell? ⟨w1.heap.size, 1, none⟩ = some (.slice p xs.length c))
        (first | exact ⟨m0, m1⟩ | exact ⟨cellKeep (belowAlloc _ _) m0, cellKeep (belowAlloc _ _) m1⟩ | (refine ⟨cellStore2 m0 ?_, cellStore2 m1 ?_⟩ <;> omega) | (refine ⟨cellStore2 (cellKeep (belowAlloc _ _) m0) ?_, cellStore2 (cellKeep (belowAlloc _ _) m1) ?_⟩ <;> omega))
        (first
          | (go_at_call 91; have _t := tkA; (with_reducible refine (pick_any R (P + 1 + 20 + 2 + 1) (xs.length : Int) _ hR (by omega) (by omega) (by omega)).mono ?_); rintro e w5 ⟨y5, rfl, hy5, hR5, hD5⟩; (replace hM := hM.dr (B := 0) hD5 hmR); (replace hV := hV.dr (B := 0) hD5 (by omega)); (replace hU := hU.dr (B := 0) hD5 (by omega)); (replace hO := hO.dr hD5 (by have := HSZ.out; omega)); (replace hDw := hDw.then (by omega) hD5); clear m0 m1 s0 s1 s2 s3 u0 u1 u2 u3; (have m0 := hM.c0); (have m1 := hM.c1); (have s0 := hV.c0); (have s1 := hV.c1); (have s2 := hV.f0); (have s3 := hV.f1); (have u0 := hU.c0); (have u1 := hU.c1); (have u2 := hU.f0); (have u3 := hU.f1); (have z5 := hD5.size); (replace hR := hR5); clear hR5 hD5 tkA _t)
          | (go_at_call 91; have _t := tkA; (have hA : Below w4.drew.heap.size w4.drew ((w4.alloc (.cells #[.int .i64 0, .slice none 0 0] 27)).drew) := belowAlloc w4.drew _); (replace hM := hM.later hA); (replace hV := hV.later hA); (replace hU := hU.later hA); (replace hO := hO.later hA); (replace hR := hR.later hA); (replace hDw := hDw.thenB (by omega) hA); clear m0 m1 s0 s1 s2 s3 u0 u1 u2 u3; (have m0 := hM.c0); (have m1 := hM.c1); (have s0 := hV.c0); (have s1 := hV.c1); (have s2 := hV.f0); (have s3 := hV.f1); (have u0 := hU.c0); (have u1 := hU.c1); (have u2 := hU.f0); (have u3 := hU.f1); (have zA := hA.size); (have zA2 : w4.heap.size + 1 = ((w4.alloc (.cells #[.int .i64 0, .slice none 0 0] 27)).drew).heap.size := by simp); (have hX : VarInv (w4.alloc (.cells #[.int .i64 0, .slice none 0 0] 27)).drew (w4.heap.size) 0 (.slice none 0 0) := (VarInv.made w4 0 (.slice none 0 0) 27).drew); (have F0 := hX.c0); (have F1 := hX.c1); (have F2 := hX.f0); (have F3 := hX.f1); clear hA; (with_reducible refine (pick_any R (P + 1 + 20 + 2 + 1) (xs.length : Int) _ hR (by omega) (by omega) (by omega)).mono ?_); rintro e w5 ⟨y5, rfl, hy5, hR5, hD5⟩; (replace hM := hM.dr (B := 0) hD5 hmR); (replace hV := hV.dr (B := 0) hD5 (by omega)); (replace hU := hU.dr (B := 0) hD5 (by omega)); (replace hO := hO.dr hD5 (by have := HSZ.out; omega)); (replace hDw := hDw.then (by omega) hD5); clear m0 m1 s0 s1 s2 s3 u0 u1 u2 u3; (have m0 := hM.c0); (have m1 := hM.c1); (have s0 := hV.c0); (have s1 := hV.c1); (have s2 := hV.f0); (have s3 := hV.f1); (have u0 := hU.c0); (have u1 := hU.c1); (have u2 := hU.f0); (have u3 := hU.f1); (replace hX := hX.dr (B := 0) hD5 (by omega)); clear F0 F1 F2 F3; (have F0 := hX.c0); (have F1 := hX.c1); (have F2 := hX.f0); (have F3 := hX.f1); (have z5 := hD5.size); (replace hR := hR5); clear hR5 hD5 tkA _t)
          | (go_at_call 110; have _t := tkB; (have _q := hX); (with_reducible refine (cutA s p c xs (y5 : Int) _ hO.reads hxl).mono ?_); rintro e w6 ⟨S6, v6, K6, O6, rfl, hK6, o6, hb⟩; (replace hM := hM.later hb); (replace hV := hV.later hb); (replace hU := hU.later hb); (replace hO := hO.later hb); (replace hR := hR.later hb); (replace hDw := hDw.thenB (by omega) hb); clear m0 m1 s0 s1 s2 s3 u0 u1 u2 u3; (have m0 := hM.c0); (have m1 := hM.c1); (have s0 := hV.c0); (have s1 := hV.c1); (have s2 := hV.f0); (have s3 := hV.f1); (have u0 := hU.c0); (have u1 := hU.c1); (have u2 := hU.f0); (have u3 := hU.f1); (replace hX := hX.later hb); clear F0 F1 F2 F3 _q; (have F0 := hX.c0); (have F1 := hX.c1); (have F2 := hX.f0); (have F3 := hX.f1); (have z6 := hb.size); obtain ⟨p6, c6, rfl, _hr6⟩ := o6.shape; clear hb _hr6 tkB _t)
          | (go_at_call 110; have _t := tkB; (with_reducible refine (cutA s p c xs (y5 : Int) _ hO.reads hxl).mono ?_); rintro e w6 ⟨S6, v6, K6, O6, rfl, hK6, o6, hb⟩; (replace hM := hM.later hb); (replace hV := hV.later hb); (replace hU := hU.later hb); (replace hO := hO.later hb); (replace hR := hR.later hb); (replace hDw := hDw.thenB (by omega) hb); clear m0 m1 s0 s1 s2 s3 u0 u1 u2 u3; (have m0 := hM.c0); (have m1 := hM.c1); (have s0 := hV.c0); (have s1 := hV.c1); (have s2 := hV.f0); (have s3 := hV.f1); (have u0 := hU.c0); (have u1 := hU.c1); (have u2 := hU.f0); (have u3 := hU.f1); (have z6 := hb.size); obtain ⟨p6, c6, rfl, _hr6⟩ := o6.shape; clear hb _hr6 tkB _t)
          | (go_at_call 110; have _t := tkB; (have hA : Below w5.heap.size w5 (w5.alloc (.cells #[.int .i64 0, .slice none 0 0] 27)) := belowAlloc w5 _); (replace hM := hM.later hA); (replace hV := hV.later hA); (replace hU := hU.later hA); (replace hO := hO.later hA); (replace hR := hR.later hA); (replace hDw := hDw.thenB (by omega) hA); clear m0 m1 s0 s1 s2 s3 u0 u1 u2 u3; (have m0 := hM.c0); (have m1 := hM.c1); (have s0 := hV.c0); (have s1 := hV.c1); (have s2 := hV.f0); (have s3 := hV.f1); (have u0 := hU.c0); (have u1 := hU.c1); (have u2 := hU.f0); (have u3 := hU.f1); (have zA := hA.size); (have zA2 : w5.heap.size + 1 = (w5.alloc (.cells #[.int .i64 0, .slice none 0 0] 27)).heap.size := by simp); (have hX := VarInv.made w5 0 (.slice none 0 0) 27); clear hA; (with_reducible refine (cutA s p c xs (y5 : Int) _ hO.reads hxl).mono ?_); rintro e w6 ⟨S6, v6, K6, O6, rfl, hK6, o6, hb⟩; (replace hM := hM.later hb); (replace hV := hV.later hb); (replace hU := hU.later hb); (replace hO := hO.later hb); (replace hR := hR.later hb); (replace hDw := hDw.thenB (by omega) hb); clear m0 m1 s0 s1 s2 s3 u0 u1 u2 u3; (have m0 := hM.c0); (have m1 := hM.c1); (have s0 := hV.c0); (have s1 := hV.c1); (have s2 := hV.f0); (have s3 := hV.f1); (have u0 := hU.c0); (have u1 := hU.c1); (have u2 := hU.f0); (have u3 := hU.f1); (replace hX := hX.later hb); (have F0 := hX.c0); (have F1 := hX.c1); (have F2 := hX.f0); (have F3 := hX.f1); (have z6 := hb.size); obtain ⟨p6, c6, rfl, _hr6⟩ := o6.shape; clear hb _hr6 tkB _t))
      · skip
        clear m0 m1 s0 s1 s2 s3 u0 u1 u2 u3
        have hb := belowAlloc w6 (.cells #[.int .i64 S6, .slice p6 K6.length c6] 27)
        (replace hM := hM.later hb)
        (replace hV := hV.later hb)
        (replace hU := hU.later hb)
        (replace hO := hO.later hb)
        (replace hR := hR.later hb)
        (replace hDw := hDw.thenB (by omega) hb)
        replace o6 := o6.later hb
        have hX := VarInv.made w6 S6 (.slice p6 K6.length c6) 27
        obtain ⟨xB, hxB⟩ : ∃ x, x = w6.heap.size := ⟨_, rfl⟩
        have zN : w6.heap.size + 1 = (w6.alloc (.cells #[.int .i64 S6, .slice p6 K6.length c6] 27)).heap.size := by simp
        rw [← hxB] at hX ⊢
        generalize w6.alloc (.cells #[.int .i64 S6, .slice p6 K6.length c6] 27) = wN at *
        clear hb
        have hxB2 : w4.heap.size ≤ xB := by omega
        have hxN : xB < wN.heap.size := hX.lt
        clear hOl
        try clear hZ hg5 hg6 hmz hl5 hl6
        try clear hy5
        have zB : w.heap.size + 2 ≤ xB := by omega
        have o6B : w.heap.size + 2 ≤ w6.heap.size := by omega
        replace o6 := o6.mono (show w.heap.size + 2 ≤ _ by omega)
        have zW : w1.heap.size < wN.heap.size := hM.lt
        replace zN := Nat.le_of_eq zN
        clear hxB
        cases O6
        · skip
          clear hX o6 hK6
          go_wp2_with fail
          replace hM := hM.drew
          replace hV := hV.drew
          replace hU := hU.drew
          replace hO := hO.drew
          replace hR := hR.drew
          replace hDw := hDw.drew
          have m0 := hM.c0
          have m1 := hM.c1
          have s0 := hV.c0
          have s1 := hV.c1
          have s2 := hV.f0
          have s3 := hV.f1
          have u0 := hU.c0
          have u1 := hU.c1
          have u2 := hU.f0
          have u3 := hU.f1
          have zz : wN.drew.heap.size = wN.heap.size := rfl
          have hOl := hO.blockLt
          have tk : True := trivial
          have tk2 : True := trivial
          go_region_held3 (fun w' => w'.cell? ⟨w1.heap.size, 0, none⟩ = some (.int .i64 s) ∧ w'.cell? ⟨w1.heap.size, 1, none⟩ = some (.slice p xs.length c))
            (first | exact ⟨m0, m1⟩ | (refine ⟨cellStore2 m0 ?_, cellStore2 m1 ?_⟩ <;> omega) | (refine ⟨cellStore2 (cellStore2 m0 ?_) ?_, cellStore2 (cellStore2 m1 ?_) ?_⟩ <;> omega))
            (first
              | (go_at_call 108; have _t := tk; (with_reducible refine (l3Draw_any R ((P + 1 + 20 + 2 + 1) + 1) s _ hR (by omega) k1 k4).mono ?_); rintro e w5 ⟨v5, zs, rfl, hmz, hZ, hR5, hD5⟩; (have hl5 : 0 < zs.length := by have hk5 := massB_ok hmz; have := hk5.len; have := pow2_bd s k1 k4; omega); obtain ⟨g5, c5, rfl, hg5, hg6⟩ := hZ.form hl5; (replace hM := hM.dr (B := 0) hD5 hmR); (replace hV := hV.dr (B := 0) hD5 (by omega)); (replace hU := hU.dr (B := 0) hD5 (by omega)); (replace hO := hO.dr hD5 (by have := HSZ.out; omega)); (replace hDw := hDw.then (by omega) hD5); clear m0 m1 s0 s1 s2 s3 u0 u1 u2 u3; (have m0 := hM.c0); (have m1 := hM.c1); (have s0 := hV.c0); (have s1 := hV.c1); (have s2 := hV.f0); (have s3 := hV.f1); (have u0 := hU.c0); (have u1 := hU.c1); (have u2 := hU.f0); (have u3 := hU.f1); (have z5 := hD5.size); clear hD5 tk _t)
              | (go_at_call 107; have _t := tk2; (with_reducible refine (l3Bad_any wN.drew.heap.size R (((P + 1 + 20 + 2 + 1) + 1) + 20) s g5 zs.length c5 zs _ hR5 (by omega) hmz rfl hZ (by have := hR.lt; omega) z5).mono ?_); rintro e w9 ⟨t, u, ys, rfl, hyl, hY, hR9, hD9'⟩; (have z9 := hD9'.size); (have z8 := hR.lt); obtain ⟨q, d, rfl, hq⟩ := hY.shape; (replace hM := hM.drB hD9' (by omega) hmR); (replace hV := hV.drB hD9' (by omega) (by omega)); (replace hU := hU.drB hD9' (by omega) (by omega)); (replace hO := hO.drO hD9' (by have := HSZ.out; omega) hOl); (replace hDw := hDw.trans (hD9'.mono (by omega))); clear m0 m1 s0 s1 s2 s3 u0 u1 u2 u3; (have m0 := hM.c0); (have m1 := hM.c1); (have s0 := hV.c0); (have s1 := hV.c1); (have s2 := hV.f0); (have s3 := hV.f1); (have u0 := hU.c0); (have u1 := hU.c1); (have u2 := hU.f0); (have u3 := hU.f1); clear hq hD9' tk2 _t))
          all_goals go_wp2
          all_goals refine bodyPost_ret (v := .tuple #[.agg #[.int .i64 t, .slice q ys.length d], .agg #[.int .i64 s, .slice p xs.length c]]) (by simp [results, Try.results74, go_sem, s0, s1, s2, s3, u0, u1, u2, u3]) rfl ⟨t, _, ys, s, _, xs, rfl, hyl, hxl, ?_, ?_, ?_, ?_⟩
          all_goals first
            | exact ((((hO.setBelow (by have := HSZ.out; first | omega | (simp; omega)) _).setBelow (by have := HSZ.out; first | omega | (simp; omega)) _).setBelow (by have := HSZ.out; first | omega | (simp; omega)) _).setBelow (by have := HSZ.out; first | omega | (simp; omega)) _).mono (by have := HSZ.out; omega)
            | exact ((((hY.setBelow (by have := HSZ.out; first | omega | (simp; omega)) _).setBelow (by have := HSZ.out; first | omega | (simp; omega)) _).setBelow (by have := HSZ.out; first | omega | (simp; omega)) _).setBelow (by have := HSZ.out; first | omega | (simp; omega)) _).mono (by have := HSZ.out; omega)
            | exact ((((hR9.setCell _ (by have := HSZ.out; first | omega | (simp; omega)) _).setCell _ (by have := HSZ.out; first | omega | (simp; omega)) _).setCell _ (by have := HSZ.out; first | omega | (simp; omega)) _).setCell _ (by have := HSZ.out; first | omega | (simp; omega)) _).more (by omega)
            | exact ((((hDw.setCell _ (.inl (by first | omega | simp)) _).setCell _ (.inl (by first | omega | simp)) _).setCell _ (.inl (by first | omega | simp)) _).setCell _ (.inl (by first | omega | simp)) _)
            | exact Dr.drew ((((hDw.setCell ⟨w.heap.size, 0, none⟩ (.inl (by show w.heap.size ≤ w.heap.size; omega)) _).setCell ⟨w.heap.size, 1, none⟩ (.inl (by show w.heap.size ≤ w.heap.size; omega)) _).setCell ⟨w.heap.size + 1, 0, none⟩ (.inl (by show w.heap.size ≤ w.heap.size + 1; omega)) _).setCell ⟨w.heap.size + 1, 1, none⟩ (.inl (by show w.heap.size ≤ w.heap.size + 1; omega)) _)
            | exact Own.drew (((((hO.setBelow (a := ⟨w.heap.size, 0, none⟩) (by show w.heap.size < _; have := HSZ.out; omega) _).setBelow (a := ⟨w.heap.size, 1, none⟩) (by show w.heap.size < _; have := HSZ.out; omega) _).setBelow (a := ⟨w.heap.size + 1, 0, none⟩) (by show w.heap.size + 1 < _; have := HSZ.out; omega) _).setBelow (a := ⟨w.heap.size + 1, 1, none⟩) (by show w.heap.size + 1 < _; have := HSZ.out; omega) _).mono (by have := HSZ.out; omega))
            | exact Own.drew (((((hY.setBelow (a := ⟨w.heap.size, 0, none⟩) (by show w.heap.size < _; have := HSZ.out; omega) _).setBelow (a := ⟨w.heap.size, 1, none⟩) (by show w.heap.size < _; have := HSZ.out; omega) _).setBelow (a := ⟨w.heap.size + 1, 0, none⟩) (by show w.heap.size + 1 < _; have := HSZ.out; omega) _).setBelow (a := ⟨w.heap.size + 1, 1, none⟩) (by show w.heap.size + 1 < _; have := HSZ.out; omega) _).mono (by have := HSZ.out; omega))
        · skip
          go_wp2_with fail
          have m0 := hM.c0
          have m1 := hM.c1
          have s0 := hV.c0
          have s1 := hV.c1
          have s2 := hV.f0
          have s3 := hV.f1
          have u0 := hU.c0
          have u1 := hU.c1
          have u2 := hU.f0
          have u3 := hU.f1
          have x0 := hX.c0
          have x1 := hX.c1
          have e1 : w.heap.size < w1.heap.size := by omega
          have e2 : w.heap.size + 1 < w1.heap.size := by omega
          have e3 : w.heap.size < xB := by omega
          have e4 : w.heap.size + 1 < xB := by omega
          replace hO := hO.mono za
          have HPK := Lib.hid (And.intro hM (And.intro hV (And.intro hU (And.intro hO (And.intro hR (And.intro hDw (And.intro hX (And.intro o6 (And.intro hxl (And.intro hK6 (And.intro hRlt (And.intro zW (And.intro zB hxB2)))))))))))))
          clear hM hV hU hO hR hDw hX o6 hxl hK6 hRlt zW zB hxB2
          try clear hxN zN
          try clear hxB3
          clear hx1 hmR z1 z2 z3 z4 z6 za zb hRlb k1 k4 hyb
          try clear hx
          go_region
          all_goals obtain ⟨hM, hV, hU, hO, hR, hDw, hX, o6, hxl, hK6, hRlt, zW, zB, hxB2⟩ := HPK.out
          all_goals go_wp2
          all_goals refine bodyPost_ret (v := .tuple #[.agg #[.int .i64 S6, .slice p6 K6.length c6], .agg #[.int .i64 s, .slice p xs.length c]]) (by simp [results, Try.results74, go_sem, s0, s1, s2, s3, u0, u1, u2, u3]) rfl ⟨S6, _, K6, s, _, xs, rfl, hK6, hxl, ?_, ?_, ?_, ?_⟩
          all_goals first
            | exact ((((hO.setBelow (by have := HSZ.out; first | omega | (simp; omega)) _).setBelow (by have := HSZ.out; first | omega | (simp; omega)) _).setBelow (by have := HSZ.out; first | omega | (simp; omega)) _).setBelow (by have := HSZ.out; first | omega | (simp; omega)) _).mono (by have := HSZ.out; omega)
            | exact ((((o6.setBelow (by have := HSZ.out; first | omega | (simp; omega)) _).setBelow (by have := HSZ.out; first | omega | (simp; omega)) _).setBelow (by have := HSZ.out; first | omega | (simp; omega)) _).setBelow (by have := HSZ.out; first | omega | (simp; omega)) _).mono (by have := HSZ.out; omega)
            | exact ((((hR.setCell _ (by have := HSZ.out; first | omega | (simp; omega)) _).setCell _ (by have := HSZ.out; first | omega | (simp; omega)) _).setCell _ (by have := HSZ.out; first | omega | (simp; omega)) _).setCell _ (by have := HSZ.out; first | omega | (simp; omega)) _).more (by omega)
            | exact ((((hDw.setCell _ (.inl (by first | omega | simp)) _).setCell _ (.inl (by first | omega | simp)) _).setCell _ (.inl (by first | omega | simp)) _).setCell _ (.inl (by first | omega | simp)) _)
            | exact Dr.drew ((((hDw.setCell ⟨w.heap.size, 0, none⟩ (.inl (by show w.heap.size ≤ w.heap.size; omega)) _).setCell ⟨w.heap.size, 1, none⟩ (.inl (by show w.heap.size ≤ w.heap.size; omega)) _).setCell ⟨w.heap.size + 1, 0, none⟩ (.inl (by show w.heap.size ≤ w.heap.size + 1; omega)) _).setCell ⟨w.heap.size + 1, 1, none⟩ (.inl (by show w.heap.size ≤ w.heap.size + 1; omega)) _)
            | exact Own.drew (((((hO.setBelow (a := ⟨w.heap.size, 0, none⟩) (by show w.heap.size < _; have := HSZ.out; omega) _).setBelow (a := ⟨w.heap.size, 1, none⟩) (by show w.heap.size < _; have := HSZ.out; omega) _).setBelow (a := ⟨w.heap.size + 1, 0, none⟩) (by show w.heap.size + 1 < _; have := HSZ.out; omega) _).setBelow (a := ⟨w.heap.size + 1, 1, none⟩) (by show w.heap.size + 1 < _; have := HSZ.out; omega) _).mono (by have := HSZ.out; omega))
            | exact Own.drew (((((o6.setBelow (a := ⟨w.heap.size, 0, none⟩) (by show w.heap.size < _; have := HSZ.out; omega) _).setBelow (a := ⟨w.heap.size, 1, none⟩) (by show w.heap.size < _; have := HSZ.out; omega) _).setBelow (a := ⟨w.heap.size + 1, 0, none⟩) (by show w.heap.size + 1 < _; have := HSZ.out; omega) _).setBelow (a := ⟨w.heap.size + 1, 1, none⟩) (by show w.heap.size + 1 < _; have := HSZ.out; omega) _).mono (by have := HSZ.out; omega))
      · skip
        clear m0 m1 s0 s1 s2 s3 u0 u1 u2 u3
        clear F0 F1 F2 F3
        obtain ⟨xB, hxB⟩ : ∃ x, x = w5.heap.size := ⟨_, rfl⟩
        rw [← hxB] at hX ⊢
        have hxB2 : w4.heap.size ≤ xB := by omega
        have hxB3 : xB < w6.heap.size := hX.lt
        replace hM := hM.other2 xB (by omega) (.int .i64 S6) (.slice p6 K6.length c6)
        replace hV := hV.other2 xB (by omega) (.int .i64 S6) (.slice p6 K6.length c6)
        replace hU := hU.other2 xB (by omega) (.int .i64 S6) (.slice p6 K6.length c6)
        have hOo : ∀ k, (Value.slice p xs.length c).ownBlock = some k → k ≠ xB := fun k hk => by have := hOl k hk; have := zz; omega
        replace hO := (hO.setOff ⟨xB, 0, none⟩ hOo (.int .i64 S6)).setOff ⟨xB, 1, none⟩ hOo (.slice p6 K6.length c6)
        replace o6 := (o6.setBelow (a := ⟨xB, 0, none⟩) (by show xB < _; omega) (.int .i64 S6)).setBelow (a := ⟨xB, 1, none⟩) (by show xB < _; omega) (.slice p6 K6.length c6)
        replace hR := (hR.setCell ⟨xB, 0, none⟩ (by show R < xB; omega) (.int .i64 S6)).setCell ⟨xB, 1, none⟩ (by show R < xB; omega) (.slice p6 K6.length c6)
        replace hDw := (hDw.setCell ⟨xB, 0, none⟩ (.inl (by show _ ≤ xB; omega)) (.int .i64 S6)).setCell ⟨xB, 1, none⟩ (.inl (by show _ ≤ xB; omega)) (.slice p6 K6.length c6)
        replace hX := hX.two S6 (.slice p6 K6.length c6)
        have zN : w6.heap.size ≤ ((w6.setCell ⟨xB, 0, none⟩ (.int .i64 S6)).setCell ⟨xB, 1, none⟩ (.slice p6 K6.length c6)).heap.size := by simp
        generalize (w6.setCell ⟨xB, 0, none⟩ (.int .i64 S6)).setCell ⟨xB, 1, none⟩ (.slice p6 K6.length c6) = wN at *
        clear hOl hOo
        try clear hZ hg5 hg6 hmz hl5 hl6
        try clear hy5
        have zB : w.heap.size + 2 ≤ xB := by omega
        have o6B : w.heap.size + 2 ≤ w6.heap.size := by omega
        replace o6 := o6.mono (show w.heap.size + 2 ≤ _ by omega)
        have zW : w1.heap.size < wN.heap.size := hM.lt
        clear hxB
        cases O6
        · skip
          clear hX o6 hK6
          go_wp2_with fail
          replace hM := hM.drew
          replace hV := hV.drew
          replace hU := hU.drew
          replace hO := hO.drew
          replace hR := hR.drew
          replace hDw := hDw.drew
          have m0 := hM.c0
          have m1 := hM.c1
          have s0 := hV.c0
          have s1 := hV.c1
          have s2 := hV.f0
          have s3 := hV.f1
          have u0 := hU.c0
          have u1 := hU.c1
          have u2 := hU.f0
          have u3 := hU.f1
          have zz : wN.drew.heap.size = wN.heap.size := rfl
          have hOl := hO.blockLt
          have tk : True := trivial
          have tk2 : True := trivial
          go_region_held3 (fun w' => w'.cell? ⟨w1.heap.size, 0, none⟩ = some (.int .i64 s) ∧ w'.cell? ⟨w1.heap.size, 1, none⟩ = some (.slice p xs.length c))
            (first | exact ⟨m0, m1⟩ | (refine ⟨cellStore2 m0 ?_, cellStore2 m1 ?_⟩ <;> omega) | (refine ⟨cellStore2 (cellStore2 m0 ?_) ?_, cellStore2 (cellStore2 m1 ?_) ?_⟩ <;> omega))
            (first
              | (go_at_call 108; have _t := tk; (with_reducible refine (l3Draw_any R ((P + 1 + 20 + 2 + 1) + 1) s _ hR (by omega) k1 k4).mono ?_); rintro e w5 ⟨v5, zs, rfl, hmz, hZ, hR5, hD5⟩; (have hl5 : 0 < zs.length := by have hk5 := massB_ok hmz; have := hk5.len; have := pow2_bd s k1 k4; omega); obtain ⟨g5, c5, rfl, hg5, hg6⟩ := hZ.form hl5; (replace hM := hM.dr (B := 0) hD5 hmR); (replace hV := hV.dr (B := 0) hD5 (by omega)); (replace hU := hU.dr (B := 0) hD5 (by omega)); (replace hO := hO.dr hD5 (by have := HSZ.out; omega)); (replace hDw := hDw.then (by omega) hD5); clear m0 m1 s0 s1 s2 s3 u0 u1 u2 u3; (have m0 := hM.c0); (have m1 := hM.c1); (have s0 := hV.c0); (have s1 := hV.c1); (have s2 := hV.f0); (have s3 := hV.f1); (have u0 := hU.c0); (have u1 := hU.c1); (have u2 := hU.f0); (have u3 := hU.f1); (have z5 := hD5.size); clear hD5 tk _t)
              | (go_at_call 107; have _t := tk2; (with_reducible refine (l3Bad_any wN.drew.heap.size R (((P + 1 + 20 + 2 + 1) + 1) + 20) s g5 zs.length c5 zs _ hR5 (by omega) hmz rfl hZ (by have := hR.lt; omega) z5).mono ?_); rintro e w9 ⟨t, u, ys, rfl, hyl, hY, hR9, hD9'⟩; (have z9 := hD9'.size); (have z8 := hR.lt); obtain ⟨q, d, rfl, hq⟩ := hY.shape; (replace hM := hM.drB hD9' (by omega) hmR); (replace hV := hV.drB hD9' (by omega) (by omega)); (replace hU := hU.drB hD9' (by omega) (by omega)); (replace hO := hO.drO hD9' (by have := HSZ.out; omega) hOl); (replace hDw := hDw.trans (hD9'.mono (by omega))); clear m0 m1 s0 s1 s2 s3 u0 u1 u2 u3; (have m0 := hM.c0); (have m1 := hM.c1); (have s0 := hV.c0); (have s1 := hV.c1); (have s2 := hV.f0); (have s3 := hV.f1); (have u0 := hU.c0); (have u1 := hU.c1); (have u2 := hU.f0); (have u3 := hU.f1); clear hq hD9' tk2 _t))
          all_goals go_wp2
          all_goals refine bodyPost_ret (v := .tuple #[.agg #[.int .i64 t, .slice q ys.length d], .agg #[.int .i64 s, .slice p xs.length c]]) (by simp [results, Try.results74, go_sem, s0, s1, s2, s3, u0, u1, u2, u3]) rfl ⟨t, _, ys, s, _, xs, rfl, hyl, hxl, ?_, ?_, ?_, ?_⟩
          all_goals first
            | exact ((((hO.setBelow (by have := HSZ.out; first | omega | (simp; omega)) _).setBelow (by have := HSZ.out; first | omega | (simp; omega)) _).setBelow (by have := HSZ.out; first | omega | (simp; omega)) _).setBelow (by have := HSZ.out; first | omega | (simp; omega)) _).mono (by have := HSZ.out; omega)
            | exact ((((hY.setBelow (by have := HSZ.out; first | omega | (simp; omega)) _).setBelow (by have := HSZ.out; first | omega | (simp; omega)) _).setBelow (by have := HSZ.out; first | omega | (simp; omega)) _).setBelow (by have := HSZ.out; first | omega | (simp; omega)) _).mono (by have := HSZ.out; omega)
            | exact ((((hR9.setCell _ (by have := HSZ.out; first | omega | (simp; omega)) _).setCell _ (by have := HSZ.out; first | omega | (simp; omega)) _).setCell _ (by have := HSZ.out; first | omega | (simp; omega)) _).setCell _ (by have := HSZ.out; first | omega | (simp; omega)) _).more (by omega)
            | exact ((((hDw.setCell _ (.inl (by first | omega | simp)) _).setCell _ (.inl (by first | omega | simp)) _).setCell _ (.inl (by first | omega | simp)) _).setCell _ (.inl (by first | omega | simp)) _)
            | exact Dr.drew ((((hDw.setCell ⟨w.heap.size, 0, none⟩ (.inl (by show w.heap.size ≤ w.heap.size; omega)) _).setCell ⟨w.heap.size, 1, none⟩ (.inl (by show w.heap.size ≤ w.heap.size; omega)) _).setCell ⟨w.heap.size + 1, 0, none⟩ (.inl (by show w.heap.size ≤ w.heap.size + 1; omega)) _).setCell ⟨w.heap.size + 1, 1, none⟩ (.inl (by show w.heap.size ≤ w.heap.size + 1; omega)) _)
            | exact Own.drew (((((hO.setBelow (a := ⟨w.heap.size, 0, none⟩) (by show w.heap.size < _; have := HSZ.out; omega) _).setBelow (a := ⟨w.heap.size, 1, none⟩) (by show w.heap.size < _; have := HSZ.out; omega) _).setBelow (a := ⟨w.heap.size + 1, 0, none⟩) (by show w.heap.size + 1 < _; have := HSZ.out; omega) _).setBelow (a := ⟨w.heap.size + 1, 1, none⟩) (by show w.heap.size + 1 < _; have := HSZ.out; omega) _).mono (by have := HSZ.out; omega))
            | exact Own.drew (((((hY.setBelow (a := ⟨w.heap.size, 0, none⟩) (by show w.heap.size < _; have := HSZ.out; omega) _).setBelow (a := ⟨w.heap.size, 1, none⟩) (by show w.heap.size < _; have := HSZ.out; omega) _).setBelow (a := ⟨w.heap.size + 1, 0, none⟩) (by show w.heap.size + 1 < _; have := HSZ.out; omega) _).setBelow (a := ⟨w.heap.size + 1, 1, none⟩) (by show w.heap.size + 1 < _; have := HSZ.out; omega) _).mono (by have := HSZ.out; omega))
        · skip
          go_wp2_with fail
          have m0 := hM.c0
          have m1 := hM.c1
          have s0 := hV.c0
          have s1 := hV.c1
          have s2 := hV.f0
          have s3 := hV.f1
          have u0 := hU.c0
          have u1 := hU.c1
          have u2 := hU.f0
          have u3 := hU.f1
          have x0 := hX.c0
          have x1 := hX.c1
          have e1 : w.heap.size < w1.heap.size := by omega
          have e2 : w.heap.size + 1 < w1.heap.size := by omega
          have e3 : w.heap.size < xB := by omega
          have e4 : w.heap.size + 1 < xB := by omega
          replace hO := hO.mono za
          have HPK := Lib.hid (And.intro hM (And.intro hV (And.intro hU (And.intro hO (And.intro hR (And.intro hDw (And.intro hX (And.intro o6 (And.intro hxl (And.intro hK6 (And.intro hRlt (And.intro zW (And.intro zB hxB2)))))))))))))
          clear hM hV hU hO hR hDw hX o6 hxl hK6 hRlt zW zB hxB2
          try clear hxN zN
          try clear hxB3
          clear hx1 hmR z1 z2 z3 z4 z6 za zb hRlb k1 k4 hyb
          try clear hx
          go_region
          all_goals obtain ⟨hM, hV, hU, hO, hR, hDw, hX, o6, hxl, hK6, hRlt, zW, zB, hxB2⟩ := HPK.out
          all_goals go_wp2
          all_goals refine bodyPost_ret (v := .tuple #[.agg #[.int .i64 S6, .slice p6 K6.length c6], .agg #[.int .i64 s, .slice p xs.length c]]) (by simp [results, Try.results74, go_sem, s0, s1, s2, s3, u0, u1, u2, u3]) rfl ⟨S6, _, K6, s, _, xs, rfl, hK6, hxl, ?_, ?_, ?_, ?_⟩
          all_goals first
            | exact ((((hO.setBelow (by have := HSZ.out; first | omega | (simp; omega)) _).setBelow (by have := HSZ.out; first | omega | (simp; omega)) _).setBelow (by have := HSZ.out; first | omega | (simp; omega)) _).setBelow (by have := HSZ.out; first | omega | (simp; omega)) _).mono (by have := HSZ.out; omega)
            | exact ((((o6.setBelow (by have := HSZ.out; first | omega | (simp; omega)) _).setBelow (by have := HSZ.out; first | omega | (simp; omega)) _).setBelow (by have := HSZ.out; first | omega | (simp; omega)) _).setBelow (by have := HSZ.out; first | omega | (simp; omega)) _).mono (by have := HSZ.out; omega)
            | exact ((((hR.setCell _ (by have := HSZ.out; first | omega | (simp; omega)) _).setCell _ (by have := HSZ.out; first | omega | (simp; omega)) _).setCell _ (by have := HSZ.out; first | omega | (simp; omega)) _).setCell _ (by have := HSZ.out; first | omega | (simp; omega)) _).more (by omega)
            | exact ((((hDw.setCell _ (.inl (by first | omega | simp)) _).setCell _ (.inl (by first | omega | simp)) _).setCell _ (.inl (by first | omega | simp)) _).setCell _ (.inl (by first | omega | simp)) _)
            | exact Dr.drew ((((hDw.setCell ⟨w.heap.size, 0, none⟩ (.inl (by show w.heap.size ≤ w.heap.size; omega)) _).setCell ⟨w.heap.size, 1, none⟩ (.inl (by show w.heap.size ≤ w.heap.size; omega)) _).setCell ⟨w.heap.size + 1, 0, none⟩ (.inl (by show w.heap.size ≤ w.heap.size + 1; omega)) _).setCell ⟨w.heap.size + 1, 1, none⟩ (.inl (by show w.heap.size ≤ w.heap.size + 1; omega)) _)
            | exact Own.drew (((((hO.setBelow (a := ⟨w.heap.size, 0, none⟩) (by show w.heap.size < _; have := HSZ.out; omega) _).setBelow (a := ⟨w.heap.size, 1, none⟩) (by show w.heap.size < _; have := HSZ.out; omega) _).setBelow (a := ⟨w.heap.size + 1, 0, none⟩) (by show w.heap.size + 1 < _; have := HSZ.out; omega) _).setBelow (a := ⟨w.heap.size + 1, 1, none⟩) (by show w.heap.size + 1 < _; have := HSZ.out; omega) _).mono (by have := HSZ.out; omega))
            | exact Own.drew (((((o6.setBelow (a := ⟨w.heap.size, 0, none⟩) (by show w.heap.size < _; have := HSZ.out; omega) _).setBelow (a := ⟨w.heap.size, 1, none⟩) (by show w.heap.size < _; have := HSZ.out; omega) _).setBelow (a := ⟨w.heap.size + 1, 0, none⟩) (by show w.heap.size + 1 < _; have := HSZ.out; omega) _).setBelow (a := ⟨w.heap.size + 1, 1, none⟩) (by show w.heap.size + 1 < _; have := HSZ.out; omega) _).mono (by have := HSZ.out; omega))
      · skip
        clear m0 m1 s0 s1 s2 s3 u0 u1 u2 u3
        clear F0 F1 F2 F3
        obtain ⟨xB, hxB⟩ : ∃ x, x = w4.heap.size := ⟨_, rfl⟩
        rw [← hxB] at hX ⊢
        have hxB2 : w4.heap.size ≤ xB := by omega
        have hxB3 : xB < w6.heap.size := hX.lt
        replace hM := hM.other2 xB (by omega) (.int .i64 S6) (.slice p6 K6.length c6)
        replace hV := hV.other2 xB (by omega) (.int .i64 S6) (.slice p6 K6.length c6)
        replace hU := hU.other2 xB (by omega) (.int .i64 S6) (.slice p6 K6.length c6)
        have hOo : ∀ k, (Value.slice p xs.length c).ownBlock = some k → k ≠ xB := fun k hk => by have := hOl k hk; have := zz; omega
        replace hO := (hO.setOff ⟨xB, 0, none⟩ hOo (.int .i64 S6)).setOff ⟨xB, 1, none⟩ hOo (.slice p6 K6.length c6)
        replace o6 := (o6.setBelow (a := ⟨xB, 0, none⟩) (by show xB < _; omega) (.int .i64 S6)).setBelow (a := ⟨xB, 1, none⟩) (by show xB < _; omega) (.slice p6 K6.length c6)
        replace hR := (hR.setCell ⟨xB, 0, none⟩ (by show R < xB; omega) (.int .i64 S6)).setCell ⟨xB, 1, none⟩ (by show R < xB; omega) (.slice p6 K6.length c6)
        replace hDw := (hDw.setCell ⟨xB, 0, none⟩ (.inl (by show _ ≤ xB; omega)) (.int .i64 S6)).setCell ⟨xB, 1, none⟩ (.inl (by show _ ≤ xB; omega)) (.slice p6 K6.length c6)
        replace hX := hX.two S6 (.slice p6 K6.length c6)
        have zN : w6.heap.size ≤ ((w6.setCell ⟨xB, 0, none⟩ (.int .i64 S6)).setCell ⟨xB, 1, none⟩ (.slice p6 K6.length c6)).heap.size := by simp
        generalize (w6.setCell ⟨xB, 0, none⟩ (.int .i64 S6)).setCell ⟨xB, 1, none⟩ (.slice p6 K6.length c6) = wN at *
        clear hOl hOo
        try clear hZ hg5 hg6 hmz hl5 hl6
        try clear hy5
        have zB : w.heap.size + 2 ≤ xB := by omega
        have o6B : w.heap.size + 2 ≤ w6.heap.size := by omega
        replace o6 := o6.mono (show w.heap.size + 2 ≤ _ by omega)
        have zW : w1.heap.size < wN.heap.size := hM.lt
        clear hxB
        cases O6
        · skip
          clear hX o6 hK6
          go_wp2_with fail
          replace hM := hM.drew
          replace hV := hV.drew
          replace hU := hU.drew
          replace hO := hO.drew
          replace hR := hR.drew
          replace hDw := hDw.drew
          have m0 := hM.c0
          have m1 := hM.c1
          have s0 := hV.c0
          have s1 := hV.c1
          have s2 := hV.f0
          have s3 := hV.f1
          have u0 := hU.c0
          have u1 := hU.c1
          have u2 := hU.f0
          have u3 := hU.f1
          have zz : wN.drew.heap.size = wN.heap.size := rfl
          have hOl := hO.blockLt
          have tk : True := trivial
          have tk2 : True := trivial
          go_region_held3 (fun w' => w'.cell? ⟨w1.heap.size, 0, none⟩ = some (.int .i64 s) ∧ w'.cell? ⟨w1.heap.size, 1, none⟩ = some (.slice p xs.length c))
            (first | exact ⟨m0, m1⟩ | (refine ⟨cellStore2 m0 ?_, cellStore2 m1 ?_⟩ <;> omega) | (refine ⟨cellStore2 (cellStore2 m0 ?_) ?_, cellStore2 (cellStore2 m1 ?_) ?_⟩ <;> omega))
            (first
              | (go_at_call 108; have _t := tk; (with_reducible refine (l3Draw_any R ((P + 1 + 20 + 2 + 1) + 1) s _ hR (by omega) k1 k4).mono ?_); rintro e w5 ⟨v5, zs, rfl, hmz, hZ, hR5, hD5⟩; (have hl5 : 0 < zs.length := by have hk5 := massB_ok hmz; have := hk5.len; have := pow2_bd s k1 k4; omega); obtain ⟨g5, c5, rfl, hg5, hg6⟩ := hZ.form hl5; (replace hM := hM.dr (B := 0) hD5 hmR); (replace hV := hV.dr (B := 0) hD5 (by omega)); (replace hU := hU.dr (B := 0) hD5 (by omega)); (replace hO := hO.dr hD5 (by have := HSZ.out; omega)); (replace hDw := hDw.then (by omega) hD5); clear m0 m1 s0 s1 s2 s3 u0 u1 u2 u3; (have m0 := hM.c0); (have m1 := hM.c1); (have s0 := hV.c0); (have s1 := hV.c1); (have s2 := hV.f0); (have s3 := hV.f1); (have u0 := hU.c0); (have u1 := hU.c1); (have u2 := hU.f0); (have u3 := hU.f1); (have z5 := hD5.size); clear hD5 tk _t)
              | (go_at_call 107; have _t := tk2; (with_reducible refine (l3Bad_any wN.drew.heap.size R (((P + 1 + 20 + 2 + 1) + 1) + 20) s g5 zs.length c5 zs _ hR5 (by omega) hmz rfl hZ (by have := hR.lt; omega) z5).mono ?_); rintro e w9 ⟨t, u, ys, rfl, hyl, hY, hR9, hD9'⟩; (have z9 := hD9'.size); (have z8 := hR.lt); obtain ⟨q, d, rfl, hq⟩ := hY.shape; (replace hM := hM.drB hD9' (by omega) hmR); (replace hV := hV.drB hD9' (by omega) (by omega)); (replace hU := hU.drB hD9' (by omega) (by omega)); (replace hO := hO.drO hD9' (by have := HSZ.out; omega) hOl); (replace hDw := hDw.trans (hD9'.mono (by omega))); clear m0 m1 s0 s1 s2 s3 u0 u1 u2 u3; (have m0 := hM.c0); (have m1 := hM.c1); (have s0 := hV.c0); (have s1 := hV.c1); (have s2 := hV.f0); (have s3 := hV.f1); (have u0 := hU.c0); (have u1 := hU.c1); (have u2 := hU.f0); (have u3 := hU.f1); clear hq hD9' tk2 _t))
          all_goals go_wp2
          all_goals refine bodyPost_ret (v := .tuple #[.agg #[.int .i64 t, .slice q ys.length d], .agg #[.int .i64 s, .slice p xs.length c]]) (by simp [results, Try.results74, go_sem, s0, s1, s2, s3, u0, u1, u2, u3]) rfl ⟨t, _, ys, s, _, xs, rfl, hyl, hxl, ?_, ?_, ?_, ?_⟩
          all_goals first
            | exact ((((hO.setBelow (by have := HSZ.out; first | omega | (simp; omega)) _).setBelow (by have := HSZ.out; first | omega | (simp; omega)) _).setBelow (by have := HSZ.out; first | omega | (simp; omega)) _).setBelow (by have := HSZ.out; first | omega | (simp; omega)) _).mono (by have := HSZ.out; omega)
            | exact ((((hY.setBelow (by have := HSZ.out; first | omega | (simp; omega)) _).setBelow (by have := HSZ.out; first | omega | (simp; omega)) _).setBelow (by have := HSZ.out; first | omega | (simp; omega)) _).setBelow (by have := HSZ.out; first | omega | (simp; omega)) _).mono (by have := HSZ.out; omega)
            | exact ((((hR9.setCell _ (by have := HSZ.out; first | omega | (simp; omega)) _).setCell _ (by have := HSZ.out; first | omega | (simp; omega)) _).setCell _ (by have := HSZ.out; first | omega | (simp; omega)) _).setCell _ (by have := HSZ.out; first | omega | (simp; omega)) _).more (by omega)
            | exact ((((hDw.setCell _ (.inl (by first | omega | simp)) _).setCell _ (.inl (by first | omega | simp)) _).setCell _ (.inl (by first | omega | simp)) _).setCell _ (.inl (by first | omega | simp)) _)
            | exact Dr.drew ((((hDw.setCell ⟨w.heap.size, 0, none⟩ (.inl (by show w.heap.size ≤ w.heap.size; omega)) _).setCell ⟨w.heap.size, 1, none⟩ (.inl (by show w.heap.size ≤ w.heap.size; omega)) _).setCell ⟨w.heap.size + 1, 0, none⟩ (.inl (by show w.heap.size ≤ w.heap.size + 1; omega)) _).setCell ⟨w.heap.size + 1, 1, none⟩ (.inl (by show w.heap.size ≤ w.heap.size + 1; omega)) _)
            | exact Own.drew (((((hO.setBelow (a := ⟨w.heap.size, 0, none⟩) (by show w.heap.size < _; have := HSZ.out; omega) _).setBelow (a := ⟨w.heap.size, 1, none⟩) (by show w.heap.size < _; have := HSZ.out; omega) _).setBelow (a := ⟨w.heap.size + 1, 0, none⟩) (by show w.heap.size + 1 < _; have := HSZ.out; omega) _).setBelow (a := ⟨w.heap.size + 1, 1, none⟩) (by show w.heap.size + 1 < _; have := HSZ.out; omega) _).mono (by have := HSZ.out; omega))
            | exact Own.drew (((((hY.setBelow (a := ⟨w.heap.size, 0, none⟩) (by show w.heap.size < _; have := HSZ.out; omega) _).setBelow (a := ⟨w.heap.size, 1, none⟩) (by show w.heap.size < _; have := HSZ.out; omega) _).setBelow (a := ⟨w.heap.size + 1, 0, none⟩) (by show w.heap.size + 1 < _; have := HSZ.out; omega) _).setBelow (a := ⟨w.heap.size + 1, 1, none⟩) (by show w.heap.size + 1 < _; have := HSZ.out; omega) _).mono (by have := HSZ.out; omega))
        · skip
          go_wp2_with fail
          have m0 := hM.c0
          have m1 := hM.c1
          have s0 := hV.c0
          have s1 := hV.c1
          have s2 := hV.f0
          have s3 := hV.f1
          have u0 := hU.c0
          have u1 := hU.c1
          have u2 := hU.f0
          have u3 := hU.f1
          have x0 := hX.c0
          have x1 := hX.c1
          have e1 : w.heap.size < w1.heap.size := by omega
          have e2 : w.heap.size + 1 < w1.heap.size := by omega
          have e3 : w.heap.size < xB := by omega
          have e4 : w.heap.size + 1 < xB := by omega
          replace hO := hO.mono za
          have HPK := Lib.hid (And.intro hM (And.intro hV (And.intro hU (And.intro hO (And.intro hR (And.intro hDw (And.intro hX (And.intro o6 (And.intro hxl (And.intro hK6 (And.intro hRlt (And.intro zW (And.intro zB hxB2)))))))))))))
          clear hM hV hU hO hR hDw hX o6 hxl hK6 hRlt zW zB hxB2
          try clear hxN zN
          try clear hxB3
          clear hx1 hmR z1 z2 z3 z4 z6 za zb hRlb k1 k4 hyb
          try clear hx
          go_region
          all_goals obtain ⟨hM, hV, hU, hO, hR, hDw, hX, o6, hxl, hK6, hRlt, zW, zB, hxB2⟩ := HPK.out
          all_goals go_wp2
          all_goals refine bodyPost_ret (v := .tuple #[.agg #[.int .i64 S6, .slice p6 K6.length c6], .agg #[.int .i64 s, .slice p xs.length c]]) (by simp [results, Try.results74, go_sem, s0, s1, s2, s3, u0, u1, u2, u3]) rfl ⟨S6, _, K6, s, _, xs, rfl, hK6, hxl, ?_, ?_, ?_, ?_⟩
          all_goals first
            | exact ((((hO.setBelow (by have := HSZ.out; first | omega | (simp; omega)) _).setBelow (by have := HSZ.out; first | omega | (simp; omega)) _).setBelow (by have := HSZ.out; first | omega | (simp; omega)) _).setBelow (by have := HSZ.out; first | omega | (simp; omega)) _).mono (by have := HSZ.out; omega)
            | exact ((((o6.setBelow (by have := HSZ.out; first | omega | (simp; omega)) _).setBelow (by have := HSZ.out; first | omega | (simp; omega)) _).setBelow (by have := HSZ.out; first | omega | (simp; omega)) _).setBelow (by have := HSZ.out; first | omega | (simp; omega)) _).mono (by have := HSZ.out; omega)
            | exact ((((hR.setCell _ (by have := HSZ.out; first | omega | (simp; omega)) _).setCell _ (by have := HSZ.out; first | omega | (simp; omega)) _).setCell _ (by have := HSZ.out; first | omega | (simp; omega)) _).setCell _ (by have := HSZ.out; first | omega | (simp; omega)) _).more (by omega)
            | exact ((((hDw.setCell _ (.inl (by first | omega | simp)) _).setCell _ (.inl (by first | omega | simp)) _).setCell _ (.inl (by first | omega | simp)) _).setCell _ (.inl (by first | omega | simp)) _)
            | exact Dr.drew ((((hDw.setCell ⟨w.heap.size, 0, none⟩ (.inl (by show w.heap.size ≤ w.heap.size; omega)) _).setCell ⟨w.heap.size, 1, none⟩ (.inl (by show w.heap.size ≤ w.heap.size; omega)) _).setCell ⟨w.heap.size + 1, 0, none⟩ (.inl (by show w.heap.size ≤ w.heap.size + 1; omega)) _).setCell ⟨w.heap.size + 1, 1, none⟩ (.inl (by show w.heap.size ≤ w.heap.size + 1; omega)) _)
            | exact Own.drew (((((hO.setBelow (a := ⟨w.heap.size, 0, none⟩) (by show w.heap.size < _; have := HSZ.out; omega) _).setBelow (a := ⟨w.heap.size, 1, none⟩) (by show w.heap.size < _; have := HSZ.out; omega) _).setBelow (a := ⟨w.heap.size + 1, 0, none⟩) (by show w.heap.size + 1 < _; have := HSZ.out; omega) _).setBelow (a := ⟨w.heap.size + 1, 1, none⟩) (by show w.heap.size + 1 < _; have := HSZ.out; omega) _).mono (by have := HSZ.out; omega))
            | exact Own.drew (((((o6.setBelow (a := ⟨w.heap.size, 0, none⟩) (by show w.heap.size < _; have := HSZ.out; omega) _).setBelow (a := ⟨w.heap.size, 1, none⟩) (by show w.heap.size < _; have := HSZ.out; omega) _).setBelow (a := ⟨w.heap.size + 1, 0, none⟩) (by show w.heap.size + 1 < _; have := HSZ.out; omega) _).setBelow (a := ⟨w.heap.size + 1, 1, none⟩) (by show w.heap.size + 1 < _; have := HSZ.out; omega) _).mono (by have := HSZ.out; omega))
    · skip
      have m0 := hM.c0
      have m1 := hM.c1
      go_wp2_with fail
      clear m0 m1
      refine (discA s p c xs 1 2 _ hO.reads hxl).mono ?_
      rintro e w6 ⟨S6, v6, K6, O6, rfl, hK6, o6, hb⟩
      (replace hM := hM.later hb)
      (replace hV := hV.later hb)
      (replace hU := hU.later hb)
      (replace hO := hO.later hb)
      (replace hR := hR.later hb)
      (replace hDw := hDw.thenB (by omega) hb)
      have z6 := hb.size
      obtain ⟨p6, c6, rfl, _hr6⟩ := o6.shape
      clear hb _hr6
      have hb := belowAlloc w6 (.cells #[.int .i64 S6, .slice p6 K6.length c6] 27)
      have b0 := hM.c0
      have b1 := hM.c1
      cases O6
      · skip
        (replace hM := hM.later hb)
        (replace hV := hV.later hb)
        (replace hU := hU.later hb)
        (replace hO := hO.later hb)
        (replace hR := hR.later hb)
        (replace hDw := hDw.thenB (by omega) hb)
        replace o6 := o6.later hb
        have hX := VarInv.made w6 S6 (.slice p6 K6.length c6) 27
        obtain ⟨xB, hxB⟩ : ∃ x, x = w6.heap.size := ⟨_, rfl⟩
        have zN : w6.heap.size + 1 = (w6.alloc (.cells #[.int .i64 S6, .slice p6 K6.length c6] 27)).heap.size := by simp
        clear b0 b1
        have m0 := hM.c0
        have m1 := hM.c1
        go_wp2_with fail
        clear m0 m1
        rw [← hxB] at hX ⊢
        generalize w6.alloc (.cells #[.int .i64 S6, .slice p6 K6.length c6] 27) = wN at *
        clear hb
        have hxB2 : w4.heap.size ≤ xB := by omega
        have hxN : xB < wN.heap.size := hX.lt
        have zB : w.heap.size + 2 ≤ xB := by omega
        replace o6 := o6.mono (show w.heap.size + 2 ≤ _ by omega)
        have zW : w1.heap.size < wN.heap.size := hM.lt
        replace zN := Nat.le_of_eq zN
        clear hxB
        clear hX o6 hK6
        go_wp2_with fail
        replace hM := hM.drew
        replace hV := hV.drew
        replace hU := hU.drew
        replace hO := hO.drew
        replace hR := hR.drew
        replace hDw := hDw.drew
        have m0 := hM.c0
        have m1 := hM.c1
        have s0 := hV.c0
        have s1 := hV.c1
        have s2 := hV.f0
        have s3 := hV.f1
        have u0 := hU.c0
        have u1 := hU.c1
        have u2 := hU.f0
        have u3 := hU.f1
        have zz : wN.drew.heap.size = wN.heap.size := rfl
        have hOl := hO.blockLt
        have tk : True := trivial
        have tk2 : True := trivial
        go_region_held3 (fun w' => w'.cell? ⟨w1.heap.size, 0, none⟩ = some (.int .i64 s) ∧ w'.cell? ⟨w1.heap.size, 1, none⟩ = some (.slice p xs.length c))
          (first | exact ⟨m0, m1⟩ | (refine ⟨cellStore2 m0 ?_, cellStore2 m1 ?_⟩ <;> omega) | (refine ⟨cellStore2 (cellStore2 m0 ?_) ?_, cellStore2 (cellStore2 m1 ?_) ?_⟩ <;> omega))
          (first
            | (go_at_call 108; have _t := tk; (with_reducible refine (l3Draw_any R (P + 1 + 20 + 2 + 1) s _ hR (by omega) k1 k4).mono ?_); rintro e w5 ⟨v5, zs, rfl, hmz, hZ, hR5, hD5⟩; (have hl5 : 0 < zs.length := by have hk5 := massB_ok hmz; have := hk5.len; have := pow2_bd s k1 k4; omega); obtain ⟨g5, c5, rfl, hg5, hg6⟩ := hZ.form hl5; (replace hM := hM.dr (B := 0) hD5 hmR); (replace hV := hV.dr (B := 0) hD5 (by omega)); (replace hU := hU.dr (B := 0) hD5 (by omega)); (replace hO := hO.dr hD5 (by have := HSZ.out; omega)); (replace hDw := hDw.then (by omega) hD5); clear m0 m1 s0 s1 s2 s3 u0 u1 u2 u3; (have m0 := hM.c0); (have m1 := hM.c1); (have s0 := hV.c0); (have s1 := hV.c1); (have s2 := hV.f0); (have s3 := hV.f1); (have u0 := hU.c0); (have u1 := hU.c1); (have u2 := hU.f0); (have u3 := hU.f1); (have z5 := hD5.size); clear hD5 tk _t)
            | (go_at_call 107; have _t := tk2; (with_reducible refine (l3Bad_any wN.drew.heap.size R ((P + 1 + 20 + 2 + 1) + 20) s g5 zs.length c5 zs _ hR5 (by omega) hmz rfl hZ (by have := hR.lt; omega) z5).mono ?_); rintro e w9 ⟨t, u, ys, rfl, hyl, hY, hR9, hD9'⟩; (have z9 := hD9'.size); (have z8 := hR.lt); obtain ⟨q, d, rfl, hq⟩ := hY.shape; (replace hM := hM.drB hD9' (by omega) hmR); (replace hV := hV.drB hD9' (by omega) (by omega)); (replace hU := hU.drB hD9' (by omega) (by omega)); (replace hO := hO.drO hD9' (by have := HSZ.out; omega) hOl); (replace hDw := hDw.trans (hD9'.mono (by omega))); clear m0 m1 s0 s1 s2 s3 u0 u1 u2 u3; (have m0 := hM.c0); (have m1 := hM.c1); (have s0 := hV.c0); (have s1 := hV.c1); (have s2 := hV.f0); (have s3 := hV.f1); (have u0 := hU.c0); (have u1 := hU.c1); (have u2 := hU.f0); (have u3 := hU.f1); clear hq hD9' tk2 _t))
        all_goals go_wp2
        all_goals refine bodyPost_ret (v := .tuple #[.agg #[.int .i64 t, .slice q ys.length d], .agg #[.int .i64 s, .slice p xs.length c]]) (by simp [results, Try.results74, go_sem, s0, s1, s2, s3, u0, u1, u2, u3]) rfl ⟨t, _, ys, s, _, xs, rfl, hyl, hxl, ?_, ?_, ?_, ?_⟩
        all_goals first
          | exact ((((hO.setBelow (by have := HSZ.out; first | omega | (simp; omega)) _).setBelow (by have := HSZ.out; first | omega | (simp; omega)) _).setBelow (by have := HSZ.out; first | omega | (simp; omega)) _).setBelow (by have := HSZ.out; first | omega | (simp; omega)) _).mono (by have := HSZ.out; omega)
          | exact ((((hY.setBelow (by have := HSZ.out; first | omega | (simp; omega)) _).setBelow (by have := HSZ.out; first | omega | (simp; omega)) _).setBelow (by have := HSZ.out; first | omega | (simp; omega)) _).setBelow (by have := HSZ.out; first | omega | (simp; omega)) _).mono (by have := HSZ.out; omega)
          | exact ((((hR9.setCell _ (by have := HSZ.out; first | omega | (simp; omega)) _).setCell _ (by have := HSZ.out; first | omega | (simp; omega)) _).setCell _ (by have := HSZ.out; first | omega | (simp; omega)) _).setCell _ (by have := HSZ.out; first | omega | (simp; omega)) _).more (by omega)
          | exact ((((hDw.setCell _ (.inl (by first | omega | simp)) _).setCell _ (.inl (by first | omega | simp)) _).setCell _ (.inl (by first | omega | simp)) _).setCell _ (.inl (by first | omega | simp)) _)
          | exact Dr.drew ((((hDw.setCell ⟨w.heap.size, 0, none⟩ (.inl (by show w.heap.size ≤ w.heap.size; omega)) _).setCell ⟨w.heap.size, 1, none⟩ (.inl (by show w.heap.size ≤ w.heap.size; omega)) _).setCell ⟨w.heap.size + 1, 0, none⟩ (.inl (by show w.heap.size ≤ w.heap.size + 1; omega)) _).setCell ⟨w.heap.size + 1, 1, none⟩ (.inl (by show w.heap.size ≤ w.heap.size + 1; omega)) _)
          | exact Own.drew (((((hO.setBelow (a := ⟨w.heap.size, 0, none⟩) (by show w.heap.size < _; have := HSZ.out; omega) _).setBelow (a := ⟨w.heap.size, 1, none⟩) (by show w.heap.size < _; have := HSZ.out; omega) _).setBelow (a := ⟨w.heap.size + 1, 0, none⟩) (by show w.heap.size + 1 < _; have := HSZ.out; omega) _).setBelow (a := ⟨w.heap.size + 1, 1, none⟩) (by show w.heap.size + 1 < _; have := HSZ.out; omega) _).mono (by have := HSZ.out; omega))
          | exact Own.drew (((((hY.setBelow (a := ⟨w.heap.size, 0, none⟩) (by show w.heap.size < _; have := HSZ.out; omega) _).setBelow (a := ⟨w.heap.size, 1, none⟩) (by show w.heap.size < _; have := HSZ.out; omega) _).setBelow (a := ⟨w.heap.size + 1, 0, none⟩) (by show w.heap.size + 1 < _; have := HSZ.out; omega) _).setBelow (a := ⟨w.heap.size + 1, 1, none⟩) (by show w.heap.size + 1 < _; have := HSZ.out; omega) _).mono (by have := HSZ.out; omega))
      · skip
        (replace hM := hM.later hb)
        (replace hV := hV.later hb)
        (replace hU := hU.later hb)
        (replace hO := hO.later hb)
        (replace hR := hR.later hb)
        (replace hDw := hDw.thenB (by omega) hb)
        replace o6 := o6.later hb
        have hX := VarInv.made w6 S6 (.slice p6 K6.length c6) 27
        obtain ⟨xB, hxB⟩ : ∃ x, x = w6.heap.size := ⟨_, rfl⟩
        have zN : w6.heap.size + 1 = (w6.alloc (.cells #[.int .i64 S6, .slice p6 K6.length c6] 27)).heap.size := by simp
        clear b0 b1
        have m0 := hM.c0
        have m1 := hM.c1
        go_wp2_with fail
        clear m0 m1
        rw [← hxB] at hX ⊢
        generalize w6.alloc (.cells #[.int .i64 S6, .slice p6 K6.length c6] 27) = wN at *
        clear hb
        have hxB2 : w4.heap.size ≤ xB := by omega
        have hxN : xB < wN.heap.size := hX.lt
        have zB : w.heap.size + 2 ≤ xB := by omega
        replace o6 := o6.mono (show w.heap.size + 2 ≤ _ by omega)
        have zW : w1.heap.size < wN.heap.size := hM.lt
        replace zN := Nat.le_of_eq zN
        clear hxB
        go_wp2_with fail
        have m0 := hM.c0
        have m1 := hM.c1
        have s0 := hV.c0
        have s1 := hV.c1
        have s2 := hV.f0
        have s3 := hV.f1
        have u0 := hU.c0
        have u1 := hU.c1
        have u2 := hU.f0
        have u3 := hU.f1
        have x0 := hX.c0
        have x1 := hX.c1
        have e1 : w.heap.size < w1.heap.size := by omega
        have e2 : w.heap.size + 1 < w1.heap.size := by omega
        have e3 : w.heap.size < xB := by omega
        have e4 : w.heap.size + 1 < xB := by omega
        replace hO := hO.mono za
        have HPK := Lib.hid (And.intro hM (And.intro hV (And.intro hU (And.intro hO (And.intro hR (And.intro hDw (And.intro hX (And.intro o6 (And.intro hxl (And.intro hK6 (And.intro hRlt (And.intro zW (And.intro zB hxB2)))))))))))))
        clear hM hV hU hO hR hDw hX o6 hxl hK6 hRlt zW zB hxB2
        try clear hxN zN
        try clear hxB3
        clear hx1 hmR z1 z2 z3 z4 z6 za zb hRlb k1 k4 hyb
        try clear hx
        go_region
        all_goals obtain ⟨hM, hV, hU, hO, hR, hDw, hX, o6, hxl, hK6, hRlt, zW, zB, hxB2⟩ := HPK.out
        all_goals go_wp2
        all_goals refine bodyPost_ret (v := .tuple #[.agg #[.int .i64 s, .slice p xs.length c], .agg #[.int .i64 S6, .slice p6 K6.length c6]]) (by simp [results, Try.results74, go_sem, s0, s1, s2, s3, u0, u1, u2, u3]) rfl ⟨s, _, xs, S6, _, K6, rfl, hxl, hK6, ?_, ?_, ?_, ?_⟩
        all_goals first
          | exact ((((hO.setBelow (by have := HSZ.out; first | omega | (simp; omega)) _).setBelow (by have := HSZ.out; first | omega | (simp; omega)) _).setBelow (by have := HSZ.out; first | omega | (simp; omega)) _).setBelow (by have := HSZ.out; first | omega | (simp; omega)) _).mono (by have := HSZ.out; omega)
          | exact ((((o6.setBelow (by have := HSZ.out; first | omega | (simp; omega)) _).setBelow (by have := HSZ.out; first | omega | (simp; omega)) _).setBelow (by have := HSZ.out; first | omega | (simp; omega)) _).setBelow (by have := HSZ.out; first | omega | (simp; omega)) _).mono (by have := HSZ.out; omega)
          | exact ((((hR.setCell _ (by have := HSZ.out; first | omega | (simp; omega)) _).setCell _ (by have := HSZ.out; first | omega | (simp; omega)) _).setCell _ (by have := HSZ.out; first | omega | (simp; omega)) _).setCell _ (by have := HSZ.out; first | omega | (simp; omega)) _).more (by omega)
          | exact ((((hDw.setCell _ (.inl (by first | omega | simp)) _).setCell _ (.inl (by first | omega | simp)) _).setCell _ (.inl (by first | omega | simp)) _).setCell _ (.inl (by first | omega | simp)) _)
          | exact Dr.drew ((((hDw.setCell ⟨w.heap.size, 0, none⟩ (.inl (by show w.heap.size ≤ w.heap.size; omega)) _).setCell ⟨w.heap.size, 1, none⟩ (.inl (by show w.heap.size ≤ w.heap.size; omega)) _).setCell ⟨w.heap.size + 1, 0, none⟩ (.inl (by show w.heap.size ≤ w.heap.size + 1; omega)) _).setCell ⟨w.heap.size + 1, 1, none⟩ (.inl (by show w.heap.size ≤ w.heap.size + 1; omega)) _)
          | exact Own.drew (((((hO.setBelow (a := ⟨w.heap.size, 0, none⟩) (by show w.heap.size < _; have := HSZ.out; omega) _).setBelow (a := ⟨w.heap.size, 1, none⟩) (by show w.heap.size < _; have := HSZ.out; omega) _).setBelow (a := ⟨w.heap.size + 1, 0, none⟩) (by show w.heap.size + 1 < _; have := HSZ.out; omega) _).setBelow (a := ⟨w.heap.size + 1, 1, none⟩) (by show w.heap.size + 1 < _; have := HSZ.out; omega) _).mono (by have := HSZ.out; omega))
          | exact Own.drew (((((o6.setBelow (a := ⟨w.heap.size, 0, none⟩) (by show w.heap.size < _; have := HSZ.out; omega) _).setBelow (a := ⟨w.heap.size, 1, none⟩) (by show w.heap.size < _; have := HSZ.out; omega) _).setBelow (a := ⟨w.heap.size + 1, 0, none⟩) (by show w.heap.size + 1 < _; have := HSZ.out; omega) _).setBelow (a := ⟨w.heap.size + 1, 1, none⟩) (by show w.heap.size + 1 < _; have := HSZ.out; omega) _).mono (by have := HSZ.out; omega))
    · skip
      go_wp2_with fail
      replace hM := hM.drew
      replace hV := hV.drew
      replace hU := hU.drew
      replace hO := hO.drew
      replace hR := hR.drew
      replace hDw := hDw.drew
      have m0 := hM.c0
      have m1 := hM.c1
      have s0 := hV.c0
      have s1 := hV.c1
      have s2 := hV.f0
      have s3 := hV.f1
      have u0 := hU.c0
      have u1 := hU.c1
      have u2 := hU.f0
      have u3 := hU.f1
      have zz : w4.drew.heap.size = w4.heap.size := rfl
      have hOl := hO.blockLt
      have tk : True := trivial
      have tk2 : True := trivial
      go_region_held3 (fun w' => w'.cell? ⟨w1.heap.size, 0, none⟩ = some (.int .i64 s) ∧ w'.cell? ⟨w1.heap.size, 1, none⟩ = some (.slice p xs.length c))
        (first | exact ⟨m0, m1⟩ | (refine ⟨cellStore2 m0 ?_, cellStore2 m1 ?_⟩ <;> omega) | (refine ⟨cellStore2 (cellStore2 m0 ?_) ?_, cellStore2 (cellStore2 m1 ?_) ?_⟩ <;> omega))
        (first
          | (go_at_call 108; have _t := tk; (with_reducible refine (l3Draw_any R (P + 1 + 20 + 2 + 1) s _ hR (by omega) k1 k4).mono ?_); rintro e w5 ⟨v5, zs, rfl, hmz, hZ, hR5, hD5⟩; (have hl5 : 0 < zs.length := by have hk5 := massB_ok hmz; have := hk5.len; have := pow2_bd s k1 k4; omega); obtain ⟨g5, c5, rfl, hg5, hg6⟩ := hZ.form hl5; (replace hM := hM.dr (B := 0) hD5 hmR); (replace hV := hV.dr (B := 0) hD5 (by omega)); (replace hU := hU.dr (B := 0) hD5 (by omega)); (replace hO := hO.dr hD5 (by have := HSZ.out; omega)); (replace hDw := hDw.then (by omega) hD5); clear m0 m1 s0 s1 s2 s3 u0 u1 u2 u3; (have m0 := hM.c0); (have m1 := hM.c1); (have s0 := hV.c0); (have s1 := hV.c1); (have s2 := hV.f0); (have s3 := hV.f1); (have u0 := hU.c0); (have u1 := hU.c1); (have u2 := hU.f0); (have u3 := hU.f1); (have z5 := hD5.size); clear hD5 tk _t)
          | (go_at_call 107; have _t := tk2; (with_reducible refine (l3Bad_any w4.drew.heap.size R ((P + 1 + 20 + 2 + 1) + 20) s g5 zs.length c5 zs _ hR5 (by omega) hmz rfl hZ (by have := hR.lt; omega) z5).mono ?_); rintro e w9 ⟨t, u, ys, rfl, hyl, hY, hR9, hD9'⟩; (have z9 := hD9'.size); (have z8 := hR.lt); obtain ⟨q, d, rfl, hq⟩ := hY.shape; (replace hM := hM.drB hD9' (by omega) hmR); (replace hV := hV.drB hD9' (by omega) (by omega)); (replace hU := hU.drB hD9' (by omega) (by omega)); (replace hO := hO.drO hD9' (by have := HSZ.out; omega) hOl); (replace hDw := hDw.trans (hD9'.mono (by omega))); clear m0 m1 s0 s1 s2 s3 u0 u1 u2 u3; (have m0 := hM.c0); (have m1 := hM.c1); (have s0 := hV.c0); (have s1 := hV.c1); (have s2 := hV.f0); (have s3 := hV.f1); (have u0 := hU.c0); (have u1 := hU.c1); (have u2 := hU.f0); (have u3 := hU.f1); clear hq hD9' tk2 _t))
      all_goals go_wp2
      all_goals refine bodyPost_ret (v := .tuple #[.agg #[.int .i64 t, .slice q ys.length d], .agg #[.int .i64 s, .slice p xs.length c]]) (by simp [results, Try.results74, go_sem, s0, s1, s2, s3, u0, u1, u2, u3]) rfl ⟨t, _, ys, s, _, xs, rfl, hyl, hxl, ?_, ?_, ?_, ?_⟩
      all_goals first
        | exact ((((hO.setBelow (by have := HSZ.out; first | omega | (simp; omega)) _).setBelow (by have := HSZ.out; first | omega | (simp; omega)) _).setBelow (by have := HSZ.out; first | omega | (simp; omega)) _).setBelow (by have := HSZ.out; first | omega | (simp; omega)) _).mono (by have := HSZ.out; omega)
        | exact ((((hY.setBelow (by have := HSZ.out; first | omega | (simp; omega)) _).setBelow (by have := HSZ.out; first | omega | (simp; omega)) _).setBelow (by have := HSZ.out; first | omega | (simp; omega)) _).setBelow (by have := HSZ.out; first | omega | (simp; omega)) _).mono (by have := HSZ.out; omega)
        | exact ((((hR9.setCell _ (by have := HSZ.out; first | omega | (simp; omega)) _).setCell _ (by have := HSZ.out; first | omega | (simp; omega)) _).setCell _ (by have := HSZ.out; first | omega | (simp; omega)) _).setCell _ (by have := HSZ.out; first | omega | (simp; omega)) _).more (by omega)
        | exact ((((hDw.setCell _ (.inl (by first | omega | simp)) _).setCell _ (.inl (by first | omega | simp)) _).setCell _ (.inl (by first | omega | simp)) _).setCell _ (.inl (by first | omega | simp)) _)
        | exact Dr.drew ((((hDw.setCell ⟨w.heap.size, 0, none⟩ (.inl (by show w.heap.size ≤ w.heap.size; omega)) _).setCell ⟨w.heap.size, 1, none⟩ (.inl (by show w.heap.size ≤ w.heap.size; omega)) _).setCell ⟨w.heap.size + 1, 0, none⟩ (.inl (by show w.heap.size ≤ w.heap.size + 1; omega)) _).setCell ⟨w.heap.size + 1, 1, none⟩ (.inl (by show w.heap.size ≤ w.heap.size + 1; omega)) _)
        | exact Own.drew (((((hO.setBelow (a := ⟨w.heap.size, 0, none⟩) (by show w.heap.size < _; have := HSZ.out; omega) _).setBelow (a := ⟨w.heap.size, 1, none⟩) (by show w.heap.size < _; have := HSZ.out; omega) _).setBelow (a := ⟨w.heap.size + 1, 0, none⟩) (by show w.heap.size + 1 < _; have := HSZ.out; omega) _).setBelow (a := ⟨w.heap.size + 1, 1, none⟩) (by show w.heap.size + 1 < _; have := HSZ.out; omega) _).mono (by have := HSZ.out; omega))
        | exact Own.drew (((((hY.setBelow (a := ⟨w.heap.size, 0, none⟩) (by show w.heap.size < _; have := HSZ.out; omega) _).setBelow (a := ⟨w.heap.size, 1, none⟩) (by show w.heap.size < _; have := HSZ.out; omega) _).setBelow (a := ⟨w.heap.size + 1, 0, none⟩) (by show w.heap.size + 1 < _; have := HSZ.out; omega) _).setBelow (a := ⟨w.heap.size + 1, 1, none⟩) (by show w.heap.size + 1 < _; have := HSZ.out; omega) _).mono (by have := HSZ.out; omega))

end Go.Proofs.Ytjmfjgoehicgcaa
