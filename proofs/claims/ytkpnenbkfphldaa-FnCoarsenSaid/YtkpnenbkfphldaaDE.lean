/- Lists of answers that are drawn, with masses. -/
import Derived.Test.YtkpnenbkfphldaaD2
import Derived.Test.YtkpnenbkfphldaaD5
import Derived.Test.YtkpnenbkfphldaaV7
set_option linter.unusedVariables false
set_option linter.unusedSimpArgs false
namespace Go.Proofs.Ytkpnenbkfphldaa
open Go.RowKit

theorem Own.cut0 {B g n c : Nat} {w : World} {xs : List Int} (h : Own B w (.slice (some ⟨g, 0, none⟩) n c) xs) : Own B w (.slice (some ⟨g, 0, none⟩) 0 c) [] := by
  refine ⟨rfl, ?_⟩
  rcases h.2 with ⟨h2, _⟩ | ⟨g', cap, cur, a, b, hg, hnc, hcm, hcs, ht⟩
  · cases h2
  · cases a
    exact .inr ⟨g, _, cur, rfl, b, hg, Nat.zero_le _, hcm, hcs, by simp⟩

set_option maxHeartbeats 4000000 in
set_option maxRecDepth 100000 in
theorem l7List_any (R P n : Nat) (z : Int) (w : World) (h : Rdr R P w) (hP : P ≤ 60000) (h5 : n ≤ 5) (z1 : 1 ≤ z) (z4 : z ≤ 4) :
    Calls Try.prog 93 #[.pointer (some ⟨R, 0, none⟩), .int .i64 (n : Int), .int .i64 z] w (LvDrawn R (P + 8) 8 w) := by
  have hRlt := h.lt
  go_enter Try.func93, Try.ntmps93
  go_wp2
  go_loopw [7, 8] (fun v i wr => ∃ (k g c : Nat) (xs : List Int), k ≤ n ∧ i = .int .i64 (k : Int) ∧ v = .slice (some ⟨g, 0, none⟩) k c ∧ Own w.heap.size wr (.slice (some ⟨g, 0, none⟩) k c) xs ∧ xs.length = k ∧ Rdr R (P + k) wr ∧ Dr w.heap.size R w wr) (fun _ i _ => n - (intOf i).toNat)
  case atStart => exact ⟨0, w.heap.size, 0, [], Nat.zero_le _, rfl, rfl, Own.made w _ (Nat.le_refl _), rfl, h.later (belowAlloc _ _), Dr.ofBelow (belowAlloc _ _)⟩
  case round =>
    obtain ⟨k, g, c, xs, hk, rfl, rfl, ho, hl, hR, hD⟩ := hrel
    have hsz := hD.size
    by_cases hlt : k < n
    · go_wp2_with fail
      refine (pick_any R (P + k) z wr hR (by omega) (by omega) (by omega)).mono ?_
      rintro e w1 ⟨x, rfl, hx, hR1, hD1⟩
      have ho1 := ho.dr hD1 hRlt
      have hs1 := hD1.size
      have hD2 := hD.then hsz hD1
      clear hR hD1 ho hD h
      go_wp2_with (at_builtin; refine wpList_append1 _ rfl _ _ rfl w.heap.size _ _ (by rfl) (ho1.later (belowAlloc _ _)) ⟨w1.heap.size, 0, none⟩ 1 (x : Int) (by rfl) (newCell _ _ _) (by omega) (by simp; omega) ?_; intro v1 w4 ho4 hb4)
      obtain ⟨g', c', rfl, hg1, hg2⟩ := ho4.form (by simp)
      have hlen : (xs ++ [(x : Int)]).length = k + 1 := by simp; omega
      rw [hlen] at ho4 ⊢
      exact ⟨⟨k + 1, g', c', _, by omega, by go_num, rfl, ho4, hlen, ((hR1.later (belowAlloc _ _)).kept hb4 hRlt).more (by omega), (hD2.thenB (by omega) (belowAlloc _ _)).trans (Dr.ofBelow hb4)⟩, by simp [intOf]; omega⟩
    · have hks : k = n := by omega
      subst hks
      go_wp2_with fail
      refine (pick_any R (P + k) 20 wr hR (by omega) (by omega) (by omega)).mono ?_
      rintro e w1 ⟨x, rfl, hx, hR1, hD1⟩
      have ho1 := ho.dr hD1 hRlt
      have hs1 := hD1.size
      have hD' : Dr w.heap.size R w w1 := hD.then hsz hD1
      have hR' : Rdr R (P + 6) w1 := hR1.more (by omega)
      clear hR hD1 ho hD h hx hR1
      rcases (show x = 0 ∨ x = 1 ∨ 1 < x by omega) with rfl | rfl | hx
      · go_wp2_with (at_builtin; refine wpList_append1 _ rfl _ _ rfl w.heap.size _ _ (by rfl) (ho1.later (belowAlloc _ _)) ⟨w1.heap.size, 0, none⟩ 1 0 (by rfl) (newCell _ _ _) (by omega) (by simp; omega) ?_; intro v1 w4 ho4 hb4)
        go_ret
        exact ⟨_, _, rfl, by simp; omega, ho4, ((hR'.later (belowAlloc _ _)).kept hb4 hRlt).more (by omega), (hD'.thenB (by omega) (belowAlloc _ _)).trans (Dr.ofBelow hb4)⟩
      · have hoc := Lib.hid ho1.cut0
        clear ho1
        have tk : True := trivial
        have hrd : Reads (w1.alloc (.cells #[.int .i64 (-1), .int .i64 4, .int .i64 0] 3)).drew (some ⟨w1.heap.size, 0, none⟩) [-1, 4, 0] := reads_lit w1 [-1, 4, 0] _
        have HRD := Lib.hid hrd
        clear hrd
        have hap : Apart R (some ⟨w1.heap.size, 0, none⟩) := by intro a ha; cases ha; simp; omega
        go_wp2_with fail
        go_region_law (first
          | (go_simp; go_at_call 94; have _t := tk; (with_reducible refine (num_any R (P + 6) _ _ [-1, 4, 0] 3 rfl _ (hR'.later (belowAlloc _ _)).drew (by omega) HRD.out hap (by simp) (by simp)).mono ?_); rintro e w3 ⟨zz, hz, rfl, hR3, hD3⟩; clear tk _t)
          | (refine step_append1 _ (by rfl) _ _ (by rfl) w.heap.size _ _ (by rfl) (((hoc.out.later (belowAlloc w1 (.cells #[.int .i64 (-1), .int .i64 4, .int .i64 0] 3))).drew.dr hD3 hRlt).later (belowAlloc _ _)) ⟨w3.heap.size, 0, none⟩ 1 zz (by rfl) (newCell _ _ _) (by simp) (by have := hD3.size; simp at this ⊢; omega) ?_; intro v1 w4 ho4 hb4))
        go_wp2
        have hs3 := hD3.size
        go_ret
        exact ⟨_, _, rfl, by simp, ho4, ((hR3.later (belowAlloc _ _)).kept hb4 hRlt).more (by omega), (((hD'.thenB (by omega) (belowAlloc w1 _)).drew.then (by simp; omega) hD3).thenB (by simp at hs3; omega) (belowAlloc _ _)).trans (Dr.ofBelow hb4)⟩
      · have t0 : ((x : Int) == 0) = false := by simp; omega
        have t1 : ((x : Int) == 1) = false := by simp; omega
        go_wp2
        go_ret
        exact ⟨_, xs, rfl, by omega, ho1, hR'.more (by omega), hD'⟩


/-- A mass, a list and a number that are drawn. -/
def OutMsLvN (w : World) (e : Ending) (w' : World) : Prop := ∃ (s : Int) (p : Option Addr) (c : Nat) (xs : List Int) (q : Option Addr) (d : Nat) (ts : List Int) (z : Int), e = .returned (.tuple #[.agg #[.int .i64 s, .slice p xs.length c], .slice q ts.length d, .int .i64 z]) ∧ xs.length ≤ 17 ∧ ts.length ≤ 8 ∧ Reads w' p xs ∧ Reads w' q ts ∧ Below w.heap.size w w'

theorem l7List_v (R P : Nat) (n z : Int) (w : World) (h : Rdr R P w) (hP : P ≤ 60000) (h0 : 0 ≤ n) (h5 : n ≤ 5) (z1 : 1 ≤ z) (z4 : z ≤ 4) :
    Calls Try.prog 93 #[.pointer (some ⟨R, 0, none⟩), .int .i64 n, .int .i64 z] w (LvDrawn R (P + 8) 8 w) := by
  obtain ⟨k, rfl⟩ := Int.eq_ofNat_of_zero_le h0
  exact l7List_any R P k z w h hP (by omega) z1 z4


set_option maxHeartbeats 4000000 in
set_option maxRecDepth 100000 in
theorem DrawCoarsenMass_any (a0 : Option Addr) (c0 : Nat) (bs : List Int) (w : World) (hx : ReadsK .u8 w a0 bs) (hwf : ∀ n ∈ bs, (Lit.int .u8 n).wf = true) (hl : bs.length ≤ maxLen) (hc : bs.length ≤ c0) :
    Calls Try.prog 39 #[.slice a0 bs.length c0] w (OutMsLvN w) := by
  obtain ⟨W, hW⟩ : ∃ W : World, W = w.alloc (.cells #[.int .i64 0, .slice none 0 0] 25) := ⟨_, rfl⟩
  have hsz : W.heap.size = w.heap.size + 1 := by subst hW; simp
  have hbW : Below w.heap.size w W := by subst hW; exact belowAlloc _ _
  have hV : VarInv W w.heap.size 0 (.slice none 0 0) := by subst hW; exact VarInv.made _ _ _ _
  have hxW := hx.below hbW
  have HSZ := Lib.hid hsz
  have HW := Lib.hid hW
  clear hW hsz hx
  have HO := Lib.hid (l14Open_any a0 c0 bs W hxW hwf hl hc)
  unfold maxLen at hl
  clear hxW hwf
  go_enter Try.func39, Try.ntmps39
  go_wp2_with fail
  rw [← HW.out]
  refine HO.out.mono ?_
  rintro e w1 ⟨rfl, hR1, b1⟩
  clear HO
  have hV1 := hV.later b1
  have bb1 := hbW.thenB b1
  have z1 := b1.size
  obtain ⟨R, hRe⟩ : ∃ R, R = W.heap.size := ⟨_, rfl⟩
  rw [← hRe] at hR1 ⊢
  have HR := Lib.hid hRe
  clear hRe hV hbW b1 hc
  have hRlt := hR1.lt
  go_wp2_with fail
  refine (l3Open_any R 0 w1 hR1 (by omega)).mono ?_
  rintro e w2 ⟨s, v, xs, rfl, hxl, hO2, hR2, hD2⟩
  obtain ⟨p, c, rfl, _hr⟩ := hO2.shape
  have hV2 := hV1.drB hD2 (by have := HSZ.out; omega) (by have := HR.out; have := HSZ.out; omega)
  have bb2 := bb1.trans ((hD2.mono (show w.heap.size ≤ w1.heap.size by have := HSZ.out; omega)).below (by have := HR.out; have := HSZ.out; omega))
  have z2 := hD2.size
  have b3 := belowAlloc w2 (.cells #[.int .i64 s, .slice p xs.length c] 25)
  have hM3 := VarInv.made w2 s (.slice p xs.length c) 25
  have hV3 := hV2.later b3
  have hR3 := hR2.later b3
  have bb3 := bb2.thenB b3
  have hO3 := hO2.later b3
  have z3 : w2.heap.size + 1 ≤ (w2.alloc (.cells #[.int .i64 s, .slice p xs.length c] 25)).heap.size := by simp
  have hBR : w2.heap.size ≠ R := by have := hR2.lt; omega
  clear _hr hV1 hD2 hR1 bb1 hO2 hV2 hR2 bb2 b3
  go_wp2_with fail
  generalize w2.alloc (.cells #[.int .i64 s, .slice p xs.length c] 25) = w3 at *
  refine (pick_any R 23 3 w3 hR3 (by omega) (by omega) (by omega)).mono ?_
  rintro e w4 ⟨x, rfl, hx, hR, hD4⟩
  have hV := hV3.drB hD4 (by have := HSZ.out; omega) (by have := HR.out; have := HSZ.out; omega)
  have bb := bb3.trans ((hD4.mono (show w.heap.size ≤ w3.heap.size by have := HSZ.out; omega)).below (by have := HR.out; have := HSZ.out; omega))
  have hM := hM3.drB hD4 (by omega) hBR
  have hO := hO3.dr hD4 hRlt
  have z4 := hD4.size
  clear hV3 bb3 hM3 hO3 hR3 hD4
  obtain ⟨n, hn⟩ : ∃ n : Int, n = 1 + (x : Int) := ⟨_, rfl⟩
  have he : 1 + (x : Int) = n := hn.symm
  have n1 : 1 ≤ n := by omega
  have n4 : n ≤ 3 := by omega
  clear hn hx
  rcases (show s < 0 ∨ (0 ≤ s ∧ s ≤ 5) ∨ 5 < s by omega) with hs | ⟨hs, hs2⟩ | hs
  · have h1 : (s < 0) = True := by simp; omega
    have hn0 : Hid ((0 : Int) ≤ 0) := Lib.hid (by omega)
    have hn5 : Hid ((0 : Int) ≤ 5) := Lib.hid (by omega)
    clear hs
    have m0 := hM.c0
    have m1 := hM.c1
    go_wp2_with fail
    refine (l7List_v R 24 (0) n w4 hR (by omega) (by have := hn0.out; omega) (by have := hn5.out; omega) n1 (by omega)).mono ?_
    rintro e w5 ⟨v, ts, rfl, htl, hT, hR5, hD5⟩
    obtain ⟨q, d, rfl, _hq⟩ := hT.shape
    have hV5 := hV.drB hD5 (by have := HSZ.out; omega) (by have := HR.out; have := HSZ.out; omega)
    have bb5 := bb.trans ((hD5.mono (show w.heap.size ≤ w4.heap.size by have := HSZ.out; omega)).below (by have := HR.out; have := HSZ.out; omega))
    have hM5 := hM.drB hD5 (by omega) hBR
    have hO5 := hO.dr hD5 hRlt
    have z5 := hD5.size
    clear m0 m1 hV bb hM hO hR hD5 _hq h1
    go_wp2_with fail
    refine (pick_any R 32 20 w5 hR5 (by omega) (by omega) (by omega)).mono ?_
    rintro e w6 ⟨y, rfl, hy, hR6, hD6⟩
    have hV6 := hV5.drB hD6 (by have := HSZ.out; omega) (by have := HR.out; have := HSZ.out; omega)
    have bb6 := bb5.trans ((hD6.mono (show w.heap.size ≤ w5.heap.size by have := HSZ.out; omega)).below (by have := HR.out; have := HSZ.out; omega))
    have hM6 := hM5.drB hD6 (by omega) hBR
    have hO6 := hO5.dr hD6 hRlt
    have hT6 := hT.dr hD6 (by omega)
    have z6 := hD6.size
    clear hV5 bb5 hM5 hO5 hT hR5 hD6
    by_cases h0 : y = 0
    · subst h0
      have hrd : Reads (w6.alloc (.cells #[.int .i64 0, .int .i64 5, .int .i64 (-1)] 3)) (some ⟨w6.heap.size, 0, none⟩) [0, 5, -1] := reads_lit w6 [0, 5, -1] _
      go_wp2_with fail
      refine (num_any R 33 _ _ [0, 5, -1] 3 rfl (w6.alloc (.cells #[.int .i64 0, .int .i64 5, .int .i64 (-1)] 3)) (hR6.later (belowAlloc _ _)) (by omega) hrd (by intro a ha; cases ha; simp; have := hR6.lt; omega) (by simp) (by simp)).mono ?_
      rintro e w7 ⟨z, hz, rfl, hR7, hD7⟩
      have bA := belowAlloc w6 (.cells #[.int .i64 0, .int .i64 5, .int .i64 (-1)] 3)
      have zA : w6.heap.size + 1 = (w6.alloc (.cells #[.int .i64 0, .int .i64 5, .int .i64 (-1)] 3)).heap.size := by simp
      have hV7 := (hV6.later bA).drB hD7 (by have := HSZ.out; omega) (by have := HR.out; have := HSZ.out; omega)
      have bb7 := (bb6.thenB bA).trans ((hD7.mono (show w.heap.size ≤ (w6.alloc (.cells #[.int .i64 0, .int .i64 5, .int .i64 (-1)] 3)).heap.size by have := HSZ.out; omega)).below (by have := HR.out; have := HSZ.out; omega))
      have hM7 := (hM6.later bA).drB hD7 (by omega) hBR
      have hO7 := (hO6.later bA).dr hD7 hRlt
      have hT7 := (hT6.later bA).dr hD7 (by omega)
      clear hV6 bb6 hM6 hO6 hT6 hR6 hD7 hR7 hz bA zA
      have m0 := hM7.c0
      have m1 := hM7.c1
      have s0 := hV7.c0
      have s1 := hV7.c1
      have s2 := hV7.f0
      have s3 := hV7.f1
      go_wp2
      refine bodyPost_ret (v := .tuple #[.agg #[.int .i64 s, .slice p xs.length c], .slice q ts.length d, .int .i64 z]) (by simp [results, Try.results39, go_sem, s0, s1, s2, s3]) rfl ⟨s, p, c, xs, q, d, ts, z, rfl, hxl, htl, ?_, ?_, ?_⟩
      · exact ((hO7.setBelow (by show w.heap.size < _; have := HSZ.out; omega) _).setBelow (by show w.heap.size < _; have := HSZ.out; omega) _).reads
      · exact ((hT7.setBelow (by show w.heap.size < _; have := HSZ.out; omega) _).setBelow (by show w.heap.size < _; have := HSZ.out; omega) _).reads
      · exact (bb7.setCell (Nat.le_refl _) _).setCell (Nat.le_refl _) _
    · have t0 : ((y : Int) == 0) = false := by simp; omega
      have m0 := hM6.c0
      have m1 := hM6.c1
      have s0 := hV6.c0
      have s1 := hV6.c1
      have s2 := hV6.f0
      have s3 := hV6.f1
      go_wp2
      refine bodyPost_ret (v := .tuple #[.agg #[.int .i64 s, .slice p xs.length c], .slice q ts.length d, .int .i64 n]) (by simp [results, Try.results39, go_sem, s0, s1, s2, s3]) rfl ⟨s, p, c, xs, q, d, ts, n, rfl, hxl, htl, ?_, ?_, ?_⟩
      · exact ((hO6.setBelow (by show w.heap.size < _; have := HSZ.out; omega) _).setBelow (by show w.heap.size < _; have := HSZ.out; omega) _).reads
      · exact ((hT6.setBelow (by show w.heap.size < _; have := HSZ.out; omega) _).setBelow (by show w.heap.size < _; have := HSZ.out; omega) _).reads
      · exact (bb6.setCell (Nat.le_refl _) _).setCell (Nat.le_refl _) _
  · have h1 : (s < 0) = False := by simp; omega
    have h2 : ((5 : Int) < s) = False := by simp; omega
    have hn0 := Lib.hid hs
    have hn5 := Lib.hid hs2
    clear hs hs2
    have m0 := hM.c0
    have m1 := hM.c1
    go_wp2_with fail
    refine (l7List_v R 24 (s) n w4 hR (by omega) (by have := hn0.out; omega) (by have := hn5.out; omega) n1 (by omega)).mono ?_
    rintro e w5 ⟨v, ts, rfl, htl, hT, hR5, hD5⟩
    obtain ⟨q, d, rfl, _hq⟩ := hT.shape
    have hV5 := hV.drB hD5 (by have := HSZ.out; omega) (by have := HR.out; have := HSZ.out; omega)
    have bb5 := bb.trans ((hD5.mono (show w.heap.size ≤ w4.heap.size by have := HSZ.out; omega)).below (by have := HR.out; have := HSZ.out; omega))
    have hM5 := hM.drB hD5 (by omega) hBR
    have hO5 := hO.dr hD5 hRlt
    have z5 := hD5.size
    clear m0 m1 hV bb hM hO hR hD5 _hq h1 h2
    go_wp2_with fail
    refine (pick_any R 32 20 w5 hR5 (by omega) (by omega) (by omega)).mono ?_
    rintro e w6 ⟨y, rfl, hy, hR6, hD6⟩
    have hV6 := hV5.drB hD6 (by have := HSZ.out; omega) (by have := HR.out; have := HSZ.out; omega)
    have bb6 := bb5.trans ((hD6.mono (show w.heap.size ≤ w5.heap.size by have := HSZ.out; omega)).below (by have := HR.out; have := HSZ.out; omega))
    have hM6 := hM5.drB hD6 (by omega) hBR
    have hO6 := hO5.dr hD6 hRlt
    have hT6 := hT.dr hD6 (by omega)
    have z6 := hD6.size
    clear hV5 bb5 hM5 hO5 hT hR5 hD6
    by_cases h0 : y = 0
    · subst h0
      have hrd : Reads (w6.alloc (.cells #[.int .i64 0, .int .i64 5, .int .i64 (-1)] 3)) (some ⟨w6.heap.size, 0, none⟩) [0, 5, -1] := reads_lit w6 [0, 5, -1] _
      go_wp2_with fail
      refine (num_any R 33 _ _ [0, 5, -1] 3 rfl (w6.alloc (.cells #[.int .i64 0, .int .i64 5, .int .i64 (-1)] 3)) (hR6.later (belowAlloc _ _)) (by omega) hrd (by intro a ha; cases ha; simp; have := hR6.lt; omega) (by simp) (by simp)).mono ?_
      rintro e w7 ⟨z, hz, rfl, hR7, hD7⟩
      have bA := belowAlloc w6 (.cells #[.int .i64 0, .int .i64 5, .int .i64 (-1)] 3)
      have zA : w6.heap.size + 1 = (w6.alloc (.cells #[.int .i64 0, .int .i64 5, .int .i64 (-1)] 3)).heap.size := by simp
      have hV7 := (hV6.later bA).drB hD7 (by have := HSZ.out; omega) (by have := HR.out; have := HSZ.out; omega)
      have bb7 := (bb6.thenB bA).trans ((hD7.mono (show w.heap.size ≤ (w6.alloc (.cells #[.int .i64 0, .int .i64 5, .int .i64 (-1)] 3)).heap.size by have := HSZ.out; omega)).below (by have := HR.out; have := HSZ.out; omega))
      have hM7 := (hM6.later bA).drB hD7 (by omega) hBR
      have hO7 := (hO6.later bA).dr hD7 hRlt
      have hT7 := (hT6.later bA).dr hD7 (by omega)
      clear hV6 bb6 hM6 hO6 hT6 hR6 hD7 hR7 hz bA zA
      have m0 := hM7.c0
      have m1 := hM7.c1
      have s0 := hV7.c0
      have s1 := hV7.c1
      have s2 := hV7.f0
      have s3 := hV7.f1
      go_wp2
      refine bodyPost_ret (v := .tuple #[.agg #[.int .i64 s, .slice p xs.length c], .slice q ts.length d, .int .i64 z]) (by simp [results, Try.results39, go_sem, s0, s1, s2, s3]) rfl ⟨s, p, c, xs, q, d, ts, z, rfl, hxl, htl, ?_, ?_, ?_⟩
      · exact ((hO7.setBelow (by show w.heap.size < _; have := HSZ.out; omega) _).setBelow (by show w.heap.size < _; have := HSZ.out; omega) _).reads
      · exact ((hT7.setBelow (by show w.heap.size < _; have := HSZ.out; omega) _).setBelow (by show w.heap.size < _; have := HSZ.out; omega) _).reads
      · exact (bb7.setCell (Nat.le_refl _) _).setCell (Nat.le_refl _) _
    · have t0 : ((y : Int) == 0) = false := by simp; omega
      have m0 := hM6.c0
      have m1 := hM6.c1
      have s0 := hV6.c0
      have s1 := hV6.c1
      have s2 := hV6.f0
      have s3 := hV6.f1
      go_wp2
      refine bodyPost_ret (v := .tuple #[.agg #[.int .i64 s, .slice p xs.length c], .slice q ts.length d, .int .i64 n]) (by simp [results, Try.results39, go_sem, s0, s1, s2, s3]) rfl ⟨s, p, c, xs, q, d, ts, n, rfl, hxl, htl, ?_, ?_, ?_⟩
      · exact ((hO6.setBelow (by show w.heap.size < _; have := HSZ.out; omega) _).setBelow (by show w.heap.size < _; have := HSZ.out; omega) _).reads
      · exact ((hT6.setBelow (by show w.heap.size < _; have := HSZ.out; omega) _).setBelow (by show w.heap.size < _; have := HSZ.out; omega) _).reads
      · exact (bb6.setCell (Nat.le_refl _) _).setCell (Nat.le_refl _) _
  · have h1 : (s < 0) = False := by simp; omega
    have h2 : ((5 : Int) < s) = True := by simp; omega
    have hn0 : Hid ((0 : Int) ≤ 5) := Lib.hid (by omega)
    have hn5 : Hid ((5 : Int) ≤ 5) := Lib.hid (by omega)
    clear hs
    have m0 := hM.c0
    have m1 := hM.c1
    go_wp2_with fail
    refine (l7List_v R 24 (5) n w4 hR (by omega) (by have := hn0.out; omega) (by have := hn5.out; omega) n1 (by omega)).mono ?_
    rintro e w5 ⟨v, ts, rfl, htl, hT, hR5, hD5⟩
    obtain ⟨q, d, rfl, _hq⟩ := hT.shape
    have hV5 := hV.drB hD5 (by have := HSZ.out; omega) (by have := HR.out; have := HSZ.out; omega)
    have bb5 := bb.trans ((hD5.mono (show w.heap.size ≤ w4.heap.size by have := HSZ.out; omega)).below (by have := HR.out; have := HSZ.out; omega))
    have hM5 := hM.drB hD5 (by omega) hBR
    have hO5 := hO.dr hD5 hRlt
    have z5 := hD5.size
    clear m0 m1 hV bb hM hO hR hD5 _hq h1 h2
    go_wp2_with fail
    refine (pick_any R 32 20 w5 hR5 (by omega) (by omega) (by omega)).mono ?_
    rintro e w6 ⟨y, rfl, hy, hR6, hD6⟩
    have hV6 := hV5.drB hD6 (by have := HSZ.out; omega) (by have := HR.out; have := HSZ.out; omega)
    have bb6 := bb5.trans ((hD6.mono (show w.heap.size ≤ w5.heap.size by have := HSZ.out; omega)).below (by have := HR.out; have := HSZ.out; omega))
    have hM6 := hM5.drB hD6 (by omega) hBR
    have hO6 := hO5.dr hD6 hRlt
    have hT6 := hT.dr hD6 (by omega)
    have z6 := hD6.size
    clear hV5 bb5 hM5 hO5 hT hR5 hD6
    by_cases h0 : y = 0
    · subst h0
      have hrd : Reads (w6.alloc (.cells #[.int .i64 0, .int .i64 5, .int .i64 (-1)] 3)) (some ⟨w6.heap.size, 0, none⟩) [0, 5, -1] := reads_lit w6 [0, 5, -1] _
      go_wp2_with fail
      refine (num_any R 33 _ _ [0, 5, -1] 3 rfl (w6.alloc (.cells #[.int .i64 0, .int .i64 5, .int .i64 (-1)] 3)) (hR6.later (belowAlloc _ _)) (by omega) hrd (by intro a ha; cases ha; simp; have := hR6.lt; omega) (by simp) (by simp)).mono ?_
      rintro e w7 ⟨z, hz, rfl, hR7, hD7⟩
      have bA := belowAlloc w6 (.cells #[.int .i64 0, .int .i64 5, .int .i64 (-1)] 3)
      have zA : w6.heap.size + 1 = (w6.alloc (.cells #[.int .i64 0, .int .i64 5, .int .i64 (-1)] 3)).heap.size := by simp
      have hV7 := (hV6.later bA).drB hD7 (by have := HSZ.out; omega) (by have := HR.out; have := HSZ.out; omega)
      have bb7 := (bb6.thenB bA).trans ((hD7.mono (show w.heap.size ≤ (w6.alloc (.cells #[.int .i64 0, .int .i64 5, .int .i64 (-1)] 3)).heap.size by have := HSZ.out; omega)).below (by have := HR.out; have := HSZ.out; omega))
      have hM7 := (hM6.later bA).drB hD7 (by omega) hBR
      have hO7 := (hO6.later bA).dr hD7 hRlt
      have hT7 := (hT6.later bA).dr hD7 (by omega)
      clear hV6 bb6 hM6 hO6 hT6 hR6 hD7 hR7 hz bA zA
      have m0 := hM7.c0
      have m1 := hM7.c1
      have s0 := hV7.c0
      have s1 := hV7.c1
      have s2 := hV7.f0
      have s3 := hV7.f1
      go_wp2
      refine bodyPost_ret (v := .tuple #[.agg #[.int .i64 s, .slice p xs.length c], .slice q ts.length d, .int .i64 z]) (by simp [results, Try.results39, go_sem, s0, s1, s2, s3]) rfl ⟨s, p, c, xs, q, d, ts, z, rfl, hxl, htl, ?_, ?_, ?_⟩
      · exact ((hO7.setBelow (by show w.heap.size < _; have := HSZ.out; omega) _).setBelow (by show w.heap.size < _; have := HSZ.out; omega) _).reads
      · exact ((hT7.setBelow (by show w.heap.size < _; have := HSZ.out; omega) _).setBelow (by show w.heap.size < _; have := HSZ.out; omega) _).reads
      · exact (bb7.setCell (Nat.le_refl _) _).setCell (Nat.le_refl _) _
    · have t0 : ((y : Int) == 0) = false := by simp; omega
      have m0 := hM6.c0
      have m1 := hM6.c1
      have s0 := hV6.c0
      have s1 := hV6.c1
      have s2 := hV6.f0
      have s3 := hV6.f1
      go_wp2
      refine bodyPost_ret (v := .tuple #[.agg #[.int .i64 s, .slice p xs.length c], .slice q ts.length d, .int .i64 n]) (by simp [results, Try.results39, go_sem, s0, s1, s2, s3]) rfl ⟨s, p, c, xs, q, d, ts, n, rfl, hxl, htl, ?_, ?_, ?_⟩
      · exact ((hO6.setBelow (by show w.heap.size < _; have := HSZ.out; omega) _).setBelow (by show w.heap.size < _; have := HSZ.out; omega) _).reads
      · exact ((hT6.setBelow (by show w.heap.size < _; have := HSZ.out; omega) _).setBelow (by show w.heap.size < _; have := HSZ.out; omega) _).reads
      · exact (bb6.setCell (Nat.le_refl _) _).setCell (Nat.le_refl _) _

set_option maxHeartbeats 4000000 in
set_option maxRecDepth 100000 in
theorem DrawRefineMass_any (a0 : Option Addr) (c0 : Nat) (bs : List Int) (w : World) (hx : ReadsK .u8 w a0 bs) (hwf : ∀ n ∈ bs, (Lit.int .u8 n).wf = true) (hl : bs.length ≤ maxLen) (hc : bs.length ≤ c0) :
    Calls Try.prog 34 #[.slice a0 bs.length c0] w (OutMsLvN w) := by
  obtain ⟨W, hW⟩ : ∃ W : World, W = w.alloc (.cells #[.int .i64 0, .slice none 0 0] 25) := ⟨_, rfl⟩
  have hsz : W.heap.size = w.heap.size + 1 := by subst hW; simp
  have hbW : Below w.heap.size w W := by subst hW; exact belowAlloc _ _
  have hV : VarInv W w.heap.size 0 (.slice none 0 0) := by subst hW; exact VarInv.made _ _ _ _
  have hxW := hx.below hbW
  have HSZ := Lib.hid hsz
  have HW := Lib.hid hW
  clear hW hsz hx
  have HO := Lib.hid (l14Open_any a0 c0 bs W hxW hwf hl hc)
  unfold maxLen at hl
  clear hxW hwf
  go_enter Try.func34, Try.ntmps34
  go_wp2_with fail
  rw [← HW.out]
  refine HO.out.mono ?_
  rintro e w1 ⟨rfl, hR1, b1⟩
  clear HO
  have hV1 := hV.later b1
  have bb1 := hbW.thenB b1
  have z1 := b1.size
  obtain ⟨R, hRe⟩ : ∃ R, R = W.heap.size := ⟨_, rfl⟩
  rw [← hRe] at hR1 ⊢
  have HR := Lib.hid hRe
  clear hRe hV hbW b1 hc
  have hRlt := hR1.lt
  go_wp2_with fail
  refine (l3Open_any R 0 w1 hR1 (by omega)).mono ?_
  rintro e w2 ⟨s, v, xs, rfl, hxl, hO2, hR2, hD2⟩
  obtain ⟨p, c, rfl, _hr⟩ := hO2.shape
  have hV2 := hV1.drB hD2 (by have := HSZ.out; omega) (by have := HR.out; have := HSZ.out; omega)
  have bb2 := bb1.trans ((hD2.mono (show w.heap.size ≤ w1.heap.size by have := HSZ.out; omega)).below (by have := HR.out; have := HSZ.out; omega))
  have z2 := hD2.size
  have b3 := belowAlloc w2 (.cells #[.int .i64 s, .slice p xs.length c] 25)
  have hM3 := VarInv.made w2 s (.slice p xs.length c) 25
  have hV3 := hV2.later b3
  have hR3 := hR2.later b3
  have bb3 := bb2.thenB b3
  have hO3 := hO2.later b3
  have z3 : w2.heap.size + 1 ≤ (w2.alloc (.cells #[.int .i64 s, .slice p xs.length c] 25)).heap.size := by simp
  have hBR : w2.heap.size ≠ R := by have := hR2.lt; omega
  clear _hr hV1 hD2 hR1 bb1 hO2 hV2 hR2 bb2 b3
  go_wp2_with fail
  generalize w2.alloc (.cells #[.int .i64 s, .slice p xs.length c] 25) = w3 at *
  refine (pick_any R 23 4 w3 hR3 (by omega) (by omega) (by omega)).mono ?_
  rintro e w4 ⟨x, rfl, hx, hR, hD4⟩
  have hV := hV3.drB hD4 (by have := HSZ.out; omega) (by have := HR.out; have := HSZ.out; omega)
  have bb := bb3.trans ((hD4.mono (show w.heap.size ≤ w3.heap.size by have := HSZ.out; omega)).below (by have := HR.out; have := HSZ.out; omega))
  have hM := hM3.drB hD4 (by omega) hBR
  have hO := hO3.dr hD4 hRlt
  have z4 := hD4.size
  clear hV3 bb3 hM3 hO3 hR3 hD4
  obtain ⟨n, hn⟩ : ∃ n : Int, n = 1 + (x : Int) := ⟨_, rfl⟩
  have he : 1 + (x : Int) = n := hn.symm
  have n1 : 1 ≤ n := by omega
  have n4 : n ≤ 4 := by omega
  clear hn hx
  rcases (show s < 1 ∨ (1 ≤ s ∧ s ≤ 4) ∨ 4 < s by omega) with hs | ⟨hs, hs2⟩ | hs
  · have h1 : (s < 1) = True := by simp; omega
    have hn0 : Hid ((1 : Int) ≤ 1) := Lib.hid (by omega)
    have hn5 : Hid ((1 : Int) ≤ 4) := Lib.hid (by omega)
    clear hs
    have m0 := hM.c0
    have m1 := hM.c1
    go_wp2_with fail
    refine (l7List_v R 24 n (1) w4 hR (by omega) (by omega) (by omega) (by have := hn0.out; omega) (by have := hn5.out; omega)).mono ?_
    rintro e w5 ⟨v, ts, rfl, htl, hT, hR5, hD5⟩
    obtain ⟨q, d, rfl, _hq⟩ := hT.shape
    have hV5 := hV.drB hD5 (by have := HSZ.out; omega) (by have := HR.out; have := HSZ.out; omega)
    have bb5 := bb.trans ((hD5.mono (show w.heap.size ≤ w4.heap.size by have := HSZ.out; omega)).below (by have := HR.out; have := HSZ.out; omega))
    have hM5 := hM.drB hD5 (by omega) hBR
    have hO5 := hO.dr hD5 hRlt
    have z5 := hD5.size
    clear m0 m1 hV bb hM hO hR hD5 _hq h1
    go_wp2_with fail
    refine (pick_any R 32 20 w5 hR5 (by omega) (by omega) (by omega)).mono ?_
    rintro e w6 ⟨y, rfl, hy, hR6, hD6⟩
    have hV6 := hV5.drB hD6 (by have := HSZ.out; omega) (by have := HR.out; have := HSZ.out; omega)
    have bb6 := bb5.trans ((hD6.mono (show w.heap.size ≤ w5.heap.size by have := HSZ.out; omega)).below (by have := HR.out; have := HSZ.out; omega))
    have hM6 := hM5.drB hD6 (by omega) hBR
    have hO6 := hO5.dr hD6 hRlt
    have hT6 := hT.dr hD6 (by omega)
    have z6 := hD6.size
    clear hV5 bb5 hM5 hO5 hT hR5 hD6
    by_cases h0 : y = 0
    · subst h0
      have hrd : Reads (w6.alloc (.cells #[.int .i64 0, .int .i64 5, .int .i64 (-1)] 3)) (some ⟨w6.heap.size, 0, none⟩) [0, 5, -1] := reads_lit w6 [0, 5, -1] _
      go_wp2_with fail
      refine (num_any R 33 _ _ [0, 5, -1] 3 rfl (w6.alloc (.cells #[.int .i64 0, .int .i64 5, .int .i64 (-1)] 3)) (hR6.later (belowAlloc _ _)) (by omega) hrd (by intro a ha; cases ha; simp; have := hR6.lt; omega) (by simp) (by simp)).mono ?_
      rintro e w7 ⟨z, hz, rfl, hR7, hD7⟩
      have bA := belowAlloc w6 (.cells #[.int .i64 0, .int .i64 5, .int .i64 (-1)] 3)
      have zA : w6.heap.size + 1 = (w6.alloc (.cells #[.int .i64 0, .int .i64 5, .int .i64 (-1)] 3)).heap.size := by simp
      have hV7 := (hV6.later bA).drB hD7 (by have := HSZ.out; omega) (by have := HR.out; have := HSZ.out; omega)
      have bb7 := (bb6.thenB bA).trans ((hD7.mono (show w.heap.size ≤ (w6.alloc (.cells #[.int .i64 0, .int .i64 5, .int .i64 (-1)] 3)).heap.size by have := HSZ.out; omega)).below (by have := HR.out; have := HSZ.out; omega))
      have hM7 := (hM6.later bA).drB hD7 (by omega) hBR
      have hO7 := (hO6.later bA).dr hD7 hRlt
      have hT7 := (hT6.later bA).dr hD7 (by omega)
      clear hV6 bb6 hM6 hO6 hT6 hR6 hD7 hR7 hz bA zA
      have m0 := hM7.c0
      have m1 := hM7.c1
      have s0 := hV7.c0
      have s1 := hV7.c1
      have s2 := hV7.f0
      have s3 := hV7.f1
      go_wp2
      refine bodyPost_ret (v := .tuple #[.agg #[.int .i64 s, .slice p xs.length c], .slice q ts.length d, .int .i64 z]) (by simp [results, Try.results34, go_sem, s0, s1, s2, s3]) rfl ⟨s, p, c, xs, q, d, ts, z, rfl, hxl, htl, ?_, ?_, ?_⟩
      · exact ((hO7.setBelow (by show w.heap.size < _; have := HSZ.out; omega) _).setBelow (by show w.heap.size < _; have := HSZ.out; omega) _).reads
      · exact ((hT7.setBelow (by show w.heap.size < _; have := HSZ.out; omega) _).setBelow (by show w.heap.size < _; have := HSZ.out; omega) _).reads
      · exact (bb7.setCell (Nat.le_refl _) _).setCell (Nat.le_refl _) _
    · have t0 : ((y : Int) == 0) = false := by simp; omega
      have m0 := hM6.c0
      have m1 := hM6.c1
      have s0 := hV6.c0
      have s1 := hV6.c1
      have s2 := hV6.f0
      have s3 := hV6.f1
      go_wp2
      refine bodyPost_ret (v := .tuple #[.agg #[.int .i64 s, .slice p xs.length c], .slice q ts.length d, .int .i64 n]) (by simp [results, Try.results34, go_sem, s0, s1, s2, s3]) rfl ⟨s, p, c, xs, q, d, ts, n, rfl, hxl, htl, ?_, ?_, ?_⟩
      · exact ((hO6.setBelow (by show w.heap.size < _; have := HSZ.out; omega) _).setBelow (by show w.heap.size < _; have := HSZ.out; omega) _).reads
      · exact ((hT6.setBelow (by show w.heap.size < _; have := HSZ.out; omega) _).setBelow (by show w.heap.size < _; have := HSZ.out; omega) _).reads
      · exact (bb6.setCell (Nat.le_refl _) _).setCell (Nat.le_refl _) _
  · have h1 : (s < 1) = False := by simp; omega
    have h2 : ((4 : Int) < s) = False := by simp; omega
    have hn0 := Lib.hid hs
    have hn5 := Lib.hid hs2
    clear hs hs2
    have m0 := hM.c0
    have m1 := hM.c1
    go_wp2_with fail
    refine (l7List_v R 24 n (s) w4 hR (by omega) (by omega) (by omega) (by have := hn0.out; omega) (by have := hn5.out; omega)).mono ?_
    rintro e w5 ⟨v, ts, rfl, htl, hT, hR5, hD5⟩
    obtain ⟨q, d, rfl, _hq⟩ := hT.shape
    have hV5 := hV.drB hD5 (by have := HSZ.out; omega) (by have := HR.out; have := HSZ.out; omega)
    have bb5 := bb.trans ((hD5.mono (show w.heap.size ≤ w4.heap.size by have := HSZ.out; omega)).below (by have := HR.out; have := HSZ.out; omega))
    have hM5 := hM.drB hD5 (by omega) hBR
    have hO5 := hO.dr hD5 hRlt
    have z5 := hD5.size
    clear m0 m1 hV bb hM hO hR hD5 _hq h1 h2
    go_wp2_with fail
    refine (pick_any R 32 20 w5 hR5 (by omega) (by omega) (by omega)).mono ?_
    rintro e w6 ⟨y, rfl, hy, hR6, hD6⟩
    have hV6 := hV5.drB hD6 (by have := HSZ.out; omega) (by have := HR.out; have := HSZ.out; omega)
    have bb6 := bb5.trans ((hD6.mono (show w.heap.size ≤ w5.heap.size by have := HSZ.out; omega)).below (by have := HR.out; have := HSZ.out; omega))
    have hM6 := hM5.drB hD6 (by omega) hBR
    have hO6 := hO5.dr hD6 hRlt
    have hT6 := hT.dr hD6 (by omega)
    have z6 := hD6.size
    clear hV5 bb5 hM5 hO5 hT hR5 hD6
    by_cases h0 : y = 0
    · subst h0
      have hrd : Reads (w6.alloc (.cells #[.int .i64 0, .int .i64 5, .int .i64 (-1)] 3)) (some ⟨w6.heap.size, 0, none⟩) [0, 5, -1] := reads_lit w6 [0, 5, -1] _
      go_wp2_with fail
      refine (num_any R 33 _ _ [0, 5, -1] 3 rfl (w6.alloc (.cells #[.int .i64 0, .int .i64 5, .int .i64 (-1)] 3)) (hR6.later (belowAlloc _ _)) (by omega) hrd (by intro a ha; cases ha; simp; have := hR6.lt; omega) (by simp) (by simp)).mono ?_
      rintro e w7 ⟨z, hz, rfl, hR7, hD7⟩
      have bA := belowAlloc w6 (.cells #[.int .i64 0, .int .i64 5, .int .i64 (-1)] 3)
      have zA : w6.heap.size + 1 = (w6.alloc (.cells #[.int .i64 0, .int .i64 5, .int .i64 (-1)] 3)).heap.size := by simp
      have hV7 := (hV6.later bA).drB hD7 (by have := HSZ.out; omega) (by have := HR.out; have := HSZ.out; omega)
      have bb7 := (bb6.thenB bA).trans ((hD7.mono (show w.heap.size ≤ (w6.alloc (.cells #[.int .i64 0, .int .i64 5, .int .i64 (-1)] 3)).heap.size by have := HSZ.out; omega)).below (by have := HR.out; have := HSZ.out; omega))
      have hM7 := (hM6.later bA).drB hD7 (by omega) hBR
      have hO7 := (hO6.later bA).dr hD7 hRlt
      have hT7 := (hT6.later bA).dr hD7 (by omega)
      clear hV6 bb6 hM6 hO6 hT6 hR6 hD7 hR7 hz bA zA
      have m0 := hM7.c0
      have m1 := hM7.c1
      have s0 := hV7.c0
      have s1 := hV7.c1
      have s2 := hV7.f0
      have s3 := hV7.f1
      go_wp2
      refine bodyPost_ret (v := .tuple #[.agg #[.int .i64 s, .slice p xs.length c], .slice q ts.length d, .int .i64 z]) (by simp [results, Try.results34, go_sem, s0, s1, s2, s3]) rfl ⟨s, p, c, xs, q, d, ts, z, rfl, hxl, htl, ?_, ?_, ?_⟩
      · exact ((hO7.setBelow (by show w.heap.size < _; have := HSZ.out; omega) _).setBelow (by show w.heap.size < _; have := HSZ.out; omega) _).reads
      · exact ((hT7.setBelow (by show w.heap.size < _; have := HSZ.out; omega) _).setBelow (by show w.heap.size < _; have := HSZ.out; omega) _).reads
      · exact (bb7.setCell (Nat.le_refl _) _).setCell (Nat.le_refl _) _
    · have t0 : ((y : Int) == 0) = false := by simp; omega
      have m0 := hM6.c0
      have m1 := hM6.c1
      have s0 := hV6.c0
      have s1 := hV6.c1
      have s2 := hV6.f0
      have s3 := hV6.f1
      go_wp2
      refine bodyPost_ret (v := .tuple #[.agg #[.int .i64 s, .slice p xs.length c], .slice q ts.length d, .int .i64 n]) (by simp [results, Try.results34, go_sem, s0, s1, s2, s3]) rfl ⟨s, p, c, xs, q, d, ts, n, rfl, hxl, htl, ?_, ?_, ?_⟩
      · exact ((hO6.setBelow (by show w.heap.size < _; have := HSZ.out; omega) _).setBelow (by show w.heap.size < _; have := HSZ.out; omega) _).reads
      · exact ((hT6.setBelow (by show w.heap.size < _; have := HSZ.out; omega) _).setBelow (by show w.heap.size < _; have := HSZ.out; omega) _).reads
      · exact (bb6.setCell (Nat.le_refl _) _).setCell (Nat.le_refl _) _
  · have h1 : (s < 1) = False := by simp; omega
    have h2 : ((4 : Int) < s) = True := by simp; omega
    have hn0 : Hid ((1 : Int) ≤ 4) := Lib.hid (by omega)
    have hn5 : Hid ((4 : Int) ≤ 4) := Lib.hid (by omega)
    clear hs
    have m0 := hM.c0
    have m1 := hM.c1
    go_wp2_with fail
    refine (l7List_v R 24 n (4) w4 hR (by omega) (by omega) (by omega) (by have := hn0.out; omega) (by have := hn5.out; omega)).mono ?_
    rintro e w5 ⟨v, ts, rfl, htl, hT, hR5, hD5⟩
    obtain ⟨q, d, rfl, _hq⟩ := hT.shape
    have hV5 := hV.drB hD5 (by have := HSZ.out; omega) (by have := HR.out; have := HSZ.out; omega)
    have bb5 := bb.trans ((hD5.mono (show w.heap.size ≤ w4.heap.size by have := HSZ.out; omega)).below (by have := HR.out; have := HSZ.out; omega))
    have hM5 := hM.drB hD5 (by omega) hBR
    have hO5 := hO.dr hD5 hRlt
    have z5 := hD5.size
    clear m0 m1 hV bb hM hO hR hD5 _hq h1 h2
    go_wp2_with fail
    refine (pick_any R 32 20 w5 hR5 (by omega) (by omega) (by omega)).mono ?_
    rintro e w6 ⟨y, rfl, hy, hR6, hD6⟩
    have hV6 := hV5.drB hD6 (by have := HSZ.out; omega) (by have := HR.out; have := HSZ.out; omega)
    have bb6 := bb5.trans ((hD6.mono (show w.heap.size ≤ w5.heap.size by have := HSZ.out; omega)).below (by have := HR.out; have := HSZ.out; omega))
    have hM6 := hM5.drB hD6 (by omega) hBR
    have hO6 := hO5.dr hD6 hRlt
    have hT6 := hT.dr hD6 (by omega)
    have z6 := hD6.size
    clear hV5 bb5 hM5 hO5 hT hR5 hD6
    by_cases h0 : y = 0
    · subst h0
      have hrd : Reads (w6.alloc (.cells #[.int .i64 0, .int .i64 5, .int .i64 (-1)] 3)) (some ⟨w6.heap.size, 0, none⟩) [0, 5, -1] := reads_lit w6 [0, 5, -1] _
      go_wp2_with fail
      refine (num_any R 33 _ _ [0, 5, -1] 3 rfl (w6.alloc (.cells #[.int .i64 0, .int .i64 5, .int .i64 (-1)] 3)) (hR6.later (belowAlloc _ _)) (by omega) hrd (by intro a ha; cases ha; simp; have := hR6.lt; omega) (by simp) (by simp)).mono ?_
      rintro e w7 ⟨z, hz, rfl, hR7, hD7⟩
      have bA := belowAlloc w6 (.cells #[.int .i64 0, .int .i64 5, .int .i64 (-1)] 3)
      have zA : w6.heap.size + 1 = (w6.alloc (.cells #[.int .i64 0, .int .i64 5, .int .i64 (-1)] 3)).heap.size := by simp
      have hV7 := (hV6.later bA).drB hD7 (by have := HSZ.out; omega) (by have := HR.out; have := HSZ.out; omega)
      have bb7 := (bb6.thenB bA).trans ((hD7.mono (show w.heap.size ≤ (w6.alloc (.cells #[.int .i64 0, .int .i64 5, .int .i64 (-1)] 3)).heap.size by have := HSZ.out; omega)).below (by have := HR.out; have := HSZ.out; omega))
      have hM7 := (hM6.later bA).drB hD7 (by omega) hBR
      have hO7 := (hO6.later bA).dr hD7 hRlt
      have hT7 := (hT6.later bA).dr hD7 (by omega)
      clear hV6 bb6 hM6 hO6 hT6 hR6 hD7 hR7 hz bA zA
      have m0 := hM7.c0
      have m1 := hM7.c1
      have s0 := hV7.c0
      have s1 := hV7.c1
      have s2 := hV7.f0
      have s3 := hV7.f1
      go_wp2
      refine bodyPost_ret (v := .tuple #[.agg #[.int .i64 s, .slice p xs.length c], .slice q ts.length d, .int .i64 z]) (by simp [results, Try.results34, go_sem, s0, s1, s2, s3]) rfl ⟨s, p, c, xs, q, d, ts, z, rfl, hxl, htl, ?_, ?_, ?_⟩
      · exact ((hO7.setBelow (by show w.heap.size < _; have := HSZ.out; omega) _).setBelow (by show w.heap.size < _; have := HSZ.out; omega) _).reads
      · exact ((hT7.setBelow (by show w.heap.size < _; have := HSZ.out; omega) _).setBelow (by show w.heap.size < _; have := HSZ.out; omega) _).reads
      · exact (bb7.setCell (Nat.le_refl _) _).setCell (Nat.le_refl _) _
    · have t0 : ((y : Int) == 0) = false := by simp; omega
      have m0 := hM6.c0
      have m1 := hM6.c1
      have s0 := hV6.c0
      have s1 := hV6.c1
      have s2 := hV6.f0
      have s3 := hV6.f1
      go_wp2
      refine bodyPost_ret (v := .tuple #[.agg #[.int .i64 s, .slice p xs.length c], .slice q ts.length d, .int .i64 n]) (by simp [results, Try.results34, go_sem, s0, s1, s2, s3]) rfl ⟨s, p, c, xs, q, d, ts, n, rfl, hxl, htl, ?_, ?_, ?_⟩
      · exact ((hO6.setBelow (by show w.heap.size < _; have := HSZ.out; omega) _).setBelow (by show w.heap.size < _; have := HSZ.out; omega) _).reads
      · exact ((hT6.setBelow (by show w.heap.size < _; have := HSZ.out; omega) _).setBelow (by show w.heap.size < _; have := HSZ.out; omega) _).reads
      · exact (bb6.setCell (Nat.le_refl _) _).setCell (Nat.le_refl _) _

end Go.Proofs.Ytkpnenbkfphldaa
