/- Chances that are drawn. -/
import Derived.Test.YtmbipmdflbddbaaD7
import Derived.Test.YtmbipmdflbddbaaD3
set_option linter.unusedVariables false
set_option linter.unusedSimpArgs false
namespace Go.Proofs.Ytmbipmdflbddbaa
open Go.RowKit

set_option maxHeartbeats 2000000 in
theorem DrawLevelsOfChance_any (a0 : Option Addr) (c0 : Nat) (bs : List Int) (w : World) (hx : ReadsK .u8 w a0 bs) (hwf : ∀ n ∈ bs, (Lit.int .u8 n).wf = true) (hl : bs.length ≤ maxLen) (hc : bs.length ≤ c0) :
    Calls Try.prog 24 #[.slice a0 bs.length c0] w (OutMs w) := by
  obtain ⟨W, hW⟩ : ∃ W : World, W = w.alloc (.cells #[.int .i64 0, .slice none 0 0] 24) := ⟨_, rfl⟩
  have hsz : W.heap.size = w.heap.size + 1 := by subst hW; simp
  have hbW : Below w.heap.size w W := by subst hW; exact belowAlloc _ _
  have hV : VarInv W w.heap.size 0 (.slice none 0 0) := by subst hW; exact VarInv.made _ _ _ _
  have hxW := hx.below hbW
  have HSZ := Lib.hid hsz
  have HW := Lib.hid hW
  clear hW hsz hx
  have HO := Lib.hid (l14Open_any a0 c0 bs W hxW hwf hl hc)
  unfold maxLen at hl
  clear hxW hwf
  go_enter Try.func24, Try.ntmps24
  go_wp2_with fail
  rw [← HW.out]
  refine HO.out.mono ?_
  rintro e w1 ⟨rfl, hR1, b1⟩
  clear HO
  have hV1 := hV.later b1
  have bb1 := hbW.thenB b1
  have z1 := b1.size
  obtain ⟨R, hRe⟩ : ∃ R, R = W.heap.size := ⟨_, rfl⟩
  rw [← hRe] at hR1 ⊢
  have HR := Lib.hid hRe
  clear hRe hV hbW b1 hc
  have hRlt := hR1.lt
  go_wp2_with fail
  refine (pick_any R 0 4 w1 hR1 (by omega) (by omega) (by omega)).mono ?_
  rintro e w2 ⟨x, rfl, hx, hR2, hD2⟩
  have hV2 := hV1.drB hD2 (by have := HSZ.out; omega) (by have := HR.out; have := HSZ.out; omega)
  have bb2 := bb1.trans ((hD2.mono (show w.heap.size ≤ w1.heap.size by have := HSZ.out; omega)).below (by have := HR.out; have := HSZ.out; omega))
  have z2 := hD2.size
  clear hV1 hD2 hR1 bb1
  obtain ⟨n, hn⟩ : ∃ n : Nat, n = 1 + x := ⟨_, rfl⟩
  have he : 1 + (x : Int) = (n : Int) := by omega
  have n1 : 1 ≤ n := by omega
  have n4 : n ≤ 4 := by omega
  obtain ⟨N, hN⟩ : ∃ N, N = 2 ^ n := ⟨_, rfl⟩
  have hN16 : N ≤ 16 := by rw [hN]; exact Nat.pow_le_pow_right (n := 2) (by omega) n4
  have hpw : wrap64 (2 ^ n) = (N : Int) := by
    have := pow2_wrap (n : Int) (by omega) (by omega)
    rw [pow2_len] at this
    rw [hN]; simpa using this
  have HN := Lib.hid hN
  clear hn hN hx
  go_wp2_with (at_make; refine wpList_makeInts _ rfl _ _ rfl w2.heap.size _ _ _ _ N rfl rfl hpw hpw (by omega) (Nat.le_refl _) ?_)
  intro w3 ho3 hb3 hlt3
  have hV3 := hV2.later hb3
  have hR3 := hR2.later hb3
  have bb3 := bb2.thenB hb3
  clear hV2 hR2 bb2 hb3 hpw
  go_wp2
  go_loopw [6] (fun i wr => ∃ (k : Nat) (P : List Int), k ≤ n ∧ i = .int .i64 k ∧ P.length = N ∧ allB 0 4 P = true ∧ Own w2.heap.size wr (.slice (some ⟨w2.heap.size, 0, none⟩) N N) P ∧ Rdr R (1 + k) wr ∧ VarInv wr w.heap.size 0 (.slice none 0 0) ∧ Below w.heap.size w wr ∧ w2.heap.size < wr.heap.size) (fun i _ => n - (intOf i).toNat)
  case atStart => exact ⟨0, zeros N, Nat.zero_le _, rfl, zeros_len N, allB_wider (zeros_all N) (by omega) (by omega), ho3, hR3, hV3, bb3, hlt3⟩
  case round =>
    clear ho3 hV3 hR3 bb3 hlt3
    obtain ⟨k, P, hk, rfl, hPl, hPa, ho, hR, hV, bb, hlt⟩ := hrel
    have HPL := Lib.hid hPl
    have HPA := Lib.hid hPa
    clear hPl hPa
    by_cases hkn : k < n
    · have hbk : bit k < N := by rw [HN.out]; exact Nat.pow_lt_pow_right (by omega) hkn
      have hbk0 : (0 : Int) ≤ ((bit k : Nat) : Int) := Int.natCast_nonneg _
      have hbk1 : ((bit k : Nat) : Int) < (N : Int) := Int.ofNat_lt.2 hbk
      have hwk2 := bit_wrap' k (by omega)
      go_wp2_with fail
      refine (pick_any R (1 + k) 5 wr hR (by omega) (by omega) (by omega)).mono ?_
      rintro e w4 ⟨y, rfl, hy, hR4, hD4⟩
      have hV4 := hV.drB hD4 (by have := HSZ.out; omega) (by have := HR.out; have := HSZ.out; omega)
      have bb4 := bb.trans ((hD4.mono (show w.heap.size ≤ wr.heap.size by have := HSZ.out; omega)).below (by have := HR.out; have := HSZ.out; omega))
      have hO4 := ho.dr hD4 (by omega)
      have z4 := hD4.size
      clear hV bb ho hR hD4
      obtain ⟨q1, q2⟩ := hO4.cellAt HPL.out (bit k) hbk
      have HS := Lib.hid (hO4.storedAt HPL.out (bit k) (y : Int))
      clear hO4
      go_wp2
      exact ⟨⟨k + 1, P.set (bit k) (y : Int), by omega, by go_num, by rw [List.length_set]; exact HPL.out, allB_set3 _ HPA.out (by omega) (by omega), HS.out, (hR4.setCell _ (by show R < w2.heap.size; omega) _).more (by omega), hV4.other _ (by show w2.heap.size ≠ w.heap.size; have := HSZ.out; omega) _, bb4.setCell (by show _ ≤ w2.heap.size; have := HSZ.out; omega) _, by simp; omega⟩, by simp [intOf]; omega⟩
    · have hkk : k = n := by omega
      subst hkk
      have hal2 := Lib.hid (allB_wider HPA.out (low' := 0) (high' := 4611686018427387904) (by omega) (by omega))
      go_wp2_with fail
      refine (l3Made_n _ _ _ _ _ _ HPL.out ho.reads (by rw [HPL.out]; omega) hal2.out).mono ?_
      rintro e w3 ⟨v, rfl, hO3, b3⟩
      have hKl : (mkL (k : Int) P).length ≤ 16 := by have := mkL_len (k : Int) P; have := HPL.out; omega
      obtain ⟨K, hK⟩ : ∃ K, K = mkL (k : Int) P := ⟨_, rfl⟩
      obtain ⟨S, hS⟩ : ∃ S, S = mkS (k : Int) P := ⟨_, rfl⟩
      obtain ⟨G, hG⟩ : ∃ G, G = mkOk (k : Int) P := ⟨_, rfl⟩
      rw [← hK] at hO3 hKl
      rw [← hS, ← hG]
      clear hK hS hG
      have hV3 := hV.later b3
      have hR3 := (hR.later b3).more (show 1 + k ≤ 6 by omega)
      have bb3 := bb.thenB b3
      have z3 := b3.size
      clear hV hR bb b3 ho
      obtain ⟨q, d, rfl, _hr3⟩ := hO3.shape
      clear _hr3
      have b4 := belowAlloc w3 (.cells #[.int .i64 S, .slice q K.length d] 24)
      have hM4 := VarInv.made w3 S (.slice q K.length d) 24
      have hV4 := hV3.later b4
      have hR4 := hR3.later b4
      have bb4 := bb3.thenB b4
      have hO4 := hO3.later b4
      have z4 : w3.heap.size + 1 ≤ (w3.alloc (.cells #[.int .i64 S, .slice q K.length d] 24)).heap.size := by simp
      have hRm : w3.heap.size ≠ R := by have := hR3.lt; omega
      clear hV3 hR3 bb3 hO3 b4
      cases G
      · go_wp2_with fail
        generalize w3.alloc (.cells #[.int .i64 S, .slice q K.length d] 24) = w4 at *
        refine (l3Open_any R 6 w4 hR4 (by omega)).mono ?_
        rintro e w5 ⟨s, v, xs, rfl, hxl, hO5, hR5, hD5⟩
        obtain ⟨p5, c5, rfl, _h5⟩ := hO5.shape
        have hV5 := hV4.drB hD5 (by have := HSZ.out; omega) (by have := HR.out; have := HSZ.out; omega)
        have bb5 := bb4.trans ((hD5.mono (show w.heap.size ≤ w4.heap.size by have := HSZ.out; omega)).below (by have := HR.out; have := HSZ.out; omega))
        have s0 := hV5.c0
        have s1 := hV5.c1
        have s2 := hV5.f0
        have s3 := hV5.f1
        clear _h5 hV4 hD5 hR4 hR5 bb4 hO4 hM4
        go_wp2
        refine bodyPost_ret (v := .agg #[.int .i64 s, .slice p5 xs.length c5]) (by simp [results, Try.results24, go_sem, s0, s1, s2, s3]) rfl ⟨s, p5, c5, xs, rfl, hxl, ?_, ?_⟩
        · exact ((hO5.setBelow (by show w.heap.size < _; have := HSZ.out; omega) _).setBelow (by show w.heap.size < _; have := HSZ.out; omega) _).reads
        · exact (bb5.setCell (Nat.le_refl _) _).setCell (Nat.le_refl _) _
      · go_wp2_with fail
        generalize w3.alloc (.cells #[.int .i64 S, .slice q K.length d] 24) = w4 at *
        refine (pick_any R 6 8 w4 hR4 (by omega) (by omega) (by omega)).mono ?_
        rintro e w5 ⟨x, rfl, hx, hR5, hD5⟩
        have hV5 := hV4.drB hD5 (by have := HSZ.out; omega) (by have := HR.out; have := HSZ.out; omega)
        have bb5 := bb4.trans ((hD5.mono (show w.heap.size ≤ w4.heap.size by have := HSZ.out; omega)).below (by have := HR.out; have := HSZ.out; omega))
        have hM5 := hM4.drB hD5 (by omega) hRm
        have hO5 := hO4.dr hD5 (by have := HR.out; have := HSZ.out; omega)
        have z5 := hD5.size
        clear hV4 bb4 hM4 hO4 hR4 hD5
        by_cases h0 : x = 0
        · subst h0
          clear hM5 hO5
          go_wp2_with fail
          refine (l3Open_any R 7 w5 hR5 (by omega)).mono ?_
          rintro e w6 ⟨s, v, xs, rfl, hxl, hO6, hR6, hD6⟩
          obtain ⟨p6, c6, rfl, _h6⟩ := hO6.shape
          have hV6 := hV5.drB hD6 (by have := HSZ.out; omega) (by have := HR.out; have := HSZ.out; omega)
          have bb6 := bb5.trans ((hD6.mono (show w.heap.size ≤ w5.heap.size by have := HSZ.out; omega)).below (by have := HR.out; have := HSZ.out; omega))
          have s0 := hV6.c0
          have s1 := hV6.c1
          have s2 := hV6.f0
          have s3 := hV6.f1
          clear _h6 hV5 hD6 hR5 hR6 bb5
          go_wp2
          refine bodyPost_ret (v := .agg #[.int .i64 s, .slice p6 xs.length c6]) (by simp [results, Try.results24, go_sem, s0, s1, s2, s3]) rfl ⟨s, p6, c6, xs, rfl, hxl, ?_, ?_⟩
          · exact ((hO6.setBelow (by show w.heap.size < _; have := HSZ.out; omega) _).setBelow (by show w.heap.size < _; have := HSZ.out; omega) _).reads
          · exact (bb6.setCell (Nat.le_refl _) _).setCell (Nat.le_refl _) _
        · have hx1 : (0 : Int) < (x : Int) := by omega
          have m0 := hM5.c0
          have m1 := hM5.c1
          have s0 := hV5.c0
          have s1 := hV5.c1
          have s2 := hV5.f0
          have s3 := hV5.f1
          clear hR5
          go_wp2
          refine bodyPost_ret (v := .agg #[.int .i64 S, .slice q K.length d]) (by simp [results, Try.results24, go_sem, s0, s1, s2, s3]) rfl ⟨S, q, d, K, rfl, by omega, ?_, ?_⟩
          · exact ((hO5.setBelow (by show w.heap.size < _; have := HSZ.out; omega) _).setBelow (by show w.heap.size < _; have := HSZ.out; omega) _).reads
          · exact (bb5.setCell (Nat.le_refl _) _).setCell (Nat.le_refl _) _

end Go.Proofs.Ytmbipmdflbddbaa
