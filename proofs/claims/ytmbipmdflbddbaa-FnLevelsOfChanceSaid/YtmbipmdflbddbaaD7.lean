/- Masses that are drawn by levels, chances that are drawn. -/
import Derived.Test.YtmbipmdflbddbaaD6
import Derived.Test.YtmbipmdflbddbaaM6
set_option linter.unusedVariables false
set_option linter.unusedSimpArgs false
namespace Go.Proofs.Ytmbipmdflbddbaa
open Go.RowKit

theorem lvR_len16 (xs : List Int) : (gL (lvB xs) (xs.length : Int) (lvP xs)).length ≤ 16 := by
  cases h : lvB xs
  · simp [gL]
  · have hk := lvB_ok h
    have := gL_len true (xs.length : Int) (lvP xs)
    rw [lvP_len] at this
    have : 2 ^ xs.length ≤ 2 ^ 4 := Nat.pow_le_pow_right (by omega) hk.l4
    omega

set_option maxHeartbeats 2000000 in
theorem DrawLevelsOf_any (a0 : Option Addr) (c0 : Nat) (bs : List Int) (w : World) (hx : ReadsK .u8 w a0 bs) (hwf : ∀ n ∈ bs, (Lit.int .u8 n).wf = true) (hl : bs.length ≤ maxLen) (hc : bs.length ≤ c0) :
    Calls Try.prog 28 #[.slice a0 bs.length c0] w (OutMs w) := by
  obtain ⟨W, hW⟩ : ∃ W : World, W = w.alloc (.cells #[.int .i64 0, .slice none 0 0] 24) := ⟨_, rfl⟩
  have hsz : W.heap.size = w.heap.size + 1 := by subst hW; simp
  have hbW : Below w.heap.size w W := by subst hW; exact belowAlloc _ _
  have hV : VarInv W w.heap.size 0 (.slice none 0 0) := by subst hW; exact VarInv.made _ _ _ _
  have hxW := hx.below hbW
  have HSZ := Lib.hid hsz
  have HW := Lib.hid hW
  clear hW hsz hx
  have HO := Lib.hid (l14Open_any a0 c0 bs W hxW hwf hl hc)
  unfold maxLen at hl
  clear hxW hwf
  go_enter Try.func28, Try.ntmps28
  go_wp2_with fail
  rw [← HW.out]
  refine HO.out.mono ?_
  rintro e w1 ⟨rfl, hR1, b1⟩
  clear HO
  have hV1 := hV.later b1
  have bb1 := hbW.thenB b1
  have z1 := b1.size
  obtain ⟨R, hRe⟩ : ∃ R, R = W.heap.size := ⟨_, rfl⟩
  rw [← hRe] at hR1 ⊢
  have HR := Lib.hid hRe
  clear hRe hV hbW b1 hc
  have hRlt := hR1.lt
  go_wp2_with fail
  refine (l9Open_any R 0 w1 hR1 (by omega)).mono ?_
  rintro e w2 ⟨v, ls, rfl, hll, hO, hR2, hD2⟩
  obtain ⟨p, c, rfl, hr⟩ := hO.shape
  have hV2 := hV1.drB hD2 (by have := HSZ.out; omega) (by have := HR.out; have := HSZ.out; omega)
  have bb2 := bb1.trans ((hD2.mono (show w.heap.size ≤ w1.heap.size by have := HSZ.out; omega)).below (by have := HR.out; have := HSZ.out; omega))
  have z2 := hD2.size
  clear hV1 hD2 hR1 bb1 hO
  go_wp2_with fail
  refine (sMassOfLevels_any p c ls w2 hr (by omega)).mono ?_
  rintro e w3 ⟨v, rfl, hO3, b3⟩
  have hKl := lvR_len16 ls
  obtain ⟨K, hK⟩ : ∃ K, K = gL (lvB ls) (ls.length : Int) (lvP ls) := ⟨_, rfl⟩
  obtain ⟨S, hS⟩ : ∃ S, S = gS (lvB ls) (ls.length : Int) (lvP ls) := ⟨_, rfl⟩
  obtain ⟨G, hG⟩ : ∃ G, G = gOk (lvB ls) (ls.length : Int) (lvP ls) := ⟨_, rfl⟩
  rw [← hK] at hO3 hKl
  rw [← hS, ← hG]
  clear hK hS hG
  have hV3 := hV2.later b3
  have hR3 := hR2.later b3
  have bb3 := bb2.thenB b3
  have z3 := b3.size
  clear hr hV2 hR2 bb2 b3
  obtain ⟨q, d, rfl, _hr3⟩ := hO3.shape
  clear _hr3
  have b4 := belowAlloc w3 (.cells #[.int .i64 S, .slice q K.length d] 24)
  have hM4 := VarInv.made w3 S (.slice q K.length d) 24
  have hV4 := hV3.later b4
  have hR4 := hR3.later b4
  have bb4 := bb3.thenB b4
  have hO4 := hO3.later b4
  have z4 : w3.heap.size + 1 ≤ (w3.alloc (.cells #[.int .i64 S, .slice q K.length d] 24)).heap.size := by simp
  have hRm : w3.heap.size ≠ R := by have := hR3.lt; omega
  clear hV3 hR3 bb3 hO3 b4
  cases G
  · go_wp2_with fail
    generalize w3.alloc (.cells #[.int .i64 S, .slice q K.length d] 24) = w4 at *
    refine (l3Open_any R 21 w4 hR4 (by omega)).mono ?_
    rintro e w5 ⟨s, v, xs, rfl, hxl, hO5, hR5, hD5⟩
    obtain ⟨p5, c5, rfl, _h5⟩ := hO5.shape
    have hV5 := hV4.drB hD5 (by have := HSZ.out; omega) (by have := HR.out; have := HSZ.out; omega)
    have bb5 := bb4.trans ((hD5.mono (show w.heap.size ≤ w4.heap.size by have := HSZ.out; omega)).below (by have := HR.out; have := HSZ.out; omega))
    have s0 := hV5.c0
    have s1 := hV5.c1
    have s2 := hV5.f0
    have s3 := hV5.f1
    clear _h5 hV4 hD5 hR4 hR5 bb4 hO4 hM4
    go_wp2
    refine bodyPost_ret (v := .agg #[.int .i64 s, .slice p5 xs.length c5]) (by simp [results, Try.results28, go_sem, s0, s1, s2, s3]) rfl ⟨s, p5, c5, xs, rfl, hxl, ?_, ?_⟩
    · exact ((hO5.setBelow (by show w.heap.size < _; have := HSZ.out; omega) _).setBelow (by show w.heap.size < _; have := HSZ.out; omega) _).reads
    · exact (bb5.setCell (Nat.le_refl _) _).setCell (Nat.le_refl _) _
  · go_wp2_with fail
    generalize w3.alloc (.cells #[.int .i64 S, .slice q K.length d] 24) = w4 at *
    refine (pick_any R 21 3 w4 hR4 (by omega) (by omega) (by omega)).mono ?_
    rintro e w5 ⟨x, rfl, hx, hR5, hD5⟩
    have hV5 := hV4.drB hD5 (by have := HSZ.out; omega) (by have := HR.out; have := HSZ.out; omega)
    have bb5 := bb4.trans ((hD5.mono (show w.heap.size ≤ w4.heap.size by have := HSZ.out; omega)).below (by have := HR.out; have := HSZ.out; omega))
    have hM5 := hM4.drB hD5 (by omega) hRm
    have hO5 := hO4.dr hD5 (by have := HR.out; have := HSZ.out; omega)
    have z5 := hD5.size
    clear hV4 bb4 hM4 hO4 hR4 hD5
    by_cases h0 : x = 0
    · subst h0
      clear hM5 hO5
      go_wp2_with fail
      refine (l3Open_any R 22 w5 hR5 (by omega)).mono ?_
      rintro e w6 ⟨s, v, xs, rfl, hxl, hO6, hR6, hD6⟩
      obtain ⟨p6, c6, rfl, _h6⟩ := hO6.shape
      have hV6 := hV5.drB hD6 (by have := HSZ.out; omega) (by have := HR.out; have := HSZ.out; omega)
      have bb6 := bb5.trans ((hD6.mono (show w.heap.size ≤ w5.heap.size by have := HSZ.out; omega)).below (by have := HR.out; have := HSZ.out; omega))
      have s0 := hV6.c0
      have s1 := hV6.c1
      have s2 := hV6.f0
      have s3 := hV6.f1
      clear _h6 hV5 hD6 hR5 hR6 bb5
      go_wp2
      refine bodyPost_ret (v := .agg #[.int .i64 s, .slice p6 xs.length c6]) (by simp [results, Try.results28, go_sem, s0, s1, s2, s3]) rfl ⟨s, p6, c6, xs, rfl, hxl, ?_, ?_⟩
      · exact ((hO6.setBelow (by show w.heap.size < _; have := HSZ.out; omega) _).setBelow (by show w.heap.size < _; have := HSZ.out; omega) _).reads
      · exact (bb6.setCell (Nat.le_refl _) _).setCell (Nat.le_refl _) _
    · have hx1 : (0 : Int) < (x : Int) := by omega
      have m0 := hM5.c0
      have m1 := hM5.c1
      have s0 := hV5.c0
      have s1 := hV5.c1
      have s2 := hV5.f0
      have s3 := hV5.f1
      clear hR5
      go_wp2
      refine bodyPost_ret (v := .agg #[.int .i64 S, .slice q K.length d]) (by simp [results, Try.results28, go_sem, s0, s1, s2, s3]) rfl ⟨S, q, d, K, rfl, by omega, ?_, ?_⟩
      · exact ((hO5.setBelow (by show w.heap.size < _; have := HSZ.out; omega) _).setBelow (by show w.heap.size < _; have := HSZ.out; omega) _).reads
      · exact (bb5.setCell (Nat.le_refl _) _).setCell (Nat.le_refl _) _

end Go.Proofs.Ytmbipmdflbddbaa
