/- Two masses, one of which is often a specialization of the other one, opened. -/
import Derived.Test.YtjmfjgoehicgcaaDH
import Derived.Test.YtjmfjgoehicgcaaDD
set_option linter.unusedVariables false
set_option linter.unusedSimpArgs false
namespace Go.Proofs.Ytjmfjgoehicgcaa
open Go.RowKit

set_option maxHeartbeats 1000000 in
theorem DrawMorePossible_any (a0 : Option Addr) (c0 : Nat) (bs : List Int) (w : World) (hx : ReadsK .u8 w a0 bs) (hwf : ∀ n ∈ bs, (Lit.int .u8 n).wf = true) (hl : bs.length ≤ maxLen) (hc : bs.length ≤ c0) :
    Calls Try.prog 25 #[.slice a0 bs.length c0] w (OutPair w) := by
  obtain ⟨W, hW, hsz, hbW, hV, hU⟩ := twoV w
  have hxW := hx.below hbW
  have HSZ := Lib.hid hsz
  have HW := Lib.hid hW
  clear hW hsz hx
  have HO := Lib.hid (l14Open_any a0 c0 bs W hxW hwf hl hc)
  unfold maxLen at hl
  clear hxW hwf
  go_enter Try.func25, Try.ntmps25
  go_wp2_with fail
  rw [← HW.out]
  refine HO.out.mono ?_
  rintro e w1 ⟨rfl, hR1, b1⟩
  clear HO
  have hV1 := hV.later b1
  have hU1 := hU.later b1
  have bb1 := hbW.thenB b1
  have z1 := b1.size
  obtain ⟨R, hRe⟩ : ∃ R, R = W.heap.size := ⟨_, rfl⟩
  rw [← hRe] at hR1 ⊢
  have HR := Lib.hid hRe
  clear hRe hV hU hbW b1 hc
  have hRlt := hR1.lt
  go_wp2_with fail
  refine (l8Pair_any R 0 w1 hR1 (by omega)).mono ?_
  rintro e w2 ⟨s, v, xs, t, u, ys, rfl, hxl, hyl, hO, hY, hR2, hD2⟩
  obtain ⟨p, c, rfl, hr⟩ := hO.shape
  obtain ⟨q, d, rfl, hr2⟩ := hY.shape
  have hV2 := hV1.drB hD2 (by have := HSZ.out; omega) (by have := HR.out; have := HSZ.out; omega)
  have hU2 := hU1.drB hD2 (by have := HSZ.out; omega) (by have := HR.out; have := HSZ.out; omega)
  have bb2 := bb1.trans ((hD2.mono (show w.heap.size ≤ w1.heap.size by have := HSZ.out; omega)).below (by have := HR.out; have := HSZ.out; omega))
  have s0 := hV2.c0
  have s1 := hV2.c1
  have s2 := hV2.f0
  have s3 := hV2.f1
  have u0 := hU2.c0
  have u1 := hU2.c1
  have u2 := hU2.f0
  have u3 := hU2.f1
  clear hr hr2 hV1 hU1 hD2 hR1 hR2 bb1
  go_wp2
  refine bodyPost_ret (v := .tuple #[.agg #[.int .i64 s, .slice p xs.length c], .agg #[.int .i64 t, .slice q ys.length d]]) (by simp [results, Try.results25, go_sem, s0, s1, s2, s3, u0, u1, u2, u3]) rfl ⟨s, p, c, xs, t, q, d, ys, rfl, hxl, hyl, ?_, ?_, ?_⟩
  · exact ((((hO.setBelow (by have := HSZ.out; first | omega | (simp; omega)) _).setBelow (by have := HSZ.out; first | omega | (simp; omega)) _).setBelow (by have := HSZ.out; first | omega | (simp; omega)) _).setBelow (by have := HSZ.out; first | omega | (simp; omega)) _).reads
  · exact ((((hY.setBelow (by have := HSZ.out; first | omega | (simp; omega)) _).setBelow (by have := HSZ.out; first | omega | (simp; omega)) _).setBelow (by have := HSZ.out; first | omega | (simp; omega)) _).setBelow (by have := HSZ.out; first | omega | (simp; omega)) _).reads
  · exact (((bb2.setCell (by first | omega | simp) _).setCell (by first | omega | simp) _).setCell (by first | omega | simp) _).setCell (by first | omega | simp) _

set_option maxHeartbeats 1000000 in
theorem DrawLeastCommitted_any (a0 : Option Addr) (c0 : Nat) (bs : List Int) (w : World) (hx : ReadsK .u8 w a0 bs) (hwf : ∀ n ∈ bs, (Lit.int .u8 n).wf = true) (hl : bs.length ≤ maxLen) (hc : bs.length ≤ c0) :
    Calls Try.prog 40 #[.slice a0 bs.length c0] w (OutPair w) := by
  obtain ⟨W, hW, hsz, hbW, hV, hU⟩ := twoV w
  have hxW := hx.below hbW
  have HSZ := Lib.hid hsz
  have HW := Lib.hid hW
  clear hW hsz hx
  have HO := Lib.hid (l14Open_any a0 c0 bs W hxW hwf hl hc)
  unfold maxLen at hl
  clear hxW hwf
  go_enter Try.func40, Try.ntmps40
  go_wp2_with fail
  rw [← HW.out]
  refine HO.out.mono ?_
  rintro e w1 ⟨rfl, hR1, b1⟩
  clear HO
  have hV1 := hV.later b1
  have hU1 := hU.later b1
  have bb1 := hbW.thenB b1
  have z1 := b1.size
  obtain ⟨R, hRe⟩ : ∃ R, R = W.heap.size := ⟨_, rfl⟩
  rw [← hRe] at hR1 ⊢
  have HR := Lib.hid hRe
  clear hRe hV hU hbW b1 hc
  have hRlt := hR1.lt
  go_wp2_with fail
  refine (l8Pair_any R 0 w1 hR1 (by omega)).mono ?_
  rintro e w2 ⟨s, v, xs, t, u, ys, rfl, hxl, hyl, hO, hY, hR2, hD2⟩
  obtain ⟨p, c, rfl, hr⟩ := hO.shape
  obtain ⟨q, d, rfl, hr2⟩ := hY.shape
  have hV2 := hV1.drB hD2 (by have := HSZ.out; omega) (by have := HR.out; have := HSZ.out; omega)
  have hU2 := hU1.drB hD2 (by have := HSZ.out; omega) (by have := HR.out; have := HSZ.out; omega)
  have bb2 := bb1.trans ((hD2.mono (show w.heap.size ≤ w1.heap.size by have := HSZ.out; omega)).below (by have := HR.out; have := HSZ.out; omega))
  have s0 := hV2.c0
  have s1 := hV2.c1
  have s2 := hV2.f0
  have s3 := hV2.f1
  have u0 := hU2.c0
  have u1 := hU2.c1
  have u2 := hU2.f0
  have u3 := hU2.f1
  clear hr hr2 hV1 hU1 hD2 hR1 hR2 bb1
  go_wp2
  refine bodyPost_ret (v := .tuple #[.agg #[.int .i64 s, .slice p xs.length c], .agg #[.int .i64 t, .slice q ys.length d]]) (by simp [results, Try.results40, go_sem, s0, s1, s2, s3, u0, u1, u2, u3]) rfl ⟨s, p, c, xs, t, q, d, ys, rfl, hxl, hyl, ?_, ?_, ?_⟩
  · exact ((((hO.setBelow (by have := HSZ.out; first | omega | (simp; omega)) _).setBelow (by have := HSZ.out; first | omega | (simp; omega)) _).setBelow (by have := HSZ.out; first | omega | (simp; omega)) _).setBelow (by have := HSZ.out; first | omega | (simp; omega)) _).reads
  · exact ((((hY.setBelow (by have := HSZ.out; first | omega | (simp; omega)) _).setBelow (by have := HSZ.out; first | omega | (simp; omega)) _).setBelow (by have := HSZ.out; first | omega | (simp; omega)) _).setBelow (by have := HSZ.out; first | omega | (simp; omega)) _).reads
  · exact (((bb2.setCell (by first | omega | simp) _).setCell (by first | omega | simp) _).setCell (by first | omega | simp) _).setCell (by first | omega | simp) _

set_option maxHeartbeats 1000000 in
theorem DrawIsSpecialized_any (a0 : Option Addr) (c0 : Nat) (bs : List Int) (w : World) (hx : ReadsK .u8 w a0 bs) (hwf : ∀ n ∈ bs, (Lit.int .u8 n).wf = true) (hl : bs.length ≤ maxLen) (hc : bs.length ≤ c0) :
    Calls Try.prog 45 #[.slice a0 bs.length c0] w (OutPair w) := by
  obtain ⟨W, hW, hsz, hbW, hV, hU⟩ := twoV w
  have hxW := hx.below hbW
  have HSZ := Lib.hid hsz
  have HW := Lib.hid hW
  clear hW hsz hx
  have HO := Lib.hid (l14Open_any a0 c0 bs W hxW hwf hl hc)
  unfold maxLen at hl
  clear hxW hwf
  go_enter Try.func45, Try.ntmps45
  go_wp2_with fail
  rw [← HW.out]
  refine HO.out.mono ?_
  rintro e w1 ⟨rfl, hR1, b1⟩
  clear HO
  have hV1 := hV.later b1
  have hU1 := hU.later b1
  have bb1 := hbW.thenB b1
  have z1 := b1.size
  obtain ⟨R, hRe⟩ : ∃ R, R = W.heap.size := ⟨_, rfl⟩
  rw [← hRe] at hR1 ⊢
  have HR := Lib.hid hRe
  clear hRe hV hU hbW b1 hc
  have hRlt := hR1.lt
  go_wp2_with fail
  refine (l8Pair_any R 0 w1 hR1 (by omega)).mono ?_
  rintro e w2 ⟨s, v, xs, t, u, ys, rfl, hxl, hyl, hO, hY, hR2, hD2⟩
  obtain ⟨p, c, rfl, hr⟩ := hO.shape
  obtain ⟨q, d, rfl, hr2⟩ := hY.shape
  have hV2 := hV1.drB hD2 (by have := HSZ.out; omega) (by have := HR.out; have := HSZ.out; omega)
  have hU2 := hU1.drB hD2 (by have := HSZ.out; omega) (by have := HR.out; have := HSZ.out; omega)
  have bb2 := bb1.trans ((hD2.mono (show w.heap.size ≤ w1.heap.size by have := HSZ.out; omega)).below (by have := HR.out; have := HSZ.out; omega))
  have s0 := hV2.c0
  have s1 := hV2.c1
  have s2 := hV2.f0
  have s3 := hV2.f1
  have u0 := hU2.c0
  have u1 := hU2.c1
  have u2 := hU2.f0
  have u3 := hU2.f1
  clear hr hr2 hV1 hU1 hD2 hR1 hR2 bb1
  go_wp2
  refine bodyPost_ret (v := .tuple #[.agg #[.int .i64 s, .slice p xs.length c], .agg #[.int .i64 t, .slice q ys.length d]]) (by simp [results, Try.results45, go_sem, s0, s1, s2, s3, u0, u1, u2, u3]) rfl ⟨s, p, c, xs, t, q, d, ys, rfl, hxl, hyl, ?_, ?_, ?_⟩
  · exact ((((hO.setBelow (by have := HSZ.out; first | omega | (simp; omega)) _).setBelow (by have := HSZ.out; first | omega | (simp; omega)) _).setBelow (by have := HSZ.out; first | omega | (simp; omega)) _).setBelow (by have := HSZ.out; first | omega | (simp; omega)) _).reads
  · exact ((((hY.setBelow (by have := HSZ.out; first | omega | (simp; omega)) _).setBelow (by have := HSZ.out; first | omega | (simp; omega)) _).setBelow (by have := HSZ.out; first | omega | (simp; omega)) _).setBelow (by have := HSZ.out; first | omega | (simp; omega)) _).reads
  · exact (((bb2.setCell (by first | omega | simp) _).setCell (by first | omega | simp) _).setCell (by first | omega | simp) _).setCell (by first | omega | simp) _

set_option maxHeartbeats 1000000 in
theorem DrawMovedParts_any (a0 : Option Addr) (c0 : Nat) (bs : List Int) (w : World) (hx : ReadsK .u8 w a0 bs) (hwf : ∀ n ∈ bs, (Lit.int .u8 n).wf = true) (hl : bs.length ≤ maxLen) (hc : bs.length ≤ c0) :
    Calls Try.prog 51 #[.slice a0 bs.length c0] w (OutPair w) := by
  obtain ⟨W, hW, hsz, hbW, hV, hU⟩ := twoV w
  have hxW := hx.below hbW
  have HSZ := Lib.hid hsz
  have HW := Lib.hid hW
  clear hW hsz hx
  have HO := Lib.hid (l14Open_any a0 c0 bs W hxW hwf hl hc)
  unfold maxLen at hl
  clear hxW hwf
  go_enter Try.func51, Try.ntmps51
  go_wp2_with fail
  rw [← HW.out]
  refine HO.out.mono ?_
  rintro e w1 ⟨rfl, hR1, b1⟩
  clear HO
  have hV1 := hV.later b1
  have hU1 := hU.later b1
  have bb1 := hbW.thenB b1
  have z1 := b1.size
  obtain ⟨R, hRe⟩ : ∃ R, R = W.heap.size := ⟨_, rfl⟩
  rw [← hRe] at hR1 ⊢
  have HR := Lib.hid hRe
  clear hRe hV hU hbW b1 hc
  have hRlt := hR1.lt
  go_wp2_with fail
  refine (l8Pair_any R 0 w1 hR1 (by omega)).mono ?_
  rintro e w2 ⟨s, v, xs, t, u, ys, rfl, hxl, hyl, hO, hY, hR2, hD2⟩
  obtain ⟨p, c, rfl, hr⟩ := hO.shape
  obtain ⟨q, d, rfl, hr2⟩ := hY.shape
  have hV2 := hV1.drB hD2 (by have := HSZ.out; omega) (by have := HR.out; have := HSZ.out; omega)
  have hU2 := hU1.drB hD2 (by have := HSZ.out; omega) (by have := HR.out; have := HSZ.out; omega)
  have bb2 := bb1.trans ((hD2.mono (show w.heap.size ≤ w1.heap.size by have := HSZ.out; omega)).below (by have := HR.out; have := HSZ.out; omega))
  have s0 := hV2.c0
  have s1 := hV2.c1
  have s2 := hV2.f0
  have s3 := hV2.f1
  have u0 := hU2.c0
  have u1 := hU2.c1
  have u2 := hU2.f0
  have u3 := hU2.f1
  clear hr hr2 hV1 hU1 hD2 hR1 hR2 bb1
  go_wp2
  refine bodyPost_ret (v := .tuple #[.agg #[.int .i64 s, .slice p xs.length c], .agg #[.int .i64 t, .slice q ys.length d]]) (by simp [results, Try.results51, go_sem, s0, s1, s2, s3, u0, u1, u2, u3]) rfl ⟨s, p, c, xs, t, q, d, ys, rfl, hxl, hyl, ?_, ?_, ?_⟩
  · exact ((((hO.setBelow (by have := HSZ.out; first | omega | (simp; omega)) _).setBelow (by have := HSZ.out; first | omega | (simp; omega)) _).setBelow (by have := HSZ.out; first | omega | (simp; omega)) _).setBelow (by have := HSZ.out; first | omega | (simp; omega)) _).reads
  · exact ((((hY.setBelow (by have := HSZ.out; first | omega | (simp; omega)) _).setBelow (by have := HSZ.out; first | omega | (simp; omega)) _).setBelow (by have := HSZ.out; first | omega | (simp; omega)) _).setBelow (by have := HSZ.out; first | omega | (simp; omega)) _).reads
  · exact (((bb2.setCell (by first | omega | simp) _).setCell (by first | omega | simp) _).setCell (by first | omega | simp) _).setCell (by first | omega | simp) _

end Go.Proofs.Ytjmfjgoehicgcaa
