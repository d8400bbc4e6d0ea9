/- Masses that are drawn, with fractions. -/
import Derived.Test.YtjmfjgoehicgcaaDF
import Derived.Test.YtjmfjgoehicgcaaD2
import Derived.Test.YtjmfjgoehicgcaaN2
import Derived.Test.YtjmfjgoehicgcaaMZ
set_option linter.unusedVariables false
set_option linter.unusedSimpArgs false
namespace Go.Proofs.Ytjmfjgoehicgcaa
open Go.RowKit

/-- A mass and a fraction that are drawn. -/
def OutMsFr (w : World) (e : Ending) (w' : World) : Prop := ∃ (s : Int) (p : Option Addr) (c : Nat) (xs : List Int) (n d : Int), e = .returned (.tuple #[.agg #[.int .i64 s, .slice p xs.length c], .agg #[.int .i64 n, .int .i64 d]]) ∧ xs.length ≤ 17 ∧ Own w.heap.size w' (.slice p xs.length c) xs ∧ Below w.heap.size w w'

theorem boxMF (w : World) : ∃ W : World, W = (w.alloc (.cells #[.int .i64 0, .slice none 0 0] 27)).alloc (.cells #[.int .i64 0, .int .i64 0] 32) ∧
    Below w.heap.size w W ∧ W.heap.size = w.heap.size + 2 ∧ VarInv W w.heap.size 0 (.slice none 0 0) ∧ VarInv W (w.heap.size + 1) 0 (.int .i64 0) := by
  obtain ⟨W1, hW1⟩ : ∃ W, W = w.alloc (.cells #[.int .i64 0, .slice none 0 0] 27) := ⟨_, rfl⟩
  have s1 : W1.heap.size = w.heap.size + 1 := by subst hW1; simp
  have b1 : Below w.heap.size w W1 := by subst hW1; exact belowAlloc _ _
  have v1 : VarInv W1 w.heap.size 0 (.slice none 0 0) := by subst hW1; exact VarInv.made _ _ _ _
  have b2 := belowAlloc W1 (.cells #[.int .i64 0, .int .i64 0] 32)
  have v2 := VarInv.made W1 0 (.int .i64 0) 32
  refine ⟨_, by rw [← hW1], b1.thenB b2, by simp [s1], v1.later b2, ?_⟩
  rw [← s1]; exact v2

set_option maxHeartbeats 4000000 in
set_option maxRecDepth 100000 in
theorem DrawDiscountMass_any (a0 : Option Addr) (c0 : Nat) (bs : List Int) (w : World) (hx : ReadsK .u8 w a0 bs) (hwf : ∀ n ∈ bs, (Lit.int .u8 n).wf = true) (hl : bs.length ≤ maxLen) (hc : bs.length ≤ c0) :
    Calls Try.prog 61 #[.slice a0 bs.length c0] w (OutMsFr w) := by
  obtain ⟨W, hW, hbW, hsz, hV, hF⟩ := boxMF w
  have hxW := hx.below hbW
  have HSZ := Lib.hid hsz
  have HW := Lib.hid hW
  clear hW hsz hx
  have HO := Lib.hid (l14Open_any a0 c0 bs W hxW hwf hl hc)
  unfold maxLen at hl
  clear hxW hwf
  go_enter Try.func61, Try.ntmps61
  go_wp2_with fail
  rw [← HW.out]
  refine HO.out.mono ?_
  rintro e w1 ⟨rfl, hR1, b1⟩
  clear HO
  have hV1 := hV.later b1
  have hF1 := hF.later b1
  have bb1 := hbW.thenB b1
  have z1 := b1.size
  obtain ⟨R, hRe⟩ : ∃ R, R = W.heap.size := ⟨_, rfl⟩
  rw [← hRe] at hR1 ⊢
  have HR := Lib.hid hRe
  clear hRe hV hF hbW b1 hc
  have hRlt := hR1.lt
  go_wp2_with fail
  refine (l3Open_any R 0 w1 hR1 (by omega)).mono ?_
  rintro e w2 ⟨s, v, xs, rfl, hxl, hO2, hR2, hD2⟩
  obtain ⟨p, c, rfl, _hr⟩ := hO2.shape
  have hV2 := hV1.drB hD2 (by have := HSZ.out; omega) (by have := HR.out; have := HSZ.out; omega)
  have hF2 := hF1.drB hD2 (by have := HSZ.out; omega) (by have := HR.out; have := HSZ.out; omega)
  have bb2 := bb1.trans ((hD2.mono (show w.heap.size ≤ w1.heap.size by have := HSZ.out; omega)).below (by have := HR.out; have := HSZ.out; omega))
  have z2 := hD2.size
  have b3 := belowAlloc w2 (.cells #[.int .i64 s, .slice p xs.length c] 27)
  have hM3 := VarInv.made w2 s (.slice p xs.length c) 27
  have hV3 := hV2.later b3
  have hF3 := hF2.later b3
  have hR3 := hR2.later b3
  have bb3 := bb2.thenB b3
  have hO3 := hO2.later b3
  have z3 : w2.heap.size + 1 ≤ (w2.alloc (.cells #[.int .i64 s, .slice p xs.length c] 27)).heap.size := by simp
  have hBR : w2.heap.size ≠ R := by have := hR2.lt; omega
  clear _hr hV1 hF1 hD2 hR1 bb1 hO2 hV2 hF2 hR2 bb2 b3
  go_wp2_with fail
  generalize w2.alloc (.cells #[.int .i64 s, .slice p xs.length c] 27) = w4 at *
  have hM := hM3.drew
  have hV := hV3.drew
  have hF := hF3.drew
  have hR := hR3.drew
  have hO := hO3.drew
  have bb := drewAll bb3
  clear hM3 hV3 hF3 hR3 hO3 bb3
  have m0 := hM.c0
  have m1 := hM.c1
  have s0 := hV.c0
  have s1 := hV.c1
  have s2 := hV.f0
  have s3 := hV.f1
  have f0 := hF.c0
  have f1 := hF.c1
  have f2 := hF.f0
  have f3 := hF.f1
  have tk : True := trivial
  have zz : w4.drew.heap.size = w4.heap.size := rfl
  go_region_held3 (fun w' => w'.cell? ⟨w2.heap.size, 0, none⟩ = some (.int .i64 s) ∧ w'.cell? ⟨w2.heap.size, 1, none⟩ = some (.slice p xs.length c))
    (first | exact ⟨m0, m1⟩ | (refine ⟨cellStore2 m0 ?_, cellStore2 m1 ?_⟩ <;> (have := HSZ.out; omega)) | (refine ⟨cellStore2 (cellStore2 m0 ?_) ?_, cellStore2 (cellStore2 m1 ?_) ?_⟩ <;> (have := HSZ.out; omega)))
    (first
      | (go_at_call 98; have _t := tk; (with_reducible refine (l3Part_any R 23 _ hR (by omega)).mono ?_); rintro e w9 ⟨n, d, rfl, hR9, hD9⟩; (have hM9 := hM.drB hD9 hM.lt hBR); (have hV9 := hV.drB hD9 (by have := HSZ.out; omega) (by have := HR.out; have := HSZ.out; omega)); (have hF9 := hF.drB hD9 (by have := HSZ.out; omega) (by have := HR.out; have := HSZ.out; omega)); (have hO9 := hO.dr hD9 hRlt); (have bb9 := bb.trans ((hD9.mono (show w.heap.size ≤ w4.drew.heap.size by have := HSZ.out; omega)).below (by have := HR.out; have := HSZ.out; omega))); (have z9 := hD9.size); clear m0 m1 s0 s1 s2 s3 f0 f1 f2 f3; (have m0 := hM9.c0); (have m1 := hM9.c1); (have s0 := hV9.c0); (have s1 := hV9.c1); (have s2 := hV9.f0); (have s3 := hV9.f1); (have f0 := hF9.c0); (have f1 := hF9.c1); (have f2 := hF9.f0); (have f3 := hF9.f1); clear hM hV hF hR hO bb hD9 hR9 tk _t))
  all_goals go_wp2
  all_goals refine bodyPost_ret (v := .tuple #[.agg #[.int .i64 s, .slice p xs.length c], .agg #[.int .i64 n, .int .i64 d]]) (by simp [results, Try.results61, go_sem, s0, s1, s2, s3, f0, f1, f2, f3]) rfl ⟨s, p, c, xs, n, d, rfl, hxl, ?_, ?_⟩
  all_goals first
    | exact ((((hO9.setBelow (by show w.heap.size < _; have := HSZ.out; omega) _).setBelow (by show w.heap.size < _; have := HSZ.out; omega) _).setBelow (by show w.heap.size + 1 < _; have := HSZ.out; omega) _).setBelow (by show w.heap.size + 1 < _; have := HSZ.out; omega) _).mono (by have := HSZ.out; omega)
    | exact (((bb9.setCell (Nat.le_refl _) _).setCell (Nat.le_refl _) _).setCell (by show w.heap.size ≤ w.heap.size + 1; omega) _).setCell (by show w.heap.size ≤ w.heap.size + 1; omega) _

set_option maxHeartbeats 1000000 in
theorem DrawReliableMass_any (a0 : Option Addr) (c0 : Nat) (bs : List Int) (w : World) (hx : ReadsK .u8 w a0 bs) (hwf : ∀ n ∈ bs, (Lit.int .u8 n).wf = true) (hl : bs.length ≤ maxLen) (hc : bs.length ≤ c0) :
    Calls Try.prog 16 #[.slice a0 bs.length c0] w (OutMsFr w) := by
  obtain ⟨W, hW, hbW, hsz, hV, hF⟩ := boxMF w
  have HSZ := Lib.hid hsz
  have HW := Lib.hid hW
  have HO := Lib.hid (DrawDiscountMass_any a0 c0 bs W (hx.below hbW) hwf hl hc)
  clear hW hsz hx hwf hl hc
  go_enter Try.func16, Try.ntmps16
  go_wp2_with fail
  rw [← HW.out]
  refine HO.out.mono ?_
  rintro e w1 ⟨s, p, c, xs, n, d, rfl, hxl, hr, b1⟩
  have hV1 := hV.later b1
  have hF1 := hF.later b1
  have bb := hbW.thenB b1
  have z1 := b1.size
  have s0 := hV1.c0
  have s1 := hV1.c1
  have s2 := hV1.f0
  have s3 := hV1.f1
  have f0 := hF1.c0
  have f1 := hF1.c1
  have f2 := hF1.f0
  have f3 := hF1.f1
  clear hV hF b1 HO
  go_wp2
  refine bodyPost_ret (v := .tuple #[.agg #[.int .i64 s, .slice p xs.length c], .agg #[.int .i64 n, .int .i64 d]]) (by simp [results, Try.results16, go_sem, s0, s1, s2, s3, f0, f1, f2, f3]) rfl ⟨s, p, c, xs, n, d, rfl, hxl, ?_, ?_⟩
  · exact ((((hr.setBelow (by show w.heap.size < _; have := HSZ.out; omega) _).setBelow (by show w.heap.size < _; have := HSZ.out; omega) _).setBelow (by show w.heap.size + 1 < _; have := HSZ.out; omega) _).setBelow (by show w.heap.size + 1 < _; have := HSZ.out; omega) _).mono (by have := HSZ.out; omega)
  · exact (((bb.setCell (Nat.le_refl _) _).setCell (Nat.le_refl _) _).setCell (by show w.heap.size ≤ w.heap.size + 1; omega) _).setCell (by show w.heap.size ≤ w.heap.size + 1; omega) _

end Go.Proofs.Ytjmfjgoehicgcaa
