/- Fractions that are multiplied, shares of a mass, no evidence. -/
import Derived.Test.YtjmfjgoehicgcaaE2
import Derived.Test.YtjmfjgoehicgcaaMZ
set_option linter.unusedVariables false
set_option linter.unusedSimpArgs false
namespace Go.Proofs.Ytjmfjgoehicgcaa
open Go.RowKit

def neS (s : Int) : Int := if szB s = true then s else 0
def neL (s : Int) : List Int := if szB s = true then sureL (pow2 s).toNat ((pow2 s).toNat - 1) else []

set_option maxHeartbeats 1000000 in
theorem iNoEvidence_any (s : Int) (w : World) :
    Calls Try.prog 33 #[.int .i64 s] w fun e w' => ∃ v, e = .returned (.tuple #[.agg #[.int .i64 (neS s), v], .bool (szB s)]) ∧ Own w.heap.size w' v (neL s) ∧ Below w.heap.size w w' := by
  obtain ⟨W, hW⟩ : ∃ W : World, W = w.alloc (.cells #[.int .i64 0, .slice none 0 0] 27) := ⟨_, rfl⟩
  have hbW : Below w.heap.size w W := by subst hW; exact belowAlloc _ _
  have hsz : W.heap.size = w.heap.size + 1 := by subst hW; simp
  have hR : VarInv W w.heap.size 0 (.slice none 0 0) := by subst hW; exact VarInv.made _ _ _ _
  have HWW := Lib.hid hW
  have HSZ := Lib.hid hsz
  have s0 := hR.c0
  have s1 := hR.c1
  have s2 := hR.f0
  have s3 := hR.f1
  clear hW hsz
  cases h1 : szB s
  · have HS : Hid (neS s = 0 ∧ neL s = []) := Lib.hid (by simp [neS, neL, h1])
    have H1 := Lib.hid h1
    clear h1
    go_enter Try.func33, Try.ntmps33
    go_wp2_with fail
    rw [← HWW.out]
    refine (isSize_any _ _).mono ?_
    rintro e w' ⟨rfl, rfl⟩
    rw [H1.out]
    go_wp2
    refine bodyPost_ret (v := .tuple #[.agg #[.int .i64 0, .slice none 0 0], .bool false]) (by simp [results, Try.results33, go_sem, s0, s1, s2, s3]) rfl ⟨_, by rw [HS.out.1], by rw [HS.out.2]; exact Own.nil _ _, ?_⟩
    exact (hbW.setCell (by show _ ≤ w.heap.size; omega) _).setCell (by show _ ≤ w.heap.size; omega) _
  · have k14 : 1 ≤ s ∧ s ≤ 4 := by simpa [szB, inB] using h1
    obtain ⟨k1, k4⟩ := k14
    have HS : Hid (neS s = s ∧ neL s = sureL (pow2 s).toNat ((pow2 s).toNat - 1)) := Lib.hid (by simp [neS, neL, h1])
    have hpb := pow2_bd s k1 k4
    obtain ⟨N, hN⟩ : ∃ N : Nat, (N : Int) = pow2 s := ⟨(pow2 s).toNat, by omega⟩
    have hN16 : N ≤ 16 := by omega
    have hNt : Hid ((pow2 s).toNat = N) := Lib.hid (by omega)
    have HN := Lib.hid hN
    have hN2 : 2 ≤ N := by omega
    have HT : Hid (pow2 s - 1 = ((N - 1 : Nat) : Int)) := Lib.hid (by omega)
    have H1 := Lib.hid h1
    clear h1 hN hpb
    go_enter Try.func33, Try.ntmps33
    go_wp2_with fail
    rw [← HWW.out]
    refine (isSize_any _ _).mono ?_
    rintro e w' ⟨rfl, rfl⟩
    rw [H1.out]
    go_wp2_with fail
    refine (fullSetR_any s _ k1 k4).mono ?_
    rintro e w' ⟨rfl, rfl⟩
    go_wp2_with fail
    refine (sureMass_v s (pow2 s - 1) (N - 1) N _ HT.out k1 k4 HN.out (by omega) hN16).mono ?_
    rintro e w1 ⟨v, rfl, ho, hb1⟩
    obtain ⟨p2, c2, rfl, _hr⟩ := ho.shape
    have jR := hR.later hb1
    clear s0 s1 s2 s3 _hr
    have s0 := jR.c0
    have s1 := jR.c1
    have s2 := jR.f0
    have s3 := jR.f1
    have z1 := hb1.size
    go_wp2
    refine bodyPost_ret (v := .tuple #[.agg #[.int .i64 s, .slice p2 (sureL N (N - 1)).length c2], .bool true]) (by simp [results, Try.results33, go_sem, s0, s1, s2, s3]) rfl ⟨_, by rw [HS.out.1], ?_, ?_⟩
    · rw [HS.out.2, hNt.out]; exact ((ho.setBelow (by show w.heap.size < _; have := HSZ.out; omega) _).setBelow (by show w.heap.size < _; have := HSZ.out; omega) _).mono (by have := HSZ.out; omega)
    · exact ((hbW.thenB hb1).setCell (by show _ ≤ w.heap.size; omega) _).setCell (by show _ ≤ w.heap.size; omega) _

end Go.Proofs.Ytjmfjgoehicgcaa
