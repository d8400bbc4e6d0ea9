/- A mass without the part of the set without answers: both packages. -/
import Derived.Test.YtkpnenbkfphldaaL6
set_option linter.unusedVariables false
set_option linter.unusedSimpArgs false
namespace Go.Proofs.Ytkpnenbkfphldaa
open Go.RowKit

theorem nonP_wide (xs : List Int) (h : allB 0 1000000 xs = true) : allB 0 4611686018427387904 xs = true := allB_wider h (by omega) (by omega)
theorem nmR_len (s : Int) (xs : List Int) (h : xs.length ≤ 1048576) : (gL (massB s xs) s (nonP xs)).length ≤ xs.length := by
  have := gL_len (massB s xs) s (nonP xs)
  rw [nonP_len] at this; exact this

set_option maxHeartbeats 1000000 in
theorem iNormalMass_any (s : Int) (p : Option Addr) (c : Nat) (xs : List Int) (w : World) (hx : Reads w p xs) (hxm : xs.length ≤ 1048576) :
    Calls Try.prog 29 #[.agg #[.int .i64 s, .slice p xs.length c]] w fun e w' => ∃ v, e = .returned (.tuple #[.agg #[.int .i64 (gS (massB s xs) s (nonP xs)), v], .bool (gOk (massB s xs) s (nonP xs))]) ∧ Own w.heap.size w' v (gL (massB s xs) s (nonP xs)) ∧ Below w.heap.size w w' := by
  obtain ⟨W, hW, hbW, hsz, hM, hR⟩ := boxR w s p xs.length c
  have hxW := hx.below hbW
  have HWW := Lib.hid hW
  have HSZ := Lib.hid hsz
  clear hW hsz hx
  cases hg : massB s xs
  · obtain ⟨hS, hO, hL⟩ := gNo (s := s) (L := nonP xs) (g := false) rfl
    have hS := Lib.hid hS
    have hO := Lib.hid hO
    have hL := Lib.hid hL
    have m0 := hM.c0
    have m1 := hM.c1
    go_enter Try.func29, Try.ntmps29
    go_wp2_with fail
    rw [← HWW.out]
    refine (isMass_any _ _ _ _ _ hxW hxm).mono ?_
    rintro e w1 ⟨rfl, hb1⟩
    rw [hg]
    have jR := hR.later hb1
    have s0 := jR.c0
    have s1 := jR.c1
    have s2 := jR.f0
    have s3 := jR.f1
    clear m0 m1
    go_wp2
    refine bodyPost_ret (v := .tuple #[.agg #[.int .i64 0, .slice none 0 0], .bool false]) (by simp [results, Try.results29, go_sem, s0, s1, s2, s3]) rfl ⟨_, by rw [hS.out, hO.out], by rw [hL.out]; exact Own.nil _ _, ?_⟩
    exact ((hbW.thenB hb1).setCell (by show _ ≤ w.heap.size + 1; omega) _).setCell (by show _ ≤ w.heap.size + 1; omega) _
  · have hk := massB_ok hg
    obtain ⟨hS, hO, hL⟩ := gYes (s := s) (L := nonP xs) (g := true) rfl
    have hS := Lib.hid hS
    have hO := Lib.hid hO
    have hL := Lib.hid hL
    have l16 := hk.l16
    have hl1 : 1 ≤ xs.length := by have := hk.len; have := pow2_bd s hk.s1 hk.s4; omega
    have HP := Lib.hid (nonP_wide xs hk.all)
    have m0 := hM.c0
    have m1 := hM.c1
    clear hk
    go_enter Try.func29, Try.ntmps29
    go_wp2_with fail
    rw [← HWW.out]
    refine (isMass_any _ _ _ _ _ hxW hxm).mono ?_
    rintro e w1 ⟨rfl, hb1⟩
    rw [hg]
    clear m0 m1
    have jM := hM.later hb1
    have jR := hR.later hb1
    have m0 := jM.c0
    have m1 := jM.c1
    have hx1 := hxW.below hb1
    go_wp2_with fail
    refine (withoutNone_n s p c xs.length xs w1 rfl hx1 l16 hl1 HP.out).mono ?_
    rintro e w2 ⟨v, rfl, ho, hb2⟩
    have jR2 := jR.later hb2
    have s0 := jR2.c0
    have s1 := jR2.c1
    have s2 := jR2.f0
    have s3 := jR2.f1
    have z1 := hb1.size
    have z2 := hb2.size
    obtain ⟨pv, cv, rfl, _hv⟩ := ho.shape
    clear m0 m1 _hv
    go_wp2
    refine bodyPost_ret (v := .tuple #[.agg #[.int .i64 (mkS s (nonP xs)), .slice pv (mkL s (nonP xs)).length cv], .bool (mkOk s (nonP xs))]) (by simp [results, Try.results29, go_sem, s0, s1, s2, s3]) rfl ⟨_, by rw [hS.out, hO.out], ?_, ?_⟩
    · rw [hL.out]; exact ((ho.setBelow (by show w.heap.size + 1 < _; have := HSZ.out; omega) _).setBelow (by show w.heap.size + 1 < _; have := HSZ.out; omega) _).mono (by have := HSZ.out; omega)
    · exact (((hbW.thenB hb1).thenB hb2).setCell (by show _ ≤ w.heap.size + 1; omega) _).setCell (by show _ ≤ w.heap.size + 1; omega) _

end Go.Proofs.Ytkpnenbkfphldaa
