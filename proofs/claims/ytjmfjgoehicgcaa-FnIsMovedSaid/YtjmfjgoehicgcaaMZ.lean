/- Masses that are discounted. -/
import Derived.Test.YtjmfjgoehicgcaaMY
import Derived.Test.YtjmfjgoehicgcaaD3
import Derived.Test.YtjmfjgoehicgcaaMgDJ
set_option linter.unusedVariables false
set_option linter.unusedSimpArgs false
namespace Go.Proofs.Ytjmfjgoehicgcaa
open Go.RowKit

/-- The mass that knows nothing but that an answer is there. -/
def fuL (xs : List Int) : List Int := sureL xs.length (xs.length - 1)
theorem fuL_len (xs : List Int) : (fuL xs).length = xs.length := sureL_len _ _

theorem box3F (w : World) (s n d : Int) (p : Option Addr) (m c : Nat) : ∃ W : World, W = ((w.alloc (.cells #[.int .i64 s, .slice p m c] 27)).alloc (.cells #[.int .i64 n, .int .i64 d] 32)).alloc (.cells #[.int .i64 0, .slice none 0 0] 27) ∧
    Below w.heap.size w W ∧ W.heap.size = w.heap.size + 3 ∧ VarInv W w.heap.size s (.slice p m c) ∧ VarInv W (w.heap.size + 1) n (.int .i64 d) ∧ VarInv W (w.heap.size + 2) 0 (.slice none 0 0) := by
  obtain ⟨W1, hW1⟩ : ∃ W, W = w.alloc (.cells #[.int .i64 s, .slice p m c] 27) := ⟨_, rfl⟩
  obtain ⟨W2, hW2⟩ : ∃ W, W = W1.alloc (.cells #[.int .i64 n, .int .i64 d] 32) := ⟨_, rfl⟩
  have s1 : W1.heap.size = w.heap.size + 1 := by subst hW1; simp
  have s2 : W2.heap.size = w.heap.size + 2 := by subst hW2; simp [s1]
  have b1 : Below w.heap.size w W1 := by subst hW1; exact belowAlloc _ _
  have b2 : Below W1.heap.size W1 W2 := by subst hW2; exact belowAlloc _ _
  have v1 : VarInv W1 w.heap.size s (.slice p m c) := by subst hW1; exact VarInv.made _ _ _ _
  have v2 : VarInv W2 W1.heap.size n (.int .i64 d) := by subst hW2; exact VarInv.made _ _ _ _
  have b3 := belowAlloc W2 (.cells #[.int .i64 0, .slice none 0 0] 27)
  have v3 := VarInv.made W2 0 (.slice none 0 0) 27
  refine ⟨W2.alloc (.cells #[.int .i64 0, .slice none 0 0] 27), by rw [hW2, hW1], (b1.thenB b2).thenB b3, by simp [s2], (v1.later b2).later b3, ?_, ?_⟩
  · rw [← s1]; exact v2.later b3
  · rw [← s2]; exact v3

theorem sureMass_v (s t : Int) (a n : Nat) (w : World) (ht : t = (a : Int)) (h1 : 1 ≤ s) (h4 : s ≤ 4) (hn : (n : Int) = pow2 s) (ha : a < n) (hn16 : n ≤ 16) :
    Calls Try.prog 84 #[.int .i64 s, .int .i64 t] w fun e w' => ∃ v, e = .returned (.agg #[.int .i64 s, v]) ∧ Own w.heap.size w' v (sureL n a) ∧ Below w.heap.size w w' := by
  subst ht; exact sureMass_any s a n w h1 h4 hn ha hn16


set_option maxHeartbeats 4000000 in
set_option maxRecDepth 100000 in
theorem sDisc_any (s : Int) (p : Option Addr) (c : Nat) (xs : List Int) (n d : Int) (w : World) (hx : Reads w p xs) (hxm : xs.length ≤ 1048576) :
    Calls Try.prog 111 #[.agg #[.int .i64 s, .slice p xs.length c], .agg #[.int .i64 n, .int .i64 d]] w fun e w' => ∃ v, e = .returned (.tuple #[.agg #[.int .i64 (gS (mixG s xs s (fuL xs) n d) s (mixP xs (fuL xs) n d)), v], .bool (gOk (mixG s xs s (fuL xs) n d) s (mixP xs (fuL xs) n d))]) ∧ Own w.heap.size w' v (gL (mixG s xs s (fuL xs) n d) s (mixP xs (fuL xs) n d)) ∧ Below w.heap.size w w' := by
  obtain ⟨W, hW, hbW, hsz, hM, hN, hR⟩ := box3F w s n d p xs.length c
  have hxW := hx.below hbW
  have HWW := Lib.hid hW
  have HSZ := Lib.hid hsz
  clear hW hsz hx
  have m0 := hM.c0
  have m1 := hM.c1
  by_cases hg : massB s xs = true
  rotate_left
  · replace hg : massB s xs = false := by simpa using hg
    obtain ⟨hS, hO, hL⟩ := gNo (s := s) (L := mixP xs (fuL xs) n d) (g := mixG s xs s (fuL xs) n d) (by simp [mixG, bothB, hg])
    have hS := Lib.hid hS
    have hO := Lib.hid hO
    have hL := Lib.hid hL
    have HG := Lib.hid hg
    clear hg
    go_enter Try.func111, Try.ntmps111
    go_wp2_with fail
    rw [← HWW.out]
    refine (MassValid_any _ _ _ _ _ hxW hxm).mono ?_
    rintro e w1 ⟨rfl, hb1⟩
    rw [HG.out]
    have jR := hR.later hb1
    have s0 := jR.c0
    have s1 := jR.c1
    have s2 := jR.f0
    have s3 := jR.f1
    clear m0 m1
    go_wp2
    refine bodyPost_ret (v := .tuple #[.agg #[.int .i64 0, .slice none 0 0], .bool false]) (by simp [results, Try.results111, go_sem, s0, s1, s2, s3]) rfl ⟨_, by rw [hS.out, hO.out], by rw [hL.out]; exact Own.nil _ _, ?_⟩
    exact ((hbW.thenB hb1).setCell (by show _ ≤ w.heap.size + 2; omega) _).setCell (by show _ ≤ w.heap.size + 2; omega) _
  · have hk := massB_ok hg
    have HG := Lib.hid hg
    have k1 := hk.s1
    have k4 := hk.s4
    have hl16 := hk.l16
    have hl1 : 2 ≤ xs.length := by have := hk.len; have := pow2_bd s hk.s1 hk.s4; omega
    have HN := Lib.hid hk.len
    have HT : Hid (((xs.length : Int) - 1) = ((xs.length - 1 : Nat) : Int)) := Lib.hid (by have := hk.len; omega)
    have HA : Hid (xs.length - 1 < xs.length) := Lib.hid (by omega)
    have HFL : Hid ((fuL xs).length ≤ 1048576) := Lib.hid (by rw [fuL_len]; exact hxm)
    have hwx : IntKind.i64.wrap ((xs.length : Int) - 1) = (xs.length : Int) - 1 := IntWalk.i64_in _ (by omega)
    clear hg hk
    go_enter Try.func111, Try.ntmps111
    go_wp2_with fail
    rw [← HWW.out]
    refine (MassValid_any _ _ _ _ _ hxW hxm).mono ?_
    rintro e w1 ⟨rfl, hb1⟩
    rw [HG.out]
    clear m0 m1
    have hz1 := hb1.size
    have jM := (hM.later hb1).drew
    have jN := (hN.later hb1).drew
    have jR := (hR.later hb1).drew
    have bb := drewAll (hbW.thenB hb1)
    have m0 := jM.c0
    have m1 := jM.c1
    have n0 := jN.c0
    have n1 := jN.c1
    have hx1 := (hxW.below hb1).drew
    have s0 := jR.c0
    have s1 := jR.c1
    have s2 := jR.f0
    have s3 := jR.f1
    have hzd : w1.drew.heap.size = w1.heap.size := rfl
    have tkA : True := trivial
    have tkB : True := trivial
    clear hb1 hxW hM hN hR hbW
    go_wp2_with fail
    go_region_held3 (fun w' => w'.cell? ⟨w.heap.size, 0, none⟩ = some (.int .i64 s) ∧ w'.cell? ⟨w.heap.size, 1, none⟩ = some (.slice p xs.length c) ∧ w'.cell? ⟨w.heap.size + 1, 0, none⟩ = some (.int .i64 n) ∧ w'.cell? ⟨w.heap.size + 1, 1, none⟩ = some (.int .i64 d))
      (first | exact ⟨m0, m1, n0, n1⟩ | (refine ⟨cellStore2 m0 ?_, cellStore2 m1 ?_, cellStore2 n0 ?_, cellStore2 n1 ?_⟩ <;> omega))
      (first
        | (go_at_call 131; have _t := tkA; (with_reducible refine (l3Sure_v s ((xs.length : Int) - 1) (xs.length - 1) xs.length _ HT.out k1 k4 HN.out HA.out hl16).mono ?_); rintro e w2 ⟨v2, rfl, o2, hb⟩; clear m0 m1 n0 n1 s0 s1 s2 s3; (replace jM := jM.later hb); (replace jN := jN.later hb); (replace jR := jR.later hb); (replace hx1 := hx1.below hb); (replace bb := bb.thenB hb); (have m0 := jM.c0); (have m1 := jM.c1); (have n0 := jN.c0); (have n1 := jN.c1); (have s0 := jR.c0); (have s1 := jR.c1); (have s2 := jR.f0); (have s3 := jR.f1); (replace o2 : Own _ w2 v2 (fuL xs) := o2); (have z2 := hb.size); obtain ⟨p2, c2, rfl, r2⟩ := o2.shape; clear hb tkA _t)
        | (go_at_call 66; have _t := tkB; (with_reducible refine (sMix_any s p c xs s p2 c2 (fuL xs) n d _ hx1 r2 hxm HFL.out).mono ?_); rintro e w3 ⟨v3, rfl, o3, hb⟩; clear m0 m1 n0 n1 s0 s1 s2 s3; (replace jM := jM.later hb); (replace jN := jN.later hb); (replace jR := jR.later hb); (replace hx1 := hx1.below hb); (replace bb := bb.thenB hb); (have m0 := jM.c0); (have m1 := jM.c1); (have n0 := jN.c0); (have n1 := jN.c1); (have s0 := jR.c0); (have s1 := jR.c1); (have s2 := jR.f0); (have s3 := jR.f1); (have z3 := hb.size); obtain ⟨p3, c3, rfl, r3⟩ := o3.shape; clear hb tkB _t))
    go_wp2
    refine bodyPost_ret (v := .tuple #[.agg #[.int .i64 (gS (mixG s xs s (fuL xs) n d) s (mixP xs (fuL xs) n d)), .slice p3 (gL (mixG s xs s (fuL xs) n d) s (mixP xs (fuL xs) n d)).length c3], .bool (gOk (mixG s xs s (fuL xs) n d) s (mixP xs (fuL xs) n d))]) (by simp [results, Try.results111, go_sem, s0, s1, s2, s3]) rfl ⟨_, rfl, ?_, ?_⟩
    · exact ((o3.setBelow (by show w.heap.size + 2 < _; have := HSZ.out; omega) _).setBelow (by show w.heap.size + 2 < _; have := HSZ.out; omega) _).mono (by have := HSZ.out; omega)
    · exact (bb.setCell (by show _ ≤ w.heap.size + 2; omega) _).setCell (by show _ ≤ w.heap.size + 2; omega) _

end Go.Proofs.Ytjmfjgoehicgcaa
