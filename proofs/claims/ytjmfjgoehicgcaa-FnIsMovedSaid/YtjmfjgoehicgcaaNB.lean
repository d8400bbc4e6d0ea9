/- Masses of sources that are right or wrong in part; negated and differing masses; masses made of parts. -/
import Derived.Test.YtjmfjgoehicgcaaMgJK
import Derived.Test.YtjmfjgoehicgcaaMgS10
set_option linter.unusedVariables false
set_option linter.unusedSimpArgs false
namespace Go.Proofs.Ytjmfjgoehicgcaa
open Go.RowKit

/-- The parts of the mass of a source that is wrong. -/
def rvL (xs : List Int) : List Int := xs.reverse
theorem rvL_len (xs : List Int) : (rvL xs).length = xs.length := List.length_reverse
theorem rvL_nth (xs : List Int) (a : Nat) (ha : a < xs.length) : nth (rvL xs) a = nth xs (xs.length - 1 - a) := nth_rev xs a ha

set_option maxHeartbeats 4000000 in
set_option maxRecDepth 100000 in
theorem iRel_any (s : Int) (p : Option Addr) (c : Nat) (xs : List Int) (n d : Int) (w : World) (hx : Reads w p xs) (hxm : xs.length ≤ 1048576) :
    Calls Try.prog 17 #[.agg #[.int .i64 s, .slice p xs.length c], .agg #[.int .i64 n, .int .i64 d]] w fun e w' => ∃ v, e = .returned (.tuple #[.agg #[.int .i64 (gS (mixG s xs s (rvL xs) n d) s (mixP xs (rvL xs) n d)), v], .bool (gOk (mixG s xs s (rvL xs) n d) s (mixP xs (rvL xs) n d))]) ∧ Own w.heap.size w' v (gL (mixG s xs s (rvL xs) n d) s (mixP xs (rvL xs) n d)) ∧ Below w.heap.size w w' := by
  obtain ⟨W, hW, hbW, hsz, hM, hN, hR⟩ := box3F w s n d p xs.length c
  have hxW := hx.below hbW
  have HWW := Lib.hid hW
  have HSZ := Lib.hid hsz
  clear hW hsz hx
  have m0 := hM.c0
  have m1 := hM.c1
  by_cases hg : massB s xs = true
  rotate_left
  · replace hg : massB s xs = false := by simpa using hg
    obtain ⟨hS, hO, hL⟩ := gNo (s := s) (L := mixP xs (rvL xs) n d) (g := mixG s xs s (rvL xs) n d) (by simp [mixG, bothB, hg])
    have hS := Lib.hid hS
    have hO := Lib.hid hO
    have hL := Lib.hid hL
    have HG := Lib.hid hg
    clear hg
    go_enter Try.func17, Try.ntmps17
    go_wp2_with fail
    rw [← HWW.out]
    refine (isMass_any _ _ _ _ _ hxW hxm).mono ?_
    rintro e w1 ⟨rfl, hb1⟩
    rw [HG.out]
    have jR := hR.later hb1
    have s0 := jR.c0
    have s1 := jR.c1
    have s2 := jR.f0
    have s3 := jR.f1
    clear m0 m1
    go_wp2
    refine bodyPost_ret (v := .tuple #[.agg #[.int .i64 0, .slice none 0 0], .bool false]) (by simp [results, Try.results17, go_sem, s0, s1, s2, s3]) rfl ⟨_, by rw [hS.out, hO.out], by rw [hL.out]; exact Own.nil _ _, ?_⟩
    exact ((hbW.thenB hb1).setCell (by show _ ≤ w.heap.size + 2; omega) _).setCell (by show _ ≤ w.heap.size + 2; omega) _
  · have hk := massB_ok hg
    have HG := Lib.hid hg
    have k1 := hk.s1
    have k4 := hk.s4
    have hl16 := hk.l16
    have hl1 : 2 ≤ xs.length := by have := hk.len; have := pow2_bd s hk.s1 hk.s4; omega
    have HK := Lib.hid hk
    have HFL : Hid ((rvL xs).length ≤ 1048576) := Lib.hid (by rw [rvL_len]; exact hxm)
    clear hg hk
    go_enter Try.func17, Try.ntmps17
    go_wp2_with fail
    rw [← HWW.out]
    refine (isMass_any _ _ _ _ _ hxW hxm).mono ?_
    rintro e w1 ⟨rfl, hb1⟩
    rw [HG.out]
    clear m0 m1
    have hz1 := hb1.size
    have jM := (hM.later hb1).drew
    have jN := (hN.later hb1).drew
    have jR := (hR.later hb1).drew
    have bb := drewAll (hbW.thenB hb1)
    have m0 := jM.c0
    have m1 := jM.c1
    have n0 := jN.c0
    have n1 := jN.c1
    have hx1 := (hxW.below hb1).drew
    have s0 := jR.c0
    have s1 := jR.c1
    have s2 := jR.f0
    have s3 := jR.f1
    have hzd : w1.drew.heap.size = w1.heap.size := rfl
    have tkA : True := trivial
    have tkB : True := trivial
    clear hb1 hxW hM hN hR hbW
    go_wp2_with fail
    go_region_held3 (fun w' => w'.cell? ⟨w.heap.size, 0, none⟩ = some (.int .i64 s) ∧ w'.cell? ⟨w.heap.size, 1, none⟩ = some (.slice p xs.length c) ∧ w'.cell? ⟨w.heap.size + 1, 0, none⟩ = some (.int .i64 n) ∧ w'.cell? ⟨w.heap.size + 1, 1, none⟩ = some (.int .i64 d))
      (first | exact ⟨m0, m1, n0, n1⟩ | (refine ⟨cellStore2 m0 ?_, cellStore2 m1 ?_, cellStore2 n0 ?_, cellStore2 n1 ?_⟩ <;> omega))
      (first
        | (go_at_call 64; have _t := tkA; (with_reducible refine (negated_any s p c xs _ hx1 HK.out).mono ?_); rintro e w2 ⟨v2, rfl, o2, hb⟩; clear m0 m1 n0 n1 s0 s1 s2 s3; (replace jM := jM.later hb); (replace jN := jN.later hb); (replace jR := jR.later hb); (replace hx1 := hx1.below hb); (replace bb := bb.thenB hb); (have m0 := jM.c0); (have m1 := jM.c1); (have n0 := jN.c0); (have n1 := jN.c1); (have s0 := jR.c0); (have s1 := jR.c1); (have s2 := jR.f0); (have s3 := jR.f1); (replace o2 : Own _ w2 v2 (rvL xs) := o2); (have z2 := hb.size); obtain ⟨p2, c2, rfl, r2⟩ := o2.shape; clear hb tkA _t)
        | (go_at_call 63; have _t := tkB; (with_reducible refine (iMix_any s p c xs s p2 c2 (rvL xs) n d _ hx1 r2 hxm HFL.out).mono ?_); rintro e w3 ⟨v3, rfl, o3, hb⟩; clear m0 m1 n0 n1 s0 s1 s2 s3; (replace jM := jM.later hb); (replace jN := jN.later hb); (replace jR := jR.later hb); (replace hx1 := hx1.below hb); (replace bb := bb.thenB hb); (have m0 := jM.c0); (have m1 := jM.c1); (have n0 := jN.c0); (have n1 := jN.c1); (have s0 := jR.c0); (have s1 := jR.c1); (have s2 := jR.f0); (have s3 := jR.f1); (have z3 := hb.size); obtain ⟨p3, c3, rfl, r3⟩ := o3.shape; clear hb tkB _t))
    go_wp2
    refine bodyPost_ret (v := .tuple #[.agg #[.int .i64 (gS (mixG s xs s (rvL xs) n d) s (mixP xs (rvL xs) n d)), .slice p3 (gL (mixG s xs s (rvL xs) n d) s (mixP xs (rvL xs) n d)).length c3], .bool (gOk (mixG s xs s (rvL xs) n d) s (mixP xs (rvL xs) n d))]) (by simp [results, Try.results17, go_sem, s0, s1, s2, s3]) rfl ⟨_, rfl, ?_, ?_⟩
    · exact ((o3.setBelow (by show w.heap.size + 2 < _; have := HSZ.out; omega) _).setBelow (by show w.heap.size + 2 < _; have := HSZ.out; omega) _).mono (by have := HSZ.out; omega)
    · exact (bb.setCell (by show _ ≤ w.heap.size + 2; omega) _).setCell (by show _ ≤ w.heap.size + 2; omega) _

set_option maxHeartbeats 4000000 in
set_option maxRecDepth 100000 in
theorem sRel_any (s : Int) (p : Option Addr) (c : Nat) (xs : List Int) (n d : Int) (w : World) (hx : Reads w p xs) (hxm : xs.length ≤ 1048576) :
    Calls Try.prog 18 #[.agg #[.int .i64 s, .slice p xs.length c], .agg #[.int .i64 n, .int .i64 d]] w fun e w' => ∃ v, e = .returned (.tuple #[.agg #[.int .i64 (gS (mixG s xs s (rvL xs) n d) s (mixP xs (rvL xs) n d)), v], .bool (gOk (mixG s xs s (rvL xs) n d) s (mixP xs (rvL xs) n d))]) ∧ Own w.heap.size w' v (gL (mixG s xs s (rvL xs) n d) s (mixP xs (rvL xs) n d)) ∧ Below w.heap.size w w' := by
  obtain ⟨W, hW, hbW, hsz, hM, hN, hR⟩ := box3F w s n d p xs.length c
  have hxW := hx.below hbW
  have HWW := Lib.hid hW
  have HSZ := Lib.hid hsz
  clear hW hsz hx
  have m0 := hM.c0
  have m1 := hM.c1
  by_cases hg : massB s xs = true
  rotate_left
  · replace hg : massB s xs = false := by simpa using hg
    obtain ⟨hS, hO, hL⟩ := gNo (s := s) (L := mixP xs (rvL xs) n d) (g := mixG s xs s (rvL xs) n d) (by simp [mixG, bothB, hg])
    have hS := Lib.hid hS
    have hO := Lib.hid hO
    have hL := Lib.hid hL
    have HG := Lib.hid hg
    clear hg
    go_enter Try.func18, Try.ntmps18
    go_wp2_with fail
    rw [← HWW.out]
    refine (MassValid_any _ _ _ _ _ hxW hxm).mono ?_
    rintro e w1 ⟨rfl, hb1⟩
    rw [HG.out]
    have jR := hR.later hb1
    have s0 := jR.c0
    have s1 := jR.c1
    have s2 := jR.f0
    have s3 := jR.f1
    clear m0 m1
    go_wp2
    refine bodyPost_ret (v := .tuple #[.agg #[.int .i64 0, .slice none 0 0], .bool false]) (by simp [results, Try.results18, go_sem, s0, s1, s2, s3]) rfl ⟨_, by rw [hS.out, hO.out], by rw [hL.out]; exact Own.nil _ _, ?_⟩
    exact ((hbW.thenB hb1).setCell (by show _ ≤ w.heap.size + 2; omega) _).setCell (by show _ ≤ w.heap.size + 2; omega) _
  · have hk := massB_ok hg
    have HG := Lib.hid hg
    have k1 := hk.s1
    have k4 := hk.s4
    have hl16 := hk.l16
    have hl1 : 2 ≤ xs.length := by have := hk.len; have := pow2_bd s hk.s1 hk.s4; omega
    have HK := Lib.hid hk
    have HFL : Hid ((rvL xs).length ≤ 1048576) := Lib.hid (by rw [rvL_len]; exact hxm)
    clear hg hk
    go_enter Try.func18, Try.ntmps18
    go_wp2_with fail
    rw [← HWW.out]
    refine (MassValid_any _ _ _ _ _ hxW hxm).mono ?_
    rintro e w1 ⟨rfl, hb1⟩
    rw [HG.out]
    clear m0 m1
    have hz1 := hb1.size
    have jM := (hM.later hb1).drew
    have jN := (hN.later hb1).drew
    have jR := (hR.later hb1).drew
    have bb := drewAll (hbW.thenB hb1)
    have m0 := jM.c0
    have m1 := jM.c1
    have n0 := jN.c0
    have n1 := jN.c1
    have hx1 := (hxW.below hb1).drew
    have s0 := jR.c0
    have s1 := jR.c1
    have s2 := jR.f0
    have s3 := jR.f1
    have hzd : w1.drew.heap.size = w1.heap.size := rfl
    have tkA : True := trivial
    have tkB : True := trivial
    clear hb1 hxW hM hN hR hbW
    go_wp2_with fail
    go_region_held3 (fun w' => w'.cell? ⟨w.heap.size, 0, none⟩ = some (.int .i64 s) ∧ w'.cell? ⟨w.heap.size, 1, none⟩ = some (.slice p xs.length c) ∧ w'.cell? ⟨w.heap.size + 1, 0, none⟩ = some (.int .i64 n) ∧ w'.cell? ⟨w.heap.size + 1, 1, none⟩ = some (.int .i64 d))
      (first | exact ⟨m0, m1, n0, n1⟩ | (refine ⟨cellStore2 m0 ?_, cellStore2 m1 ?_, cellStore2 n0 ?_, cellStore2 n1 ?_⟩ <;> omega))
      (first
        | (go_at_call 67; have _t := tkA; (with_reducible refine (l6Negate_any s p c xs _ hx1 HK.out).mono ?_); rintro e w2 ⟨v2, rfl, o2, hb⟩; clear m0 m1 n0 n1 s0 s1 s2 s3; (replace jM := jM.later hb); (replace jN := jN.later hb); (replace jR := jR.later hb); (replace hx1 := hx1.below hb); (replace bb := bb.thenB hb); (have m0 := jM.c0); (have m1 := jM.c1); (have n0 := jN.c0); (have n1 := jN.c1); (have s0 := jR.c0); (have s1 := jR.c1); (have s2 := jR.f0); (have s3 := jR.f1); (replace o2 : Own _ w2 v2 (rvL xs) := o2); (have z2 := hb.size); obtain ⟨p2, c2, rfl, r2⟩ := o2.shape; clear hb tkA _t)
        | (go_at_call 66; have _t := tkB; (with_reducible refine (sMix_any s p c xs s p2 c2 (rvL xs) n d _ hx1 r2 hxm HFL.out).mono ?_); rintro e w3 ⟨v3, rfl, o3, hb⟩; clear m0 m1 n0 n1 s0 s1 s2 s3; (replace jM := jM.later hb); (replace jN := jN.later hb); (replace jR := jR.later hb); (replace hx1 := hx1.below hb); (replace bb := bb.thenB hb); (have m0 := jM.c0); (have m1 := jM.c1); (have n0 := jN.c0); (have n1 := jN.c1); (have s0 := jR.c0); (have s1 := jR.c1); (have s2 := jR.f0); (have s3 := jR.f1); (have z3 := hb.size); obtain ⟨p3, c3, rfl, r3⟩ := o3.shape; clear hb tkB _t))
    go_wp2
    refine bodyPost_ret (v := .tuple #[.agg #[.int .i64 (gS (mixG s xs s (rvL xs) n d) s (mixP xs (rvL xs) n d)), .slice p3 (gL (mixG s xs s (rvL xs) n d) s (mixP xs (rvL xs) n d)).length c3], .bool (gOk (mixG s xs s (rvL xs) n d) s (mixP xs (rvL xs) n d))]) (by simp [results, Try.results18, go_sem, s0, s1, s2, s3]) rfl ⟨_, rfl, ?_, ?_⟩
    · exact ((o3.setBelow (by show w.heap.size + 2 < _; have := HSZ.out; omega) _).setBelow (by show w.heap.size + 2 < _; have := HSZ.out; omega) _).mono (by have := HSZ.out; omega)
    · exact (bb.setCell (by show _ ≤ w.heap.size + 2; omega) _).setCell (by show _ ≤ w.heap.size + 2; omega) _

set_option maxHeartbeats 1000000 in
theorem iNegate_any (s : Int) (p : Option Addr) (c : Nat) (xs : List Int) (w : World) (hx : Reads w p xs) (hxm : xs.length ≤ 1048576) (hg : massB s xs = true) :
    Calls Try.prog 22 #[.agg #[.int .i64 s, .slice p xs.length c]] w fun e w' => ∃ v, e = .returned (.tuple #[.agg #[.int .i64 s, v], .bool true]) ∧ Own w.heap.size w' v (rvL xs) ∧ Below w.heap.size w w' := by
  obtain ⟨W, hW, bW, hsz, hM, hR⟩ := boxR w s p xs.length c
  have HWW := Lib.hid hW
  have HSZ := Lib.hid hsz
  have HK := Lib.hid (massB_ok hg)
  have HG := Lib.hid hg
  have m0 := hM.c0
  have m1 := hM.c1
  replace hx := hx.below bW
  clear hW hsz hg
  go_enter Try.func22, Try.ntmps22
  go_wp2_with fail
  rw [← HWW.out]
  refine (isMass_any _ _ _ _ _ hx hxm).mono ?_
  rintro e w1 ⟨rfl, hb⟩
  rw [HG.out]
  clear m0 m1
  replace hM := hM.later hb
  replace hR := hR.later hb
  replace hx := hx.below hb
  replace bW := bW.thenB hb
  have z1 := hb.size
  have m0 := hM.c0
  have m1 := hM.c1
  clear hb
  go_wp2_with fail
  refine (negated_any s p c xs _ hx HK.out).mono ?_
  rintro e w2 ⟨v, rfl, o, hb⟩
  replace o : Own _ w2 v (rvL xs) := o
  obtain ⟨p2, c2, rfl, _hr⟩ := o.shape
  clear m0 m1 _hr
  replace hR := hR.later hb
  replace bW := bW.thenB hb
  have s0 := hR.c0
  have s1 := hR.c1
  have s2 := hR.f0
  have s3 := hR.f1
  clear hb
  go_wp2
  refine bodyPost_ret (v := .tuple #[.agg #[.int .i64 s, .slice p2 (rvL xs).length c2], .bool true]) (by simp [results, Try.results22, go_sem, s0, s1, s2, s3]) rfl ⟨_, rfl, ?_, ?_⟩
  · exact ((o.setBelow (by show w.heap.size + 1 < _; have := HSZ.out; omega) _).setBelow (by show w.heap.size + 1 < _; have := HSZ.out; omega) _).mono (by have := HSZ.out; omega)
  · exact (bW.setCell (by show _ ≤ w.heap.size + 1; omega) _).setCell (by show _ ≤ w.heap.size + 1; omega) _

/-- The products of the parts, for the answers in just one set. -/
def dfP (xs ys : List Int) : List Int := togTo (fun b c => b ^^^ c) xs ys (zeros xs.length) xs.length
theorem dfP_len (xs ys : List Int) : (dfP xs ys).length = xs.length := by rw [dfP, togTo_len, zeros_len]
theorem dfP_wide (xs ys : List Int) (hx : allB 0 1000000 xs = true) (hy : allB 0 1000000 ys = true) (hl : ys.length ≤ 16) (hl2 : xs.length ≤ 16) : allB 0 4611686018427387904 (dfP xs ys) = true :=
  allB_wider (togTo_all _ xs ys _ hx hy (zeros_all _) hl _ (Nat.le_refl _)) (by omega) (by omega)

theorem xor16d : ∀ a b : Fin 16, bits .xor .i64 (a.val : Int) (b.val : Int) = ((a.val ^^^ b.val : Nat) : Int) := by decide +kernel
theorem xor_nat16 (a b : Nat) (ha : a < 16) (hb : b < 16) : bits .xor .i64 (a : Int) (b : Int) = ((a ^^^ b : Nat) : Int) := xor16d ⟨a, ha⟩ ⟨b, hb⟩
theorem xor_lt16d : ∀ k : Fin 5, ∀ a b : Fin 16, a.val < 2 ^ k.val → b.val < 2 ^ k.val → a.val ^^^ b.val < 2 ^ k.val := by decide +kernel
theorem xor_ltd {s : Int} {n : Nat} (h1 : 1 ≤ s) (h4 : s ≤ 4) (hn : (n : Int) = pow2 s) (a b : Nat) (ha : a < n) (hb : b < n) : a ^^^ b < n := by
  have hp := pow2_bd s h1 h4
  have hk : (n : Int) = 2 ^ s.toNat := by rw [hn]; rcases (show s = 1 ∨ s = 2 ∨ s = 3 ∨ s = 4 by omega) with rfl | rfl | rfl | rfl <;> rfl
  have hk2 : n = 2 ^ s.toNat := by exact_mod_cast hk
  have := xor_lt16d ⟨s.toNat, by omega⟩ ⟨a, by omega⟩ ⟨b, by omega⟩ (by show a < 2 ^ s.toNat; omega) (by show b < 2 ^ s.toNat; omega)
  rw [hk2]; exact this

theorem xorIn_any (a b : Nat) (w : World) (ha : a < 16) (hb : b < 16) :
    Calls Try.prog 73 #[.int .i64 a, .int .i64 b] w fun e w' => e = .returned (.int .i64 (a ^^^ b : Nat)) ∧ w = w' := by
  have hbit := xor_nat16 a b ha hb
  go_enter Try.func73, Try.ntmps73
  go_wp2
  go_ret
  exact ⟨rfl, rfl⟩

set_option maxHeartbeats 2000000 in
theorem iDiffer_any (s : Int) (p : Option Addr) (c : Nat) (xs : List Int) (t : Int) (q : Option Addr) (d : Nat) (ys : List Int) (w : World) (hx : Reads w p xs) (hy : Reads w q ys) (hxm : xs.length ≤ 1048576) (hym : ys.length ≤ 1048576) (hg : bothB s xs t ys = true) :
    Calls Try.prog 24 #[.agg #[.int .i64 s, .slice p xs.length c], .agg #[.int .i64 t, .slice q ys.length d]] w fun e w' => ∃ v, e = .returned (.tuple #[.agg #[.int .i64 (mkS s (dfP xs ys)), v], .bool (mkOk s (dfP xs ys))]) ∧ Own w.heap.size w' v (mkL s (dfP xs ys)) ∧ Below w.heap.size w w' := by
  obtain ⟨W, hW, hbW, hsz, hM, hN, hR⟩ := box3R w s t p q xs.length ys.length c d
  have hxW := hx.below hbW
  have hyW := hy.below hbW
  have HWW := Lib.hid hW
  have HSZ := Lib.hid hsz
  clear hW hsz hx hy
  have m0 := hM.c0
  have m1 := hM.c1
  have n0 := hN.c0
  have n1 := hN.c1
  obtain ⟨hk, hj, hst, hlen⟩ := bothB_ok hg
  have HG := Lib.hid hg
  have hl16 := hk.l16
  have hly : ys.length ≤ 16 := hj.l16
  have hl1 : 1 ≤ xs.length := by have := hk.len; have := pow2_bd s hk.s1 hk.s4; omega
  have hax := hk.all
  have hay := hj.all
  have HP := Lib.hid (dfP_wide xs ys hax hay hly hl16)
  have HPL := Lib.hid (dfP_len xs ys)
  have HXL : Hid (∀ a b, a < xs.length → b < ys.length → a ^^^ b < xs.length) := Lib.hid fun a b ha hb => xor_ltd hk.s1 hk.s4 hk.len a b ha (by omega)
  clear hg hk hj hst hlen
  go_enter Try.func24, Try.ntmps24
  go_wp2_with fail
  rw [← HWW.out]
  refine (ofOneQuestion_any _ _ _ _ _ _ _ _ _ hxW hyW hxm hym).mono ?_
  rintro e w1 ⟨rfl, hb1⟩
  rw [HG.out]
  clear m0 m1 n0 n1
  have hz1 := hb1.size
  have jM := (hM.later hb1).drew
  have jN := (hN.later hb1).drew
  have jR := (hR.later hb1).drew
  have bb := drewAll (hbW.thenB hb1)
  have m0 := jM.c0
  have m1 := jM.c1
  have n0 := jN.c0
  have n1 := jN.c1
  have hx1 := (hxW.below hb1).drew
  have hy1 := (hyW.below hb1).drew
  have s0 := jR.c0
  have s1 := jR.c1
  have s2 := jR.f0
  have s3 := jR.f1
  have hzd : w1.drew.heap.size = w1.heap.size := rfl
  have tkA : True := trivial
  have tkB : True := trivial
  have HF : ∀ (args : Array Value) (W : World), Sem.run Try.prog (callFunc 73 args) W = .ok (.enter 73 args) W := fun _ _ => by kernel_rfl
  have HT := Lib.hid (fun w0 h1 h2 => together_any 73 HF (fun b c => b ^^^ c) s t p q c d xs ys w0 h1 h2 hl16 hly hax hay HXL.out (Lib.hid fun a b wr ha hb => xorIn_any a b wr (by omega) (by omega)))
  clear hb1 hxW hyW hM hN hR hbW HF
  go_wp2_with fail
  go_region_held3 (fun w' => w'.cell? ⟨w.heap.size, 0, none⟩ = some (.int .i64 s) ∧ w'.cell? ⟨w.heap.size, 1, none⟩ = some (.slice p xs.length c) ∧ w'.cell? ⟨w.heap.size + 1, 0, none⟩ = some (.int .i64 t) ∧ w'.cell? ⟨w.heap.size + 1, 1, none⟩ = some (.slice q ys.length d))
    (first | exact ⟨m0, m1, n0, n1⟩ | (refine ⟨cellStore2 m0 ?_, cellStore2 m1 ?_, cellStore2 n0 ?_, cellStore2 n1 ?_⟩ <;> omega))
    (first
      | (go_at_call 72; have _t := tkA; (with_reducible refine (HT.out _ hx1 hy1).mono ?_); rintro e w2 ⟨v2, rfl, o2, hb⟩; clear m0 m1 n0 n1 s0 s1 s2 s3; (replace jM := jM.later hb); (replace jN := jN.later hb); (replace jR := jR.later hb); (replace bb := bb.thenB hb); (have m0 := jM.c0); (have m1 := jM.c1); (have n0 := jN.c0); (have n1 := jN.c1); (have s0 := jR.c0); (have s1 := jR.c1); (have s2 := jR.f0); (have s3 := jR.f1); (replace o2 : Own _ w2 v2 (dfP xs ys) := o2); (have z2 := hb.size); (have hlc : (dfP xs ys).length = xs.length := HPL.out); obtain ⟨p2, c2, rfl, r2⟩ := o2.shape; clear hb tkA _t)
      | (go_at_call 71; have _t := tkB; (with_reducible refine (makeMass_n _ _ _ xs.length (dfP xs ys) _ HPL.out r2 (by rw [HPL.out]; omega) HP.out).mono ?_); rintro e w3 ⟨v3, rfl, o3, hb⟩; clear m0 m1 n0 n1 s0 s1 s2 s3; (replace jM := jM.later hb); (replace jN := jN.later hb); (replace jR := jR.later hb); (replace bb := bb.thenB hb); (have m0 := jM.c0); (have m1 := jM.c1); (have n0 := jN.c0); (have n1 := jN.c1); (have s0 := jR.c0); (have s1 := jR.c1); (have s2 := jR.f0); (have s3 := jR.f1); (have z3 := hb.size); obtain ⟨p3, c3, rfl, r3⟩ := o3.shape; clear hb tkB _t))
  go_wp2
  refine bodyPost_ret (v := .tuple #[.agg #[.int .i64 (mkS s (dfP xs ys)), .slice p3 (mkL s (dfP xs ys)).length c3], .bool (mkOk s (dfP xs ys))]) (by simp [results, Try.results24, go_sem, s0, s1, s2, s3]) rfl ⟨_, rfl, ?_, ?_⟩
  · exact ((o3.setBelow (by show w.heap.size + 2 < _; have := HSZ.out; omega) _).setBelow (by show w.heap.size + 2 < _; have := HSZ.out; omega) _).mono (by have := HSZ.out; omega)
  · exact (bb.setCell (by show _ ≤ w.heap.size + 2; omega) _).setCell (by show _ ≤ w.heap.size + 2; omega) _

def mmG (s : Int) (xs : List Int) : Bool := szB s && (decide ((xs.length : Int) = pow2 s) && allB 0 1000000000 xs)

set_option maxHeartbeats 2000000 in
theorem iMakeMass_any (s : Int) (p : Option Addr) (c : Nat) (xs : List Int) (w : World) (hx : Reads w p xs) (hxm : xs.length ≤ 16) :
    Calls Try.prog 23 #[.int .i64 s, .slice p xs.length c] w fun e w' => ∃ v, e = .returned (.tuple #[.agg #[.int .i64 (gS (mmG s xs) s xs), v], .bool (gOk (mmG s xs) s xs)]) ∧ Own w.heap.size w' v (gL (mmG s xs) s xs) ∧ Below w.heap.size w w' := by
  obtain ⟨W, hW⟩ : ∃ W : World, W = w.alloc (.cells #[.int .i64 0, .slice none 0 0] 27) := ⟨_, rfl⟩
  have bW : Below w.heap.size w W := by subst hW; exact belowAlloc _ _
  have hsz : W.heap.size = w.heap.size + 1 := by subst hW; simp
  have hR : VarInv W w.heap.size 0 (.slice none 0 0) := by subst hW; exact VarInv.made _ _ _ _
  have hxW := hx.below bW
  have HWW := Lib.hid hW
  have HSZ := Lib.hid hsz
  have s0 := hR.c0
  have s1 := hR.c1
  have s2 := hR.f0
  have s3 := hR.f1
  clear hW hsz hx
  cases h1 : szB s
  · obtain ⟨hS0, hO0, hL0⟩ := gNo (s := s) (L := xs) (g := mmG s xs) (by simp [mmG, h1])
    have hS := Lib.hid hS0
    have hO := Lib.hid hO0
    have hL := Lib.hid hL0
    clear hS0 hO0 hL0
    have H1 := Lib.hid h1
    clear h1
    go_enter Try.func23, Try.ntmps23
    go_wp2_with fail
    rw [← HWW.out]
    refine (isSize_any _ _).mono ?_
    rintro e w' ⟨rfl, rfl⟩
    rw [H1.out]
    go_wp2
    refine bodyPost_ret (v := .tuple #[.agg #[.int .i64 0, .slice none 0 0], .bool false]) (by simp [results, Try.results23, go_sem, s0, s1, s2, s3]) rfl ⟨_, by rw [hS.out, hO.out], by rw [hL.out]; exact Own.nil _ _, ?_⟩
    exact (bW.setCell (by show _ ≤ w.heap.size; omega) _).setCell (by show _ ≤ w.heap.size; omega) _
  · have hs : 1 ≤ s ∧ s ≤ 4 := by simpa [szB, inB] using h1
    obtain ⟨hs1, hs2⟩ := hs
    have hpw := pow2_wrap s hs1 hs2
    by_cases hl : (xs.length : Int) = pow2 s
    rotate_left
    · obtain ⟨hS0, hO0, hL0⟩ := gNo (s := s) (L := xs) (g := mmG s xs) (by simp [mmG, hl])
      have hS := Lib.hid hS0
      have hO := Lib.hid hO0
      have hL := Lib.hid hL0
      clear hS0 hO0 hL0
      have hLN : ((xs.length : Int) != pow2 s) = true := bne_iff_ne.2 hl
      have H1 := Lib.hid h1
      clear hl h1
      go_enter Try.func23, Try.ntmps23
      go_wp2_with fail
      rw [← HWW.out]
      refine (isSize_any _ _).mono ?_
      rintro e w' ⟨rfl, rfl⟩
      rw [H1.out]
      go_wp2
      refine bodyPost_ret (v := .tuple #[.agg #[.int .i64 0, .slice none 0 0], .bool false]) (by simp [results, Try.results23, go_sem, s0, s1, s2, s3]) rfl ⟨_, by rw [hS.out, hO.out], by rw [hL.out]; exact Own.nil _ _, ?_⟩
      exact (bW.setCell (by show _ ≤ w.heap.size; omega) _).setCell (by show _ ≤ w.heap.size; omega) _
    · have hLN : ((xs.length : Int) != pow2 s) = false := by simp [hl]
      have hl16 : xs.length ≤ 16 := by have := pow2_bd s hs1 hs2; omega
      have HL := Lib.hid hl
      have H1 := Lib.hid h1
      clear hl h1
      go_enter Try.func23, Try.ntmps23
      go_wp2_with fail
      rw [← HWW.out]
      refine (isSize_any _ _).mono ?_
      rintro e w' ⟨rfl, rfl⟩
      rw [H1.out]
      go_wp2
      clear hpw hLN
      go_loop [21] (fun i => ∃ (k : Nat), k ≤ xs.length ∧ i = .int .i64 k ∧ allB 0 1000000000 (xs.take k) = true) (fun i => xs.length - (intOf i).toNat)
      case atStart => exact ⟨0, Nat.zero_le _, rfl, rfl⟩
      case round =>
        obtain ⟨k, hk, rfl, hal⟩ := hrel
        have HA := Lib.hid hal
        clear hal
        by_cases hlt : k < xs.length
        · obtain ⟨b, off, rfl, hbl, hc⟩ := hxW k hlt
          clear hxW
          by_cases hin : inB (nth xs k) 0 1000000000 = true
          · have hst : Hid (allB 0 1000000000 (xs.take (k + 1)) = true) := by
              have : allB 0 1000000000 (xs.take (k + 1)) = true := by rw [take_succ_getD xs k hlt, allB_snoc, HA.out, hin]; rfl
              exact this
            have h2 : 0 ≤ nth xs k ∧ nth xs k ≤ 1000000000 := by simpa [inB] using hin
            obtain ⟨h2a, h2b⟩ := h2
            clear hin s0 s1 s2 s3
            go_wp2
            exact ⟨⟨k + 1, by omega, by go_num, hst.out⟩, by simp [intOf]; omega⟩
          · have hf := allB_false 0 1000000000 xs k hlt (by simpa using hin)
            obtain ⟨hS0, hO0, hL0⟩ := gNo (s := s) (L := xs) (g := mmG s xs) (by simp [mmG, hf])
            have hS := Lib.hid hS0
            have hO := Lib.hid hO0
            have hL := Lib.hid hL0
            clear hS0 hO0 hL0
            have h2 : nth xs k < 0 ∨ 1000000000 < nth xs k := by simp [inB] at hin; omega
            clear hin hf
            rcases h2 with h2 | h2
            · go_wp2
              refine bodyPost_ret (v := .tuple #[.agg #[.int .i64 0, .slice none 0 0], .bool false]) (by simp [results, Try.results23, go_sem, s0, s1, s2, s3]) rfl ⟨_, by rw [hS.out, hO.out], by rw [hL.out]; exact Own.nil _ _, ?_⟩
              exact (bW.setCell (by show _ ≤ w.heap.size; omega) _).setCell (by show _ ≤ w.heap.size; omega) _
            · have h3 : ¬ nth xs k < 0 := by omega
              go_wp2
              refine bodyPost_ret (v := .tuple #[.agg #[.int .i64 0, .slice none 0 0], .bool false]) (by simp [results, Try.results23, go_sem, s0, s1, s2, s3]) rfl ⟨_, by rw [hS.out, hO.out], by rw [hL.out]; exact Own.nil _ _, ?_⟩
              exact (bW.setCell (by show _ ≤ w.heap.size; omega) _).setCell (by show _ ≤ w.heap.size; omega) _
        · have h1 : k = xs.length := by omega
          subst h1
          have hl2 := HA.out
          rw [List.take_length] at hl2
          obtain ⟨hS0, hO0, hL0⟩ := gYes (s := s) (L := xs) (g := mmG s xs) (by simp [mmG, H1.out, HL.out, hl2])
          have hS := Lib.hid hS0
          have hO := Lib.hid hO0
          have hL := Lib.hid hL0
          clear hS0 hO0 hL0
          have HW := Lib.hid (allB_wider hl2 (low' := 0) (high' := 4611686018427387904) (by omega) (by omega))
          clear hl2 HA s0 s1 s2 s3
          go_wp2_with fail
          refine (makeMass_any _ _ _ _ _ hxW (by omega) HW.out).mono ?_
          rintro e w1 ⟨v, rfl, o, hb⟩
          obtain ⟨p2, c2, rfl, _hr⟩ := o.shape
          have jR := hR.later hb
          have s0 := jR.c0
          have s1 := jR.c1
          have s2 := jR.f0
          have s3 := jR.f1
          replace bW := bW.thenB hb
          clear _hr
          go_wp2
          refine bodyPost_ret (v := .tuple #[.agg #[.int .i64 (mkS s xs), .slice p2 (mkL s xs).length c2], .bool (mkOk s xs)]) (by simp [results, Try.results23, go_sem, s0, s1, s2, s3]) rfl ⟨_, by rw [hS.out, hO.out], ?_, ?_⟩
          · rw [hL.out]; exact ((o.setBelow (by show w.heap.size < _; have := HSZ.out; omega) _).setBelow (by show w.heap.size < _; have := HSZ.out; omega) _).mono (by have := HSZ.out; omega)
          · exact (bW.setCell (by show _ ≤ w.heap.size; omega) _).setCell (by show _ ≤ w.heap.size; omega) _

end Go.Proofs.Ytjmfjgoehicgcaa
