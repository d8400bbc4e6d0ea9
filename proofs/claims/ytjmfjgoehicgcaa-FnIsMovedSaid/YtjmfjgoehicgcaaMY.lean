/- Masses that are mixed. -/
import Derived.Test.YtjmfjgoehicgcaaMgDJ
import Derived.Test.YtjmfjgoehicgcaaMgM3
import Derived.Test.YtjmfjgoehicgcaaMgK1
set_option linter.unusedVariables false
set_option linter.unusedSimpArgs false
namespace Go.Proofs.Ytjmfjgoehicgcaa
open Go.RowKit

theorem cellAcY {B : Nat} {W W' : World} {b o : Nat} {v : Value} (hb : Below B W W') (hlt : b < B) (h : W.cell? ⟨b, o, none⟩ = some v) : W'.cell? ⟨b, o, none⟩ = some v :=
  (hb.cell (p := ⟨b, o, none⟩) hlt).trans h

set_option maxHeartbeats 4000000 in
set_option maxRecDepth 100000 in
theorem iMix_any (s : Int) (p : Option Addr) (c : Nat) (xs : List Int) (t : Int) (q : Option Addr) (g : Nat) (ys : List Int) (n d : Int) (w : World) (hx : Reads w p xs) (hy : Reads w q ys) (hxm : xs.length ≤ 1048576) (hym : ys.length ≤ 1048576) :
    Calls Try.prog 63 #[.agg #[.int .i64 s, .slice p xs.length c], .agg #[.int .i64 t, .slice q ys.length g], .agg #[.int .i64 n, .int .i64 d]] w fun e w' => ∃ v, e = .returned (.tuple #[.agg #[.int .i64 (gS (mixG s xs t ys n d) s (mixP xs ys n d)), v], .bool (gOk (mixG s xs t ys n d) s (mixP xs ys n d))]) ∧ Own w.heap.size w' v (gL (mixG s xs t ys n d) s (mixP xs ys n d)) ∧ Below w.heap.size w w' := by
  obtain ⟨W, hW, bW, hsz, b0, b1, b2, bR⟩ := box4 w s t n d p q xs.length ys.length c g
  have hxW := hx.below bW
  have hyW := hy.below bW
  have HWW := Lib.hid hW
  have HSZ := Lib.hid hsz
  clear hW hsz hx hy
  have b0_0 := b0.c0
  have b0_1 := b0.c1
  have b1_0 := b1.c0
  have b1_1 := b1.c1
  by_cases h1 : bothB s xs t ys = true
  rotate_left
  · replace h1 : bothB s xs t ys = false := by simpa using h1
    have hg : mixG s xs t ys n d = false := by simp [mixG, h1]
    obtain ⟨hS, hO, hL⟩ := gNo (s := s) (L := mixP xs ys n d) hg
    have hS := Lib.hid hS
    have hO := Lib.hid hO
    have hL := Lib.hid hL
    have HB := Lib.hid h1
    clear h1 hg
    go_enter Try.func63, Try.ntmps63
    go_wp2_with fail
    rw [← HWW.out]
    refine (ofOneQuestion_any _ _ _ _ _ _ _ _ _ hxW hyW hxm hym).mono ?_
    rintro e w1 ⟨rfl, hb1⟩
    replace b0 := b0.later hb1
    replace b1 := b1.later hb1
    replace b2 := b2.later hb1
    replace bR := bR.later hb1
    have hx1 := hxW.below hb1
    have hy1 := hyW.below hb1
    have z1 := hb1.size
    replace bW := bW.thenB hb1
    clear hb1 hxW hyW b0_0 b0_1 b1_0 b1_1
    have b0_0 := b0.c0
    have b0_1 := b0.c1
    have b1_0 := b1.c0
    have b1_1 := b1.c1
    have b2_0 := b2.c0
    have b2_1 := b2.c1
    rw [HB.out]
    clear b0_0 b0_1 b1_0 b1_1 b2_0 b2_1
    have s0 := bR.c0
    have s1 := bR.c1
    have s2 := bR.f0
    have s3 := bR.f1
    go_wp2
    refine bodyPost_ret (v := .tuple #[.agg #[.int .i64 0, .slice none 0 0], .bool false]) (by simp [results, Try.results63, go_sem, s0, s1, s2, s3]) rfl ⟨_, by rw [hS.out, hO.out], by rw [hL.out]; exact Own.nil _ _, ?_⟩
    exact (bW.setCell (by show _ ≤ w.heap.size + 3; omega) _).setCell (by show _ ≤ w.heap.size + 3; omega) _
  by_cases h2 : shB n d = true
  rotate_left
  · replace h2 : shB n d = false := by simpa using h2
    have hg : mixG s xs t ys n d = false := by simp [mixG, h2]
    obtain ⟨hS, hO, hL⟩ := gNo (s := s) (L := mixP xs ys n d) hg
    have hS := Lib.hid hS
    have hO := Lib.hid hO
    have hL := Lib.hid hL
    have HB := Lib.hid h1
    clear h1 hg
    have HSH := Lib.hid h2
    clear h2
    go_enter Try.func63, Try.ntmps63
    go_wp2_with fail
    rw [← HWW.out]
    refine (ofOneQuestion_any _ _ _ _ _ _ _ _ _ hxW hyW hxm hym).mono ?_
    rintro e w1 ⟨rfl, hb1⟩
    replace b0 := b0.later hb1
    replace b1 := b1.later hb1
    replace b2 := b2.later hb1
    replace bR := bR.later hb1
    have hx1 := hxW.below hb1
    have hy1 := hyW.below hb1
    have z1 := hb1.size
    replace bW := bW.thenB hb1
    clear hb1 hxW hyW b0_0 b0_1 b1_0 b1_1
    have b0_0 := b0.c0
    have b0_1 := b0.c1
    have b1_0 := b1.c0
    have b1_1 := b1.c1
    have b2_0 := b2.c0
    have b2_1 := b2.c1
    rw [HB.out]
    go_wp2_with fail
    refine (isShare_any _ _ _).mono ?_
    rintro e w2 ⟨rfl, hb2⟩
    rw [HSH.out]
    replace b0 := b0.later hb2
    replace b1 := b1.later hb2
    replace b2 := b2.later hb2
    replace bR := bR.later hb2
    replace hx1 := hx1.below hb2
    replace hy1 := hy1.below hb2
    have z2 := hb2.size
    replace bW := bW.thenB hb2
    clear hb2 b0_0 b0_1 b1_0 b1_1 b2_0 b2_1
    have b0_0 := b0.c0
    have b0_1 := b0.c1
    have b1_0 := b1.c0
    have b1_1 := b1.c1
    have b2_0 := b2.c0
    have b2_1 := b2.c1
    clear b0_0 b0_1 b1_0 b1_1 b2_0 b2_1
    have s0 := bR.c0
    have s1 := bR.c1
    have s2 := bR.f0
    have s3 := bR.f1
    go_wp2
    refine bodyPost_ret (v := .tuple #[.agg #[.int .i64 0, .slice none 0 0], .bool false]) (by simp [results, Try.results63, go_sem, s0, s1, s2, s3]) rfl ⟨_, by rw [hS.out, hO.out], by rw [hL.out]; exact Own.nil _ _, ?_⟩
    exact (bW.setCell (by show _ ≤ w.heap.size + 3; omega) _).setCell (by show _ ≤ w.heap.size + 3; omega) _
  by_cases h3 : d ≤ 1000
  rotate_left
  · skip
    have hg : mixG s xs t ys n d = false := by simp [mixG, h3]
    obtain ⟨hS, hO, hL⟩ := gNo (s := s) (L := mixP xs ys n d) hg
    have hS := Lib.hid hS
    have hO := Lib.hid hO
    have hL := Lib.hid hL
    have HB := Lib.hid h1
    clear h1 hg
    have HSH := Lib.hid h2
    clear h2
    go_enter Try.func63, Try.ntmps63
    go_wp2_with fail
    rw [← HWW.out]
    refine (ofOneQuestion_any _ _ _ _ _ _ _ _ _ hxW hyW hxm hym).mono ?_
    rintro e w1 ⟨rfl, hb1⟩
    replace b0 := b0.later hb1
    replace b1 := b1.later hb1
    replace b2 := b2.later hb1
    replace bR := bR.later hb1
    have hx1 := hxW.below hb1
    have hy1 := hyW.below hb1
    have z1 := hb1.size
    replace bW := bW.thenB hb1
    clear hb1 hxW hyW b0_0 b0_1 b1_0 b1_1
    have b0_0 := b0.c0
    have b0_1 := b0.c1
    have b1_0 := b1.c0
    have b1_1 := b1.c1
    have b2_0 := b2.c0
    have b2_1 := b2.c1
    rw [HB.out]
    go_wp2_with fail
    refine (isShare_any _ _ _).mono ?_
    rintro e w2 ⟨rfl, hb2⟩
    rw [HSH.out]
    replace b0 := b0.later hb2
    replace b1 := b1.later hb2
    replace b2 := b2.later hb2
    replace bR := bR.later hb2
    replace hx1 := hx1.below hb2
    replace hy1 := hy1.below hb2
    have z2 := hb2.size
    replace bW := bW.thenB hb2
    clear hb2 b0_0 b0_1 b1_0 b1_1 b2_0 b2_1
    have b0_0 := b0.c0
    have b0_1 := b0.c1
    have b1_0 := b1.c0
    have b1_1 := b1.c1
    have b2_0 := b2.c0
    have b2_1 := b2.c1
    clear b0_0 b0_1 b1_0 b1_1
    have s0 := bR.c0
    have s1 := bR.c1
    have s2 := bR.f0
    have s3 := bR.f1
    go_wp2
    refine bodyPost_ret (v := .tuple #[.agg #[.int .i64 0, .slice none 0 0], .bool false]) (by simp [results, Try.results63, go_sem, s0, s1, s2, s3]) rfl ⟨_, by rw [hS.out, hO.out], by rw [hL.out]; exact Own.nil _ _, ?_⟩
    exact (bW.setCell (by show _ ≤ w.heap.size + 3; omega) _).setCell (by show _ ≤ w.heap.size + 3; omega) _
  have hg : mixG s xs t ys n d = true := by simp [mixG, h1, h2, h3]
  obtain ⟨hk, hj, hst, hlen⟩ := bothB_ok h1
  obtain ⟨hS, hO, hL⟩ := gYes (s := s) (L := mixP xs ys n d) hg
  have hS := Lib.hid hS
  have hO := Lib.hid hO
  have hL := Lib.hid hL
  obtain ⟨n0, nd, d1⟩ := shB_ok h2
  have hl16 := hk.l16
  have hax := hk.all
  have hay := hj.all
  have sx1 := hk.sum1
  have sx2 := hk.sum2
  have sy1 := hj.sum1
  have sy2 := hj.sum2
  have HP := Lib.hid (mixP_wide n0 nd h3 hax hay hlen.symm ⟨by omega, sx2⟩ ⟨by omega, sy2⟩)
  have HPL := Lib.hid (mixP_len xs ys n d)
  have HB := Lib.hid h1
  have HSH := Lib.hid h2
  have HLEN := Lib.hid hlen
  have HLY := Lib.hid hj.l16
  clear h1 h2 hg hk hj hst hlen
  go_enter Try.func63, Try.ntmps63
  go_wp2_with fail
  rw [← HWW.out]
  refine (ofOneQuestion_any _ _ _ _ _ _ _ _ _ hxW hyW hxm hym).mono ?_
  rintro e w1 ⟨rfl, hb1⟩
  replace b0 := b0.later hb1
  replace b1 := b1.later hb1
  replace b2 := b2.later hb1
  replace bR := bR.later hb1
  have hx1 := hxW.below hb1
  have hy1 := hyW.below hb1
  have z1 := hb1.size
  replace bW := bW.thenB hb1
  clear hb1 hxW hyW b0_0 b0_1 b1_0 b1_1
  have b0_0 := b0.c0
  have b0_1 := b0.c1
  have b1_0 := b1.c0
  have b1_1 := b1.c1
  have b2_0 := b2.c0
  have b2_1 := b2.c1
  rw [HB.out]
  go_wp2_with fail
  refine (isShare_any _ _ _).mono ?_
  rintro e w2 ⟨rfl, hb2⟩
  rw [HSH.out]
  replace b0 := b0.later hb2
  replace b1 := b1.later hb2
  replace b2 := b2.later hb2
  replace bR := bR.later hb2
  replace hx1 := hx1.below hb2
  replace hy1 := hy1.below hb2
  have z2 := hb2.size
  replace bW := bW.thenB hb2
  clear hb2 b0_0 b0_1 b1_0 b1_1 b2_0 b2_1
  have b0_0 := b0.c0
  have b0_1 := b0.c1
  have b1_0 := b1.c0
  have b1_1 := b1.c1
  have b2_0 := b2.c0
  have b2_1 := b2.c1
  have hzR : w.heap.size + 3 < w2.heap.size := by have := HSZ.out; omega
  go_wp2_with (at_make; refine wpList_makeInts _ rfl _ _ rfl w2.heap.size _ _ _ _ xs.length rfl rfl rfl rfl (by omega) (Nat.le_refl _) ?_)
  intro w3 hown hb3 hlt3
  have b0' := b0.later hb3
  have b1' := b1.later hb3
  have b2' := b2.later hb3
  have bR' := bR.later hb3
  clear b0_0 b0_1 b1_0 b1_1 b2_0 b2_1
  have b0_0 := b0'.c0
  have b0_1 := b0'.c1
  go_wp2_with fail
  clear b0_0 b0_1
  go_loopw [9, 31] (fun _ i wr => ∃ (k : Nat) (P : List Int), k ≤ xs.length ∧ i = .int .i64 k ∧ P.length = xs.length ∧ (∀ a, a < k → nth P a = mixN xs ys n d a) ∧ Own w2.heap.size wr (.slice (some ⟨w2.heap.size, 0, none⟩) xs.length xs.length) P ∧ VarInv wr w.heap.size s (.slice p xs.length c) ∧ VarInv wr (w.heap.size + 1) t (.slice q ys.length g) ∧ VarInv wr (w.heap.size + 2) n (.int .i64 d) ∧ VarInv wr (w.heap.size + 3) 0 (.slice none 0 0) ∧ Below w2.heap.size w2 wr ∧ w2.heap.size < wr.heap.size) (fun _ i _ => xs.length - (intOf i).toNat)
  case atStart => exact ⟨0, zeros xs.length, Nat.zero_le _, rfl, zeros_len _, fun a ha => absurd ha (Nat.not_lt_zero _), hown, b0', b1', b2', bR', hb3, hlt3⟩
  case round =>
    clear hown b0' b1' b2' bR' hb3 hlt3 b0 b1 b2 bR
    obtain ⟨k, P, hk, rfl, hPl, hP, ho, b0, b1, b2, bR, hb, hlt3⟩ := hrel
    have HPLL := Lib.hid hPl
    have HPN := Lib.hid hP
    clear hPl hP
    have zr := hb.size
    have hx2 := hx1.below hb
    have hy2 := hy1.below hb
    have b0_0 := b0.c0
    have b0_1 := b0.c1
    by_cases hlt : k < xs.length
    · obtain ⟨bx, ox, hpx, hbx, cx0⟩ := hx1 k hlt
      obtain ⟨by_, oy, hpy, hby, cy0⟩ := hy1 k (by rw [← HLEN.out]; exact hlt)
      have cx := (hb.cell (p := ⟨bx, ox + k, none⟩) hbx).trans cx0
      have cy := (hb.cell (p := ⟨by_, oy + k, none⟩) hby).trans cy0
      clear cx0 cy0
      have ux := allB_nth hax k hlt
      have uy := allB_nth hay k (by rw [← HLEN.out]; exact hlt)
      subst hpx hpy
      have m := mixIn n0 nd h3 ux.1 ux.2 uy.1 uy.2 (show 0 ≤ sumL xs by omega) sx2 (show 0 ≤ sumL ys by omega) sy2
      have HMX : Hid (mixN xs ys n d k = n * nth xs k * sumL ys + (d - n) * nth ys k * sumL xs) := Lib.hid rfl
      have hW1 := fun (w : World) (h : Reads w (some ⟨bx, ox, none⟩) xs) => wholeOf_any s (some ⟨bx, ox, none⟩) c xs w h hxm hax
      have hW2 := fun (w : World) (h : Reads w (some ⟨by_, oy, none⟩) ys) => wholeOf_any t (some ⟨by_, oy, none⟩) g ys w h hym hay
      generalize nth xs k = u at *
      generalize nth ys k = v at *
      generalize sumL xs = X at *
      generalize sumL ys = Y at *
      have HW1 := Lib.hid hW1
      have HW2 := Lib.hid hW2
      obtain ⟨a1, a2, e0, e1, e2, e3, s1, s2, t1, t2, e, lo, hi⟩ := m
      clear s1 s2 t1 t2 e
      have b1_0 := b1.c0
      have b1_1 := b1.c1
      have b2_0 := b2.c0
      have b2_1 := b2.c1
      have hk0 : (0 : Int) ≤ (k : Int) := by omega
      have hkn : (k : Int) < (xs.length : Int) := by omega
      have hkm : (k : Int) < (ys.length : Int) := by have := HLEN.out; omega
      clear hx2 hy2 hW1 hW2 ux uy lo hi
      have tkA : True := trivial
      have tkB : True := trivial
      have hxd := hx1
      have hyd := hy1
      obtain ⟨q1, q2⟩ := ho.cellAt HPLL.out k hlt
      have HP2 : Hid (∀ a, a < k + 1 → nth (P.set k (n * u * Y + (d - n) * v * X)) a = mixN xs ys n d a) := Lib.hid (by
        intro a ha
        by_cases e : a = k
        · subst e; rw [nth_set_at _ _ _ (by rw [HPLL.out]; exact hlt), HMX.out]
        · rw [nth_set_no _ _ _ _ e, HPN.out a (by omega)])
      clear hlt
      go_wp2_with fail
      go_region_held3 (fun w' => w'.cell? ⟨w.heap.size, 0, none⟩ = some (.int .i64 s) ∧ w'.cell? ⟨w.heap.size, 1, none⟩ = some (.slice (some ⟨bx, ox, none⟩) xs.length c) ∧ w'.cell? ⟨w.heap.size + 1, 0, none⟩ = some (.int .i64 t) ∧ w'.cell? ⟨w.heap.size + 1, 1, none⟩ = some (.slice (some ⟨by_, oy, none⟩) ys.length g) ∧ w'.cell? ⟨w.heap.size + 2, 0, none⟩ = some (.int .i64 n) ∧ w'.cell? ⟨w.heap.size + 2, 1, none⟩ = some (.int .i64 d) ∧ w'.cell? ⟨bx, ox + k, none⟩ = some (.int .i64 u) ∧ w'.cell? ⟨by_, oy + k, none⟩ = some (.int .i64 v))
        (first | exact ⟨b0_0, b0_1, b1_0, b1_1, b2_0, b2_1, cx, cy⟩ | (refine ⟨cellStoreL b0_0 ?_, cellStoreL b0_1 ?_, cellStoreL b1_0 ?_, cellStoreL b1_1 ?_, cellStoreL b2_0 ?_, cellStoreL b2_1 ?_, cellStoreL cx ?_, cellStoreL cy ?_⟩ <;> omega))
        (first
          | (go_at_call 78; have _t := tkA; (with_reducible refine (HW1.out _ (hxd.below hb).drew).mono ?_); rintro e w5 ⟨rfl, hb4⟩; (replace hb4 := undrew hb4); clear b0_0 b0_1 b1_0 b1_1 b2_0 b2_1 q1 q2; (replace b0 := b0.later hb4); (replace b1 := b1.later hb4); (replace b2 := b2.later hb4); (replace bR := bR.later hb4); (replace ho := ho.later hb4); (replace hb := hb.thenB hb4); (replace cx := cellKeep hb4 cx); (replace cy := cellKeep hb4 cy); (have b0_0 := b0.c0); (have b0_1 := b0.c1); (have b1_0 := b1.c0); (have b1_1 := b1.c1); (have b2_0 := b2.c0); (have b2_1 := b2.c1); (obtain ⟨q1, q2⟩ := ho.cellAt HPLL.out k (by omega)); (have zw5 := hb4.size); clear hb4 _t tkA)
          | (go_at_call 78; have _t := tkA; (with_reducible refine (HW1.out _ (hxd.below hb)).mono ?_); rintro e w5 ⟨rfl, hb4⟩; clear b0_0 b0_1 b1_0 b1_1 b2_0 b2_1 q1 q2; (replace b0 := b0.later hb4); (replace b1 := b1.later hb4); (replace b2 := b2.later hb4); (replace bR := bR.later hb4); (replace ho := ho.later hb4); (replace hb := hb.thenB hb4); (replace cx := cellKeep hb4 cx); (replace cy := cellKeep hb4 cy); (have b0_0 := b0.c0); (have b0_1 := b0.c1); (have b1_0 := b1.c0); (have b1_1 := b1.c1); (have b2_0 := b2.c0); (have b2_1 := b2.c1); (obtain ⟨q1, q2⟩ := ho.cellAt HPLL.out k (by omega)); (have zw5 := hb4.size); clear hb4 _t tkA)
          | (go_at_call 78; have _t := tkB; (with_reducible refine (HW2.out _ (hyd.below hb).drew).mono ?_); rintro e w6 ⟨rfl, hb4⟩; (replace hb4 := undrew hb4); clear b0_0 b0_1 b1_0 b1_1 b2_0 b2_1 q1 q2; (replace b0 := b0.later hb4); (replace b1 := b1.later hb4); (replace b2 := b2.later hb4); (replace bR := bR.later hb4); (replace ho := ho.later hb4); (replace hb := hb.thenB hb4); (replace cx := cellKeep hb4 cx); (replace cy := cellKeep hb4 cy); (have b0_0 := b0.c0); (have b0_1 := b0.c1); (have b1_0 := b1.c0); (have b1_1 := b1.c1); (have b2_0 := b2.c0); (have b2_1 := b2.c1); (obtain ⟨q1, q2⟩ := ho.cellAt HPLL.out k (by omega)); (have zw6 := hb4.size); clear hb4 _t tkB)
          | (go_at_call 78; have _t := tkB; (with_reducible refine (HW2.out _ (hyd.below hb)).mono ?_); rintro e w6 ⟨rfl, hb4⟩; clear b0_0 b0_1 b1_0 b1_1 b2_0 b2_1 q1 q2; (replace b0 := b0.later hb4); (replace b1 := b1.later hb4); (replace b2 := b2.later hb4); (replace bR := bR.later hb4); (replace ho := ho.later hb4); (replace hb := hb.thenB hb4); (replace cx := cellKeep hb4 cx); (replace cy := cellKeep hb4 cy); (have b0_0 := b0.c0); (have b0_1 := b0.c1); (have b1_0 := b1.c0); (have b1_1 := b1.c1); (have b2_0 := b2.c0); (have b2_1 := b2.c1); (obtain ⟨q1, q2⟩ := ho.cellAt HPLL.out k (by omega)); (have zw6 := hb4.size); clear hb4 _t tkB))
      all_goals go_wp2
      all_goals exact ⟨⟨k + 1, P.set k (n * u * Y + (d - n) * v * X), by omega, by go_num, by rw [List.length_set]; exact HPLL.out, HP2.out, ho.storedAt HPLL.out k _, b0.other _ (by show w2.heap.size ≠ _; omega) _, b1.other _ (by show w2.heap.size ≠ _; omega) _, b2.other _ (by show w2.heap.size ≠ _; omega) _, bR.other _ (by show w2.heap.size ≠ _; omega) _, hb.setCell (Nat.le_refl _) _, by first | (simp; omega) | omega⟩, by simp [intOf]; omega⟩
    · have hkn : k = xs.length := by omega
      subst hkn
      have hPe : P = mixP xs ys n d := nth_ext2 _ _ (by rw [HPLL.out, mixP_len]) fun a ha => by
        rw [HPLL.out] at ha
        rw [HPN.out a ha, mixP_nth _ _ _ _ _ ha]
      subst hPe
      clear hx1 hy1 hx2 hy2
      go_wp2_with fail
      refine (makeMass_n _ _ _ _ _ _ HPL.out ho.reads (by rw [HPL.out]; omega) HP.out).mono ?_
      rintro e w6 ⟨v, rfl, ho2, hb2⟩
      obtain ⟨pv, cv, rfl, _hv⟩ := ho2.shape
      have jR := bR.later hb2
      have s0 := jR.c0
      have s1 := jR.c1
      have s2 := jR.f0
      have s3 := jR.f1
      have z6 := hb2.size
      clear b0_0 b0_1 _hv
      go_wp2
      refine bodyPost_ret (v := .tuple #[.agg #[.int .i64 (mkS s (mixP xs ys n d)), .slice pv (mkL s (mixP xs ys n d)).length cv], .bool (mkOk s (mixP xs ys n d))]) (by simp [results, Try.results63, go_sem, s0, s1, s2, s3]) rfl ⟨_, by rw [hS.out, hO.out], ?_, ?_⟩
      · rw [hL.out]; exact ((ho2.setBelow (by show w.heap.size + 3 < _; omega) _).setBelow (by show w.heap.size + 3 < _; omega) _).mono (by omega)
      · exact (((bW.thenB hb).thenB hb2).setCell (by show _ ≤ w.heap.size + 3; omega) _).setCell (by show _ ≤ w.heap.size + 3; omega) _

set_option maxHeartbeats 4000000 in
set_option maxRecDepth 100000 in
theorem sMix_any (s : Int) (p : Option Addr) (c : Nat) (xs : List Int) (t : Int) (q : Option Addr) (g : Nat) (ys : List Int) (n d : Int) (w : World) (hx : Reads w p xs) (hy : Reads w q ys) (hxm : xs.length ≤ 1048576) (hym : ys.length ≤ 1048576) :
    Calls Try.prog 66 #[.agg #[.int .i64 s, .slice p xs.length c], .agg #[.int .i64 t, .slice q ys.length g], .agg #[.int .i64 n, .int .i64 d]] w fun e w' => ∃ v, e = .returned (.tuple #[.agg #[.int .i64 (gS (mixG s xs t ys n d) s (mixP xs ys n d)), v], .bool (gOk (mixG s xs t ys n d) s (mixP xs ys n d))]) ∧ Own w.heap.size w' v (gL (mixG s xs t ys n d) s (mixP xs ys n d)) ∧ Below w.heap.size w w' := by
  obtain ⟨W, hW, bW, hsz, b0, b1, b2, bR⟩ := box4 w s t n d p q xs.length ys.length c g
  have hxW := hx.below bW
  have hyW := hy.below bW
  have HWW := Lib.hid hW
  have HSZ := Lib.hid hsz
  clear hW hsz hx hy
  have b0_0 := b0.c0
  have b0_1 := b0.c1
  have b1_0 := b1.c0
  have b1_1 := b1.c1
  by_cases h1 : bothB s xs t ys = true
  rotate_left
  · replace h1 : bothB s xs t ys = false := by simpa using h1
    have hg : mixG s xs t ys n d = false := by simp [mixG, h1]
    obtain ⟨hS, hO, hL⟩ := gNo (s := s) (L := mixP xs ys n d) hg
    have hS := Lib.hid hS
    have hO := Lib.hid hO
    have hL := Lib.hid hL
    have HB := Lib.hid h1
    clear h1 hg
    go_enter Try.func66, Try.ntmps66
    go_wp2_with fail
    rw [← HWW.out]
    refine (l3Both_any _ _ _ _ _ _ _ _ _ hxW hyW hxm hym).mono ?_
    rintro e w1 ⟨rfl, hb1⟩
    replace b0 := b0.later hb1
    replace b1 := b1.later hb1
    replace b2 := b2.later hb1
    replace bR := bR.later hb1
    have hx1 := hxW.below hb1
    have hy1 := hyW.below hb1
    have z1 := hb1.size
    replace bW := bW.thenB hb1
    clear hb1 hxW hyW b0_0 b0_1 b1_0 b1_1
    have b0_0 := b0.c0
    have b0_1 := b0.c1
    have b1_0 := b1.c0
    have b1_1 := b1.c1
    have b2_0 := b2.c0
    have b2_1 := b2.c1
    rw [HB.out]
    clear b0_0 b0_1 b1_0 b1_1 b2_0 b2_1
    have s0 := bR.c0
    have s1 := bR.c1
    have s2 := bR.f0
    have s3 := bR.f1
    go_wp2
    refine bodyPost_ret (v := .tuple #[.agg #[.int .i64 0, .slice none 0 0], .bool false]) (by simp [results, Try.results66, go_sem, s0, s1, s2, s3]) rfl ⟨_, by rw [hS.out, hO.out], by rw [hL.out]; exact Own.nil _ _, ?_⟩
    exact (bW.setCell (by show _ ≤ w.heap.size + 3; omega) _).setCell (by show _ ≤ w.heap.size + 3; omega) _
  by_cases h2 : shB n d = true
  rotate_left
  · replace h2 : shB n d = false := by simpa using h2
    have hg : mixG s xs t ys n d = false := by simp [mixG, h2]
    obtain ⟨hS, hO, hL⟩ := gNo (s := s) (L := mixP xs ys n d) hg
    have hS := Lib.hid hS
    have hO := Lib.hid hO
    have hL := Lib.hid hL
    have HB := Lib.hid h1
    clear h1 hg
    have HSH := Lib.hid h2
    clear h2
    go_enter Try.func66, Try.ntmps66
    go_wp2_with fail
    rw [← HWW.out]
    refine (l3Both_any _ _ _ _ _ _ _ _ _ hxW hyW hxm hym).mono ?_
    rintro e w1 ⟨rfl, hb1⟩
    replace b0 := b0.later hb1
    replace b1 := b1.later hb1
    replace b2 := b2.later hb1
    replace bR := bR.later hb1
    have hx1 := hxW.below hb1
    have hy1 := hyW.below hb1
    have z1 := hb1.size
    replace bW := bW.thenB hb1
    clear hb1 hxW hyW b0_0 b0_1 b1_0 b1_1
    have b0_0 := b0.c0
    have b0_1 := b0.c1
    have b1_0 := b1.c0
    have b1_1 := b1.c1
    have b2_0 := b2.c0
    have b2_1 := b2.c1
    rw [HB.out]
    go_wp2_with fail
    refine (l3Share_any _ _ _).mono ?_
    rintro e w2 ⟨rfl, hb2⟩
    rw [HSH.out]
    replace b0 := b0.later hb2
    replace b1 := b1.later hb2
    replace b2 := b2.later hb2
    replace bR := bR.later hb2
    replace hx1 := hx1.below hb2
    replace hy1 := hy1.below hb2
    have z2 := hb2.size
    replace bW := bW.thenB hb2
    clear hb2 b0_0 b0_1 b1_0 b1_1 b2_0 b2_1
    have b0_0 := b0.c0
    have b0_1 := b0.c1
    have b1_0 := b1.c0
    have b1_1 := b1.c1
    have b2_0 := b2.c0
    have b2_1 := b2.c1
    clear b0_0 b0_1 b1_0 b1_1 b2_0 b2_1
    have s0 := bR.c0
    have s1 := bR.c1
    have s2 := bR.f0
    have s3 := bR.f1
    go_wp2
    refine bodyPost_ret (v := .tuple #[.agg #[.int .i64 0, .slice none 0 0], .bool false]) (by simp [results, Try.results66, go_sem, s0, s1, s2, s3]) rfl ⟨_, by rw [hS.out, hO.out], by rw [hL.out]; exact Own.nil _ _, ?_⟩
    exact (bW.setCell (by show _ ≤ w.heap.size + 3; omega) _).setCell (by show _ ≤ w.heap.size + 3; omega) _
  by_cases h3 : d ≤ 1000
  rotate_left
  · skip
    have hg : mixG s xs t ys n d = false := by simp [mixG, h3]
    obtain ⟨hS, hO, hL⟩ := gNo (s := s) (L := mixP xs ys n d) hg
    have hS := Lib.hid hS
    have hO := Lib.hid hO
    have hL := Lib.hid hL
    have HB := Lib.hid h1
    clear h1 hg
    have HSH := Lib.hid h2
    clear h2
    go_enter Try.func66, Try.ntmps66
    go_wp2_with fail
    rw [← HWW.out]
    refine (l3Both_any _ _ _ _ _ _ _ _ _ hxW hyW hxm hym).mono ?_
    rintro e w1 ⟨rfl, hb1⟩
    replace b0 := b0.later hb1
    replace b1 := b1.later hb1
    replace b2 := b2.later hb1
    replace bR := bR.later hb1
    have hx1 := hxW.below hb1
    have hy1 := hyW.below hb1
    have z1 := hb1.size
    replace bW := bW.thenB hb1
    clear hb1 hxW hyW b0_0 b0_1 b1_0 b1_1
    have b0_0 := b0.c0
    have b0_1 := b0.c1
    have b1_0 := b1.c0
    have b1_1 := b1.c1
    have b2_0 := b2.c0
    have b2_1 := b2.c1
    rw [HB.out]
    go_wp2_with fail
    refine (l3Share_any _ _ _).mono ?_
    rintro e w2 ⟨rfl, hb2⟩
    rw [HSH.out]
    replace b0 := b0.later hb2
    replace b1 := b1.later hb2
    replace b2 := b2.later hb2
    replace bR := bR.later hb2
    replace hx1 := hx1.below hb2
    replace hy1 := hy1.below hb2
    have z2 := hb2.size
    replace bW := bW.thenB hb2
    clear hb2 b0_0 b0_1 b1_0 b1_1 b2_0 b2_1
    have b0_0 := b0.c0
    have b0_1 := b0.c1
    have b1_0 := b1.c0
    have b1_1 := b1.c1
    have b2_0 := b2.c0
    have b2_1 := b2.c1
    clear b0_0 b0_1 b1_0 b1_1
    have s0 := bR.c0
    have s1 := bR.c1
    have s2 := bR.f0
    have s3 := bR.f1
    go_wp2
    refine bodyPost_ret (v := .tuple #[.agg #[.int .i64 0, .slice none 0 0], .bool false]) (by simp [results, Try.results66, go_sem, s0, s1, s2, s3]) rfl ⟨_, by rw [hS.out, hO.out], by rw [hL.out]; exact Own.nil _ _, ?_⟩
    exact (bW.setCell (by show _ ≤ w.heap.size + 3; omega) _).setCell (by show _ ≤ w.heap.size + 3; omega) _
  have hg : mixG s xs t ys n d = true := by simp [mixG, h1, h2, h3]
  obtain ⟨hk, hj, hst, hlen⟩ := bothB_ok h1
  obtain ⟨hS, hO, hL⟩ := gYes (s := s) (L := mixP xs ys n d) hg
  have hS := Lib.hid hS
  have hO := Lib.hid hO
  have hL := Lib.hid hL
  obtain ⟨n0, nd, d1⟩ := shB_ok h2
  have hl16 := hk.l16
  have hax := hk.all
  have hay := hj.all
  have sx1 := hk.sum1
  have sx2 := hk.sum2
  have sy1 := hj.sum1
  have sy2 := hj.sum2
  have HP := Lib.hid (mixP_wide n0 nd h3 hax hay hlen.symm ⟨by omega, sx2⟩ ⟨by omega, sy2⟩)
  have HPL := Lib.hid (mixP_len xs ys n d)
  have HB := Lib.hid h1
  have HSH := Lib.hid h2
  have HLEN := Lib.hid hlen
  have HLY := Lib.hid hj.l16
  clear h1 h2 hg hk hj hst hlen
  go_enter Try.func66, Try.ntmps66
  go_wp2_with fail
  rw [← HWW.out]
  refine (l3Both_any _ _ _ _ _ _ _ _ _ hxW hyW hxm hym).mono ?_
  rintro e w1 ⟨rfl, hb1⟩
  replace b0 := b0.later hb1
  replace b1 := b1.later hb1
  replace b2 := b2.later hb1
  replace bR := bR.later hb1
  have hx1 := hxW.below hb1
  have hy1 := hyW.below hb1
  have z1 := hb1.size
  replace bW := bW.thenB hb1
  clear hb1 hxW hyW b0_0 b0_1 b1_0 b1_1
  have b0_0 := b0.c0
  have b0_1 := b0.c1
  have b1_0 := b1.c0
  have b1_1 := b1.c1
  have b2_0 := b2.c0
  have b2_1 := b2.c1
  rw [HB.out]
  go_wp2_with fail
  refine (l3Share_any _ _ _).mono ?_
  rintro e w2 ⟨rfl, hb2⟩
  rw [HSH.out]
  replace b0 := b0.later hb2
  replace b1 := b1.later hb2
  replace b2 := b2.later hb2
  replace bR := bR.later hb2
  replace hx1 := hx1.below hb2
  replace hy1 := hy1.below hb2
  have z2 := hb2.size
  replace bW := bW.thenB hb2
  clear hb2 b0_0 b0_1 b1_0 b1_1 b2_0 b2_1
  have b0_0 := b0.c0
  have b0_1 := b0.c1
  have b1_0 := b1.c0
  have b1_1 := b1.c1
  have b2_0 := b2.c0
  have b2_1 := b2.c1
  have hzR : w.heap.size + 3 < w2.heap.size := by have := HSZ.out; omega
  have bA := belowAlloc w2 (.cells #[] 3)
  have hO0 := Own.made w2 w2.heap.size (Nat.le_refl _)
  have b0' := b0.later bA
  have b1' := b1.later bA
  have b2' := b2.later bA
  have bR' := bR.later bA
  go_wp2_with fail
  clear b0_0 b0_1 b1_0 b1_1 b2_0 b2_1
  go_loopw [8, 9] (fun v i wr => ∃ (k : Nat) (P : List Int), k ≤ xs.length ∧ i = .int .i64 k ∧ P.length = k ∧ (∀ a, a < k → nth P a = mixN xs ys n d a) ∧ Own w2.heap.size wr v P ∧ VarInv wr w.heap.size s (.slice p xs.length c) ∧ VarInv wr (w.heap.size + 1) t (.slice q ys.length g) ∧ VarInv wr (w.heap.size + 2) n (.int .i64 d) ∧ VarInv wr (w.heap.size + 3) 0 (.slice none 0 0) ∧ Below w2.heap.size w2 wr) (fun _ i _ => xs.length - (intOf i).toNat)
  case atStart => exact ⟨0, [], Nat.zero_le _, rfl, rfl, fun a ha => absurd ha (Nat.not_lt_zero _), hO0, b0', b1', b2', bR', bA⟩
  case round =>
    clear hO0 b0' b1' b2' bR' bA b0 b1 b2 bR
    obtain ⟨k, P, hk, rfl, hPl, hP, ho, b0, b1, b2, bR, hb⟩ := hrel
    have HPLL := Lib.hid hPl
    have HPN := Lib.hid hP
    clear hPl hP
    have zr := hb.size
    have hx2 := hx1.below hb
    have hy2 := hy1.below hb
    have b0_0 := b0.c0
    have b0_1 := b0.c1
    by_cases hlt : k < xs.length
    · obtain ⟨bx, ox, hpx, hbx, cx0⟩ := hx1 k hlt
      obtain ⟨by_, oy, hpy, hby, cy0⟩ := hy1 k (by rw [← HLEN.out]; exact hlt)
      have cx := (hb.cell (p := ⟨bx, ox + k, none⟩) hbx).trans cx0
      have cy := (hb.cell (p := ⟨by_, oy + k, none⟩) hby).trans cy0
      clear cx0 cy0
      have ux := allB_nth hax k hlt
      have uy := allB_nth hay k (by rw [← HLEN.out]; exact hlt)
      subst hpx hpy
      have m := mixIn n0 nd h3 ux.1 ux.2 uy.1 uy.2 (show 0 ≤ sumL xs by omega) sx2 (show 0 ≤ sumL ys by omega) sy2
      have HMX : Hid (mixN xs ys n d k = n * nth xs k * sumL ys + (d - n) * nth ys k * sumL xs) := Lib.hid rfl
      have hW1 := fun (w : World) (h : Reads w (some ⟨bx, ox, none⟩) xs) => l3Whole_any s (some ⟨bx, ox, none⟩) c xs w h hxm hax
      have hW2 := fun (w : World) (h : Reads w (some ⟨by_, oy, none⟩) ys) => l3Whole_any t (some ⟨by_, oy, none⟩) g ys w h hym hay
      generalize nth xs k = u at *
      generalize nth ys k = v at *
      generalize sumL xs = X at *
      generalize sumL ys = Y at *
      have HW1 := Lib.hid hW1
      have HW2 := Lib.hid hW2
      obtain ⟨a1, a2, e0, e1, e2, e3, s1, s2, t1, t2, e, lo, hi⟩ := m
      rw [← e] at e3 HMX
      clear a1 a2 e1 e2 e
      have b1_0 := b1.c0
      have b1_1 := b1.c1
      have b2_0 := b2.c0
      have b2_1 := b2.c1
      have hk0 : (0 : Int) ≤ (k : Int) := by omega
      have hkn : (k : Int) < (xs.length : Int) := by omega
      have hkm : (k : Int) < (ys.length : Int) := by have := HLEN.out; omega
      clear hx2 hy2 hW1 hW2 ux uy lo hi
      have tkA : True := trivial
      have tkB : True := trivial
      have hxd := hx1
      have hyd := hy1
      clear hlt
      have HP2 : Hid (∀ a, a < k + 1 → nth (P ++ [u * Y * n + v * X * (d - n)]) a = mixN xs ys n d a) := Lib.hid (by
        intro a ha
        by_cases e : a = k
        · subst e; rw [show nth (P ++ [u * Y * n + v * X * (d - n)]) a = u * Y * n + v * X * (d - n) from by simp [nth, List.getD, HPLL.out], HMX.out]
        · rw [show nth (P ++ [u * Y * n + v * X * (d - n)]) a = nth P a from by simp [nth, List.getD, List.getElem?_append, show a < P.length by rw [HPLL.out]; omega], HPN.out a (by omega)])
      go_wp2_with fail
      go_region_held3 (fun w' => w'.cell? ⟨w.heap.size, 0, none⟩ = some (.int .i64 s) ∧ w'.cell? ⟨w.heap.size, 1, none⟩ = some (.slice (some ⟨bx, ox, none⟩) xs.length c) ∧ w'.cell? ⟨w.heap.size + 1, 0, none⟩ = some (.int .i64 t) ∧ w'.cell? ⟨w.heap.size + 1, 1, none⟩ = some (.slice (some ⟨by_, oy, none⟩) ys.length g) ∧ w'.cell? ⟨w.heap.size + 2, 0, none⟩ = some (.int .i64 n) ∧ w'.cell? ⟨w.heap.size + 2, 1, none⟩ = some (.int .i64 d) ∧ w'.cell? ⟨bx, ox + k, none⟩ = some (.int .i64 u) ∧ w'.cell? ⟨by_, oy + k, none⟩ = some (.int .i64 v))
        (first | exact ⟨b0_0, b0_1, b1_0, b1_1, b2_0, b2_1, cx, cy⟩ | exact ⟨cellKeep (belowAlloc _ _) b0_0, cellKeep (belowAlloc _ _) b0_1, cellKeep (belowAlloc _ _) b1_0, cellKeep (belowAlloc _ _) b1_1, cellKeep (belowAlloc _ _) b2_0, cellKeep (belowAlloc _ _) b2_1, cellKeep (belowAlloc _ _) cx, cellKeep (belowAlloc _ _) cy⟩ | (refine ⟨cellAcY hba ?_ (cellKeep (belowAlloc _ _) b0_0), cellAcY hba ?_ (cellKeep (belowAlloc _ _) b0_1), cellAcY hba ?_ (cellKeep (belowAlloc _ _) b1_0), cellAcY hba ?_ (cellKeep (belowAlloc _ _) b1_1), cellAcY hba ?_ (cellKeep (belowAlloc _ _) b2_0), cellAcY hba ?_ (cellKeep (belowAlloc _ _) b2_1), cellAcY hba ?_ (cellKeep (belowAlloc _ _) cx), cellAcY hba ?_ (cellKeep (belowAlloc _ _) cy)⟩ <;> omega))
        (first
          | (go_at_call 80; have _t := tkA; (with_reducible refine (HW1.out _ (hxd.below hb).drew).mono ?_); rintro e w5 ⟨rfl, hb4⟩; (replace hb4 := undrew hb4); clear b0_0 b0_1 b1_0 b1_1 b2_0 b2_1; (replace b0 := b0.later hb4); (replace b1 := b1.later hb4); (replace b2 := b2.later hb4); (replace bR := bR.later hb4); (replace ho := ho.later hb4); (replace hb := hb.thenB hb4); (replace cx := cellKeep hb4 cx); (replace cy := cellKeep hb4 cy); (have b0_0 := b0.c0); (have b0_1 := b0.c1); (have b1_0 := b1.c0); (have b1_1 := b1.c1); (have b2_0 := b2.c0); (have b2_1 := b2.c1); (have zw5 := hb4.size); clear hb4 _t tkA)
          | (go_at_call 80; have _t := tkA; (with_reducible refine (HW1.out _ (hxd.below hb)).mono ?_); rintro e w5 ⟨rfl, hb4⟩; clear b0_0 b0_1 b1_0 b1_1 b2_0 b2_1; (replace b0 := b0.later hb4); (replace b1 := b1.later hb4); (replace b2 := b2.later hb4); (replace bR := bR.later hb4); (replace ho := ho.later hb4); (replace hb := hb.thenB hb4); (replace cx := cellKeep hb4 cx); (replace cy := cellKeep hb4 cy); (have b0_0 := b0.c0); (have b0_1 := b0.c1); (have b1_0 := b1.c0); (have b1_1 := b1.c1); (have b2_0 := b2.c0); (have b2_1 := b2.c1); (have zw5 := hb4.size); clear hb4 _t tkA)
          | (go_at_call 80; have _t := tkB; (with_reducible refine (HW2.out _ (hyd.below hb).drew).mono ?_); rintro e w6 ⟨rfl, hb4⟩; (replace hb4 := undrew hb4); clear b0_0 b0_1 b1_0 b1_1 b2_0 b2_1; (replace b0 := b0.later hb4); (replace b1 := b1.later hb4); (replace b2 := b2.later hb4); (replace bR := bR.later hb4); (replace ho := ho.later hb4); (replace hb := hb.thenB hb4); (replace cx := cellKeep hb4 cx); (replace cy := cellKeep hb4 cy); (have b0_0 := b0.c0); (have b0_1 := b0.c1); (have b1_0 := b1.c0); (have b1_1 := b1.c1); (have b2_0 := b2.c0); (have b2_1 := b2.c1); (have zw6 := hb4.size); clear hb4 _t tkB)
          | (go_at_call 80; have _t := tkB; (with_reducible refine (HW2.out _ (hyd.below hb)).mono ?_); rintro e w6 ⟨rfl, hb4⟩; clear b0_0 b0_1 b1_0 b1_1 b2_0 b2_1; (replace b0 := b0.later hb4); (replace b1 := b1.later hb4); (replace b2 := b2.later hb4); (replace bR := bR.later hb4); (replace ho := ho.later hb4); (replace hb := hb.thenB hb4); (replace cx := cellKeep hb4 cx); (replace cy := cellKeep hb4 cy); (have b0_0 := b0.c0); (have b0_1 := b0.c1); (have b1_0 := b1.c0); (have b1_1 := b1.c1); (have b2_0 := b2.c0); (have b2_1 := b2.c1); (have zw6 := hb4.size); clear hb4 _t tkB)
          | (refine step_append1 _ (by rfl) _ _ (by rfl) w2.heap.size _ _ (by rfl) (ho.later (belowAlloc _ _)) ⟨w5.heap.size, 0, none⟩ 1 (u * Y * n + v * X * (d - n)) (by rfl) (newCell _ _ _) (by rw [HPLL.out]; omega) (by simp; omega) ?_; intro v1 w4 ho1 hba)
          | (refine step_append1 _ (by rfl) _ _ (by rfl) w2.heap.size _ _ (by rfl) (ho.later (belowAlloc _ _)) ⟨w6.heap.size, 0, none⟩ 1 (u * Y * n + v * X * (d - n)) (by rfl) (newCell _ _ _) (by rw [HPLL.out]; omega) (by simp; omega) ?_; intro v1 w4 ho1 hba))
      all_goals go_wp2
      all_goals exact ⟨⟨k + 1, _, by omega, by go_num, by simp [HPLL.out], HP2.out, ho1, (b0.later (belowAlloc _ _)).keep hba (by omega), (b1.later (belowAlloc _ _)).keep hba (by omega), (b2.later (belowAlloc _ _)).keep hba (by omega), (bR.later (belowAlloc _ _)).keep hba (by omega), (hb.thenB (belowAlloc _ _)).trans hba⟩, by simp [intOf]; omega⟩
    · have hkn : k = xs.length := by omega
      subst hkn
      have hPe : P = mixP xs ys n d := nth_ext2 _ _ (by rw [HPLL.out, mixP_len]) fun a ha => by
        rw [HPLL.out] at ha
        rw [HPN.out a ha, mixP_nth _ _ _ _ _ ha]
      subst hPe
      clear hx1 hy1 hx2 hy2
      obtain ⟨pp, cp, rfl, _hp⟩ := ho.shape
      clear _hp
      go_wp2_with fail
      refine (l3Made_n _ _ _ _ _ _ rfl ho.reads (by rw [HPL.out]; omega) HP.out).mono ?_
      rintro e w6 ⟨v, rfl, ho2, hb2⟩
      obtain ⟨pv, cv, rfl, _hv⟩ := ho2.shape
      have jR := bR.later hb2
      have s0 := jR.c0
      have s1 := jR.c1
      have s2 := jR.f0
      have s3 := jR.f1
      have z6 := hb2.size
      clear b0_0 b0_1 _hv
      go_wp2
      refine bodyPost_ret (v := .tuple #[.agg #[.int .i64 (mkS s (mixP xs ys n d)), .slice pv (mkL s (mixP xs ys n d)).length cv], .bool (mkOk s (mixP xs ys n d))]) (by simp [results, Try.results66, go_sem, s0, s1, s2, s3]) rfl ⟨_, by rw [hS.out, hO.out], ?_, ?_⟩
      · rw [hL.out]; exact ((ho2.setBelow (by show w.heap.size + 3 < _; omega) _).setBelow (by show w.heap.size + 3 < _; omega) _).mono (by omega)
      · exact (((bW.thenB hb).thenB hb2).setCell (by show _ ≤ w.heap.size + 3; omega) _).setCell (by show _ ≤ w.heap.size + 3; omega) _

end Go.Proofs.Ytjmfjgoehicgcaa
