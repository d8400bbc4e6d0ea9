/- Whether a list tells how parts are moved: the reference. -/
import Derived.Deep.Cut
import Derived.Test.YtjmfjgoehicgcaaMgDD
set_option linter.unusedVariables false
set_option linter.unusedSimpArgs false
namespace Go.Proofs.Ytjmfjgoehicgcaa
open Go.RowKit

theorem wrapN {x : Int} {n : Nat} (h : x = (n : Int)) (hn : n ≤ 256) : wrap64 x = (n : Int) := by
  subst h
  exact IntWalk.wrap64_in _ ⟨by omega, by omega⟩

theorem mvB_bad {xs ys ls : List Int} (hl : ls.length = xs.length * xs.length) (h : allB 0 1000000000000 ls = false) : mvB xs ys ls = false := by
  cases e : mvB xs ys ls
  · rfl
  · simp only [mvB, Bool.and_eq_true] at e
    have : allB 0 1000000000000 ls = true := allB_iff.mpr fun k hk => (rngTo_at e.1 k (by omega)).1
    rw [h] at this; cases this

theorem rowS_bd {N : Nat} {ls : List Int} (h : allB 0 1000000000000 ls = true) (b : Nat) (hb : N * b + N ≤ ls.length) : ∀ k, k ≤ N → 0 ≤ rowS N ls b k ∧ rowS N ls b k ≤ 1000000000000 * k := by
  intro k
  induction k with
  | zero => intro _; simp [rowS]
  | succ k ih =>
    intro hk
    have h1 := ih (by omega)
    have h2 := allB_nth h (N * b + k) (by omega)
    rw [rowS_succ]; omega

theorem idx_lt {N a b : Nat} (ha : a < N) (hb : b < N) : N * b + a < N * N := by
  have h1 : N * (b + 1) ≤ N * N := Nat.mul_le_mul_left N hb
  rw [Nat.mul_succ] at h1
  omega

theorem colS_bd {N : Nat} {ls : List Int} (h : allB 0 1000000000000 ls = true) (b : Nat) (hb : b < N) (hl : N * N ≤ ls.length) : ∀ k, k ≤ N → 0 ≤ colS N ls b k ∧ colS N ls b k ≤ 1000000000000 * k := by
  intro k
  induction k with
  | zero => intro _; simp [colS]
  | succ k ih =>
    intro hk
    have h1 := ih (by omega)
    have h2 := allB_nth h (N * k + b) (by have := idx_lt hb (show k < N by omega); omega)
    rw [colS_succ]; omega

theorem idx_div {N a b : Nat} (ha : a < N) : (N * b + a) / N = b ∧ (N * b + a) % N = a :=
  ⟨by rw [Nat.mul_add_div (by omega), Nat.div_eq_of_lt ha]; rfl, by rw [Nat.mul_add_mod, Nat.mod_eq_of_lt ha]⟩

theorem yes_inI {n low high : Int} (h : inB n low high = true) : low ≤ n ∧ n ≤ high := by simpa [inB] using h

set_option maxHeartbeats 4000000 in
theorem sIsMoved_any (s : Int) (p : Option Addr) (c : Nat) (xs : List Int) (t : Int) (q : Option Addr) (d : Nat) (ys : List Int) (r : Option Addr) (e : Nat) (ls : List Int) (w : World) (hx : Reads w p xs) (hy : Reads w q ys) (hl : Reads w r ls) (hxm : xs.length ≤ 1048576) (hym : ys.length ≤ 1048576) (hlm : ls.length ≤ 1048576) :
    Calls Try.prog 50 #[.agg #[.int .i64 s, .slice p xs.length c], .agg #[.int .i64 t, .slice q ys.length d], .slice r ls.length e] w fun e w' => e = .returned (.bool (imB s xs t ys ls)) ∧ Below w.heap.size w w' := by
  obtain ⟨W, hW⟩ : ∃ W : World, W = ((w.alloc (.cells #[.int .i64 s, .slice p xs.length c] 27)).alloc (.cells #[.int .i64 t, .slice q ys.length d] 27)) := ⟨_, rfl⟩
  have bW : Below w.heap.size w W := by subst hW; exact ((belowAlloc _ _).thenB (belowAlloc _ _))
  have hsz : W.heap.size = w.heap.size + 2 := by subst hW; simp
  have b0 : VarInv W (w.heap.size) (s) (.slice p xs.length c) := by
    subst hW
    have h := VarInv.made w (s) (.slice p xs.length c) 27
    exact (h.later (belowAlloc _ _))
  have b1 : VarInv W (w.heap.size + 1) (t) (.slice q ys.length d) := by
    subst hW
    have h := VarInv.made (w.alloc (.cells #[.int .i64 s, .slice p xs.length c] 27)) (t) (.slice q ys.length d) 27
    rw [show (w.alloc (.cells #[.int .i64 s, .slice p xs.length c] 27)).heap.size = w.heap.size + 1 by simp] at h
    exact h
  have HWW := Lib.hid hW
  have HSZ := Lib.hid hsz
  clear hW hsz
  by_cases h1 : bothB s xs t ys = true
  rotate_left
  · have h1 : bothB s xs t ys = false := by simpa using h1
    have hr : Hid (imB s xs t ys ls = false) := Lib.hid (by simp [imB, h1])
    go_enter Try.func50, Try.ntmps50
    go_wp2_with fail
    rw [← HWW.out]
    refine (l3Both_any _ _ _ _ _ _ _ _ _ (hx.below bW) (hy.below bW) hxm hym).mono ?_
    rintro e w1 ⟨rfl, hb⟩
    replace b0 := b0.later hb
    have b0_0 := b0.c0
    have b0_1 := b0.c1
    replace b1 := b1.later hb
    have b1_0 := b1.c0
    have b1_1 := b1.c1
    replace bW := bW.thenB hb
    have z1 := hb.size
    clear hb
    go_wp2
    go_ret
    exact ⟨ret_bool hr.out.symm, bW⟩
  obtain ⟨k1, k2, k3, k4⟩ := bothB_ok h1
  have K4 := Lib.hid k4
  have HM := Lib.hid k1
  have HN := Lib.hid k2
  have hl16 := k1.l16
  have hN0 : 0 < xs.length := by have h := pow2_bd s k1.s1 k1.s4; have h2 := k1.len; omega
  obtain ⟨nn, hnn⟩ : ∃ nn : Nat, nn = xs.length * xs.length := ⟨_, rfl⟩
  have hnn256 : nn ≤ 256 := by rw [hnn]; exact Nat.mul_le_mul hl16 hl16
  have hwn : wrap64 ((xs.length : Int) * (xs.length : Int)) = ((nn : Nat) : Int) := by rw [hnn, Int.natCast_mul]; exact IntWalk.wrap64_in _ ⟨by rw [← Int.natCast_mul, ← hnn]; omega, by rw [← Int.natCast_mul, ← hnn]; omega⟩
  have HNN := Lib.hid hnn
  clear k1 k2 k3 k4 hnn
  by_cases h2 : ls.length = nn
  rotate_left
  · have hr : Hid (imB s xs t ys ls = false) := Lib.hid (by rw [HNN.out] at h2; simp [imB, h2])
    have hne : ((ls.length : Int) != (nn : Int)) = true := by simp; omega
    clear h2
    go_enter Try.func50, Try.ntmps50
    go_wp2_with fail
    rw [← HWW.out]
    refine (l3Both_any _ _ _ _ _ _ _ _ _ (hx.below bW) (hy.below bW) hxm hym).mono ?_
    rintro e w1 ⟨rfl, hb⟩
    replace b0 := b0.later hb
    have b0_0 := b0.c0
    have b0_1 := b0.c1
    replace b1 := b1.later hb
    have b1_0 := b1.c0
    have b1_1 := b1.c1
    replace bW := bW.thenB hb
    have z1 := hb.size
    clear hb
    go_wp2
    go_ret
    exact ⟨ret_bool hr.out.symm, bW⟩
  have hr : Hid (imB s xs t ys ls = mvB xs ys ls) := Lib.hid (by rw [HNN.out] at h2; simp [imB, h1, h2])
  have hne : ((ls.length : Int) != (nn : Int)) = false := by simp [h2]
  have HLL := Lib.hid h2
  clear h2
  by_cases hR : allB 0 1000000000000 ls = true
  rotate_left
  · replace hR : allB 0 1000000000000 ls = false := by simpa using hR
    have HMB : Hid (mvB xs ys ls = false) := Lib.hid (mvB_bad (by rw [HLL.out, HNN.out]) hR)
    go_enter Try.func50, Try.ntmps50
    go_wp2_with fail
    rw [← HWW.out]
    refine (l3Both_any _ _ _ _ _ _ _ _ _ (hx.below bW) (hy.below bW) hxm hym).mono ?_
    rintro e w1 ⟨rfl, hb⟩
    replace b0 := b0.later hb
    have b0_0 := b0.c0
    have b0_1 := b0.c1
    replace b1 := b1.later hb
    have b1_0 := b1.c0
    have b1_1 := b1.c1
    replace bW := bW.thenB hb
    have z1 := hb.size
    clear hb
    go_wp2_with fail
    clear hwn hne
    try generalize wrap64 ((xs.length : Int) * (xs.length : Int)) = q29 at *
    have BW := bW
    have B0 := b0
    have B1 := b1
    clear b0 b1 b0_0 b0_1 b1_0 b1_1 bW
    have hMR := HM.out.all
    have hNR := HN.out.all
    have hly : ys.length ≤ 16 := by rw [← K4.out]; exact hl16
    go_loopw [7] (fun i wr => ∃ b : Nat, b ≤ xs.length ∧ i = .int .i64 b ∧ ((∀ i, i < xs.length * b → inB (nth ls i) 0 1000000000000 = true)) ∧ Below w1.heap.size w1 wr) (fun i _ => xs.length - (intOf i).toNat)
    case atStart => exact ⟨0, Nat.zero_le _, rfl, fun i hi => absurd hi (by simp), Below.refl _ _⟩
    case round =>
      obtain ⟨b, hb, rfl, hinv, hbe⟩ := hrel
      have HINV := Lib.hid hinv
      clear hinv
      have b0 := B0.later hbe
      have b1 := B1.later hbe
      have b0_0 := b0.c0
      have b0_1 := b0.c1
      by_cases hlb : b < xs.length
      · obtain ⟨nb, hnb⟩ : ∃ nb : Nat, nb = xs.length * b := ⟨_, rfl⟩
        have HNB := Lib.hid hnb
        clear hnb
        go_wp2_with fail
        clear b0_0 b0_1 b0 b1
        go_loopw [8, 9, 10] (fun f v i wz => ∃ a : Nat, a ≤ xs.length ∧ i = .int .i64 a ∧ (∃ z : Int, f = .int .i64 z) ∧ (∃ z : Int, v = .int .i64 z) ∧ (∀ i, i < nb + a → inB (nth ls i) 0 1000000000000 = true) ∧ Below w1.heap.size w1 wz) (fun _ _ i _ => xs.length - (intOf i).toNat)
        case atStart => exact ⟨0, Nat.zero_le _, rfl, ⟨_, rfl⟩, ⟨_, rfl⟩, by have h := HINV.out; rw [← HNB.out] at h; exact h, hbe⟩
        case round =>
          clear hbe
          obtain ⟨a, ha, rfl, ⟨fz, rfl⟩, ⟨tz, rfl⟩, hii, hbe⟩ := hrel
          have HII := Lib.hid hii
          clear hii
          have b0 := B0.later hbe
          have b1 := B1.later hbe
          have bW := BW.thenB hbe
          by_cases hla : a < xs.length
          · skip
            have hi1 : nb + a < nn := by rw [HNB.out, HNN.out]; exact idx_lt hla hlb
            obtain ⟨na, hna⟩ : ∃ na : Nat, na = xs.length * a := ⟨_, rfl⟩
            have hi2 : na + b < nn := by rw [hna, HNN.out]; exact idx_lt hlb hla
            have hwb : wrap64 ((xs.length : Int) * (b : Int)) = (nb : Int) := wrapN (by rw [HNB.out, Int.natCast_mul]) (Nat.le_trans (Nat.le_add_right nb a) (Nat.le_trans (Nat.le_of_lt hi1) hnn256))
            have hwa : wrap64 ((xs.length : Int) * (a : Int)) = (na : Int) := wrapN (by rw [hna, Int.natCast_mul]) (Nat.le_trans (Nat.le_add_right na b) (Nat.le_trans (Nat.le_of_lt hi2) hnn256))
            have HNA := Lib.hid hna
            clear hna
            obtain ⟨i1, hi1e⟩ : ∃ i1 : Nat, i1 = nb + a := ⟨_, rfl⟩
            obtain ⟨i2, hi2e⟩ : ∃ i2 : Nat, i2 = na + b := ⟨_, rfl⟩
            have hs1 : wrap64 ((nb : Int) + (a : Int)) = (i1 : Int) := wrapN (by rw [hi1e, Int.natCast_add]) (by rw [hi1e]; exact Nat.le_trans (Nat.le_of_lt hi1) hnn256)
            have hs2 : wrap64 ((na : Int) + (b : Int)) = (i2 : Int) := wrapN (by rw [hi2e, Int.natCast_add]) (by rw [hi2e]; exact Nat.le_trans (Nat.le_of_lt hi2) hnn256)
            rw [← hi1e] at hi1
            rw [← hi2e] at hi2
            have HE1 := Lib.hid hi1e
            have HE2 := Lib.hid hi2e
            clear hi1e hi2e
            have hj1 : i1 < ls.length := by rw [HLL.out]; exact hi1
            have hj2 : i2 < ls.length := by rw [HLL.out]; exact hi2
            obtain ⟨bl, off, el, hbl, hc10⟩ := hl i1 hj1
            cases el
            obtain ⟨bl2, off2, el2, hbl2, hc20⟩ := hl i2 hj2
            cases el2
            have hc1 := (bW.cell (p := ⟨bl, off + i1, none⟩) hbl).trans hc10
            have hc2 := (bW.cell (p := ⟨bl, off + i2, none⟩) hbl).trans hc20
            have lbl : bl < wr.heap.size := Nat.lt_of_lt_of_le hbl bW.size
            have l0 : w.heap.size < wr.heap.size := b0.lt
            have d1 := fun x : LaterW wr.heap.size wr => x.cell l0 b0.c1
            have d2 := fun x : LaterW wr.heap.size wr => x.cell lbl hc1
            have d3 := fun x : LaterW wr.heap.size wr => x.cell lbl hc2
            have ha16 : a < 16 := by omega
            have hb16 : b < 16 := by omega
            have ht : (bits BinOp.andNot IntKind.i64 (a : Int) (b : Int) != 0) = !subB a b := by rw [← sub_test a b ha16 hb16]; rfl
            have b0_1 := b0.c1
            have hzw := hbe.size
            clear hc10 hc20
            go_wp2_with fail
            refine wp_region_later (by kernel_rfl) (by kernel_rfl) ?_
            repeat (go_big_quiet_step (fail))
            refine wpQuiet_nil ?_
            intro _ hw'
            obtain ⟨x, rfl⟩ := hw'
            have hbx := hbe.thenB x.below
            have bX := BW.thenB hbx
            clear d1 d2 d3 b0 b1 b0_1 hc1 hc2 hwa hwb hs1 hs2 bW hbe
            go_wp2_with fail
            refine (l1In_any _ _ _ _).mono ?_
            rintro e w' ⟨rfl, rfl⟩
            by_cases hin : inB (nth ls i1) 0 1000000000000 = true
            rotate_left
            · replace hin : inB (nth ls i1) 0 1000000000000 = false := by simpa using hin
              have hF : Hid (mvB xs ys ls = false) := Lib.hid (HMB.out)
              go_wp2
              go_ret
              exact ⟨ret_bool (by rw [hr.out, hF.out]), bX⟩
            obtain ⟨x1, x2⟩ := yes_inI hin
            by_cases hs : subB a b = true
            · have HS := Lib.hid hs
              rw [hs] at ht
              clear hs
              have HK : Hid (∀ i, i < nb + (a + 1) → inB (nth ls i) 0 1000000000000 = true) := Lib.hid (fun i hi => by
                  by_cases e : i = i1
                  · rw [e]; exact hin
                  · exact HII.out i (by have := HE1.out; omega))
              go_upto_region 9 with fail
              iterate 12 go_step
              refine And.intro ?_ ?_
              · repeat apply Exists.intro
                refine And.intro ?_ rfl
                exact ⟨a + 1, by omega, by go_num, ⟨_, rfl⟩, ⟨_, rfl⟩, HK.out, hbx⟩
              · show xs.length - (intOf (.int .i64 ((a : Int) + 1))).toNat < xs.length - (intOf (.int .i64 (a : Int))).toNat
                simp [intOf]; omega
            replace hs : subB a b = false := by simpa using hs
            have HS := Lib.hid hs
            rw [hs] at ht
            clear hs
            by_cases hz : nth ls i1 = 0
            · have hz0 : ¬ 0 < nth ls i1 := by omega
              have HZ := Lib.hid hz
              clear hz
              have HK : Hid (∀ i, i < nb + (a + 1) → inB (nth ls i) 0 1000000000000 = true) := Lib.hid (fun i hi => by
                  by_cases e : i = i1
                  · rw [e]; exact hin
                  · exact HII.out i (by have := HE1.out; omega))
              go_upto_region 9 with fail
              iterate 12 go_step
              refine And.intro ?_ ?_
              · repeat apply Exists.intro
                refine And.intro ?_ rfl
                exact ⟨a + 1, by omega, by go_num, ⟨_, rfl⟩, ⟨_, rfl⟩, HK.out, hbx⟩
              · show xs.length - (intOf (.int .i64 ((a : Int) + 1))).toNat < xs.length - (intOf (.int .i64 (a : Int))).toNat
                simp [intOf]; omega
            have hzp : 0 < nth ls i1 := by omega
            clear hz
            have hF : Hid (mvB xs ys ls = false) := Lib.hid (HMB.out)
            go_wp2
            go_ret
            exact ⟨ret_bool (by rw [hr.out, hF.out]), bX⟩
          · have haN : a = xs.length := by omega
            obtain ⟨⟨p1, p2⟩, _⟩ := apA_bd HN.out HM.out K4.out.symm b (by rw [← K4.out]; exact hlb)
            obtain ⟨⟨r1, r2⟩, _⟩ := apA_bd HM.out HN.out K4.out b hlb
            have hxr := hx.below bW
            have hyr := hy.below bW
            obtain ⟨bx, ox, ex, hbx, hcx⟩ := hxr b hlb
            obtain ⟨by', oy, ey, hby, hcy⟩ := hyr b (by rw [← K4.out]; exact hlb)
            have hby2 : b < ys.length := by rw [← K4.out]; exact hlb
            cases ex
            cases ey
            obtain ⟨P, hP⟩ : ∃ P, P = nth ys b * sumL xs := ⟨_, rfl⟩
            obtain ⟨R, hR2⟩ : ∃ R, R = nth xs b * sumL ys := ⟨_, rfl⟩
            rw [← hP] at p1 p2
            rw [← hR2] at r1 r2
            have hw5 : IntKind.i64.wrap (nth ys b * sumL xs) = P := by rw [← hP]; exact IntWalk.i64_in _ ⟨by omega, by omega⟩
            have hw6 : IntKind.i64.wrap (nth xs b * sumL ys) = R := by rw [← hR2]; exact IntWalk.i64_in _ ⟨by omega, by omega⟩
            have hw3 : wrap64 (nth ys b * sumL xs) = P := by rw [← hP]; exact IntWalk.wrap64_in _ ⟨by omega, by omega⟩
            have hw4 : wrap64 (nth xs b * sumL ys) = R := by rw [← hR2]; exact IntWalk.wrap64_in _ ⟨by omega, by omega⟩
            obtain ⟨gv, hgv⟩ : ∃ gv, gv = fz := ⟨_, rfl⟩
            obtain ⟨tv, htv⟩ : ∃ tv, tv = tz := ⟨_, rfl⟩
            rw [← hgv, ← htv]
            clear hgv htv
            clear hP hR2 p1 p2 r1 r2 hx hy hl
            have b0_0 := b0.c0
            have b0_1 := b0.c1
            have b1_0 := b1.c0
            have b1_1 := b1.c1
            clear b0 b1 B0 B1
            have haN2 := haN
            by_cases h3 : gv = P
            rotate_left
            · have H3 := Lib.hid h3
              have h3b : (gv != P) = true := by simp [h3]
              clear h3
              have lt0 := World.block_lt_of_cell? _ _ b0_0
              have lt1 := World.block_lt_of_cell? _ _ b0_1
              have lt2 := World.block_lt_of_cell? _ _ b1_0
              have lt3 := World.block_lt_of_cell? _ _ b1_1
              have lt4 := World.block_lt_of_cell? _ _ hcx
              have lt5 := World.block_lt_of_cell? _ _ hcy
              have d0 := fun x : LaterW wr.heap.size wr => x.cell lt0 b0_0
              have d1 := fun x : LaterW wr.heap.size wr => x.cell lt1 b0_1
              have d2 := fun x : LaterW wr.heap.size wr => x.cell lt2 b1_0
              have d3 := fun x : LaterW wr.heap.size wr => x.cell lt3 b1_1
              have d4 := fun x : LaterW wr.heap.size wr => x.cell lt4 hcx
              have d5 := fun x : LaterW wr.heap.size wr => x.cell lt5 hcy
              go_wp2_with fail
              refine wp_region_later (by kernel_rfl) (by kernel_rfl) ?_
              repeat (go_big_quiet_step ((go_at_call 80; exact LaterW.call (l3Whole_any _ _ _ _ _ (LaterW.reads _ (by assumption)) (by omega) (by assumption)))))
              refine wpQuiet_nil ?_
              intro _ hw'
              obtain ⟨x, rfl⟩ := hw'
              have bX := bW.thenB x.below
              clear d0 lt0 d1 lt1 d2 lt2 d3 lt3 d4 lt4 d5 lt5
              have hF : Hid (mvB xs ys ls = false) := Lib.hid (HMB.out)
              go_wp2
              go_ret
              exact ⟨ret_bool (by rw [hr.out, hF.out]), bX⟩
            have H3 := Lib.hid h3
            have h3b : (gv != P) = false := by simp [h3]
            clear h3
            by_cases h4 : tv = R
            rotate_left
            · have H4 := Lib.hid h4
              have h4b : (tv != R) = true := by simp [h4]
              clear h4
              have lt0 := World.block_lt_of_cell? _ _ b0_0
              have lt1 := World.block_lt_of_cell? _ _ b0_1
              have lt2 := World.block_lt_of_cell? _ _ b1_0
              have lt3 := World.block_lt_of_cell? _ _ b1_1
              have lt4 := World.block_lt_of_cell? _ _ hcx
              have lt5 := World.block_lt_of_cell? _ _ hcy
              have d0 := fun x : LaterW wr.heap.size wr => x.cell lt0 b0_0
              have d1 := fun x : LaterW wr.heap.size wr => x.cell lt1 b0_1
              have d2 := fun x : LaterW wr.heap.size wr => x.cell lt2 b1_0
              have d3 := fun x : LaterW wr.heap.size wr => x.cell lt3 b1_1
              have d4 := fun x : LaterW wr.heap.size wr => x.cell lt4 hcx
              have d5 := fun x : LaterW wr.heap.size wr => x.cell lt5 hcy
              go_wp2_with fail
              refine wp_region_later (by kernel_rfl) (by kernel_rfl) ?_
              repeat (go_big_quiet_step ((go_at_call 80; exact LaterW.call (l3Whole_any _ _ _ _ _ (LaterW.reads _ (by assumption)) (by omega) (by assumption)))))
              refine wpQuiet_nil ?_
              intro _ hw'
              obtain ⟨x, rfl⟩ := hw'
              have bX := bW.thenB x.below
              clear d0 lt0 d1 lt1 d2 lt2 d3 lt3 d4 lt4 d5 lt5
              have hF : Hid (mvB xs ys ls = false) := Lib.hid (HMB.out)
              go_wp2
              go_ret
              exact ⟨ret_bool (by rw [hr.out, hF.out]), bX⟩
            have H4 := Lib.hid h4
            have h4b : (tv != R) = false := by simp [h4]
            clear h4
            have HK : Hid (∀ i, i < xs.length * (b + 1) → inB (nth ls i) 0 1000000000000 = true) := Lib.hid (fun i hi => HII.out i (by rw [Nat.mul_succ, ← HNB.out] at hi; omega))
            have hsb := hbe
            have lt0 := World.block_lt_of_cell? _ _ b0_0
            have lt1 := World.block_lt_of_cell? _ _ b0_1
            have lt2 := World.block_lt_of_cell? _ _ b1_0
            have lt3 := World.block_lt_of_cell? _ _ b1_1
            have lt4 := World.block_lt_of_cell? _ _ hcx
            have lt5 := World.block_lt_of_cell? _ _ hcy
            have d0 := fun x : LaterW wr.heap.size wr => x.cell lt0 b0_0
            have d1 := fun x : LaterW wr.heap.size wr => x.cell lt1 b0_1
            have d2 := fun x : LaterW wr.heap.size wr => x.cell lt2 b1_0
            have d3 := fun x : LaterW wr.heap.size wr => x.cell lt3 b1_1
            have d4 := fun x : LaterW wr.heap.size wr => x.cell lt4 hcx
            have d5 := fun x : LaterW wr.heap.size wr => x.cell lt5 hcy
            go_wp2_with fail
            refine wp_region_later (by kernel_rfl) (by kernel_rfl) ?_
            repeat (go_big_quiet_step ((go_at_call 80; exact LaterW.call (l3Whole_any _ _ _ _ _ (LaterW.reads _ (by assumption)) (by omega) (by assumption)))))
            refine wpQuiet_nil ?_
            intro _ hw'
            obtain ⟨x, rfl⟩ := hw'
            have bX := bW.thenB x.below
            clear d0 lt0 d1 lt1 d2 lt2 d3 lt3 d4 lt4 d5 lt5
            go_upto_region 5 with fail
            iterate 12 go_step
            refine And.intro ?_ ?_
            · repeat apply Exists.intro
              refine And.intro ?_ rfl
              exact ⟨b + 1, by omega, by go_num, HK.out, hsb.thenB x.below⟩
            · show xs.length - (intOf (.int .i64 ((b : Int) + 1))).toNat < xs.length - (intOf (.int .i64 (b : Int))).toNat
              simp [intOf]; omega
      · have hbN : b = xs.length := by omega
        exfalso
        have hh : allB 0 1000000000000 ls = true := allB_iff.mpr (fun k hk => yes_inI (HINV.out k (by rw [hbN, ← HNN.out, ← HLL.out]; exact hk)))
        rw [hR] at hh
        cases hh
  · skip
    go_enter Try.func50, Try.ntmps50
    go_wp2_with fail
    rw [← HWW.out]
    refine (l3Both_any _ _ _ _ _ _ _ _ _ (hx.below bW) (hy.below bW) hxm hym).mono ?_
    rintro e w1 ⟨rfl, hb⟩
    replace b0 := b0.later hb
    have b0_0 := b0.c0
    have b0_1 := b0.c1
    replace b1 := b1.later hb
    have b1_0 := b1.c0
    have b1_1 := b1.c1
    replace bW := bW.thenB hb
    have z1 := hb.size
    clear hb
    go_wp2_with fail
    clear hwn hne
    try generalize wrap64 ((xs.length : Int) * (xs.length : Int)) = q29 at *
    have BW := bW
    have B0 := b0
    have B1 := b1
    clear b0 b1 b0_0 b0_1 b1_0 b1_1 bW
    have hMR := HM.out.all
    have hNR := HN.out.all
    have hly : ys.length ≤ 16 := by rw [← K4.out]; exact hl16
    go_loopw [7] (fun i wr => ∃ b : Nat, b ≤ xs.length ∧ i = .int .i64 b ∧ (rngTo xs.length ls (xs.length * b) = true ∧ eqTo xs ys ls b = true) ∧ Below w1.heap.size w1 wr) (fun i _ => xs.length - (intOf i).toNat)
    case atStart => exact ⟨0, Nat.zero_le _, rfl, ⟨by simp [rngTo], rfl⟩, Below.refl _ _⟩
    case round =>
      obtain ⟨b, hb, rfl, hinv, hbe⟩ := hrel
      have HINV := Lib.hid hinv
      clear hinv
      have b0 := B0.later hbe
      have b1 := B1.later hbe
      have b0_0 := b0.c0
      have b0_1 := b0.c1
      by_cases hlb : b < xs.length
      · obtain ⟨nb, hnb⟩ : ∃ nb : Nat, nb = xs.length * b := ⟨_, rfl⟩
        have HNB := Lib.hid hnb
        clear hnb
        go_wp2_with fail
        clear b0_0 b0_1 b0 b1
        go_loopw [8, 9, 10] (fun f v i wz => ∃ a : Nat, a ≤ xs.length ∧ i = .int .i64 a ∧ f = .int .i64 (rowS xs.length ls b a) ∧ v = .int .i64 (colS xs.length ls b a) ∧ rngTo xs.length ls (nb + a) = true ∧ Below w1.heap.size w1 wz) (fun _ _ i _ => xs.length - (intOf i).toNat)
        case atStart => exact ⟨0, Nat.zero_le _, rfl, rfl, rfl, by have h := HINV.out.1; rw [← HNB.out] at h; exact h, hbe⟩
        case round =>
          clear hbe
          obtain ⟨a, ha, rfl, rfl, rfl, hii, hbe⟩ := hrel
          have HII := Lib.hid hii
          clear hii
          have b0 := B0.later hbe
          have b1 := B1.later hbe
          have bW := BW.thenB hbe
          by_cases hla : a < xs.length
          · skip
            have hi1 : nb + a < nn := by rw [HNB.out, HNN.out]; exact idx_lt hla hlb
            obtain ⟨na, hna⟩ : ∃ na : Nat, na = xs.length * a := ⟨_, rfl⟩
            have hi2 : na + b < nn := by rw [hna, HNN.out]; exact idx_lt hlb hla
            have hwb : wrap64 ((xs.length : Int) * (b : Int)) = (nb : Int) := wrapN (by rw [HNB.out, Int.natCast_mul]) (Nat.le_trans (Nat.le_add_right nb a) (Nat.le_trans (Nat.le_of_lt hi1) hnn256))
            have hwa : wrap64 ((xs.length : Int) * (a : Int)) = (na : Int) := wrapN (by rw [hna, Int.natCast_mul]) (Nat.le_trans (Nat.le_add_right na b) (Nat.le_trans (Nat.le_of_lt hi2) hnn256))
            have HNA := Lib.hid hna
            clear hna
            obtain ⟨i1, hi1e⟩ : ∃ i1 : Nat, i1 = nb + a := ⟨_, rfl⟩
            obtain ⟨i2, hi2e⟩ : ∃ i2 : Nat, i2 = na + b := ⟨_, rfl⟩
            have hs1 : wrap64 ((nb : Int) + (a : Int)) = (i1 : Int) := wrapN (by rw [hi1e, Int.natCast_add]) (by rw [hi1e]; exact Nat.le_trans (Nat.le_of_lt hi1) hnn256)
            have hs2 : wrap64 ((na : Int) + (b : Int)) = (i2 : Int) := wrapN (by rw [hi2e, Int.natCast_add]) (by rw [hi2e]; exact Nat.le_trans (Nat.le_of_lt hi2) hnn256)
            rw [← hi1e] at hi1
            rw [← hi2e] at hi2
            have HE1 := Lib.hid hi1e
            have HE2 := Lib.hid hi2e
            clear hi1e hi2e
            have hj1 : i1 < ls.length := by rw [HLL.out]; exact hi1
            have hj2 : i2 < ls.length := by rw [HLL.out]; exact hi2
            obtain ⟨bl, off, el, hbl, hc10⟩ := hl i1 hj1
            cases el
            obtain ⟨bl2, off2, el2, hbl2, hc20⟩ := hl i2 hj2
            cases el2
            have hc1 := (bW.cell (p := ⟨bl, off + i1, none⟩) hbl).trans hc10
            have hc2 := (bW.cell (p := ⟨bl, off + i2, none⟩) hbl).trans hc20
            have lbl : bl < wr.heap.size := Nat.lt_of_lt_of_le hbl bW.size
            have l0 : w.heap.size < wr.heap.size := b0.lt
            have d1 := fun x : LaterW wr.heap.size wr => x.cell l0 b0.c1
            have d2 := fun x : LaterW wr.heap.size wr => x.cell lbl hc1
            have d3 := fun x : LaterW wr.heap.size wr => x.cell lbl hc2
            have ha16 : a < 16 := by omega
            have hb16 : b < 16 := by omega
            have ht : (bits BinOp.andNot IntKind.i64 (a : Int) (b : Int) != 0) = !subB a b := by rw [← sub_test a b ha16 hb16]; rfl
            have b0_1 := b0.c1
            have hzw := hbe.size
            clear hc10 hc20
            obtain ⟨x1, x2⟩ := allB_nth hR i1 hj1
            obtain ⟨y1, y2⟩ := allB_nth hR i2 hj2
            obtain ⟨f1, f2⟩ := rowS_bd hR b (by rw [← HNB.out]; have := idx_lt (show xs.length - 1 < xs.length by omega) hlb; rw [← HNB.out, ← HNN.out] at this; have := HLL.out; omega) a (by omega)
            obtain ⟨g1, g2⟩ := colS_bd hR b hlb (by rw [← HNN.out, HLL.out]; exact Nat.le_refl _) a (by omega)
            have HRS := Lib.hid (rowS_succ xs.length ls b a)
            have HCS := Lib.hid (colS_succ xs.length ls b a)
            rw [← HNB.out, ← HE1.out] at HRS
            rw [← HNA.out, ← HE2.out] at HCS
            have hin : inB (nth ls i1) 0 1000000000000 = true := by simp [inB]; omega
            have HRN := Lib.hid (rngTo_succ xs.length ls i1)
            have hdm := idx_div (b := b) hla
            rw [← HNB.out, ← HE1.out] at hdm
            have HDM := Lib.hid hdm
            rw [hdm.1, hdm.2] at HRN
            clear hdm
            go_wp2_with fail
            refine wp_region_later (by kernel_rfl) (by kernel_rfl) ?_
            repeat (go_big_quiet_step (fail))
            refine wpQuiet_nil ?_
            intro _ hw'
            obtain ⟨x, rfl⟩ := hw'
            have hbx := hbe.thenB x.below
            have bX := BW.thenB hbx
            clear d1 d2 d3 b0 b1 b0_1 hc1 hc2 hwa hwb hs1 hs2 bW hbe
            go_wp2_with fail
            refine (l1In_any _ _ _ _).mono ?_
            rintro e w' ⟨rfl, rfl⟩
            by_cases hs : subB a b = true
            · have HS := Lib.hid hs
              rw [hs] at ht
              clear hs
              have HK : Hid (rngTo xs.length ls (nb + (a + 1)) = true) := Lib.hid (by have h := HII.out; rw [← HE1.out] at h; rw [show nb + (a + 1) = i1 + 1 by have := HE1.out; omega, HRN.out, h, hin]; rw [HS.out]; rfl)
              go_upto_region 9 with fail
              iterate 12 go_step
              refine And.intro ?_ ?_
              · repeat apply Exists.intro
                refine And.intro ?_ rfl
                exact ⟨a + 1, by omega, by go_num, by rw [HRS.out], by rw [HCS.out], HK.out, hbx⟩
              · show xs.length - (intOf (.int .i64 ((a : Int) + 1))).toNat < xs.length - (intOf (.int .i64 (a : Int))).toNat
                simp [intOf]; omega
            replace hs : subB a b = false := by simpa using hs
            have HS := Lib.hid hs
            rw [hs] at ht
            clear hs
            by_cases hz : nth ls i1 = 0
            · have hz0 : ¬ 0 < nth ls i1 := by omega
              have HZ := Lib.hid hz
              clear hz
              have HK : Hid (rngTo xs.length ls (nb + (a + 1)) = true) := Lib.hid (by have h := HII.out; rw [← HE1.out] at h; rw [show nb + (a + 1) = i1 + 1 by have := HE1.out; omega, HRN.out, h, hin]; rw [HZ.out]; simp)
              go_upto_region 9 with fail
              iterate 12 go_step
              refine And.intro ?_ ?_
              · repeat apply Exists.intro
                refine And.intro ?_ rfl
                exact ⟨a + 1, by omega, by go_num, by rw [HRS.out], by rw [HCS.out], HK.out, hbx⟩
              · show xs.length - (intOf (.int .i64 ((a : Int) + 1))).toNat < xs.length - (intOf (.int .i64 (a : Int))).toNat
                simp [intOf]; omega
            have hzp : 0 < nth ls i1 := by omega
            clear hz
            have hF : Hid (mvB xs ys ls = false) := Lib.hid (mvB_no_r (i := i1) (by rw [← HNN.out]; exact hi1) (fun h => h.2.elim (fun h3 => by rw [HDM.out.1, HDM.out.2, HS.out] at h3; cases h3) (fun h3 => by omega)))
            go_wp2
            go_ret
            exact ⟨ret_bool (by rw [hr.out, hF.out]), bX⟩
          · have haN : a = xs.length := by omega
            have hne := mvB_no_e (xs := xs) (ys := ys) (ls := ls) hlb
            have HNE := Lib.hid hne
            clear hne
            rw [fr_all xs.length ls b hlb, to_all xs.length ls b hlb] at HNE
            have HES := Lib.hid (eqTo_succ xs ys ls b)
            rw [fr_all xs.length ls b hlb, to_all xs.length ls b hlb] at HES
            rw [haN]
            obtain ⟨⟨p1, p2⟩, _⟩ := apA_bd HN.out HM.out K4.out.symm b (by rw [← K4.out]; exact hlb)
            obtain ⟨⟨r1, r2⟩, _⟩ := apA_bd HM.out HN.out K4.out b hlb
            have hxr := hx.below bW
            have hyr := hy.below bW
            obtain ⟨bx, ox, ex, hbx, hcx⟩ := hxr b hlb
            obtain ⟨by', oy, ey, hby, hcy⟩ := hyr b (by rw [← K4.out]; exact hlb)
            have hby2 : b < ys.length := by rw [← K4.out]; exact hlb
            cases ex
            cases ey
            obtain ⟨P, hP⟩ : ∃ P, P = nth ys b * sumL xs := ⟨_, rfl⟩
            obtain ⟨R, hR2⟩ : ∃ R, R = nth xs b * sumL ys := ⟨_, rfl⟩
            rw [← hP] at HES HNE
            rw [← hR2] at HES HNE
            rw [← hP] at p1 p2
            rw [← hR2] at r1 r2
            have hw5 : IntKind.i64.wrap (nth ys b * sumL xs) = P := by rw [← hP]; exact IntWalk.i64_in _ ⟨by omega, by omega⟩
            have hw6 : IntKind.i64.wrap (nth xs b * sumL ys) = R := by rw [← hR2]; exact IntWalk.i64_in _ ⟨by omega, by omega⟩
            have hw3 : wrap64 (nth ys b * sumL xs) = P := by rw [← hP]; exact IntWalk.wrap64_in _ ⟨by omega, by omega⟩
            have hw4 : wrap64 (nth xs b * sumL ys) = R := by rw [← hR2]; exact IntWalk.wrap64_in _ ⟨by omega, by omega⟩
            obtain ⟨gv, hgv⟩ : ∃ gv, gv = rowS xs.length ls b xs.length := ⟨_, rfl⟩
            obtain ⟨tv, htv⟩ : ∃ tv, tv = colS xs.length ls b xs.length := ⟨_, rfl⟩
            rw [← hgv] at HES HNE ⊢
            rw [← htv] at HES HNE ⊢
            clear hgv htv
            clear hP hR2 p1 p2 r1 r2 hx hy hl
            have b0_0 := b0.c0
            have b0_1 := b0.c1
            have b1_0 := b1.c0
            have b1_1 := b1.c1
            clear b0 b1 B0 B1
            rw [haN] at HII
            by_cases h3 : gv = P
            rotate_left
            · have H3 := Lib.hid h3
              have h3b : (gv != P) = true := by simp [h3]
              clear h3
              have lt0 := World.block_lt_of_cell? _ _ b0_0
              have lt1 := World.block_lt_of_cell? _ _ b0_1
              have lt2 := World.block_lt_of_cell? _ _ b1_0
              have lt3 := World.block_lt_of_cell? _ _ b1_1
              have lt4 := World.block_lt_of_cell? _ _ hcx
              have lt5 := World.block_lt_of_cell? _ _ hcy
              have d0 := fun x : LaterW wr.heap.size wr => x.cell lt0 b0_0
              have d1 := fun x : LaterW wr.heap.size wr => x.cell lt1 b0_1
              have d2 := fun x : LaterW wr.heap.size wr => x.cell lt2 b1_0
              have d3 := fun x : LaterW wr.heap.size wr => x.cell lt3 b1_1
              have d4 := fun x : LaterW wr.heap.size wr => x.cell lt4 hcx
              have d5 := fun x : LaterW wr.heap.size wr => x.cell lt5 hcy
              go_wp2_with fail
              refine wp_region_later (by kernel_rfl) (by kernel_rfl) ?_
              repeat (go_big_quiet_step ((go_at_call 80; exact LaterW.call (l3Whole_any _ _ _ _ _ (LaterW.reads _ (by assumption)) (by omega) (by assumption)))))
              refine wpQuiet_nil ?_
              intro _ hw'
              obtain ⟨x, rfl⟩ := hw'
              have bX := bW.thenB x.below
              clear d0 lt0 d1 lt1 d2 lt2 d3 lt3 d4 lt4 d5 lt5
              have hF : Hid (mvB xs ys ls = false) := Lib.hid (HNE.out (fun h => H3.out h.1))
              go_wp2
              go_ret
              exact ⟨ret_bool (by rw [hr.out, hF.out]), bX⟩
            have H3 := Lib.hid h3
            have h3b : (gv != P) = false := by simp [h3]
            clear h3
            by_cases h4 : tv = R
            rotate_left
            · have H4 := Lib.hid h4
              have h4b : (tv != R) = true := by simp [h4]
              clear h4
              have lt0 := World.block_lt_of_cell? _ _ b0_0
              have lt1 := World.block_lt_of_cell? _ _ b0_1
              have lt2 := World.block_lt_of_cell? _ _ b1_0
              have lt3 := World.block_lt_of_cell? _ _ b1_1
              have lt4 := World.block_lt_of_cell? _ _ hcx
              have lt5 := World.block_lt_of_cell? _ _ hcy
              have d0 := fun x : LaterW wr.heap.size wr => x.cell lt0 b0_0
              have d1 := fun x : LaterW wr.heap.size wr => x.cell lt1 b0_1
              have d2 := fun x : LaterW wr.heap.size wr => x.cell lt2 b1_0
              have d3 := fun x : LaterW wr.heap.size wr => x.cell lt3 b1_1
              have d4 := fun x : LaterW wr.heap.size wr => x.cell lt4 hcx
              have d5 := fun x : LaterW wr.heap.size wr => x.cell lt5 hcy
              go_wp2_with fail
              refine wp_region_later (by kernel_rfl) (by kernel_rfl) ?_
              repeat (go_big_quiet_step ((go_at_call 80; exact LaterW.call (l3Whole_any _ _ _ _ _ (LaterW.reads _ (by assumption)) (by omega) (by assumption)))))
              refine wpQuiet_nil ?_
              intro _ hw'
              obtain ⟨x, rfl⟩ := hw'
              have bX := bW.thenB x.below
              clear d0 lt0 d1 lt1 d2 lt2 d3 lt3 d4 lt4 d5 lt5
              have hF : Hid (mvB xs ys ls = false) := Lib.hid (HNE.out (fun h => H4.out h.2))
              go_wp2
              go_ret
              exact ⟨ret_bool (by rw [hr.out, hF.out]), bX⟩
            have H4 := Lib.hid h4
            have h4b : (tv != R) = false := by simp [h4]
            clear h4
            have HK1 : Hid (eqTo xs ys ls (b + 1) = true) := Lib.hid (by rw [HES.out, HINV.out.2, H3.out, H4.out]; simp)
            have HK2 : Hid (rngTo xs.length ls (xs.length * (b + 1)) = true) := Lib.hid (by rw [Nat.mul_succ, ← HNB.out]; exact HII.out)
            have hsb := hbe
            have lt0 := World.block_lt_of_cell? _ _ b0_0
            have lt1 := World.block_lt_of_cell? _ _ b0_1
            have lt2 := World.block_lt_of_cell? _ _ b1_0
            have lt3 := World.block_lt_of_cell? _ _ b1_1
            have lt4 := World.block_lt_of_cell? _ _ hcx
            have lt5 := World.block_lt_of_cell? _ _ hcy
            have d0 := fun x : LaterW wr.heap.size wr => x.cell lt0 b0_0
            have d1 := fun x : LaterW wr.heap.size wr => x.cell lt1 b0_1
            have d2 := fun x : LaterW wr.heap.size wr => x.cell lt2 b1_0
            have d3 := fun x : LaterW wr.heap.size wr => x.cell lt3 b1_1
            have d4 := fun x : LaterW wr.heap.size wr => x.cell lt4 hcx
            have d5 := fun x : LaterW wr.heap.size wr => x.cell lt5 hcy
            go_wp2_with fail
            refine wp_region_later (by kernel_rfl) (by kernel_rfl) ?_
            repeat (go_big_quiet_step ((go_at_call 80; exact LaterW.call (l3Whole_any _ _ _ _ _ (LaterW.reads _ (by assumption)) (by omega) (by assumption)))))
            refine wpQuiet_nil ?_
            intro _ hw'
            obtain ⟨x, rfl⟩ := hw'
            have bX := bW.thenB x.below
            clear d0 lt0 d1 lt1 d2 lt2 d3 lt3 d4 lt4 d5 lt5
            go_upto_region 5 with fail
            iterate 12 go_step
            refine And.intro ?_ ?_
            · repeat apply Exists.intro
              refine And.intro ?_ rfl
              exact ⟨b + 1, by omega, by go_num, ⟨HK2.out, HK1.out⟩, hsb.thenB x.below⟩
            · show xs.length - (intOf (.int .i64 ((b : Int) + 1))).toNat < xs.length - (intOf (.int .i64 (b : Int))).toNat
              simp [intOf]; omega
      · have hbN : b = xs.length := by omega
        subst hbN
        have hT : Hid (mvB xs ys ls = true) := Lib.hid (by rw [mvB, HINV.out.1, HINV.out.2]; rfl)
        have bX := BW.thenB hbe
        go_wp2
        go_ret
        exact ⟨ret_bool (by rw [hr.out, hT.out]), bX⟩

end Go.Proofs.Ytjmfjgoehicgcaa
