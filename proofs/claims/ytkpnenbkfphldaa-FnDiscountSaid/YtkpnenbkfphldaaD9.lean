/- How far two masses are apart: both packages. -/
import Derived.Test.YtkpnenbkfphldaaO8
import Derived.Test.YtkpnenbkfphldaaV7
set_option linter.unusedVariables false
set_option linter.unusedSimpArgs false
namespace Go.Proofs.Ytkpnenbkfphldaa
open Go.RowKit

/-- By how much a part is more in the first mass than in the second. -/
def apA (xs ys : List Int) (k : Nat) : Int := nth xs k * sumL ys - nth ys k * sumL xs

def apM (xs ys : List Int) (k : Nat) : Int := if apA xs ys k < 0 then 0 else apA xs ys k

def apTo (xs ys : List Int) (k : Nat) : Int := (List.range k).foldl (fun s b => s + apM xs ys b) 0

theorem apTo_succ (xs ys : List Int) (k : Nat) : apTo xs ys (k + 1) = apTo xs ys k + apM xs ys k := by
  simp [apTo, List.range_succ]

theorem prod_bd (a b A B : Int) (ha : 0 ≤ a) (hA : a ≤ A) (hb : 0 ≤ b) (hB : b ≤ B) : 0 ≤ a * b ∧ a * b ≤ A * B :=
  ⟨Int.mul_nonneg ha hb, Int.mul_le_mul hA hB hb (by omega)⟩

theorem apA_bd {s t : Int} {xs ys : List Int} (hm : MassOk s xs) (hn : MassOk t ys) (hl : xs.length = ys.length) (k : Nat) (hk : k < xs.length) :
    (0 ≤ nth xs k * sumL ys ∧ nth xs k * sumL ys ≤ 1000000000000) ∧ (0 ≤ nth ys k * sumL xs ∧ nth ys k * sumL xs ≤ 1000000000000) ∧ 0 ≤ apM xs ys k ∧ apM xs ys k ≤ 1000000000000 := by
  have h1 := allB_nth hm.all k hk
  have h2 := allB_nth hn.all k (by omega)
  have h3 := prod_bd (nth xs k) (sumL ys) 1000000 1000000 h1.1 h1.2 (by have := hn.sum1; omega) hn.sum2
  have h4 := prod_bd (nth ys k) (sumL xs) 1000000 1000000 h2.1 h2.2 (by have := hm.sum1; omega) hm.sum2
  refine ⟨⟨h3.1, by omega⟩, ⟨h4.1, by omega⟩, ?_⟩
  unfold apM apA
  split <;> omega

theorem apTo_bd {s t : Int} {xs ys : List Int} (hm : MassOk s xs) (hn : MassOk t ys) (hl : xs.length = ys.length) (k : Nat) (hk : k ≤ xs.length) : 0 ≤ apTo xs ys k ∧ apTo xs ys k ≤ 1000000000000 * k := by
  induction k with
  | zero => simp [apTo]
  | succ k ih =>
    have h1 := ih (by omega)
    have h2 := (apA_bd hm hn hl k (by omega)).2.2
    rw [apTo_succ]
    omega

set_option maxHeartbeats 4000000 in
theorem iDistanceOf_any (s : Int) (p : Option Addr) (c : Nat) (xs : List Int) (t : Int) (q : Option Addr) (d : Nat) (ys : List Int) (w : World) (hx : Reads w p xs) (hy : Reads w q ys) (hxm : xs.length ≤ 1048576) (hym : ys.length ≤ 1048576) :
    Calls Try.prog 58 #[.agg #[.int .i64 s, .slice p xs.length c], .agg #[.int .i64 t, .slice q ys.length d]] w fun e w' => e = .returned (.tuple #[.agg #[.int .i64 (fN (bothB s xs t ys) (apTo xs ys xs.length) (sumL xs * sumL ys)), .int .i64 (fD (bothB s xs t ys) (apTo xs ys xs.length) (sumL xs * sumL ys))], .bool (fOk (bothB s xs t ys) (apTo xs ys xs.length) (sumL xs * sumL ys))]) ∧ Below w.heap.size w w' := by
  obtain ⟨W, hW⟩ : ∃ W : World, W = (((w.alloc (.cells #[.int .i64 s, .slice p xs.length c] 25)).alloc (.cells #[.int .i64 t, .slice q ys.length d] 25)).alloc (.cells #[.int .i64 0, .int .i64 0] 29)) := ⟨_, rfl⟩
  have bW : Below w.heap.size w W := by subst hW; exact (((belowAlloc _ _).thenB (belowAlloc _ _)).thenB (belowAlloc _ _))
  have hsz : W.heap.size = w.heap.size + 3 := by subst hW; simp
  have b0 : VarInv W (w.heap.size) (s) (.slice p xs.length c) := by
    subst hW
    have h := VarInv.made w (s) (.slice p xs.length c) 25
    exact ((h.later (belowAlloc _ _)).later (belowAlloc _ _))
  have b1 : VarInv W (w.heap.size + 1) (t) (.slice q ys.length d) := by
    subst hW
    have h := VarInv.made (w.alloc (.cells #[.int .i64 s, .slice p xs.length c] 25)) (t) (.slice q ys.length d) 25
    rw [show (w.alloc (.cells #[.int .i64 s, .slice p xs.length c] 25)).heap.size = w.heap.size + 1 by simp] at h
    exact (h.later (belowAlloc _ _))
  have bR : VarInv W (w.heap.size + 2) (0) (.int .i64 0) := by
    subst hW
    have h := VarInv.made ((w.alloc (.cells #[.int .i64 s, .slice p xs.length c] 25)).alloc (.cells #[.int .i64 t, .slice q ys.length d] 25)) (0) (.int .i64 0) 29
    rw [show ((w.alloc (.cells #[.int .i64 s, .slice p xs.length c] 25)).alloc (.cells #[.int .i64 t, .slice q ys.length d] 25)).heap.size = w.heap.size + 2 by simp] at h
    exact h
  have HWW := Lib.hid hW
  have HSZ := Lib.hid hsz
  clear hW hsz
  by_cases h1 : bothB s xs t ys = true
  rotate_left
  · have h1' : bothB s xs t ys = false := by simpa using h1
    obtain ⟨eN, eD, eO⟩ := fNo (num := apTo xs ys xs.length) (den := sumL xs * sumL ys) h1'
    have eN := Lib.hid eN
    have eD := Lib.hid eD
    have eO := Lib.hid eO
    go_enter Try.func58, Try.ntmps58
    go_wp2_with fail
    rw [← HWW.out]
    refine (ofOneQuestion_any _ _ _ _ _ _ _ _ _ (hx.below bW) (hy.below bW) hxm hym).mono ?_
    rintro e w1 ⟨rfl, hb⟩
    replace b0 := b0.later hb
    have b0_0 := b0.c0
    have b0_1 := b0.c1
    replace b1 := b1.later hb
    have b1_0 := b1.c0
    have b1_1 := b1.c1
    replace bR := bR.later hb
    have bR_0 := bR.c0
    have bR_1 := bR.c1
    replace bW := bW.thenB hb
    have z1 := hb.size
    clear hb
    have s0 := bR.c0
    have s1 := bR.c1
    have s2 := bR.f0
    have s3 := bR.f1
    go_wp2
    refine bodyPost_ret (v := .tuple #[.agg #[.int .i64 (0), .int .i64 (0)], .bool (false)]) (by simp [results, Try.results58, go_sem, s0, s1, s2, s3]) rfl ⟨by rw [eN.out, eD.out, eO.out], ?_⟩
    exact ((bW).setCell (by show _ ≤ w.heap.size + 2; omega) _).setCell (by show _ ≤ w.heap.size + 2; omega) _
  · obtain ⟨k1, k2, k3, k4⟩ := bothB_ok h1
    obtain ⟨eN, eD, eO⟩ := fYes (num := apTo xs ys xs.length) (den := sumL xs * sumL ys) h1
    have eN := Lib.hid eN
    have eD := Lib.hid eD
    have eO := Lib.hid eO
    have K4 := Lib.hid k4
    have HM := Lib.hid k1
    have HN := Lib.hid k2
    have hl16 := k1.l16
    clear k1 k2 k3 k4
    go_enter Try.func58, Try.ntmps58
    go_wp2_with fail
    rw [← HWW.out]
    refine (ofOneQuestion_any _ _ _ _ _ _ _ _ _ (hx.below bW) (hy.below bW) hxm hym).mono ?_
    rintro e w1 ⟨rfl, hb⟩
    replace b0 := b0.later hb
    have b0_0 := b0.c0
    have b0_1 := b0.c1
    replace b1 := b1.later hb
    have b1_0 := b1.c0
    have b1_1 := b1.c1
    replace bR := bR.later hb
    have bR_0 := bR.c0
    have bR_1 := bR.c1
    replace bW := bW.thenB hb
    have z1 := hb.size
    clear hb
    go_wp2_with fail
    have B0 := b0
    have B1 := b1
    have BR := bR
    have BW := bW
    clear b0_0 b0_1 b1_0 b1_1 bR_0 bR_1
    go_loopw [6, 16] (fun v i wr => ∃ k : Nat, k ≤ xs.length ∧ i = .int .i64 k ∧ v = .int .i64 (apTo xs ys k) ∧ Below w1.heap.size w1 wr) (fun _ i _ => xs.length - (intOf i).toNat)
    case atStart => exact ⟨0, Nat.zero_le _, rfl, rfl, Below.refl _ _⟩
    case round =>
      obtain ⟨k, hk, rfl, rfl, hb⟩ := hrel
      have hs := hb.size
      have b0 := B0.later hb
      have b1 := B1.later hb
      have bR := BR.later hb
      have hxr := (hx.below BW).below hb
      have hyr := (hy.below BW).below hb
      by_cases hlt : k < xs.length
      · clear hx hy
        obtain ⟨blk, off, rfl, hbl, hc⟩ := hxr k hlt
        have hlt2 : k < ys.length := by rw [← K4.out]; exact hlt
        obtain ⟨blk2, off2, rfl, hbl2, hc2⟩ := hyr k hlt2
        have l0 := b0.lt
        have l1 := b1.lt
        have d0 := fun x : LaterW wr.heap.size wr => x.cell l0 b0.c0
        have d1 := fun x : LaterW wr.heap.size wr => x.cell l0 b0.c1
        have d2 := fun x : LaterW wr.heap.size wr => x.cell l1 b1.c0
        have d3 := fun x : LaterW wr.heap.size wr => x.cell l1 b1.c1
        have d4 := fun x : LaterW wr.heap.size wr => x.cell hbl hc
        have d5 := fun x : LaterW wr.heap.size wr => x.cell hbl2 hc2
        obtain ⟨⟨e1, e2⟩, ⟨e3, e4⟩, e5, e6⟩ := apA_bd HM.out HN.out K4.out k hlt
        obtain ⟨g1, g2⟩ := apTo_bd HM.out HN.out K4.out k hk
        have hax := HM.out.all
        have hay := HN.out.all
        have hly : ys.length ≤ 16 := by rw [← K4.out]; exact hl16
        have hw1 : wrap64 (nth xs k * sumL ys) = nth xs k * sumL ys := IntWalk.wrap64_in _ ⟨by omega, by omega⟩
        have hw2 : wrap64 (nth ys k * sumL xs) = nth ys k * sumL xs := IntWalk.wrap64_in _ ⟨by omega, by omega⟩
        have b0_0 := b0.c0
        have b0_1 := b0.c1
        have b1_0 := b1.c0
        have b1_1 := b1.c1
        have hs2 := Lib.hid (apTo_succ xs ys k)
        go_wp2
        refine wp_region_later (by kernel_rfl) (by kernel_rfl) ?_
        repeat (go_big_quiet_step ((go_at_call 104; exact LaterW.call (wholeOf_any _ _ _ _ _ (LaterW.reads _ (by assumption)) (by omega) (by assumption)))))
        refine wpQuiet_nil ?_
        intro _ hw'
        obtain ⟨x, rfl⟩ := hw'
        have hbx := hb.trans (x.below.mono hs)
        have hE : (apTo xs ys k + if nth ys k * sumL xs < nth xs k * sumL ys then nth xs k * sumL ys - nth ys k * sumL xs else 0) = apTo xs ys (k + 1) := by rw [hs2.out, apM, apA]; split <;> split <;> omega
        rw [hE]
        clear d0 d1 d2 d3 d4 d5 hE
        go_wp2
        exact ⟨⟨k + 1, by omega, by go_num, rfl, hbx⟩, by simp [intOf]; omega⟩
      · have h2 : k = xs.length := by omega
        subst h2
        have bW := BW.thenB hb
        have hax := HM.out.all
        have hay := HN.out.all
        have hly : ys.length ≤ 16 := by rw [← K4.out]; exact hl16
        obtain ⟨e1, e2⟩ := prod_bd (sumL xs) (sumL ys) 1000000 1000000 (by have := HM.out.sum1; omega) HM.out.sum2 (by have := HN.out.sum1; omega) HN.out.sum2
        have e3 : ¬ sumL xs * sumL ys = 0 := Int.ne_of_gt (Int.mul_pos (by have := HM.out.sum1; omega) (by have := HN.out.sum1; omega))
        have hwr : IntKind.i64.wrap (sumL xs * sumL ys) = sumL xs * sumL ys := wrapIn _ (by omega) (by omega)
        obtain ⟨g1, g2⟩ := apTo_bd HM.out HN.out K4.out xs.length (Nat.le_refl _)
        clear B0 B1 BR BW hxr hyr hb
        go_wp2_with fail
        have b0_0 := b0.c0
        have b0_1 := b0.c1
        have b1_0 := b1.c0
        have b1_1 := b1.c1
        have bR_0 := bR.c0
        have bR_1 := bR.c1
        have tk0_0 : True := trivial
        have tk1_1 : True := trivial
        have tk2_2 : True := trivial
        go_region_held3 (fun w' => w'.cell? ⟨w.heap.size, 0, none⟩ = some (.int .i64 s) ∧ w'.cell? ⟨w.heap.size, 1, none⟩ = some (.slice p xs.length c) ∧ w'.cell? ⟨w.heap.size + 1, 0, none⟩ = some (.int .i64 t) ∧ w'.cell? ⟨w.heap.size + 1, 1, none⟩ = some (.slice q ys.length d))
          (first | exact ⟨b0_0, b0_1, b1_0, b1_1⟩ | exact ⟨cellStore2 b0_0 (by omega), cellStore2 b0_1 (by omega), cellStore2 b1_0 (by omega), cellStore2 b1_1 (by omega)⟩)
          (first
            | (go_at_call 104; have _t := tk0_0; (with_reducible refine (wholeOf_any s _ _ xs _ (by first | exact hx.below bW | exact ReadsK.drew (hx.below bW)) (by omega) hax).mono ?_); rintro e w1 ⟨rfl, hb⟩; (replace hb := undrew hb); clear b0_0 b0_1 b1_0 b1_1 bR_0 bR_1; (replace b0 := b0.later hb); (have b0_0 := b0.c0); (have b0_1 := b0.c1); (replace b1 := b1.later hb); (have b1_0 := b1.c0); (have b1_1 := b1.c1); (replace bR := bR.later hb); (have bR_0 := bR.c0); (have bR_1 := bR.c1); (replace bW := bW.thenB hb); (have z1 := hb.size); clear hb; clear tk0_0 _t)
            | (go_at_call 104; have _t := tk1_1; (with_reducible refine (wholeOf_any t _ _ ys _ (by first | exact hy.below bW | exact ReadsK.drew (hy.below bW)) (by omega) hay).mono ?_); rintro e w2 ⟨rfl, hb⟩; clear b0_0 b0_1 b1_0 b1_1 bR_0 bR_1; (replace b0 := b0.later hb); (have b0_0 := b0.c0); (have b0_1 := b0.c1); (replace b1 := b1.later hb); (have b1_0 := b1.c0); (have b1_1 := b1.c1); (replace bR := bR.later hb); (have bR_0 := bR.c0); (have bR_1 := bR.c1); (replace bW := bW.thenB hb); (have z2 := hb.size); clear hb; clear tk1_1 _t)
            | (go_at_call 66; have _t := tk2_2; (with_reducible refine (lowest_any (apTo xs ys xs.length) (sumL xs * sumL ys) _ (by omega) (by omega) (by omega) (by omega) e3).mono ?_); rintro e w3 ⟨rfl, hb⟩; clear b0_0 b0_1 b1_0 b1_1 bR_0 bR_1; (replace b0 := b0.later hb); (have b0_0 := b0.c0); (have b0_1 := b0.c1); (replace b1 := b1.later hb); (have b1_0 := b1.c0); (have b1_1 := b1.c1); (replace bR := bR.later hb); (have bR_0 := bR.c0); (have bR_1 := bR.c1); (replace bW := bW.thenB hb); (have z3 := hb.size); clear hb; (have s0 := bR.c0); (have s1 := bR.c1); (have s2 := bR.f0); (have s3 := bR.f1); clear tk2_2 _t))
        go_wp2
        refine bodyPost_ret (v := .tuple #[.agg #[.int .i64 (lowN (apTo xs ys xs.length) (sumL xs * sumL ys)), .int .i64 (lowD (apTo xs ys xs.length) (sumL xs * sumL ys))], .bool (lowOk (apTo xs ys xs.length) (sumL xs * sumL ys))]) (by simp [results, Try.results58, go_sem, s0, s1, s2, s3]) rfl ⟨by rw [eN.out, eD.out, eO.out], ?_⟩
        exact ((bW).setCell (by show _ ≤ w.heap.size + 2; omega) _).setCell (by show _ ≤ w.heap.size + 2; omega) _

set_option maxHeartbeats 4000000 in
theorem sDistanceOf_any (s : Int) (p : Option Addr) (c : Nat) (xs : List Int) (t : Int) (q : Option Addr) (d : Nat) (ys : List Int) (w : World) (hx : Reads w p xs) (hy : Reads w q ys) (hxm : xs.length ≤ 1048576) (hym : ys.length ≤ 1048576) :
    Calls Try.prog 59 #[.agg #[.int .i64 s, .slice p xs.length c], .agg #[.int .i64 t, .slice q ys.length d]] w fun e w' => e = .returned (.tuple #[.agg #[.int .i64 (fN (bothB s xs t ys) (apTo xs ys xs.length) (sumL xs * sumL ys)), .int .i64 (fD (bothB s xs t ys) (apTo xs ys xs.length) (sumL xs * sumL ys))], .bool (fOk (bothB s xs t ys) (apTo xs ys xs.length) (sumL xs * sumL ys))]) ∧ Below w.heap.size w w' := by
  obtain ⟨W, hW⟩ : ∃ W : World, W = (((w.alloc (.cells #[.int .i64 s, .slice p xs.length c] 25)).alloc (.cells #[.int .i64 t, .slice q ys.length d] 25)).alloc (.cells #[.int .i64 0, .int .i64 0] 29)) := ⟨_, rfl⟩
  have bW : Below w.heap.size w W := by subst hW; exact (((belowAlloc _ _).thenB (belowAlloc _ _)).thenB (belowAlloc _ _))
  have hsz : W.heap.size = w.heap.size + 3 := by subst hW; simp
  have b0 : VarInv W (w.heap.size) (s) (.slice p xs.length c) := by
    subst hW
    have h := VarInv.made w (s) (.slice p xs.length c) 25
    exact ((h.later (belowAlloc _ _)).later (belowAlloc _ _))
  have b1 : VarInv W (w.heap.size + 1) (t) (.slice q ys.length d) := by
    subst hW
    have h := VarInv.made (w.alloc (.cells #[.int .i64 s, .slice p xs.length c] 25)) (t) (.slice q ys.length d) 25
    rw [show (w.alloc (.cells #[.int .i64 s, .slice p xs.length c] 25)).heap.size = w.heap.size + 1 by simp] at h
    exact (h.later (belowAlloc _ _))
  have bR : VarInv W (w.heap.size + 2) (0) (.int .i64 0) := by
    subst hW
    have h := VarInv.made ((w.alloc (.cells #[.int .i64 s, .slice p xs.length c] 25)).alloc (.cells #[.int .i64 t, .slice q ys.length d] 25)) (0) (.int .i64 0) 29
    rw [show ((w.alloc (.cells #[.int .i64 s, .slice p xs.length c] 25)).alloc (.cells #[.int .i64 t, .slice q ys.length d] 25)).heap.size = w.heap.size + 2 by simp] at h
    exact h
  have HWW := Lib.hid hW
  have HSZ := Lib.hid hsz
  clear hW hsz
  by_cases h1 : bothB s xs t ys = true
  rotate_left
  · have h1' : bothB s xs t ys = false := by simpa using h1
    obtain ⟨eN, eD, eO⟩ := fNo (num := apTo xs ys xs.length) (den := sumL xs * sumL ys) h1'
    have eN := Lib.hid eN
    have eD := Lib.hid eD
    have eO := Lib.hid eO
    go_enter Try.func59, Try.ntmps59
    go_wp2_with fail
    rw [← HWW.out]
    refine (l3Both_any _ _ _ _ _ _ _ _ _ (hx.below bW) (hy.below bW) hxm hym).mono ?_
    rintro e w1 ⟨rfl, hb⟩
    replace b0 := b0.later hb
    have b0_0 := b0.c0
    have b0_1 := b0.c1
    replace b1 := b1.later hb
    have b1_0 := b1.c0
    have b1_1 := b1.c1
    replace bR := bR.later hb
    have bR_0 := bR.c0
    have bR_1 := bR.c1
    replace bW := bW.thenB hb
    have z1 := hb.size
    clear hb
    have s0 := bR.c0
    have s1 := bR.c1
    have s2 := bR.f0
    have s3 := bR.f1
    go_wp2
    refine bodyPost_ret (v := .tuple #[.agg #[.int .i64 (0), .int .i64 (0)], .bool (false)]) (by simp [results, Try.results59, go_sem, s0, s1, s2, s3]) rfl ⟨by rw [eN.out, eD.out, eO.out], ?_⟩
    exact ((bW).setCell (by show _ ≤ w.heap.size + 2; omega) _).setCell (by show _ ≤ w.heap.size + 2; omega) _
  · obtain ⟨k1, k2, k3, k4⟩ := bothB_ok h1
    obtain ⟨eN, eD, eO⟩ := fYes (num := apTo xs ys xs.length) (den := sumL xs * sumL ys) h1
    have eN := Lib.hid eN
    have eD := Lib.hid eD
    have eO := Lib.hid eO
    have K4 := Lib.hid k4
    have HM := Lib.hid k1
    have HN := Lib.hid k2
    have hl16 := k1.l16
    clear k1 k2 k3 k4
    go_enter Try.func59, Try.ntmps59
    go_wp2_with fail
    rw [← HWW.out]
    refine (l3Both_any _ _ _ _ _ _ _ _ _ (hx.below bW) (hy.below bW) hxm hym).mono ?_
    rintro e w1 ⟨rfl, hb⟩
    replace b0 := b0.later hb
    have b0_0 := b0.c0
    have b0_1 := b0.c1
    replace b1 := b1.later hb
    have b1_0 := b1.c0
    have b1_1 := b1.c1
    replace bR := bR.later hb
    have bR_0 := bR.c0
    have bR_1 := bR.c1
    replace bW := bW.thenB hb
    have z1 := hb.size
    clear hb
    go_wp2_with fail
    have B0 := b0
    have B1 := b1
    have BR := bR
    have BW := bW
    clear b0_0 b0_1 b1_0 b1_1 bR_0 bR_1
    go_loopw [6, 7] (fun v i wr => ∃ k : Nat, k ≤ xs.length ∧ i = .int .i64 k ∧ v = .int .i64 (apTo xs ys k) ∧ Below w1.heap.size w1 wr) (fun _ i _ => xs.length - (intOf i).toNat)
    case atStart => exact ⟨0, Nat.zero_le _, rfl, rfl, Below.refl _ _⟩
    case round =>
      obtain ⟨k, hk, rfl, rfl, hb⟩ := hrel
      have hs := hb.size
      have b0 := B0.later hb
      have b1 := B1.later hb
      have bR := BR.later hb
      have hxr := (hx.below BW).below hb
      have hyr := (hy.below BW).below hb
      by_cases hlt : k < xs.length
      · clear hx hy
        obtain ⟨blk, off, rfl, hbl, hc⟩ := hxr k hlt
        have hlt2 : k < ys.length := by rw [← K4.out]; exact hlt
        obtain ⟨blk2, off2, rfl, hbl2, hc2⟩ := hyr k hlt2
        have l0 := b0.lt
        have l1 := b1.lt
        have d0 := fun x : LaterW wr.heap.size wr => x.cell l0 b0.c0
        have d1 := fun x : LaterW wr.heap.size wr => x.cell l0 b0.c1
        have d2 := fun x : LaterW wr.heap.size wr => x.cell l1 b1.c0
        have d3 := fun x : LaterW wr.heap.size wr => x.cell l1 b1.c1
        have d4 := fun x : LaterW wr.heap.size wr => x.cell hbl hc
        have d5 := fun x : LaterW wr.heap.size wr => x.cell hbl2 hc2
        obtain ⟨⟨e1, e2⟩, ⟨e3, e4⟩, e5, e6⟩ := apA_bd HM.out HN.out K4.out k hlt
        obtain ⟨g1, g2⟩ := apTo_bd HM.out HN.out K4.out k hk
        have hax := HM.out.all
        have hay := HN.out.all
        have hly : ys.length ≤ 16 := by rw [← K4.out]; exact hl16
        have hw1 : wrap64 (nth xs k * sumL ys) = nth xs k * sumL ys := IntWalk.wrap64_in _ ⟨by omega, by omega⟩
        have hw2 : wrap64 (nth ys k * sumL xs) = nth ys k * sumL xs := IntWalk.wrap64_in _ ⟨by omega, by omega⟩
        have b0_0 := b0.c0
        have b0_1 := b0.c1
        have b1_0 := b1.c0
        have b1_1 := b1.c1
        have hs2 := Lib.hid (apTo_succ xs ys k)
        go_wp2
        refine wp_region_later (by kernel_rfl) (by kernel_rfl) ?_
        repeat (go_big_quiet_step ((go_at_call 115; exact LaterW.call (l3Whole_any _ _ _ _ _ (LaterW.reads _ (by assumption)) (by omega) (by assumption)))))
        refine wpQuiet_nil ?_
        intro _ hw'
        obtain ⟨x, rfl⟩ := hw'
        have hbx := hb.trans (x.below.mono hs)
        have hE : (apTo xs ys k + if nth ys k * sumL xs < nth xs k * sumL ys then nth xs k * sumL ys - nth ys k * sumL xs else 0) = apTo xs ys (k + 1) := by rw [hs2.out, apM, apA]; split <;> split <;> omega
        clear d0 d1 d2 d3 d4 d5 hE
        go_wp2
        exact ⟨⟨k + 1, by omega, by go_num, congrArg (Value.int .i64) (by rw [hs2.out]; rfl), hbx⟩, by simp [intOf]; omega⟩
      · have h2 : k = xs.length := by omega
        subst h2
        have bW := BW.thenB hb
        have hax := HM.out.all
        have hay := HN.out.all
        have hly : ys.length ≤ 16 := by rw [← K4.out]; exact hl16
        obtain ⟨e1, e2⟩ := prod_bd (sumL xs) (sumL ys) 1000000 1000000 (by have := HM.out.sum1; omega) HM.out.sum2 (by have := HN.out.sum1; omega) HN.out.sum2
        have e3 : ¬ sumL xs * sumL ys = 0 := Int.ne_of_gt (Int.mul_pos (by have := HM.out.sum1; omega) (by have := HN.out.sum1; omega))
        have hwr : IntKind.i64.wrap (sumL xs * sumL ys) = sumL xs * sumL ys := wrapIn _ (by omega) (by omega)
        obtain ⟨g1, g2⟩ := apTo_bd HM.out HN.out K4.out xs.length (Nat.le_refl _)
        clear B0 B1 BR BW hxr hyr hb
        have b0_0 := b0.c0
        have b0_1 := b0.c1
        go_wp2_with fail
        clear b0_0 b0_1
        go_wp2_with fail
        have b0_0 := b0.c0
        have b0_1 := b0.c1
        have b1_0 := b1.c0
        have b1_1 := b1.c1
        have bR_0 := bR.c0
        have bR_1 := bR.c1
        have tk0_0 : True := trivial
        have tk1_1 : True := trivial
        have tk2_2 : True := trivial
        go_region_held3 (fun w' => w'.cell? ⟨w.heap.size, 0, none⟩ = some (.int .i64 s) ∧ w'.cell? ⟨w.heap.size, 1, none⟩ = some (.slice p xs.length c) ∧ w'.cell? ⟨w.heap.size + 1, 0, none⟩ = some (.int .i64 t) ∧ w'.cell? ⟨w.heap.size + 1, 1, none⟩ = some (.slice q ys.length d))
          (first | exact ⟨b0_0, b0_1, b1_0, b1_1⟩ | exact ⟨cellStore2 b0_0 (by omega), cellStore2 b0_1 (by omega), cellStore2 b1_0 (by omega), cellStore2 b1_1 (by omega)⟩)
          (first
            | (go_at_call 115; have _t := tk0_0; (with_reducible refine (l3Whole_any s _ _ xs _ (by first | exact hx.below bW | exact ReadsK.drew (hx.below bW)) (by omega) hax).mono ?_); rintro e w1 ⟨rfl, hb⟩; (replace hb := undrew hb); clear b0_0 b0_1 b1_0 b1_1 bR_0 bR_1; (replace b0 := b0.later hb); (have b0_0 := b0.c0); (have b0_1 := b0.c1); (replace b1 := b1.later hb); (have b1_0 := b1.c0); (have b1_1 := b1.c1); (replace bR := bR.later hb); (have bR_0 := bR.c0); (have bR_1 := bR.c1); (replace bW := bW.thenB hb); (have z1 := hb.size); clear hb; clear tk0_0 _t)
            | (go_at_call 115; have _t := tk1_1; (with_reducible refine (l3Whole_any t _ _ ys _ (by first | exact hy.below bW | exact ReadsK.drew (hy.below bW)) (by omega) hay).mono ?_); rintro e w2 ⟨rfl, hb⟩; clear b0_0 b0_1 b1_0 b1_1 bR_0 bR_1; (replace b0 := b0.later hb); (have b0_0 := b0.c0); (have b0_1 := b0.c1); (replace b1 := b1.later hb); (have b1_0 := b1.c0); (have b1_1 := b1.c1); (replace bR := bR.later hb); (have bR_0 := bR.c0); (have bR_1 := bR.c1); (replace bW := bW.thenB hb); (have z2 := hb.size); clear hb; clear tk1_1 _t)
            | (go_at_call 72; have _t := tk2_2; (with_reducible refine (l2Made_any (apTo xs ys xs.length) (sumL xs * sumL ys) _ (by omega) (by omega) (by omega) (by omega) e3).mono ?_); rintro e w3 ⟨rfl, hb⟩; clear b0_0 b0_1 b1_0 b1_1 bR_0 bR_1; (replace b0 := b0.later hb); (have b0_0 := b0.c0); (have b0_1 := b0.c1); (replace b1 := b1.later hb); (have b1_0 := b1.c0); (have b1_1 := b1.c1); (replace bR := bR.later hb); (have bR_0 := bR.c0); (have bR_1 := bR.c1); (replace bW := bW.thenB hb); (have z3 := hb.size); clear hb; (have s0 := bR.c0); (have s1 := bR.c1); (have s2 := bR.f0); (have s3 := bR.f1); clear tk2_2 _t))
        go_wp2
        refine bodyPost_ret (v := .tuple #[.agg #[.int .i64 (lowN (apTo xs ys xs.length) (sumL xs * sumL ys)), .int .i64 (lowD (apTo xs ys xs.length) (sumL xs * sumL ys))], .bool (lowOk (apTo xs ys xs.length) (sumL xs * sumL ys))]) (by simp [results, Try.results59, go_sem, s0, s1, s2, s3]) rfl ⟨by rw [eN.out, eD.out, eO.out], ?_⟩
        exact ((bW).setCell (by show _ ≤ w.heap.size + 2; omega) _).setCell (by show _ ≤ w.heap.size + 2; omega) _

end Go.Proofs.Ytkpnenbkfphldaa
