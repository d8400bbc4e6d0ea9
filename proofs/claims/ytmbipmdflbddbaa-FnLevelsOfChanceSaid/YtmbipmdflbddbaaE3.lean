/- What the program exports: focal sets, contours, the most believed answer. -/
import Derived.Test.YtmbipmdflbddbaaN9
import Derived.Test.YtmbipmdflbddbaaS10
import Derived.Test.YtmbipmdflbddbaaE1
set_option linter.unusedVariables false
set_option linter.unusedSimpArgs false
namespace Go.Proofs.Ytmbipmdflbddbaa
open Go.RowKit

set_option maxHeartbeats 1000000 in
theorem iFocalSets_any (s : Int) (p : Option Addr) (c : Nat) (xs : List Int) (w : World) (hx : Reads w p xs) (hxm : xs.length ≤ 1048576) :
    Calls Try.prog 40 #[.agg #[.int .i64 s, .slice p xs.length c]] w fun e w' => ∃ v, e = .returned v ∧ Own w.heap.size w' v (fsL s xs) ∧ Below w.heap.size w w' := by
  obtain ⟨W, hW, bW, hsz, c0, c1⟩ := box1 w s p xs.length c
  have HW := Lib.hid hW
  have HSZ := Lib.hid hsz
  clear hW hsz
  cases hg : massB s xs
  · have hL := Lib.hid (fsL_no hg)
    go_enter Try.func40, Try.ntmps40
    go_wp2_with fail
    rw [← HW.out]
    refine (isMass_any _ _ _ _ _ (hx.below bW) hxm).mono ?_
    rintro e w1 ⟨rfl, hb1⟩
    rw [hg]
    have bb := bW.thenB hb1
    go_wp2
    go_ret
    exact ⟨_, rfl, by rw [hL.out]; exact Own.nil _ _, bb⟩
  · have hL := Lib.hid (fsL_yes hg)
    have hk := massB_ok hg
    have hl16 := hk.l16
    clear hk
    go_enter Try.func40, Try.ntmps40
    go_wp2_with fail
    rw [← HW.out]
    refine (isMass_any _ _ _ _ _ (hx.below bW) hxm).mono ?_
    rintro e w1 ⟨rfl, hb1⟩
    rw [hg]
    have bb := bW.thenB hb1
    have z1 := hb1.size
    replace c0 := cellKeep hb1 c0
    replace c1 := cellKeep hb1 c1
    clear hb1
    go_wp2_with fail
    refine (focalSets_any s p c xs w1 (hx.below bb) hl16).mono ?_
    rintro e w2 ⟨v, rfl, ho, hb2⟩
    have bb2 := bb.thenB hb2
    clear c0 c1
    go_wp2
    go_ret
    exact ⟨_, rfl, by rw [hL.out]; exact ho.mono (by have := HSZ.out; omega), bb2⟩

set_option maxHeartbeats 1000000 in
theorem iContourOf_yes (s : Int) (p : Option Addr) (c : Nat) (xs : List Int) (w : World) (hx : Reads w p xs) (hg : massB s xs = true) :
    Calls Try.prog 34 #[.agg #[.int .i64 s, .slice p xs.length c]] w fun e w' => ∃ v, e = .returned v ∧ Own w.heap.size w' v (cnTo xs s.toNat) ∧ Below w.heap.size w w' := by
  obtain ⟨W, hW, bW, hsz, c0, c1⟩ := box1 w s p xs.length c
  have HW := Lib.hid hW
  have HSZ := Lib.hid hsz
  clear hW hsz
  have hk := massB_ok hg
  have hl16 := hk.l16
  have HG := Lib.hid hg
  clear hk hg
  go_enter Try.func34, Try.ntmps34
  go_wp2_with fail
  rw [← HW.out]
  refine (isMass_any _ _ _ _ _ (hx.below bW) (by omega)).mono ?_
  rintro e w1 ⟨rfl, hb1⟩
  rw [HG.out]
  have bb := bW.thenB hb1
  have z1 := hb1.size
  replace c0 := cellKeep hb1 c0
  replace c1 := cellKeep hb1 c1
  clear hb1
  go_wp2_with fail
  refine (iContour_any s p c xs w1 (hx.below bb) HG.out).mono ?_
  rintro e w2 ⟨v, rfl, ho, hb2⟩
  have bb2 := bb.thenB hb2
  clear c0 c1
  go_wp2
  go_ret
  exact ⟨_, rfl, ho.mono (by have := HSZ.out; omega), bb2⟩

/-- The most believed answer: it has the greatest share. -/
def Best (s : Int) (xs : List Int) (w : World) (e : Ending) (w' : World) : Prop := ∃ b : Nat, e = .returned (.int .i64 (b : Int)) ∧ (b : Int) < s ∧ (∀ x : Nat, (x : Int) < s → evTo (bit x) xs xs.length ≤ evTo (bit b) xs xs.length) ∧ Below w.heap.size w w'

set_option maxHeartbeats 2000000 in
theorem iMostBelieved_yes (s : Int) (p : Option Addr) (c : Nat) (xs : List Int) (w : World) (hx : Reads w p xs) (hg : massB s xs = true) (h0 : sumL xs ≠ nth xs 0) :
    Calls Try.prog 27 #[.agg #[.int .i64 s, .slice p xs.length c]] w (Best s xs w) := by
  obtain ⟨W, hW, bW, hsz, c0, c1⟩ := box1 w s p xs.length c
  have HW := Lib.hid hW
  have HSZ := Lib.hid hsz
  clear hW hsz
  have hk := massB_ok hg
  have hl16 := hk.l16
  have k1 := hk.s1
  have k4 := hk.s4
  have hal := hk.all
  have hlen := hk.len
  have hp2 := pow2_bd s k1 k4
  have hxl1 : 1 ≤ xs.length := by omega
  have hxl2 : (0 : Int) < (xs.length : Int) := by omega
  have hne : (sumL xs == nth xs 0) = false := by simp [h0]
  obtain ⟨b0, off, rfl, hbl, hc0⟩ := hx 0 (by omega)
  have HG := Lib.hid hg
  clear hk hg h0 hlen hp2
  have hc := (bW.cell (p := ⟨b0, off, none⟩) hbl).trans hc0
  have hxW := hx.below bW
  have lt0 := World.block_lt_of_cell? _ _ c0
  have lt1 := World.block_lt_of_cell? _ _ c1
  have lt2 := World.block_lt_of_cell? _ _ hc
  have d0 := fun x : LaterW W.heap.size W => x.cell lt0 c0
  have d1 := fun x : LaterW W.heap.size W => x.cell lt1 c1
  have d2 := fun x : LaterW W.heap.size W => x.cell lt2 hc
  go_enter Try.func27, Try.ntmps27
  go_wp2_with fail
  rw [← HW.out]
  refine wp_region_later (by kernel_rfl) (by kernel_rfl) ?_
  repeat (go_big_quiet_step ((first | (go_at_call 68; exact (LaterW.call (v := .bool true) ((isMass_any _ _ _ _ _ (LaterW.reads _ (by assumption)) (by omega)).mono fun _ _ h => ⟨by rw [h.1, HG.out], h.2⟩))) | (go_at_call 69; exact LaterW.call (wholeOf_any _ _ _ _ _ (LaterW.reads _ (by assumption)) (by omega) (by assumption))))))
  refine wpQuiet_nil ?_
  intro _ hw'
  obtain ⟨x, rfl⟩ := hw'
  have bb := bW.thenB x.below
  have m0 := d0 x
  have m1 := d1 x
  clear d0 d1 d2 lt0 lt1 lt2 c0 c1 hc hc0 hxW
  generalize x.w = w1 at *
  go_wp2
  go_loopw [3, 19] (fun v i wr => ∃ k b : Nat, (k : Int) ≤ s ∧ i = .int .i64 k ∧ v = .int .i64 b ∧ (b : Int) < s ∧ (∀ x : Nat, x < k → evTo (bit x) xs xs.length ≤ evTo (bit b) xs xs.length) ∧ wr.cell? ⟨w.heap.size, 0, none⟩ = some (.int .i64 s) ∧ wr.cell? ⟨w.heap.size, 1, none⟩ = some (.slice (some ⟨b0, off, none⟩) xs.length c) ∧ Below w.heap.size w wr) (fun _ i _ => (s - intOf i).toNat)
  case atStart => exact ⟨0, 0, by omega, rfl, rfl, by omega, fun x hx => by omega, m0, m1, bb⟩
  case round =>
    clear m0 m1 bb
    obtain ⟨k, b, hk, rfl, rfl, hbs, hmax, m0, m1, hb⟩ := hrel
    have HMAX := Lib.hid hmax
    clear hmax
    by_cases hlt : (k : Int) < s
    · have hwk := bit_wrapN k (by omega)
      have hwk2 := bit_wrap' k (by omega)
      have hb16 := bit_lt16N k (by omega)
      have hvk := bit_wrapN b (by omega)
      have hvk2 := bit_wrap' b (by omega)
      have hc16 := bit_lt16N b (by omega)
      have hk4 : k ≤ 4 := by omega
      have hb4 : b ≤ 4 := by omega
      have hxr := hx.below hb
      have lt0 := World.block_lt_of_cell? _ _ m0
      have lt1 := World.block_lt_of_cell? _ _ m1
      have d0 := fun x : LaterW wr.heap.size wr => x.cell lt0 m0
      have d1 := fun x : LaterW wr.heap.size wr => x.cell lt1 m1
      go_wp2_with fail
      refine wp_region_later (by kernel_rfl) (by kernel_rfl) ?_
      repeat (go_big_quiet_step ((go_at_call 74; exact LaterW.call (sharedPart_any _ _ _ _ _ _ (LaterW.reads _ (by assumption)) (by omega) (by omega) (by assumption)))))
      refine wpQuiet_nil ?_
      intro _ hw'
      obtain ⟨x, rfl⟩ := hw'
      have bb := hb.thenB x.below
      have n0 := d0 x
      have n1 := d1 x
      clear d0 d1 lt0 lt1 m0 m1 hb hxr
      generalize x.w = w2 at *
      by_cases hgt : evTo (bit b) xs xs.length < evTo (bit k) xs xs.length
      · go_wp2
        exact ⟨⟨k + 1, k, by omega, by go_num, rfl, by omega, fun x hx => by
          by_cases e : x = k
          · subst e; omega
          · have := HMAX.out x (by omega); omega, n0, n1, bb⟩, by simp [intOf]; omega⟩
      · go_wp2
        exact ⟨⟨k + 1, b, by omega, by go_num, rfl, by omega, fun x hx => by
          by_cases e : x = k
          · subst e; omega
          · exact HMAX.out x (by omega), n0, n1, bb⟩, by simp [intOf]; omega⟩
    · have HM2 : Hid (∀ x : Nat, (x : Int) < s → evTo (bit x) xs xs.length ≤ evTo (bit b) xs xs.length) := Lib.hid (fun x hx => HMAX.out x (by omega))
      clear hx
      go_wp2
      go_ret
      exact ⟨b, rfl, hbs, HM2.out, hb⟩

end Go.Proofs.Ytmbipmdflbddbaa
