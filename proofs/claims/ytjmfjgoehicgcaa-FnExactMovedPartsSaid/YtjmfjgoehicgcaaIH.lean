/- Whether one mass is made of another one: the program. -/
import Derived.Test.YtjmfjgoehicgcaaIF
set_option linter.unusedVariables false
set_option linter.unusedSimpArgs false
namespace Go.Proofs.Ytjmfjgoehicgcaa
open Go.RowKit

theorem sIsSpecialized_any (s : Int) (p : Option Addr) (c : Nat) (xs : List Int) (t : Int) (q : Option Addr) (d : Nat) (ys : List Int) (w : World) (hx : Reads w p xs) (hy : Reads w q ys) (hxm : xs.length ≤ 1048576) (hym : ys.length ≤ 1048576) :
    Calls Try.prog 12 #[.agg #[.int .i64 s, .slice p xs.length c], .agg #[.int .i64 t, .slice q ys.length d]] w fun e w' => e = .returned (.bool (spB s xs t ys)) ∧ Below w.heap.size w w' := sIsSpec_any s t p q c d xs ys w hx hy hxm hym

set_option maxHeartbeats 4000000 in
set_option maxRecDepth 100000 in
theorem iIsSpecialized_any (s : Int) (p : Option Addr) (c : Nat) (xs : List Int) (t : Int) (q : Option Addr) (d : Nat) (ys : List Int) (w : World) (hx : Reads w p xs) (hy : Reads w q ys) (hxm : xs.length ≤ 1048576) (hym : ys.length ≤ 1048576) :
    Calls Try.prog 14 #[.agg #[.int .i64 s, .slice p xs.length c], .agg #[.int .i64 t, .slice q ys.length d]] w fun e w' => e = .returned (.bool (spB s xs t ys)) ∧ Below w.heap.size w w' := by
  obtain ⟨W, hW, hbW, hsz, c0, c1, c2, c3⟩ := box2 w s t p q xs.length ys.length c d
  have HW := Lib.hid hW
  clear hW
  have HB := Lib.hid (ofOneQuestion_any s t p q c d xs ys W (hx.below hbW) (hy.below hbW) hxm hym)
  have HX := Lib.hid hx
  have HY := Lib.hid hy
  clear hx hy
  cases hb : bothB s xs t ys
  · have hr : Hid (spB s xs t ys = false) := Lib.hid (by rw [spB, hb]; rfl)
    rw [hb] at HB
    clear hb
    go_enter Try.func14, Try.ntmps14
    go_wp2_with fail
    rw [← HW.out]
    refine HB.out.mono ?_
    rintro e w1 ⟨rfl, b1⟩
    go_wp2
    go_ret
    exact ⟨ret_bool hr.out.symm, hbW.thenB b1⟩
  · have ht := two_of hb
    have hr : Hid (spB s xs t ys = flB xs.length (supS xs ys) (demS xs ys)) := Lib.hid (by rw [spB, hb]; rfl)
    rw [hb] at HB
    have HT := Lib.hid ht
    clear hb ht
    go_enter Try.func14, Try.ntmps14
    go_wp2_with fail
    rw [← HW.out]
    refine HB.out.mono ?_
    rintro e w1 ⟨rfl, b1⟩
    replace c0 := cellKeep b1 c0
    replace c1 := cellKeep b1 c1
    replace c2 := cellKeep b1 c2
    replace c3 := cellKeep b1 c3
    replace hbW := hbW.thenB b1
    clear b1 HB HW
    have hyl : ys.length = xs.length := HT.out.yl
    have HN := Lib.hid (newMoves_any xs.length s t p q c d xs ys w1 (HX.out.below hbW) (HY.out.below hbW) HT.out)
    rw [hyl] at c3
    clear hyl
    go_wp2_with fail
    refine HN.out.mono ?_
    rintro e w2 ⟨b2, ⟨rfl, hno⟩ | ⟨L, F, lf, du, rfl, hLN, hM, hfl, hmu⟩⟩
    · have hf : Hid (spB s xs t ys = false) := Lib.hid (by rw [hr.out]; exact flB_no.2 hno)
      clear hno c0 c1 c2 c3
      go_wp2
      go_ret
      exact ⟨ret_bool hf.out.symm, hbW.thenB b2⟩
    · have hf : Hid (spB s xs t ys = true) := Lib.hid (by rw [hr.out]; exact flB_iff.2 ⟨F, hfl⟩)
      clear hfl hM hmu hLN c0 c1 c2 c3
      go_wp2
      go_ret
      exact ⟨ret_bool hf.out.symm, hbW.thenB b2⟩

end Go.Proofs.Ytjmfjgoehicgcaa
