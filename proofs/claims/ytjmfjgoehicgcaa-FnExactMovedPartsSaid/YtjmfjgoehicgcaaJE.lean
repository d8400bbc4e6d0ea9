/- Whether one mass is made of another one: the reference. -/
import Derived.Test.YtjmfjgoehicgcaaJD
import Derived.Test.YtjmfjgoehicgcaaZH
set_option linter.unusedVariables false
set_option linter.unusedSimpArgs false
namespace Go.Proofs.Ytjmfjgoehicgcaa
open Go.RowKit

/-- What one mass's sets have to give, and what the other one's are to get. -/
def supS (xs ys : List Int) : Nat → Int := fun b => nth ys b * sumL xs
def demS (xs ys : List Int) : Nat → Int := fun a => nth xs a * sumL ys

/-- Whether there is a table of what goes where. -/
noncomputable def flB (N : Nat) (sup dem : Nat → Int) : Bool := @decide (∃ G, Flow N sup dem G) (Classical.propDecidable _)
theorem flB_iff {N : Nat} {sup dem : Nat → Int} : flB N sup dem = true ↔ ∃ G, Flow N sup dem G := @decide_eq_true_iff _ (Classical.propDecidable _)
theorem flB_no {N : Nat} {sup dem : Nat → Int} : flB N sup dem = false ↔ ¬ ∃ G, Flow N sup dem G := @decide_eq_false_iff_not _ (Classical.propDecidable _)

theorem Flow.cong {N : Nat} {sup dem sup' dem' : Nat → Int} {F : Nat → Nat → Int} (h : Flow N sup dem F) (h1 : ∀ b, b < N → sup b = sup' b) (h2 : ∀ a, a < N → dem a = dem' a) : Flow N sup' dem' F :=
  ⟨h.nn, h.sub, fun b hb => by rw [← h1 b hb]; exact h.row b hb, fun a ha => by rw [← h2 a ha]; exact h.col a ha⟩
theorem flB_cong {N : Nat} {sup dem sup' dem' : Nat → Int} (h1 : ∀ b, b < N → sup b = sup' b) (h2 : ∀ a, a < N → dem a = dem' a) : flB N sup dem = flB N sup' dem' := by
  rw [Bool.eq_iff_iff, flB_iff, flB_iff]
  exact ⟨fun ⟨G, g⟩ => ⟨G, g.cong h1 h2⟩, fun ⟨G, g⟩ => ⟨G, g.cong (fun b hb => (h1 b hb).symm) (fun a ha => (h2 a ha).symm)⟩⟩

/-- Whether a mass is a specialization of another one. -/
noncomputable def spB (s : Int) (xs : List Int) (t : Int) (ys : List Int) : Bool := bothB s xs t ys && flB xs.length (supS xs ys) (demS xs ys)

/-- What a flow at its beginning is. -/
theorem PFlow.start {N : Nat} {sup dem lf du : Nat → Int} {F : Nat → Nat → Int} (hF : ∀ b a, b < N → a < N → F b a = 0) (h1 : ∀ b, b < N → lf b = sup b) (h2 : ∀ a, a < N → du a = dem a) (n1 : ∀ b, b < N → 0 ≤ sup b) (n2 : ∀ a, a < N → 0 ≤ dem a) : PFlow N sup dem F lf du :=
  ⟨fun b a hb ha => by rw [hF b a hb ha]; exact Int.le_refl _, fun b a hb ha _ => hF b a hb ha, fun b hb => by rw [sm_congr (g := fun _ => 0) (fun a ha => hF b a hb ha), sm_zero, h1 b hb]; omega, fun a ha => by rw [sm_congr (g := fun _ => 0) (fun b hb => hF b a hb ha), sm_zero, h2 a ha]; omega, fun b hb => by rw [h1 b hb]; exact n1 b hb, fun a ha => by rw [h2 a ha]; exact n2 a ha⟩

/-- Facts on two masses of one question. -/
structure TwoM (xs ys : List Int) (N : Nat) : Prop where
  n1 : 1 ≤ N
  n16 : N ≤ 16
  xl : xs.length = N
  yl : ys.length = N
  ax : allB 0 1000000 xs = true
  ay : allB 0 1000000 ys = true
  sx : 0 ≤ sumL xs ∧ sumL xs ≤ 1000000
  sy : 0 ≤ sumL ys ∧ sumL ys ≤ 1000000

theorem two_of {s t : Int} {xs ys : List Int} (h : bothB s xs t ys = true) : TwoM xs ys xs.length := by
  obtain ⟨k1, k2, k3, k4⟩ := bothB_ok h
  have := pow2_bd s k1.s1 k1.s4
  have := k1.len
  exact ⟨by omega, k1.l16, rfl, k4.symm, k1.all, k2.all, ⟨by have := k1.sum1; omega, k1.sum2⟩, ⟨by have := k2.sum1; omega, k2.sum2⟩⟩

theorem TwoM.sup {xs ys : List Int} {N : Nat} (h : TwoM xs ys N) : (∀ b, b < N → 0 ≤ supS xs ys b ∧ supS xs ys b ≤ 1000000000000) ∧ (∀ a, a < N → 0 ≤ demS xs ys a ∧ demS xs ys a ≤ 1000000000000) ∧ sm N (supS xs ys) = sm N (demS xs ys) := by
  obtain ⟨x1, x2⟩ := h.sx
  obtain ⟨y1, y2⟩ := h.sy
  refine ⟨fun b hb => ?_, fun a ha => ?_, ?_⟩
  · have := allB_nth h.ay b (by rw [h.yl]; exact hb)
    exact ⟨Int.mul_nonneg this.1 x1, by have := Int.mul_le_mul this.2 x2 x1 (by omega); unfold supS; omega⟩
  · have := allB_nth h.ax a (by rw [h.xl]; exact ha)
    exact ⟨Int.mul_nonneg this.1 y1, by have := Int.mul_le_mul this.2 y2 y1 (by omega); unfold demS; omega⟩
  · have e1 : sm N (supS xs ys) = sumL xs * sm N (nth ys) := by rw [← sm_mul]; exact sm_congr fun k _ => Int.mul_comm _ _
    have e2 : sm N (demS xs ys) = sumL ys * sm N (nth xs) := by rw [← sm_mul]; exact sm_congr fun k _ => Int.mul_comm _ _
    have e3 : sumL ys = sm N (nth ys) := by rw [sumL_sm, h.yl]
    have e4 : sumL xs = sm N (nth xs) := by rw [sumL_sm, h.xl]
    rw [e1, e2, ← e3, ← e4, Int.mul_comm]

theorem TwoM.start {xs ys : List Int} {N : Nat} (h : TwoM xs ys N) : PFlow N (supS xs ys) (demS xs ys) (tab N (zeros (N * N))) (nth (mulL ys (sumL xs) N)) (nth (mulL xs (sumL ys) N)) := by
  obtain ⟨a1, a2, a3⟩ := h.sup
  exact PFlow.start (fun b a hb ha => by rw [tab_at hb ha]; exact zeros_nth0 _ _) (fun b hb => mulL_nth _ _ _ _ hb) (fun a ha => mulL_nth _ _ _ _ ha) (fun b hb => (a1 b hb).1) (fun a ha => (a2 a ha).1)

theorem FM.mono {B B' : Nat} {w : World} {N nn fb lb db cf cl cd : Nat} {Fl lf du : List Int} (h : FM B w N nn fb lb db cf cl cd Fl lf du) (hB : B' ≤ B) : FM B' w N nn fb lb db cf cl cd Fl lf du := ⟨h.hn, h.fl, h.ll, h.dl, h.of.mono hB, h.ol.mono hB, h.od.mono hB, h.n1, h.n2, h.n3⟩

theorem done_is {N : Nat} {sup dem : Nat → Int} {F : Nat → Nat → Int} {du : List Int} (h1 : (∀ a, a < N → nth du a ≤ 0) → Flow N sup dem F) (h2 : (∃ a, a < N ∧ 0 < nth du a) → ¬ ∃ G, Flow N sup dem G) : doneB N du = flB N sup dem := by
  cases e : flB N sup dem
  · cases d : doneB N du
    · rfl
    · exact absurd ⟨F, h1 (doneB_iff.1 d)⟩ (flB_no.1 e)
  · refine doneB_iff.2 fun a ha => ?_
    rcases Int.lt_or_le 0 (nth du a) with q | q
    · exact absurd (flB_iff.1 e) (h2 ⟨a, ha, q⟩)
    · exact q

set_option maxHeartbeats 4000000 in
set_option maxRecDepth 100000 in
theorem sIsSpec_any (s t : Int) (p q : Option Addr) (c d : Nat) (xs ys : List Int) (w : World) (hx : Reads w p xs) (hy : Reads w q ys) (hxm : xs.length ≤ 1048576) (hym : ys.length ≤ 1048576) :
    Calls Try.prog 12 #[.agg #[.int .i64 s, .slice p xs.length c], .agg #[.int .i64 t, .slice q ys.length d]] w fun e w' => e = .returned (.bool (spB s xs t ys)) ∧ Below w.heap.size w w' := by
  obtain ⟨W, hW, hbW, hsz, c0, c1, c2, c3⟩ := box2 w s t p q xs.length ys.length c d
  have HW := Lib.hid hW
  clear hW
  have HB := Lib.hid (l3Both_any s t p q c d xs ys W (hx.below hbW) (hy.below hbW) hxm hym)
  have HX := Lib.hid hx
  have HY := Lib.hid hy
  clear hx hy
  cases hb : bothB s xs t ys
  · have hr : Hid (spB s xs t ys = false) := Lib.hid (by rw [spB, hb]; rfl)
    rw [hb] at HB
    clear hb
    go_enter Try.func12, Try.ntmps12
    go_wp2_with fail
    rw [← HW.out]
    refine HB.out.mono ?_
    rintro e w1 ⟨rfl, b1⟩
    go_wp2
    go_ret
    exact ⟨ret_bool hr.out.symm, hbW.thenB b1⟩
  · have ht := two_of hb
    have hr : Hid (spB s xs t ys = flB xs.length (supS xs ys) (demS xs ys)) := Lib.hid (by rw [spB, hb]; rfl)
    rw [hb] at HB
    have HT := Lib.hid ht
    clear hb ht
    go_enter Try.func12, Try.ntmps12
    go_wp2_with fail
    rw [← HW.out]
    refine HB.out.mono ?_
    rintro e w1 ⟨rfl, b1⟩
    replace c0 := cellKeep b1 c0
    replace c1 := cellKeep b1 c1
    replace c2 := cellKeep b1 c2
    replace c3 := cellKeep b1 c3
    replace hbW := hbW.thenB b1
    clear b1 HB HW
    have hyl : ys.length = xs.length := HT.out.yl
    have HNEW := l8New_any xs.length s t p q c d xs ys w1 (HX.out.below hbW) (HY.out.below hbW) HT.out.n1 HT.out.n16 rfl hyl HT.out.ax HT.out.ay HT.out.sx HT.out.sy
    have HN := Lib.hid HNEW
    rw [hyl] at c3
    clear HNEW hyl
    go_wp2_with fail
    refine HN.out.mono ?_
    rintro e w2 ⟨fb, lb, db, cl, cd, rfl, hfm, b2⟩
    clear HN c0 c1 c2 c3
    have hz0 := hbW.size
    replace hbW := hbW.thenB b2
    have hrun := l8Run_any w1.heap.size xs.length (xs.length * xs.length) fb lb db (xs.length * xs.length) cl cd _ _ _ w2 HT.out.n1 HT.out.n16 hfm (supS xs ys) (demS xs ys) HT.out.start HT.out.sup.2.2 (fun b hb => by have := (HT.out.sup.1 b hb).2; omega) (fun b hb => by have := (HT.out.sup.2.1 b hb).2; omega)
    have HR := Lib.hid hrun
    have hlt := hfm.lts
    have hz1 := hbW.size
    have hz2 := b2.size
    clear hrun hfm b2
    go_wp2_with fail
    refine HR.out.mono ?_
    rintro e w3 ⟨Fl, lf, du, rfl, hfm, hpf, hd1, hd2, hex⟩
    have hbel : Below w.heap.size w w3 := hbW.trans (hex.below (by omega) (by omega) (by omega) (by omega))
    have hdn := Lib.hid (done_is hd1 hd2)
    have HD := Lib.hid (l8Done_any xs.length w3 HT.out.n16 (.slice (some ⟨fb, 0, none⟩) (xs.length * xs.length) (xs.length * xs.length)) (.slice (some ⟨lb, 0, none⟩) xs.length cl) rfl rfl (some ⟨db, 0, none⟩) cd du hfm.od.reads hfm.dl)
    clear HR hpf hd1 hd2 hex hfm
    go_wp2_with fail
    refine HD.out.mono ?_
    rintro e w4 ⟨rfl, b4⟩
    rw [hdn.out]
    go_wp2
    go_ret
    exact ⟨ret_bool hr.out.symm, hbel.thenB b4⟩

end Go.Proofs.Ytjmfjgoehicgcaa
