/- Two masses, opened. -/
import Derived.Test.YtjmfjgoehicgcaaMgDC
import Derived.Test.YtjmfjgoehicgcaaDH
import Derived.Test.YtjmfjgoehicgcaaV7
import Derived.Deep.Cut
import Derived.Test.YtjmfjgoehicgcaaMgK7
set_option linter.unusedVariables false
set_option linter.unusedSimpArgs false
namespace Go.Proofs.Ytjmfjgoehicgcaa
open Go.RowKit

def OutPair (w : World) (e : Ending) (w' : World) : Prop := ∃ (s : Int) (p : Option Addr) (c : Nat) (xs : List Int) (t : Int) (q : Option Addr) (d : Nat) (ys : List Int), e = .returned (.tuple #[.agg #[.int .i64 s, .slice p xs.length c], .agg #[.int .i64 t, .slice q ys.length d]]) ∧ xs.length ≤ 17 ∧ ys.length ≤ 17 ∧ Reads w' p xs ∧ Reads w' q ys ∧ Below w.heap.size w w'


end Go.Proofs.Ytjmfjgoehicgcaa

/- Two masses, one of which is often a specialization of the other one, opened. -/
set_option linter.unusedVariables false
set_option linter.unusedSimpArgs false
namespace Go.Proofs.Ytjmfjgoehicgcaa
open Go.RowKit

set_option maxHeartbeats 1000000 in
theorem DrawMorePossible_any (a0 : Option Addr) (c0 : Nat) (bs : List Int) (w : World) (hx : ReadsK .u8 w a0 bs) (hwf : ∀ n ∈ bs, (Lit.int .u8 n).wf = true) (hl : bs.length ≤ maxLen) (hc : bs.length ≤ c0) :
    Calls Try.prog 25 #[.slice a0 bs.length c0] w (OutPair w) := by
  obtain ⟨W, hW, hsz, hbW, hV, hU⟩ := twoV w
  have hxW := hx.below hbW
  have HSZ := Lib.hid hsz
  have HW := Lib.hid hW
  clear hW hsz hx
  have HO := Lib.hid (l14Open_any a0 c0 bs W hxW hwf hl hc)
  unfold maxLen at hl
  clear hxW hwf
  go_enter Try.func25, Try.ntmps25
  go_wp2_with fail
  rw [← HW.out]
  refine HO.out.mono ?_
  rintro e w1 ⟨rfl, hR1, b1⟩
  clear HO
  have hV1 := hV.later b1
  have hU1 := hU.later b1
  have bb1 := hbW.thenB b1
  have z1 := b1.size
  obtain ⟨R, hRe⟩ : ∃ R, R = W.heap.size := ⟨_, rfl⟩
  rw [← hRe] at hR1 ⊢
  have HR := Lib.hid hRe
  clear hRe hV hU hbW b1 hc
  have hRlt := hR1.lt
  go_wp2_with fail
  refine (l8Pair_any R 0 w1 hR1 (by omega)).mono ?_
  rintro e w2 ⟨s, v, xs, t, u, ys, rfl, hxl, hyl, hO, hY, hR2, hD2⟩
  obtain ⟨p, c, rfl, hr⟩ := hO.shape
  obtain ⟨q, d, rfl, hr2⟩ := hY.shape
  have hV2 := hV1.drB hD2 (by have := HSZ.out; omega) (by have := HR.out; have := HSZ.out; omega)
  have hU2 := hU1.drB hD2 (by have := HSZ.out; omega) (by have := HR.out; have := HSZ.out; omega)
  have bb2 := bb1.trans ((hD2.mono (show w.heap.size ≤ w1.heap.size by have := HSZ.out; omega)).below (by have := HR.out; have := HSZ.out; omega))
  have s0 := hV2.c0
  have s1 := hV2.c1
  have s2 := hV2.f0
  have s3 := hV2.f1
  have u0 := hU2.c0
  have u1 := hU2.c1
  have u2 := hU2.f0
  have u3 := hU2.f1
  clear hr hr2 hV1 hU1 hD2 hR1 hR2 bb1
  go_wp2
  refine bodyPost_ret (v := .tuple #[.agg #[.int .i64 s, .slice p xs.length c], .agg #[.int .i64 t, .slice q ys.length d]]) (by simp [results, Try.results25, go_sem, s0, s1, s2, s3, u0, u1, u2, u3]) rfl ⟨s, p, c, xs, t, q, d, ys, rfl, hxl, hyl, ?_, ?_, ?_⟩
  · exact ((((hO.setBelow (by have := HSZ.out; first | omega | (simp; omega)) _).setBelow (by have := HSZ.out; first | omega | (simp; omega)) _).setBelow (by have := HSZ.out; first | omega | (simp; omega)) _).setBelow (by have := HSZ.out; first | omega | (simp; omega)) _).reads
  · exact ((((hY.setBelow (by have := HSZ.out; first | omega | (simp; omega)) _).setBelow (by have := HSZ.out; first | omega | (simp; omega)) _).setBelow (by have := HSZ.out; first | omega | (simp; omega)) _).setBelow (by have := HSZ.out; first | omega | (simp; omega)) _).reads
  · exact (((bb2.setCell (by first | omega | simp) _).setCell (by first | omega | simp) _).setCell (by first | omega | simp) _).setCell (by first | omega | simp) _

set_option maxHeartbeats 1000000 in
theorem DrawLeastCommitted_any (a0 : Option Addr) (c0 : Nat) (bs : List Int) (w : World) (hx : ReadsK .u8 w a0 bs) (hwf : ∀ n ∈ bs, (Lit.int .u8 n).wf = true) (hl : bs.length ≤ maxLen) (hc : bs.length ≤ c0) :
    Calls Try.prog 40 #[.slice a0 bs.length c0] w (OutPair w) := by
  obtain ⟨W, hW, hsz, hbW, hV, hU⟩ := twoV w
  have hxW := hx.below hbW
  have HSZ := Lib.hid hsz
  have HW := Lib.hid hW
  clear hW hsz hx
  have HO := Lib.hid (l14Open_any a0 c0 bs W hxW hwf hl hc)
  unfold maxLen at hl
  clear hxW hwf
  go_enter Try.func40, Try.ntmps40
  go_wp2_with fail
  rw [← HW.out]
  refine HO.out.mono ?_
  rintro e w1 ⟨rfl, hR1, b1⟩
  clear HO
  have hV1 := hV.later b1
  have hU1 := hU.later b1
  have bb1 := hbW.thenB b1
  have z1 := b1.size
  obtain ⟨R, hRe⟩ : ∃ R, R = W.heap.size := ⟨_, rfl⟩
  rw [← hRe] at hR1 ⊢
  have HR := Lib.hid hRe
  clear hRe hV hU hbW b1 hc
  have hRlt := hR1.lt
  go_wp2_with fail
  refine (l8Pair_any R 0 w1 hR1 (by omega)).mono ?_
  rintro e w2 ⟨s, v, xs, t, u, ys, rfl, hxl, hyl, hO, hY, hR2, hD2⟩
  obtain ⟨p, c, rfl, hr⟩ := hO.shape
  obtain ⟨q, d, rfl, hr2⟩ := hY.shape
  have hV2 := hV1.drB hD2 (by have := HSZ.out; omega) (by have := HR.out; have := HSZ.out; omega)
  have hU2 := hU1.drB hD2 (by have := HSZ.out; omega) (by have := HR.out; have := HSZ.out; omega)
  have bb2 := bb1.trans ((hD2.mono (show w.heap.size ≤ w1.heap.size by have := HSZ.out; omega)).below (by have := HR.out; have := HSZ.out; omega))
  have s0 := hV2.c0
  have s1 := hV2.c1
  have s2 := hV2.f0
  have s3 := hV2.f1
  have u0 := hU2.c0
  have u1 := hU2.c1
  have u2 := hU2.f0
  have u3 := hU2.f1
  clear hr hr2 hV1 hU1 hD2 hR1 hR2 bb1
  go_wp2
  refine bodyPost_ret (v := .tuple #[.agg #[.int .i64 s, .slice p xs.length c], .agg #[.int .i64 t, .slice q ys.length d]]) (by simp [results, Try.results40, go_sem, s0, s1, s2, s3, u0, u1, u2, u3]) rfl ⟨s, p, c, xs, t, q, d, ys, rfl, hxl, hyl, ?_, ?_, ?_⟩
  · exact ((((hO.setBelow (by have := HSZ.out; first | omega | (simp; omega)) _).setBelow (by have := HSZ.out; first | omega | (simp; omega)) _).setBelow (by have := HSZ.out; first | omega | (simp; omega)) _).setBelow (by have := HSZ.out; first | omega | (simp; omega)) _).reads
  · exact ((((hY.setBelow (by have := HSZ.out; first | omega | (simp; omega)) _).setBelow (by have := HSZ.out; first | omega | (simp; omega)) _).setBelow (by have := HSZ.out; first | omega | (simp; omega)) _).setBelow (by have := HSZ.out; first | omega | (simp; omega)) _).reads
  · exact (((bb2.setCell (by first | omega | simp) _).setCell (by first | omega | simp) _).setCell (by first | omega | simp) _).setCell (by first | omega | simp) _

set_option maxHeartbeats 1000000 in
theorem DrawIsSpecialized_any (a0 : Option Addr) (c0 : Nat) (bs : List Int) (w : World) (hx : ReadsK .u8 w a0 bs) (hwf : ∀ n ∈ bs, (Lit.int .u8 n).wf = true) (hl : bs.length ≤ maxLen) (hc : bs.length ≤ c0) :
    Calls Try.prog 45 #[.slice a0 bs.length c0] w (OutPair w) := by
  obtain ⟨W, hW, hsz, hbW, hV, hU⟩ := twoV w
  have hxW := hx.below hbW
  have HSZ := Lib.hid hsz
  have HW := Lib.hid hW
  clear hW hsz hx
  have HO := Lib.hid (l14Open_any a0 c0 bs W hxW hwf hl hc)
  unfold maxLen at hl
  clear hxW hwf
  go_enter Try.func45, Try.ntmps45
  go_wp2_with fail
  rw [← HW.out]
  refine HO.out.mono ?_
  rintro e w1 ⟨rfl, hR1, b1⟩
  clear HO
  have hV1 := hV.later b1
  have hU1 := hU.later b1
  have bb1 := hbW.thenB b1
  have z1 := b1.size
  obtain ⟨R, hRe⟩ : ∃ R, R = W.heap.size := ⟨_, rfl⟩
  rw [← hRe] at hR1 ⊢
  have HR := Lib.hid hRe
  clear hRe hV hU hbW b1 hc
  have hRlt := hR1.lt
  go_wp2_with fail
  refine (l8Pair_any R 0 w1 hR1 (by omega)).mono ?_
  rintro e w2 ⟨s, v, xs, t, u, ys, rfl, hxl, hyl, hO, hY, hR2, hD2⟩
  obtain ⟨p, c, rfl, hr⟩ := hO.shape
  obtain ⟨q, d, rfl, hr2⟩ := hY.shape
  have hV2 := hV1.drB hD2 (by have := HSZ.out; omega) (by have := HR.out; have := HSZ.out; omega)
  have hU2 := hU1.drB hD2 (by have := HSZ.out; omega) (by have := HR.out; have := HSZ.out; omega)
  have bb2 := bb1.trans ((hD2.mono (show w.heap.size ≤ w1.heap.size by have := HSZ.out; omega)).below (by have := HR.out; have := HSZ.out; omega))
  have s0 := hV2.c0
  have s1 := hV2.c1
  have s2 := hV2.f0
  have s3 := hV2.f1
  have u0 := hU2.c0
  have u1 := hU2.c1
  have u2 := hU2.f0
  have u3 := hU2.f1
  clear hr hr2 hV1 hU1 hD2 hR1 hR2 bb1
  go_wp2
  refine bodyPost_ret (v := .tuple #[.agg #[.int .i64 s, .slice p xs.length c], .agg #[.int .i64 t, .slice q ys.length d]]) (by simp [results, Try.results45, go_sem, s0, s1, s2, s3, u0, u1, u2, u3]) rfl ⟨s, p, c, xs, t, q, d, ys, rfl, hxl, hyl, ?_, ?_, ?_⟩
  · exact ((((hO.setBelow (by have := HSZ.out; first | omega | (simp; omega)) _).setBelow (by have := HSZ.out; first | omega | (simp; omega)) _).setBelow (by have := HSZ.out; first | omega | (simp; omega)) _).setBelow (by have := HSZ.out; first | omega | (simp; omega)) _).reads
  · exact ((((hY.setBelow (by have := HSZ.out; first | omega | (simp; omega)) _).setBelow (by have := HSZ.out; first | omega | (simp; omega)) _).setBelow (by have := HSZ.out; first | omega | (simp; omega)) _).setBelow (by have := HSZ.out; first | omega | (simp; omega)) _).reads
  · exact (((bb2.setCell (by first | omega | simp) _).setCell (by first | omega | simp) _).setCell (by first | omega | simp) _).setCell (by first | omega | simp) _

set_option maxHeartbeats 1000000 in
theorem DrawMovedParts_any (a0 : Option Addr) (c0 : Nat) (bs : List Int) (w : World) (hx : ReadsK .u8 w a0 bs) (hwf : ∀ n ∈ bs, (Lit.int .u8 n).wf = true) (hl : bs.length ≤ maxLen) (hc : bs.length ≤ c0) :
    Calls Try.prog 51 #[.slice a0 bs.length c0] w (OutPair w) := by
  obtain ⟨W, hW, hsz, hbW, hV, hU⟩ := twoV w
  have hxW := hx.below hbW
  have HSZ := Lib.hid hsz
  have HW := Lib.hid hW
  clear hW hsz hx
  have HO := Lib.hid (l14Open_any a0 c0 bs W hxW hwf hl hc)
  unfold maxLen at hl
  clear hxW hwf
  go_enter Try.func51, Try.ntmps51
  go_wp2_with fail
  rw [← HW.out]
  refine HO.out.mono ?_
  rintro e w1 ⟨rfl, hR1, b1⟩
  clear HO
  have hV1 := hV.later b1
  have hU1 := hU.later b1
  have bb1 := hbW.thenB b1
  have z1 := b1.size
  obtain ⟨R, hRe⟩ : ∃ R, R = W.heap.size := ⟨_, rfl⟩
  rw [← hRe] at hR1 ⊢
  have HR := Lib.hid hRe
  clear hRe hV hU hbW b1 hc
  have hRlt := hR1.lt
  go_wp2_with fail
  refine (l8Pair_any R 0 w1 hR1 (by omega)).mono ?_
  rintro e w2 ⟨s, v, xs, t, u, ys, rfl, hxl, hyl, hO, hY, hR2, hD2⟩
  obtain ⟨p, c, rfl, hr⟩ := hO.shape
  obtain ⟨q, d, rfl, hr2⟩ := hY.shape
  have hV2 := hV1.drB hD2 (by have := HSZ.out; omega) (by have := HR.out; have := HSZ.out; omega)
  have hU2 := hU1.drB hD2 (by have := HSZ.out; omega) (by have := HR.out; have := HSZ.out; omega)
  have bb2 := bb1.trans ((hD2.mono (show w.heap.size ≤ w1.heap.size by have := HSZ.out; omega)).below (by have := HR.out; have := HSZ.out; omega))
  have s0 := hV2.c0
  have s1 := hV2.c1
  have s2 := hV2.f0
  have s3 := hV2.f1
  have u0 := hU2.c0
  have u1 := hU2.c1
  have u2 := hU2.f0
  have u3 := hU2.f1
  clear hr hr2 hV1 hU1 hD2 hR1 hR2 bb1
  go_wp2
  refine bodyPost_ret (v := .tuple #[.agg #[.int .i64 s, .slice p xs.length c], .agg #[.int .i64 t, .slice q ys.length d]]) (by simp [results, Try.results51, go_sem, s0, s1, s2, s3, u0, u1, u2, u3]) rfl ⟨s, p, c, xs, t, q, d, ys, rfl, hxl, hyl, ?_, ?_, ?_⟩
  · exact ((((hO.setBelow (by have := HSZ.out; first | omega | (simp; omega)) _).setBelow (by have := HSZ.out; first | omega | (simp; omega)) _).setBelow (by have := HSZ.out; first | omega | (simp; omega)) _).setBelow (by have := HSZ.out; first | omega | (simp; omega)) _).reads
  · exact ((((hY.setBelow (by have := HSZ.out; first | omega | (simp; omega)) _).setBelow (by have := HSZ.out; first | omega | (simp; omega)) _).setBelow (by have := HSZ.out; first | omega | (simp; omega)) _).setBelow (by have := HSZ.out; first | omega | (simp; omega)) _).reads
  · exact (((bb2.setCell (by first | omega | simp) _).setCell (by first | omega | simp) _).setCell (by first | omega | simp) _).setCell (by first | omega | simp) _

end Go.Proofs.Ytjmfjgoehicgcaa

/- How far two masses are apart: both packages. -/
set_option linter.unusedVariables false
set_option linter.unusedSimpArgs false
namespace Go.Proofs.Ytjmfjgoehicgcaa
open Go.RowKit

/-- By how much a part is more in the first mass than in the second. -/
def apA (xs ys : List Int) (k : Nat) : Int := nth xs k * sumL ys - nth ys k * sumL xs

def apM (xs ys : List Int) (k : Nat) : Int := if apA xs ys k < 0 then 0 else apA xs ys k

def apTo (xs ys : List Int) (k : Nat) : Int := (List.range k).foldl (fun s b => s + apM xs ys b) 0

theorem apTo_succ (xs ys : List Int) (k : Nat) : apTo xs ys (k + 1) = apTo xs ys k + apM xs ys k := by
  simp [apTo, List.range_succ]

theorem prod_bd (a b A B : Int) (ha : 0 ≤ a) (hA : a ≤ A) (hb : 0 ≤ b) (hB : b ≤ B) : 0 ≤ a * b ∧ a * b ≤ A * B :=
  ⟨Int.mul_nonneg ha hb, Int.mul_le_mul hA hB hb (by omega)⟩

theorem apA_bd {s t : Int} {xs ys : List Int} (hm : MassOk s xs) (hn : MassOk t ys) (hl : xs.length = ys.length) (k : Nat) (hk : k < xs.length) :
    (0 ≤ nth xs k * sumL ys ∧ nth xs k * sumL ys ≤ 1000000000000) ∧ (0 ≤ nth ys k * sumL xs ∧ nth ys k * sumL xs ≤ 1000000000000) ∧ 0 ≤ apM xs ys k ∧ apM xs ys k ≤ 1000000000000 := by
  have h1 := allB_nth hm.all k hk
  have h2 := allB_nth hn.all k (by omega)
  have h3 := prod_bd (nth xs k) (sumL ys) 1000000 1000000 h1.1 h1.2 (by have := hn.sum1; omega) hn.sum2
  have h4 := prod_bd (nth ys k) (sumL xs) 1000000 1000000 h2.1 h2.2 (by have := hm.sum1; omega) hm.sum2
  refine ⟨⟨h3.1, by omega⟩, ⟨h4.1, by omega⟩, ?_⟩
  unfold apM apA
  split <;> omega

theorem apTo_bd {s t : Int} {xs ys : List Int} (hm : MassOk s xs) (hn : MassOk t ys) (hl : xs.length = ys.length) (k : Nat) (hk : k ≤ xs.length) : 0 ≤ apTo xs ys k ∧ apTo xs ys k ≤ 1000000000000 * k := by
  induction k with
  | zero => simp [apTo]
  | succ k ih =>
    have h1 := ih (by omega)
    have h2 := (apA_bd hm hn hl k (by omega)).2.2
    rw [apTo_succ]
    omega

end Go.Proofs.Ytjmfjgoehicgcaa

/- Whether a list tells how parts are moved: both packages. -/
set_option linter.unusedVariables false
set_option linter.unusedSimpArgs false
namespace Go.Proofs.Ytjmfjgoehicgcaa
open Go.RowKit

/-- Each number lies within bounds, and none goes to a set that is not within the one it comes from. -/
def rngTo (N : Nat) (ls : List Int) (k : Nat) : Bool := (List.range k).all fun i => inB (nth ls i) 0 1000000000000 && (subB (i % N) (i / N) || nth ls i == 0)

theorem rngTo_succ (N : Nat) (ls : List Int) (k : Nat) : rngTo N ls (k + 1) = (rngTo N ls k && (inB (nth ls k) 0 1000000000000 && (subB (k % N) (k / N) || nth ls k == 0))) := by simp [rngTo, List.range_succ]

theorem rngTo_at {N : Nat} {ls : List Int} {n : Nat} (h : rngTo N ls n = true) (i : Nat) (hi : i < n) : (0 ≤ nth ls i ∧ nth ls i ≤ 1000000000000) ∧ (subB (i % N) (i / N) = true ∨ nth ls i = 0) := by
  unfold rngTo at h
  rw [List.all_eq_true] at h
  have := h i (List.mem_range.mpr hi)
  simp only [Bool.and_eq_true, Bool.or_eq_true, beq_iff_eq] at this
  exact ⟨by simpa [inB] using this.1, this.2⟩

theorem rngTo_no {N : Nat} {ls : List Int} {n i : Nat} (hi : i < n) (h : ¬ ((0 ≤ nth ls i ∧ nth ls i ≤ 1000000000000) ∧ (subB (i % N) (i / N) = true ∨ nth ls i = 0))) : rngTo N ls n = false := by
  cases e : rngTo N ls n
  · rfl
  · exact absurd (rngTo_at e i hi) h

/-- What comes from a set, and what goes to it. -/
def frM (N : Nat) (ls : List Int) (b k : Nat) : Int := sumTo (fun i => i / N == b) ls k
def toM (N : Nat) (ls : List Int) (a k : Nat) : Int := sumTo (fun i => i % N == a) ls k

def eqTo (xs ys ls : List Int) (k : Nat) : Bool := (List.range k).all fun b => decide (frM xs.length ls b (xs.length * xs.length) = nth ys b * sumL xs) && decide (toM xs.length ls b (xs.length * xs.length) = nth xs b * sumL ys)

theorem eqTo_succ (xs ys ls : List Int) (k : Nat) : eqTo xs ys ls (k + 1) = (eqTo xs ys ls k && (decide (frM xs.length ls k (xs.length * xs.length) = nth ys k * sumL xs) && decide (toM xs.length ls k (xs.length * xs.length) = nth xs k * sumL ys))) := by simp [eqTo, List.range_succ]

theorem eqTo_at {xs ys ls : List Int} {n : Nat} (h : eqTo xs ys ls n = true) (b : Nat) (hb : b < n) : frM xs.length ls b (xs.length * xs.length) = nth ys b * sumL xs ∧ toM xs.length ls b (xs.length * xs.length) = nth xs b * sumL ys := by
  unfold eqTo at h
  rw [List.all_eq_true] at h
  have := h b (List.mem_range.mpr hb)
  simpa using this

theorem eqTo_no {xs ys ls : List Int} {n b : Nat} (hb : b < n) (h : ¬ (frM xs.length ls b (xs.length * xs.length) = nth ys b * sumL xs ∧ toM xs.length ls b (xs.length * xs.length) = nth xs b * sumL ys)) : eqTo xs ys ls n = false := by
  cases e : eqTo xs ys ls n
  · rfl
  · exact absurd (eqTo_at e b hb) h

def mvB (xs ys ls : List Int) : Bool := rngTo xs.length ls (xs.length * xs.length) && eqTo xs ys ls xs.length
def imB (s : Int) (xs : List Int) (t : Int) (ys ls : List Int) : Bool := bothB s xs t ys && (decide (ls.length = xs.length * xs.length) && mvB xs ys ls)

theorem sumTo_mono {p : Nat → Bool} {ls : List Int} {n : Nat} (h : ∀ i, i < n → 0 ≤ nth ls i) : ∀ j, j ≤ n → ∀ k, k ≤ j → sumTo p ls k ≤ sumTo p ls j := by
  intro j
  induction j with
  | zero => intro _ k hk; have : k = 0 := by omega
            subst this; exact Int.le_refl _
  | succ j ih =>
    intro hj k hk
    by_cases e : k = j + 1
    · subst e; exact Int.le_refl _
    · have h1 := ih (by omega) k (by omega)
      have h2 := h j (by omega)
      rw [sumTo_succ]
      split <;> omega

theorem acc_sum (f : Nat → Nat) (ls : List Int) (N p : Nat) (hp : p < N) (k : Nat) : nth (accTo f ls (zeros N) k) p = sumTo (fun i => f i == p) ls k := by
  induction k with
  | zero =>
    show nth (zeros N) p = 0
    rw [nth_eq _ _ (by rw [zeros_len]; exact hp)]; simp [zeros]
  | succ k ih =>
    rw [accTo_succ, nth_addAt _ _ _ _ (by rw [accTo_len, zeros_len]; exact hp), sumTo_succ, ih]
    by_cases e : p = f k
    · rw [if_pos e, if_pos (by simp [e])]
    · rw [if_neg e, if_neg (by simp; exact fun x => e x.symm)]

/-- Rows and columns. -/
def rowS (N : Nat) (ls : List Int) (b k : Nat) : Int := (List.range k).foldl (fun s a => s + nth ls (N * b + a)) 0
def colS (N : Nat) (ls : List Int) (b k : Nat) : Int := (List.range k).foldl (fun s a => s + nth ls (N * a + b)) 0
theorem rowS_succ (N : Nat) (ls : List Int) (b k : Nat) : rowS N ls b (k + 1) = rowS N ls b k + nth ls (N * b + k) := by simp [rowS, List.range_succ]
theorem colS_succ (N : Nat) (ls : List Int) (b k : Nat) : colS N ls b (k + 1) = colS N ls b k + nth ls (N * k + b) := by simp [colS, List.range_succ]

theorem fr_part (N : Nat) (ls : List Int) (b c : Nat) (hN : 0 < N) : ∀ k, k ≤ N → frM N ls b (N * c + k) = frM N ls b (N * c) + if c = b then rowS N ls b k else 0 := by
  intro k
  induction k with
  | zero => intro _; simp [rowS]
  | succ k ih =>
    intro hk
    have hd : (N * c + k) / N = c := by rw [Nat.mul_add_div hN, Nat.div_eq_of_lt (by omega)]; rfl
    rw [show N * c + (k + 1) = (N * c + k) + 1 by omega]
    unfold frM at ih ⊢
    rw [sumTo_succ, hd, ih (by omega)]
    by_cases e : c = b
    · subst e; simp only [beq_self_eq_true, if_true, rowS_succ]; omega
    · rw [if_neg (by simpa using e), if_neg e, if_neg e]

theorem fr_row (N : Nat) (ls : List Int) (b : Nat) (hN : 0 < N) : ∀ c, frM N ls b (N * c) = if b < c then rowS N ls b N else 0 := by
  intro c
  induction c with
  | zero => simp [frM, sumTo]
  | succ c ih =>
    rw [show N * (c + 1) = N * c + N by rw [Nat.mul_succ], fr_part N ls b c hN N (Nat.le_refl _), ih]
    by_cases e : c = b
    · subst e; simp
    · rw [if_neg e]
      by_cases h : b < c
      · rw [if_pos h, if_pos (by omega)]; simp
      · rw [if_neg h, if_neg (by omega)]; simp

theorem to_part (N : Nat) (ls : List Int) (a c : Nat) : ∀ k, k ≤ N → toM N ls a (N * c + k) = toM N ls a (N * c) + if a < k then nth ls (N * c + a) else 0 := by
  intro k
  induction k with
  | zero => intro _; simp
  | succ k ih =>
    intro hk
    have hm : (N * c + k) % N = k := by rw [Nat.mul_add_mod, Nat.mod_eq_of_lt (by omega)]
    rw [show N * c + (k + 1) = (N * c + k) + 1 by omega]
    unfold toM at ih ⊢
    rw [sumTo_succ, hm, ih (by omega)]
    by_cases e : k = a
    · subst e; simp
    · rw [if_neg (by simpa using e)]
      by_cases h : a < k
      · rw [if_pos h, if_pos (by omega)]
      · rw [if_neg h, if_neg (by omega)]

theorem to_col (N : Nat) (ls : List Int) (a : Nat) (ha : a < N) : ∀ c, toM N ls a (N * c) = colS N ls a c := by
  intro c
  induction c with
  | zero => simp [toM, sumTo, colS]
  | succ c ih => rw [show N * (c + 1) = N * c + N by rw [Nat.mul_succ], to_part N ls a c N (Nat.le_refl _), ih, colS_succ, if_pos ha]

theorem fr_all (N : Nat) (ls : List Int) (b : Nat) (hb : b < N) : frM N ls b (N * N) = rowS N ls b N := by rw [fr_row N ls b (by omega), if_pos hb]
theorem to_all (N : Nat) (ls : List Int) (a : Nat) (ha : a < N) : toM N ls a (N * N) = colS N ls a N := to_col N ls a ha N

/-- 'make([]int, n)' as a function of worlds: for a region that draws its order. -/
theorem makeFn (n : Nat) (hn : n ≤ 1048576) : ∃ f : World → World, ∀ w : World, Sem.run Try.prog (Instr.makeSlice 22 (.int .i64 (n : Int)) (.int .i64 (n : Int))) w = .ok (.slice (some ⟨w.heap.size, 0, none⟩) n n) (f w) ∧
    (∀ B, B ≤ w.heap.size → Own B (f w) (.slice (some ⟨w.heap.size, 0, none⟩) n n) (zeros n)) ∧ Below w.heap.size w (f w) ∧ w.heap.size < (f w).heap.size := by
  suffices h : ∀ w : World, ∃ w' : World, Sem.run Try.prog (Instr.makeSlice 22 (.int .i64 (n : Int)) (.int .i64 (n : Int))) w = .ok (.slice (some ⟨w.heap.size, 0, none⟩) n n) w' ∧
      (∀ B, B ≤ w.heap.size → Own B w' (.slice (some ⟨w.heap.size, 0, none⟩) n n) (zeros n)) ∧ Below w.heap.size w w' ∧ w.heap.size < w'.heap.size by
    exact ⟨fun w => Classical.choose (h w), fun w => Classical.choose_spec (h w)⟩
  intro w
  obtain ⟨i0, hi, hz0, hz1, hz2⟩ := info_parts Try.info3
  obtain ⟨w', hrun, r1, r2⟩ := run_make_full (P := Try.prog) w w.heap.size 22 3 i0 (.int .i64 0) 1 Try.underlying22 hi hz0 hz1 .i64 .i64 n (by rw [hz2]; omega) (by unfold maxLen; omega) (Nat.le_refl _)
  refine ⟨w', hrun, fun B hB => Own.mono ?_ hB, (Below.refl _ _).grown r2 (Nat.le_refl _) (fun k hk => by cases hk), (World.ownsRow.lt r1 w.heap.size rfl).2⟩
  unfold Own
  rw [zeros_len]
  simpa [zeros, toList_madeCells_one, Value.cells] using r1

theorem Own.setOther {B g n c : Nat} {w : World} {zs : List Int} (h : Own B w (.slice (some ⟨g, 0, none⟩) n c) zs) (a : Addr) (hne : a.block ≠ g) (u : Value) : Own B (w.setCell a u) (.slice (some ⟨g, 0, none⟩) n c) zs := by
  refine ⟨h.1, ?_⟩
  rcases h.2 with hn | ⟨g', cap, cur, e, hb, hgg, rest⟩
  · exact .inl hn
  · refine .inr ⟨g', cap, cur, e, hb, ?_, rest⟩
    cases e
    rw [Below.heap_setCell w a u g (fun e2 => hne e2.symm)]
    exact hgg

theorem mvB_no_r {xs ys ls : List Int} {i : Nat} (hi : i < xs.length * xs.length) (h : ¬ ((0 ≤ nth ls i ∧ nth ls i ≤ 1000000000000) ∧ (subB (i % xs.length) (i / xs.length) = true ∨ nth ls i = 0))) : mvB xs ys ls = false := by
  rw [mvB, rngTo_no hi h]; rfl

theorem mvB_no_e {xs ys ls : List Int} {b : Nat} (hb : b < xs.length) (h : ¬ (frM xs.length ls b (xs.length * xs.length) = nth ys b * sumL xs ∧ toM xs.length ls b (xs.length * xs.length) = nth xs b * sumL ys)) : mvB xs ys ls = false := by
  rw [mvB, eqTo_no hb h]; simp

/-- A number that is more than what is left shows that there is no such list. -/
theorem mvB_no_l {xs ys ls : List Int} {k : Nat} (hk : k < xs.length * xs.length) (hN : 0 < xs.length)
    (h : nth ys (k / xs.length) * sumL xs - frM xs.length ls (k / xs.length) k < nth ls k ∨ nth xs (k % xs.length) * sumL ys - toM xs.length ls (k % xs.length) k < nth ls k) : mvB xs ys ls = false := by
  cases e : mvB xs ys ls
  · rfl
  · exfalso
    simp only [mvB, Bool.and_eq_true] at e
    have hpos : ∀ i, i < xs.length * xs.length → 0 ≤ nth ls i := fun i hi => (rngTo_at e.1 i hi).1.1
    have hq : k / xs.length < xs.length := (Nat.div_lt_iff_lt_mul hN).mpr hk
    have hr : k % xs.length < xs.length := Nat.mod_lt _ hN
    have e1 := (eqTo_at e.2 _ hq).1
    have e2 := (eqTo_at e.2 _ hr).2
    rcases h with h | h
    · have m := sumTo_mono (p := fun i => i / xs.length == k / xs.length) hpos _ (Nat.le_refl _) (k + 1) (by omega)
      rw [sumTo_succ, if_pos (by simp)] at m
      unfold frM at h e1
      omega
    · have m := sumTo_mono (p := fun i => i % xs.length == k % xs.length) hpos _ (Nat.le_refl _) (k + 1) (by omega)
      rw [sumTo_succ, if_pos (by simp)] at m
      unfold toM at h e2
      omega

theorem accM_all {f : Nat → Nat} {ls zs : List Int} {k : Nat} (h : allB 0 1000000000000 (accTo f ls zs k) = true) (h1 : 0 ≤ nth (accTo f ls zs k) (f k) + nth ls k) (h2 : nth (accTo f ls zs k) (f k) + nth ls k ≤ 1000000000000) : allB 0 1000000000000 (accTo f ls zs (k + 1)) = true := by
  rw [accTo_succ]
  rw [allB_iff] at h ⊢
  intro j hj
  rw [addAt_len] at hj
  rw [nth_addAt _ _ _ _ hj]
  split
  · rename_i e; subst e; exact ⟨h1, h2⟩
  · exact h j hj

/-- The tables of the program. -/
def gvT (N : Nat) (ls : List Int) (k : Nat) : List Int := accTo (fun i => i / N) ls (zeros N) k
def gtT (N : Nat) (ls : List Int) (k : Nat) : List Int := accTo (fun i => i % N) ls (zeros N) k
theorem gvT_len (N : Nat) (ls : List Int) (k : Nat) : (gvT N ls k).length = N := by rw [gvT, accTo_len, zeros_len]
theorem gtT_len (N : Nat) (ls : List Int) (k : Nat) : (gtT N ls k).length = N := by rw [gtT, accTo_len, zeros_len]
theorem gvT_nth {N : Nat} (ls : List Int) {b : Nat} (hb : b < N) (k : Nat) : nth (gvT N ls k) b = frM N ls b k := acc_sum _ ls N b hb k
theorem gtT_nth {N : Nat} (ls : List Int) {b : Nat} (hb : b < N) (k : Nat) : nth (gtT N ls k) b = toM N ls b k := acc_sum _ ls N b hb k
theorem gvT_succ (N : Nat) (ls : List Int) (k : Nat) : gvT N ls (k + 1) = (gvT N ls k).set (k / N) (nth (gvT N ls k) (k / N) + nth ls k) := accTo_succ _ _ _ _
theorem gtT_succ (N : Nat) (ls : List Int) (k : Nat) : gtT N ls (k + 1) = (gtT N ls k).set (k % N) (nth (gtT N ls k) (k % N) + nth ls k) := accTo_succ _ _ _ _

end Go.Proofs.Ytjmfjgoehicgcaa
