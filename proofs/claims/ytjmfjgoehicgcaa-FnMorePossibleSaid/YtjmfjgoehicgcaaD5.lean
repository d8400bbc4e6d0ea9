/- Masses that are drawn, with sets of their answers. -/
import Derived.Test.YtjmfjgoehicgcaaD4
set_option linter.unusedVariables false
set_option linter.unusedSimpArgs false
namespace Go.Proofs.Ytjmfjgoehicgcaa
open Go.RowKit

theorem VarInv.drB {B R : Nat} {w w' : World} {m : Nat} {s : Int} {v : Value} (h : VarInv w m s v) (hD : Dr B R w w') (hB : m < B) (hm : m ≠ R) : VarInv w' m s v :=
  ⟨(hD.cell hB hm).trans h.c0, (hD.cell hB hm).trans h.c1, (hD.frozen hB hm).trans h.f0, (hD.frozen hB hm).trans h.f1⟩

set_option maxHeartbeats 1000000 in
theorem l3Open_any (R P : Nat) (w : World) (h : Rdr R P w) (hP : P ≤ 60000) :
    Calls Try.prog 97 #[.pointer (some ⟨R, 0, none⟩)] w (MsAny w.heap.size R (P + 23) w) := by
  have hRlt := h.lt
  obtain ⟨W, hW⟩ : ∃ W : World, W = w.alloc (.cells #[.int .i64 0, .slice none 0 0] 27) := ⟨_, rfl⟩
  have hsz : W.heap.size = w.heap.size + 1 := by subst hW; simp
  have hbW : Below w.heap.size w W := by subst hW; exact belowAlloc _ _
  have hV : VarInv W w.heap.size 0 (.slice none 0 0) := by subst hW; exact VarInv.made _ _ _ _
  have hRW : Rdr R P W := h.later hbW
  have HSZ := Lib.hid hsz
  have HW := Lib.hid hW
  clear hW hsz h
  go_enter Try.func97, Try.ntmps97
  go_wp2_with fail
  rw [← HW.out]
  refine (l3Some_any R P W hRW (by omega)).mono ?_
  rintro e w1 ⟨s, v, xs, rfl, hmb, hO, hR1, hD1⟩
  have hk := massB_ok hmb
  have hl1 : 1 ≤ xs.length := by have := hk.len; have := pow2_bd s hk.s1 hk.s4; omega
  obtain ⟨g, c, rfl, hg, hg2⟩ := hO.form (by omega)
  have hV1 := hV.dr (B := 0) hD1 (by omega)
  have hDw : Dr w.heap.size R w w1 := (Dr.ofBelow hbW).then (by have := HSZ.out; omega) hD1
  have z1 := hD1.size
  have HMB := Lib.hid hmb
  clear hV hD1 hRW hbW hk hmb
  go_wp2_with fail
  refine (l3Bad_any W.heap.size R (P + 21) s g xs.length c xs w1 hR1 (by omega) HMB.out rfl hO (by have := HSZ.out; omega) z1).mono ?_
  rintro e w2 ⟨y, v2, ys, rfl, hyl, hO2, hR2, hD2⟩
  have hV2 := hV1.drB hD2 (by have := HSZ.out; omega) (by omega)
  have hDw2 := hDw.trans (hD2.mono (by have := HSZ.out; omega))
  obtain ⟨p, k, rfl, hr⟩ := hO2.shape
  have s0 := hV2.c0
  have s1 := hV2.c1
  have s2 := hV2.f0
  have s3 := hV2.f1
  clear hV2 hV1 hD2 hr hO hDw HMB
  go_wp2
  refine bodyPost_ret (v := .agg #[.int .i64 y, .slice p ys.length k]) (by simp [results, Try.results97, go_sem, s0, s1, s2, s3]) rfl ⟨y, _, ys, rfl, hyl, ?_, ?_, ?_⟩
  · exact ((hO2.setBelow (by show w.heap.size < _; have := HSZ.out; omega) _).setBelow (by show w.heap.size < _; have := HSZ.out; omega) _).mono (by have := HSZ.out; omega)
  · exact ((hR2.setCell _ hRlt _).setCell _ hRlt _).more (by omega)
  · exact (hDw2.setCell _ (.inl (Nat.le_refl _)) _).setCell _ (.inl (Nat.le_refl _)) _

/-- A number that is drawn. -/
def NumDrawn (R P : Nat) (w : World) (e : Ending) (w' : World) : Prop := ∃ y : Int, e = .returned (.int .i64 y) ∧ Rdr R P w' ∧ Dr w.heap.size R w w'

/-- A mass and a number that are drawn. -/
def MsNum (B R P : Nat) (w : World) (e : Ending) (w' : World) : Prop := ∃ (s : Int) (v : Value) (xs : List Int) (a : Int), e = .returned (.tuple #[.agg #[.int .i64 s, v], .int .i64 a]) ∧ xs.length ≤ 17 ∧ Own B w' v xs ∧ Rdr R P w' ∧ Dr B R w w'


/-- A mass and two numbers that are drawn. -/
def MsNums (B R P : Nat) (w : World) (e : Ending) (w' : World) : Prop := ∃ (s : Int) (v : Value) (xs : List Int) (b a : Int), e = .returned (.tuple #[.agg #[.int .i64 s, v], .int .i64 b, .int .i64 a]) ∧ xs.length ≤ 17 ∧ Own B w' v xs ∧ Rdr R P w' ∧ Dr B R w w'


/-- A mass and a number that are drawn, with nothing changed that was there. -/
def OutNum (w : World) (e : Ending) (w' : World) : Prop := ∃ (s : Int) (p : Option Addr) (c : Nat) (xs : List Int) (a : Int), e = .returned (.tuple #[.agg #[.int .i64 s, .slice p xs.length c], .int .i64 a]) ∧ xs.length ≤ 17 ∧ Reads w' p xs ∧ Below w.heap.size w w'
def OutNums (w : World) (e : Ending) (w' : World) : Prop := ∃ (s : Int) (p : Option Addr) (c : Nat) (xs : List Int) (b a : Int), e = .returned (.tuple #[.agg #[.int .i64 s, .slice p xs.length c], .int .i64 b, .int .i64 a]) ∧ xs.length ≤ 17 ∧ Reads w' p xs ∧ Below w.heap.size w w'
def OutMs (w : World) (e : Ending) (w' : World) : Prop := ∃ (s : Int) (p : Option Addr) (c : Nat) (xs : List Int), e = .returned (.agg #[.int .i64 s, .slice p xs.length c]) ∧ xs.length ≤ 17 ∧ Reads w' p xs ∧ Below w.heap.size w w'

end Go.Proofs.Ytjmfjgoehicgcaa
