/- Masses that are drawn, with sets of their answers. -/
import Derived.Test.YtkpnenbkfphldaaD4
set_option linter.unusedVariables false
set_option linter.unusedSimpArgs false
namespace Go.Proofs.Ytkpnenbkfphldaa
open Go.RowKit

theorem VarInv.drB {B R : Nat} {w w' : World} {m : Nat} {s : Int} {v : Value} (h : VarInv w m s v) (hD : Dr B R w w') (hB : m < B) (hm : m ≠ R) : VarInv w' m s v :=
  ⟨(hD.cell hB hm).trans h.c0, (hD.cell hB hm).trans h.c1, (hD.frozen hB hm).trans h.f0, (hD.frozen hB hm).trans h.f1⟩

set_option maxHeartbeats 1000000 in
theorem l3Open_any (R P : Nat) (w : World) (h : Rdr R P w) (hP : P ≤ 60000) :
    Calls Try.prog 91 #[.pointer (some ⟨R, 0, none⟩)] w (MsAny w.heap.size R (P + 23) w) := by
  have hRlt := h.lt
  obtain ⟨W, hW⟩ : ∃ W : World, W = w.alloc (.cells #[.int .i64 0, .slice none 0 0] 25) := ⟨_, rfl⟩
  have hsz : W.heap.size = w.heap.size + 1 := by subst hW; simp
  have hbW : Below w.heap.size w W := by subst hW; exact belowAlloc _ _
  have hV : VarInv W w.heap.size 0 (.slice none 0 0) := by subst hW; exact VarInv.made _ _ _ _
  have hRW : Rdr R P W := h.later hbW
  have HSZ := Lib.hid hsz
  have HW := Lib.hid hW
  clear hW hsz h
  go_enter Try.func91, Try.ntmps91
  go_wp2_with fail
  rw [← HW.out]
  refine (l3Some_any R P W hRW (by omega)).mono ?_
  rintro e w1 ⟨s, v, xs, rfl, hmb, hO, hR1, hD1⟩
  have hk := massB_ok hmb
  have hl1 : 1 ≤ xs.length := by have := hk.len; have := pow2_bd s hk.s1 hk.s4; omega
  obtain ⟨g, c, rfl, hg, hg2⟩ := hO.form (by omega)
  have hV1 := hV.dr (B := 0) hD1 (by omega)
  have hDw : Dr w.heap.size R w w1 := (Dr.ofBelow hbW).then (by have := HSZ.out; omega) hD1
  have z1 := hD1.size
  have HMB := Lib.hid hmb
  clear hV hD1 hRW hbW hk hmb
  go_wp2_with fail
  refine (l3Bad_any W.heap.size R (P + 21) s g xs.length c xs w1 hR1 (by omega) HMB.out rfl hO (by have := HSZ.out; omega) z1).mono ?_
  rintro e w2 ⟨y, v2, ys, rfl, hyl, hO2, hR2, hD2⟩
  have hV2 := hV1.drB hD2 (by have := HSZ.out; omega) (by omega)
  have hDw2 := hDw.trans (hD2.mono (by have := HSZ.out; omega))
  obtain ⟨p, k, rfl, hr⟩ := hO2.shape
  have s0 := hV2.c0
  have s1 := hV2.c1
  have s2 := hV2.f0
  have s3 := hV2.f1
  clear hV2 hV1 hD2 hr hO hDw HMB
  go_wp2
  refine bodyPost_ret (v := .agg #[.int .i64 y, .slice p ys.length k]) (by simp [results, Try.results91, go_sem, s0, s1, s2, s3]) rfl ⟨y, _, ys, rfl, hyl, ?_, ?_, ?_⟩
  · exact ((hO2.setBelow (by show w.heap.size < _; have := HSZ.out; omega) _).setBelow (by show w.heap.size < _; have := HSZ.out; omega) _).mono (by have := HSZ.out; omega)
  · exact ((hR2.setCell _ hRlt _).setCell _ hRlt _).more (by omega)
  · exact (hDw2.setCell _ (.inl (Nat.le_refl _)) _).setCell _ (.inl (Nat.le_refl _)) _

/-- A number that is drawn. -/
def NumDrawn (R P : Nat) (w : World) (e : Ending) (w' : World) : Prop := ∃ y : Int, e = .returned (.int .i64 y) ∧ Rdr R P w' ∧ Dr w.heap.size R w w'

set_option maxHeartbeats 1000000 in
theorem l1Set_any (R P : Nat) (w : World) (h : Rdr R P w) (hP : P ≤ 90000) :
    Calls Try.prog 116 #[.pointer (some ⟨R, 0, none⟩)] w (NumDrawn R (P + 3) w) := by
  have hRlt := h.lt
  go_enter Try.func116, Try.ntmps116
  go_wp2_with fail
  refine (pick_any R P 24 w h (by omega) (by omega) (by omega)).mono ?_
  rintro e w1 ⟨x, rfl, hx, hR1, hD1⟩
  have z1 := hD1.size
  clear h
  by_cases h0 : x = 0
  · subst h0
    go_wp2_with fail
    refine (num_any R (P + 1) _ _ [-1, 16, 9223372036854775807] 3 rfl _ (hR1.later (belowAlloc _ _)) (by omega) (reads_lit w1 [-1, 16, 9223372036854775807] _) (by intro a ha; cases ha; simp; omega) (by simp) (by simp)).mono ?_
    rintro e w2 ⟨y, hy, rfl, hR2, hD2⟩
    have hD' := (hD1.thenB z1 (belowAlloc _ _)).then (by simp; omega) hD2
    clear hD1 hD2 hR1 hy
    go_wp2
    go_ret
    exact ⟨y, rfl, hR2.more (by omega), hD'⟩
  · have t0 : ((x : Int) == 0) = false := by simp; omega
    go_wp2_with fail
    refine (pick_any R (P + 1) 8 w1 hR1 (by omega) (by omega) (by omega)).mono ?_
    rintro e w2 ⟨y, rfl, hy, hR2, hD2⟩
    have z2 := hD2.size
    go_wp2_with fail
    refine (pick_any R (P + 2) 4 w2 hR2 (by omega) (by omega) (by omega)).mono ?_
    rintro e w3 ⟨z, rfl, hz, hR3, hD3⟩
    have hD' := (hD1.then z1 hD2).then (by omega) hD3
    clear hD1 hD2 hD3 hR1 hR2
    go_wp2
    go_ret
    exact ⟨_, rfl, hR3.more (by omega), hD'⟩

/-- A mass and a number that are drawn. -/
def MsNum (B R P : Nat) (w : World) (e : Ending) (w' : World) : Prop := ∃ (s : Int) (v : Value) (xs : List Int) (a : Int), e = .returned (.tuple #[.agg #[.int .i64 s, v], .int .i64 a]) ∧ xs.length ≤ 17 ∧ Own B w' v xs ∧ Rdr R P w' ∧ Dr B R w w'

theorem l1Any_any (a : Int) (w : World) : Calls Try.prog 117 #[.int .i64 a] w fun e w' => e = .returned (.bool (inB a 0 15)) ∧ w = w' := by
  go_enter Try.func117, Try.ntmps117
  go_wp2_with fail
  refine (l1In_any _ _ _ _).mono ?_
  rintro e w' ⟨rfl, rfl⟩
  go_wp2
  go_ret
  exact ⟨rfl, rfl⟩

set_option maxHeartbeats 2000000 in
theorem l3With_any (R P : Nat) (w : World) (h : Rdr R P w) (hP : P ≤ 50000) :
    Calls Try.prog 77 #[.pointer (some ⟨R, 0, none⟩)] w (MsNum w.heap.size R (P + 27) w) := by
  have hRlt := h.lt
  obtain ⟨W, hW⟩ : ∃ W : World, W = w.alloc (.cells #[.int .i64 0, .slice none 0 0] 25) := ⟨_, rfl⟩
  have hsz : W.heap.size = w.heap.size + 1 := by subst hW; simp
  have hbW : Below w.heap.size w W := by subst hW; exact belowAlloc _ _
  have hV : VarInv W w.heap.size 0 (.slice none 0 0) := by subst hW; exact VarInv.made _ _ _ _
  have hRW : Rdr R P W := h.later hbW
  have HSZ := Lib.hid hsz
  have HW := Lib.hid hW
  clear hW hsz h
  go_enter Try.func77, Try.ntmps77
  go_wp2_with fail
  rw [← HW.out]
  refine (l3Open_any R P W hRW (by omega)).mono ?_
  rintro e w1 ⟨s, v, xs, rfl, hxl, hO, hR1, hD1⟩
  obtain ⟨p, c, rfl, hr⟩ := hO.shape
  have hV1 := hV.dr (B := 0) hD1 (by omega)
  have hDw := (Dr.ofBelow hbW).then (by have := HSZ.out; omega) hD1
  have z1 : w.heap.size + 1 ≤ w1.heap.size := by have := hD1.size; have := HSZ.out; omega
  have b1 := belowAlloc w1 (.cells #[.int .i64 s, .slice p xs.length c] 25)
  have hM := VarInv.made w1 s (.slice p xs.length c) 25
  have hV2 := hV1.later b1
  have hO2 := hO.later b1
  have hR2 := hR1.later b1
  have hDw2 := hDw.thenB (by omega) b1
  have hmR : w1.heap.size ≠ R := by have := hR1.lt; omega
  clear hr hV hV1 hO hDw hD1 b1 hR1 hbW hRW
  go_wp2_with fail
  refine (l1Set_any R (P + 23) _ hR2 (by omega)).mono ?_
  rintro e w2 ⟨a, rfl, hR3, hD3⟩
  have hM3 := hM.dr (B := 0) hD3 hmR
  have hV3 := hV2.dr (B := 0) hD3 (by omega)
  have hO3 := hO2.dr hD3 (by have := HSZ.out; omega)
  have hDw3 := hDw2.then (by simp; omega) hD3
  have z2 : w1.heap.size + 1 ≤ w2.heap.size := by have := hD3.size; simpa using this
  have m0 := hM3.c0
  have m1 := hM3.c1
  clear hM hV2 hO2 hR2 hDw2 hD3
  go_wp2_with fail
  refine (MassValid_any s p c xs w2 hO3.reads (by omega)).mono ?_
  rintro e w3 ⟨rfl, b3⟩
  have hM4 := hM3.later b3
  have hV4 := hV3.later b3
  have hO4 := hO3.later b3
  have hR4 := hR3.later b3
  have hDw4 := hDw3.thenB (by omega) b3
  have z3 := b3.size
  clear m0 m1 hM3 hV3 hO3 hR3 hDw3 b3
  have m0 := hM4.c0
  have m1 := hM4.c1
  have s0 := hV4.c0
  have s1 := hV4.c1
  have s2 := hV4.f0
  have s3 := hV4.f1
  cases hv : massB s xs
  · go_wp2
    refine bodyPost_ret (v := .tuple #[.agg #[.int .i64 s, .slice p xs.length c], .int .i64 a]) (by simp [results, Try.results77, go_sem, s0, s1, s2, s3]) rfl ⟨s, _, xs, a, rfl, hxl, ?_, ?_, ?_⟩
    · exact ((hO4.setBelow (by show w.heap.size < _; have := HSZ.out; omega) _).setBelow (by show w.heap.size < _; have := HSZ.out; omega) _).mono (by have := HSZ.out; omega)
    · exact ((hR4.setCell _ hRlt _).setCell _ hRlt _).more (by omega)
    · exact (hDw4.setCell _ (.inl (Nat.le_refl _)) _).setCell _ (.inl (Nat.le_refl _)) _
  · go_wp2_with fail
    refine (l1Any_any a w3).mono ?_
    rintro e w' ⟨rfl, rfl⟩
    cases ha : inB a 0 15
    · go_wp2
      refine bodyPost_ret (v := .tuple #[.agg #[.int .i64 s, .slice p xs.length c], .int .i64 a]) (by simp [results, Try.results77, go_sem, s0, s1, s2, s3]) rfl ⟨s, _, xs, a, rfl, hxl, ?_, ?_, ?_⟩
      · exact ((hO4.setBelow (by show w.heap.size < _; have := HSZ.out; omega) _).setBelow (by show w.heap.size < _; have := HSZ.out; omega) _).mono (by have := HSZ.out; omega)
      · exact ((hR4.setCell _ hRlt _).setCell _ hRlt _).more (by omega)
      · exact (hDw4.setCell _ (.inl (Nat.le_refl _)) _).setCell _ (.inl (Nat.le_refl _)) _
    · go_wp2_with fail
      refine (pick_any R (P + 26) 16 w3 hR4 (by omega) (by omega) (by omega)).mono ?_
      rintro e w4 ⟨x, rfl, hx, hR5, hD5⟩
      have hM5 := hM4.dr (B := 0) hD5 hmR
      have hV5 := hV4.dr (B := 0) hD5 (by omega)
      have hO5 := hO4.dr hD5 (by have := HSZ.out; omega)
      have hDw5 := hDw4.then (by omega) hD5
      clear m0 m1 s0 s1 s2 s3 hM4 hV4 hO4 hR4 hDw4 hD5
      have m0 := hM5.c0
      have m1 := hM5.c1
      have s0 := hV5.c0
      have s1 := hV5.c1
      have s2 := hV5.f0
      have s3 := hV5.f1
      by_cases h0 : x = 0
      · subst h0
        go_wp2
        refine bodyPost_ret (v := .tuple #[.agg #[.int .i64 s, .slice p xs.length c], .int .i64 a]) (by simp [results, Try.results77, go_sem, s0, s1, s2, s3]) rfl ⟨s, _, xs, a, rfl, hxl, ?_, ?_, ?_⟩
        · exact ((hO5.setBelow (by show w.heap.size < _; have := HSZ.out; omega) _).setBelow (by show w.heap.size < _; have := HSZ.out; omega) _).mono (by have := HSZ.out; omega)
        · exact ((hR5.setCell _ hRlt _).setCell _ hRlt _).more (by omega)
        · exact (hDw5.setCell _ (.inl (Nat.le_refl _)) _).setCell _ (.inl (Nat.le_refl _)) _
      · have hx1 : (0 : Int) < (x : Int) := by omega
        go_wp2
        refine bodyPost_ret (v := .tuple #[.agg #[.int .i64 s, .slice p xs.length c], .int .i64 (bits .and .i64 a ((xs.length : Int) - 1))]) (by simp [results, Try.results77, go_sem, s0, s1, s2, s3]) rfl ⟨s, _, xs, (bits .and .i64 a ((xs.length : Int) - 1)), rfl, hxl, ?_, ?_, ?_⟩
        · exact ((hO5.setBelow (by show w.heap.size < _; have := HSZ.out; omega) _).setBelow (by show w.heap.size < _; have := HSZ.out; omega) _).mono (by have := HSZ.out; omega)
        · exact ((hR5.setCell _ hRlt _).setCell _ hRlt _).more (by omega)
        · exact (hDw5.setCell _ (.inl (Nat.le_refl _)) _).setCell _ (.inl (Nat.le_refl _)) _


/-- A mass and two numbers that are drawn. -/
def MsNums (B R P : Nat) (w : World) (e : Ending) (w' : World) : Prop := ∃ (s : Int) (v : Value) (xs : List Int) (b a : Int), e = .returned (.tuple #[.agg #[.int .i64 s, v], .int .i64 b, .int .i64 a]) ∧ xs.length ≤ 17 ∧ Own B w' v xs ∧ Rdr R P w' ∧ Dr B R w w'

set_option maxHeartbeats 2000000 in
theorem l7Three_any (R P : Nat) (w : World) (h : Rdr R P w) (hP : P ≤ 40000) :
    Calls Try.prog 61 #[.pointer (some ⟨R, 0, none⟩)] w (MsNums w.heap.size R (P + 31) w) := by
  have hRlt := h.lt
  obtain ⟨W, hW⟩ : ∃ W : World, W = w.alloc (.cells #[.int .i64 0, .slice none 0 0] 25) := ⟨_, rfl⟩
  have hsz : W.heap.size = w.heap.size + 1 := by subst hW; simp
  have hbW : Below w.heap.size w W := by subst hW; exact belowAlloc _ _
  have hV : VarInv W w.heap.size 0 (.slice none 0 0) := by subst hW; exact VarInv.made _ _ _ _
  have hRW : Rdr R P W := h.later hbW
  have HSZ := Lib.hid hsz
  have HW := Lib.hid hW
  clear hW hsz h
  go_enter Try.func61, Try.ntmps61
  go_wp2_with fail
  rw [← HW.out]
  refine (l3With_any R P W hRW (by omega)).mono ?_
  rintro e w1 ⟨s, v, xs, b, rfl, hxl, hO, hR1, hD1⟩
  obtain ⟨p, c, rfl, hr⟩ := hO.shape
  have hV1 := hV.dr (B := 0) hD1 (by omega)
  have hDw := (Dr.ofBelow hbW).then (by have := HSZ.out; omega) hD1
  have z1 : w.heap.size + 1 ≤ w1.heap.size := by have := hD1.size; have := HSZ.out; omega
  have b1 := belowAlloc w1 (.cells #[.int .i64 s, .slice p xs.length c] 25)
  have hM := VarInv.made w1 s (.slice p xs.length c) 25
  have hV2 := hV1.later b1
  have hO2 := hO.later b1
  have hR2 := hR1.later b1
  have hDw2 := hDw.thenB (by omega) b1
  have hmR : w1.heap.size ≠ R := by have := hR1.lt; omega
  clear hr hV hV1 hO hDw hD1 b1 hR1 hbW hRW
  go_wp2_with fail
  refine (l1Set_any R (P + 27) _ hR2 (by omega)).mono ?_
  rintro e w2 ⟨a, rfl, hR3, hD3⟩
  have hM3 := hM.dr (B := 0) hD3 hmR
  have hV3 := hV2.dr (B := 0) hD3 (by omega)
  have hO3 := hO2.dr hD3 (by have := HSZ.out; omega)
  have hDw3 := hDw2.then (by simp; omega) hD3
  have z2 : w1.heap.size + 1 ≤ w2.heap.size := by have := hD3.size; simpa using this
  have m0 := hM3.c0
  have m1 := hM3.c1
  clear hM hV2 hO2 hR2 hDw2 hD3
  go_wp2_with fail
  refine (MassValid_any s p c xs w2 hO3.reads (by omega)).mono ?_
  rintro e w3 ⟨rfl, b3⟩
  have hM4 := hM3.later b3
  have hV4 := hV3.later b3
  have hO4 := hO3.later b3
  have hR4 := hR3.later b3
  have hDw4 := hDw3.thenB (by omega) b3
  have z3 := b3.size
  clear m0 m1 hM3 hV3 hO3 hR3 hDw3 b3
  have m0 := hM4.c0
  have m1 := hM4.c1
  have s0 := hV4.c0
  have s1 := hV4.c1
  have s2 := hV4.f0
  have s3 := hV4.f1
  cases hv : massB s xs
  · go_wp2
    refine bodyPost_ret (v := .tuple #[.agg #[.int .i64 s, .slice p xs.length c], .int .i64 a, .int .i64 b]) (by simp [results, Try.results61, go_sem, s0, s1, s2, s3]) rfl ⟨s, _, xs, a, b, rfl, hxl, ?_, ?_, ?_⟩
    · exact ((hO4.setBelow (by show w.heap.size < _; have := HSZ.out; omega) _).setBelow (by show w.heap.size < _; have := HSZ.out; omega) _).mono (by have := HSZ.out; omega)
    · exact ((hR4.setCell _ hRlt _).setCell _ hRlt _).more (by omega)
    · exact (hDw4.setCell _ (.inl (Nat.le_refl _)) _).setCell _ (.inl (Nat.le_refl _)) _
  · go_wp2_with fail
    refine (l1Any_any a w3).mono ?_
    rintro e w' ⟨rfl, rfl⟩
    cases ha : inB a 0 15
    · go_wp2
      refine bodyPost_ret (v := .tuple #[.agg #[.int .i64 s, .slice p xs.length c], .int .i64 a, .int .i64 b]) (by simp [results, Try.results61, go_sem, s0, s1, s2, s3]) rfl ⟨s, _, xs, a, b, rfl, hxl, ?_, ?_, ?_⟩
      · exact ((hO4.setBelow (by show w.heap.size < _; have := HSZ.out; omega) _).setBelow (by show w.heap.size < _; have := HSZ.out; omega) _).mono (by have := HSZ.out; omega)
      · exact ((hR4.setCell _ hRlt _).setCell _ hRlt _).more (by omega)
      · exact (hDw4.setCell _ (.inl (Nat.le_refl _)) _).setCell _ (.inl (Nat.le_refl _)) _
    · go_wp2_with fail
      refine (pick_any R (P + 30) 16 w3 hR4 (by omega) (by omega) (by omega)).mono ?_
      rintro e w4 ⟨x, rfl, hx, hR5, hD5⟩
      have hM5 := hM4.dr (B := 0) hD5 hmR
      have hV5 := hV4.dr (B := 0) hD5 (by omega)
      have hO5 := hO4.dr hD5 (by have := HSZ.out; omega)
      have hDw5 := hDw4.then (by omega) hD5
      clear m0 m1 s0 s1 s2 s3 hM4 hV4 hO4 hR4 hDw4 hD5
      have m0 := hM5.c0
      have m1 := hM5.c1
      have s0 := hV5.c0
      have s1 := hV5.c1
      have s2 := hV5.f0
      have s3 := hV5.f1
      by_cases h0 : x = 0
      · subst h0
        go_wp2
        refine bodyPost_ret (v := .tuple #[.agg #[.int .i64 s, .slice p xs.length c], .int .i64 a, .int .i64 b]) (by simp [results, Try.results61, go_sem, s0, s1, s2, s3]) rfl ⟨s, _, xs, a, b, rfl, hxl, ?_, ?_, ?_⟩
        · exact ((hO5.setBelow (by show w.heap.size < _; have := HSZ.out; omega) _).setBelow (by show w.heap.size < _; have := HSZ.out; omega) _).mono (by have := HSZ.out; omega)
        · exact ((hR5.setCell _ hRlt _).setCell _ hRlt _).more (by omega)
        · exact (hDw5.setCell _ (.inl (Nat.le_refl _)) _).setCell _ (.inl (Nat.le_refl _)) _
      · have hx1 : (0 : Int) < (x : Int) := by omega
        go_wp2
        refine bodyPost_ret (v := .tuple #[.agg #[.int .i64 s, .slice p xs.length c], .int .i64 (bits .and .i64 a ((xs.length : Int) - 1)), .int .i64 b]) (by simp [results, Try.results61, go_sem, s0, s1, s2, s3]) rfl ⟨s, _, xs, (bits .and .i64 a ((xs.length : Int) - 1)), b, rfl, hxl, ?_, ?_, ?_⟩
        · exact ((hO5.setBelow (by show w.heap.size < _; have := HSZ.out; omega) _).setBelow (by show w.heap.size < _; have := HSZ.out; omega) _).mono (by have := HSZ.out; omega)
        · exact ((hR5.setCell _ hRlt _).setCell _ hRlt _).more (by omega)
        · exact (hDw5.setCell _ (.inl (Nat.le_refl _)) _).setCell _ (.inl (Nat.le_refl _)) _


/-- A mass and a number that are drawn, with nothing changed that was there. -/
def OutNum (w : World) (e : Ending) (w' : World) : Prop := ∃ (s : Int) (p : Option Addr) (c : Nat) (xs : List Int) (a : Int), e = .returned (.tuple #[.agg #[.int .i64 s, .slice p xs.length c], .int .i64 a]) ∧ xs.length ≤ 17 ∧ Reads w' p xs ∧ Below w.heap.size w w'
def OutNums (w : World) (e : Ending) (w' : World) : Prop := ∃ (s : Int) (p : Option Addr) (c : Nat) (xs : List Int) (b a : Int), e = .returned (.tuple #[.agg #[.int .i64 s, .slice p xs.length c], .int .i64 b, .int .i64 a]) ∧ xs.length ≤ 17 ∧ Reads w' p xs ∧ Below w.heap.size w w'
def OutMs (w : World) (e : Ending) (w' : World) : Prop := ∃ (s : Int) (p : Option Addr) (c : Nat) (xs : List Int), e = .returned (.agg #[.int .i64 s, .slice p xs.length c]) ∧ xs.length ≤ 17 ∧ Reads w' p xs ∧ Below w.heap.size w w'

set_option maxHeartbeats 1000000 in
theorem DrawLearnMass_any (a0 : Option Addr) (c0 : Nat) (bs : List Int) (w : World) (hx : ReadsK .u8 w a0 bs) (hwf : ∀ n ∈ bs, (Lit.int .u8 n).wf = true) (hl : bs.length ≤ maxLen) (hc : bs.length ≤ c0) :
    Calls Try.prog 20 #[.slice a0 bs.length c0] w (OutNum w) := by
  obtain ⟨W, hW⟩ : ∃ W : World, W = w.alloc (.cells #[.int .i64 0, .slice none 0 0] 25) := ⟨_, rfl⟩
  have hsz : W.heap.size = w.heap.size + 1 := by subst hW; simp
  have hbW : Below w.heap.size w W := by subst hW; exact belowAlloc _ _
  have hV : VarInv W w.heap.size 0 (.slice none 0 0) := by subst hW; exact VarInv.made _ _ _ _
  have hxW := hx.below hbW
  have HSZ := Lib.hid hsz
  have HW := Lib.hid hW
  clear hW hsz hx
  have HO := Lib.hid (l14Open_any a0 c0 bs W hxW hwf hl hc)
  unfold maxLen at hl
  clear hxW hwf
  go_enter Try.func20, Try.ntmps20
  go_wp2_with fail
  rw [← HW.out]
  refine HO.out.mono ?_
  rintro e w1 ⟨rfl, hR1, b1⟩
  clear HO
  have hV1 := hV.later b1
  have bb1 := hbW.thenB b1
  have z1 := b1.size
  obtain ⟨R, hRe⟩ : ∃ R, R = W.heap.size := ⟨_, rfl⟩
  rw [← hRe] at hR1 ⊢
  have HR := Lib.hid hRe
  clear hRe hV hbW b1 hc
  have hRlt := hR1.lt
  go_wp2_with fail
  refine (l3With_any R 0 w1 hR1 (by omega)).mono ?_
  rintro e w2 ⟨s, v, xs, a, rfl, hxl, hO, hR2, hD2⟩
  obtain ⟨p, c, rfl, hr⟩ := hO.shape
  have hV2 := hV1.drB hD2 (by have := HSZ.out; omega) (by have := HR.out; have := HSZ.out; omega)
  have bb2 := bb1.trans ((hD2.mono (show w.heap.size ≤ w1.heap.size by have := HSZ.out; omega)).below (by have := HR.out; have := HSZ.out; omega))
  have s0 := hV2.c0
  have s1 := hV2.c1
  have s2 := hV2.f0
  have s3 := hV2.f1
  clear hr hV1 hD2 hR1 hR2 bb1
  go_wp2
  refine bodyPost_ret (v := .tuple #[.agg #[.int .i64 s, .slice p xs.length c], .int .i64 a]) (by simp [results, Try.results20, go_sem, s0, s1, s2, s3]) rfl ⟨s, p, c, xs, a, rfl, hxl, ?_, ?_⟩
  · exact ((hO.setBelow (by show w.heap.size < _; have := HSZ.out; omega) _).setBelow (by show w.heap.size < _; have := HSZ.out; omega) _).reads
  · exact (bb2.setCell (Nat.le_refl _) _).setCell (Nat.le_refl _) _

set_option maxHeartbeats 1000000 in
theorem DrawLowestGiven_any (a0 : Option Addr) (c0 : Nat) (bs : List Int) (w : World) (hx : ReadsK .u8 w a0 bs) (hwf : ∀ n ∈ bs, (Lit.int .u8 n).wf = true) (hl : bs.length ≤ maxLen) (hc : bs.length ≤ c0) :
    Calls Try.prog 11 #[.slice a0 bs.length c0] w (OutNums w) := by
  obtain ⟨W, hW⟩ : ∃ W : World, W = w.alloc (.cells #[.int .i64 0, .slice none 0 0] 25) := ⟨_, rfl⟩
  have hsz : W.heap.size = w.heap.size + 1 := by subst hW; simp
  have hbW : Below w.heap.size w W := by subst hW; exact belowAlloc _ _
  have hV : VarInv W w.heap.size 0 (.slice none 0 0) := by subst hW; exact VarInv.made _ _ _ _
  have hxW := hx.below hbW
  have HSZ := Lib.hid hsz
  have HW := Lib.hid hW
  clear hW hsz hx
  have HO := Lib.hid (l14Open_any a0 c0 bs W hxW hwf hl hc)
  unfold maxLen at hl
  clear hxW hwf
  go_enter Try.func11, Try.ntmps11
  go_wp2_with fail
  rw [← HW.out]
  refine HO.out.mono ?_
  rintro e w1 ⟨rfl, hR1, b1⟩
  clear HO
  have hV1 := hV.later b1
  have bb1 := hbW.thenB b1
  have z1 := b1.size
  obtain ⟨R, hRe⟩ : ∃ R, R = W.heap.size := ⟨_, rfl⟩
  rw [← hRe] at hR1 ⊢
  have HR := Lib.hid hRe
  clear hRe hV hbW b1 hc
  have hRlt := hR1.lt
  go_wp2_with fail
  refine (l7Three_any R 0 w1 hR1 (by omega)).mono ?_
  rintro e w2 ⟨s, v, xs, b, a, rfl, hxl, hO, hR2, hD2⟩
  obtain ⟨p, c, rfl, hr⟩ := hO.shape
  have hV2 := hV1.drB hD2 (by have := HSZ.out; omega) (by have := HR.out; have := HSZ.out; omega)
  have bb2 := bb1.trans ((hD2.mono (show w.heap.size ≤ w1.heap.size by have := HSZ.out; omega)).below (by have := HR.out; have := HSZ.out; omega))
  have s0 := hV2.c0
  have s1 := hV2.c1
  have s2 := hV2.f0
  have s3 := hV2.f1
  clear hr hV1 hD2 hR1 hR2 bb1
  go_wp2
  refine bodyPost_ret (v := .tuple #[.agg #[.int .i64 s, .slice p xs.length c], .int .i64 b, .int .i64 a]) (by simp [results, Try.results11, go_sem, s0, s1, s2, s3]) rfl ⟨s, p, c, xs, b, a, rfl, hxl, ?_, ?_⟩
  · exact ((hO.setBelow (by show w.heap.size < _; have := HSZ.out; omega) _).setBelow (by show w.heap.size < _; have := HSZ.out; omega) _).reads
  · exact (bb2.setCell (Nat.le_refl _) _).setCell (Nat.le_refl _) _

set_option maxHeartbeats 1000000 in
theorem DrawPossibleGiven_any (a0 : Option Addr) (c0 : Nat) (bs : List Int) (w : World) (hx : ReadsK .u8 w a0 bs) (hwf : ∀ n ∈ bs, (Lit.int .u8 n).wf = true) (hl : bs.length ≤ maxLen) (hc : bs.length ≤ c0) :
    Calls Try.prog 31 #[.slice a0 bs.length c0] w (OutNums w) := by
  obtain ⟨W, hW⟩ : ∃ W : World, W = w.alloc (.cells #[.int .i64 0, .slice none 0 0] 25) := ⟨_, rfl⟩
  have hsz : W.heap.size = w.heap.size + 1 := by subst hW; simp
  have hbW : Below w.heap.size w W := by subst hW; exact belowAlloc _ _
  have hV : VarInv W w.heap.size 0 (.slice none 0 0) := by subst hW; exact VarInv.made _ _ _ _
  have hxW := hx.below hbW
  have HSZ := Lib.hid hsz
  have HW := Lib.hid hW
  clear hW hsz hx
  have HO := Lib.hid (l14Open_any a0 c0 bs W hxW hwf hl hc)
  unfold maxLen at hl
  clear hxW hwf
  go_enter Try.func31, Try.ntmps31
  go_wp2_with fail
  rw [← HW.out]
  refine HO.out.mono ?_
  rintro e w1 ⟨rfl, hR1, b1⟩
  clear HO
  have hV1 := hV.later b1
  have bb1 := hbW.thenB b1
  have z1 := b1.size
  obtain ⟨R, hRe⟩ : ∃ R, R = W.heap.size := ⟨_, rfl⟩
  rw [← hRe] at hR1 ⊢
  have HR := Lib.hid hRe
  clear hRe hV hbW b1 hc
  have hRlt := hR1.lt
  go_wp2_with fail
  refine (l7Three_any R 0 w1 hR1 (by omega)).mono ?_
  rintro e w2 ⟨s, v, xs, b, a, rfl, hxl, hO, hR2, hD2⟩
  obtain ⟨p, c, rfl, hr⟩ := hO.shape
  have hV2 := hV1.drB hD2 (by have := HSZ.out; omega) (by have := HR.out; have := HSZ.out; omega)
  have bb2 := bb1.trans ((hD2.mono (show w.heap.size ≤ w1.heap.size by have := HSZ.out; omega)).below (by have := HR.out; have := HSZ.out; omega))
  have s0 := hV2.c0
  have s1 := hV2.c1
  have s2 := hV2.f0
  have s3 := hV2.f1
  clear hr hV1 hD2 hR1 hR2 bb1
  go_wp2
  refine bodyPost_ret (v := .tuple #[.agg #[.int .i64 s, .slice p xs.length c], .int .i64 b, .int .i64 a]) (by simp [results, Try.results31, go_sem, s0, s1, s2, s3]) rfl ⟨s, p, c, xs, b, a, rfl, hxl, ?_, ?_⟩
  · exact ((hO.setBelow (by show w.heap.size < _; have := HSZ.out; omega) _).setBelow (by show w.heap.size < _; have := HSZ.out; omega) _).reads
  · exact (bb2.setCell (Nat.le_refl _) _).setCell (Nat.le_refl _) _

end Go.Proofs.Ytkpnenbkfphldaa
