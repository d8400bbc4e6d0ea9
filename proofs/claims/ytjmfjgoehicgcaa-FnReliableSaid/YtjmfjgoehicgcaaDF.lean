/- Fractions that are drawn. -/
import Derived.Test.YtjmfjgoehicgcaaD5
import Derived.Test.YtjmfjgoehicgcaaF2
set_option linter.unusedVariables false
set_option linter.unusedSimpArgs false
namespace Go.Proofs.Ytjmfjgoehicgcaa
open Go.RowKit

/-- A fraction that is drawn. -/
def FrDrawn (R P : Nat) (w : World) (e : Ending) (w' : World) : Prop := ∃ a b : Int, e = .returned (.agg #[.int .i64 a, .int .i64 b]) ∧ Rdr R P w' ∧ Dr w.heap.size R w w'

set_option maxHeartbeats 4000000 in
set_option maxRecDepth 100000 in
theorem l2Some_any (R P : Nat) (w : World) (h : Rdr R P w) (hP : P ≤ 60000) :
    Calls Try.prog 138 #[.pointer (some ⟨R, 0, none⟩)] w (FrDrawn R (P + 4) w) := by
  have hRlt := h.lt
  obtain ⟨W, hW⟩ : ∃ W : World, W = w.alloc (.cells #[.int .i64 0, .int .i64 0] 32) := ⟨_, rfl⟩
  have hsz : W.heap.size = w.heap.size + 1 := by subst hW; simp
  have hbW : Below w.heap.size w W := by subst hW; exact belowAlloc _ _
  have hV : VarInv W w.heap.size 0 (.int .i64 0) := by subst hW; exact VarInv.made _ _ _ _
  have hRW : Rdr R P W := h.later hbW
  have HSZ := Lib.hid hsz
  have HW := Lib.hid hW
  clear hW hsz h
  go_enter Try.func138, Try.ntmps138
  go_wp2_with fail
  rw [← HW.out]
  refine (pick_any R P 13 W hRW (by omega) (by omega) (by omega)).mono ?_
  rintro e w1 ⟨x, rfl, hx, hR1, hD1⟩
  have hV1 := hV.dr (B := 0) hD1 (by omega)
  have hDw : Dr w.heap.size R w w1 := (Dr.ofBelow hbW).then (by have := HSZ.out; omega) hD1
  have z1 := hD1.size
  clear hV hD1 hRW hbW
  go_wp2_with fail
  refine (pick_any R (P + 1) 12 w1 hR1 (by omega) (by omega) (by omega)).mono ?_
  rintro e w2 ⟨y, rfl, hy, hR2, hD2⟩
  have hV2 := hV1.dr (B := 0) hD2 (by omega)
  have hDw2 := hDw.then (by have := HSZ.out; omega) hD2
  have z2 := hD2.size
  clear hV1 hD2 hR1 hDw
  go_wp2_with fail
  refine (l2Made_any ((x : Int) - 4) (1 + (y : Int)) w2 (by omega) (by omega) (by omega) (by omega) (by omega)).mono ?_
  rintro e w3 ⟨rfl, hb3⟩
  have hV3 := hV2.later hb3
  have hR3 := hR2.later hb3
  have hDw3 := hDw2.thenB (by have := HSZ.out; omega) hb3
  have z3 := hb3.size
  generalize lowN ((x : Int) - 4) (1 + (y : Int)) = a
  generalize lowD ((x : Int) - 4) (1 + (y : Int)) = b
  generalize lowOk ((x : Int) - 4) (1 + (y : Int)) = ok
  clear hV2 hb3 hR2 hDw2 hx hy
  have bA := belowAlloc w3 (.cells #[.int .i64 a, .int .i64 b] 32)
  have hM4 := VarInv.made w3 a (.int .i64 b) 32
  have hV4 := hV3.later bA
  have hR4 := hR3.later bA
  have hDw4 := hDw3.thenB (by have := HSZ.out; omega) bA
  have z4 : w3.heap.size + 1 ≤ (w3.alloc (.cells #[.int .i64 a, .int .i64 b] 32)).heap.size := by simp
  have hBL : R < w3.heap.size := hR3.lt
  have hBR : w3.heap.size ≠ R := by omega
  clear bA hV3 hR3 hDw3
  go_wp2_with fail
  generalize w3.alloc (.cells #[.int .i64 a, .int .i64 b] 32) = w4 at *
  refine (pick_any R (P + 2) 20 w4 hR4 (by omega) (by omega) (by omega)).mono ?_
  rintro e w5 ⟨z, rfl, hz, hR5, hD5⟩
  have hV5 := hV4.dr (B := 0) hD5 (by omega)
  have hM5 := hM4.dr (B := 0) hD5 hBR
  have hDw5 := hDw4.then (by have := HSZ.out; omega) hD5
  have z5 := hD5.size
  clear hV4 hM4 hR4 hD5 hDw4 hz
  have HNE : Hid (w.heap.size ≠ w3.heap.size) := Lib.hid (by have := HSZ.out; omega)
  rcases (show z = 0 ∨ z = 1 ∨ 1 < z by omega) with rfl | rfl | hz
  · have hrd : Reads (w5.alloc (.cells #[.int .i64 1000000000, .int .i64 (-999999999)] 3)) (some ⟨w5.heap.size, 0, none⟩) [1000000000, -999999999] := reads_lit w5 [1000000000, -999999999] _
    go_wp2_with fail
    refine (num_any R (P + 3) _ _ [1000000000, -999999999] 2 rfl (w5.alloc (.cells #[.int .i64 1000000000, .int .i64 (-999999999)] 3)) (hR5.later (belowAlloc _ _)) (by omega) hrd (by intro a ha; cases ha; simp; have := hR5.lt; omega) (by simp) (by simp)).mono ?_
    rintro e w6 ⟨u, hu, rfl, hR6, hD6⟩
    have bA := belowAlloc w5 (.cells #[.int .i64 1000000000, .int .i64 (-999999999)] 3)
    have hV6 := (hV5.later bA).dr (B := 0) hD6 (by omega)
    have hM6 := (hM5.later bA).dr (B := 0) hD6 hBR
    have hDw6 := (hDw5.thenB (by have := HSZ.out; omega) bA).then (by simp; have := HSZ.out; omega) hD6
    clear hV5 hM5 hD6 bA hrd hR5 hDw5
    have s0 := hV6.c0
    have s1 := hV6.c1
    have s2 := hV6.f0
    have s3 := hV6.f1
    have m0 := hM6.c0
    have m1 := hM6.c1
    have m2 := hM6.f0
    have m3 := hM6.f1
    have hne := HNE.out
    have hne2 := hne.symm
    go_wp2
    refine bodyPost_ret (v := .agg #[.int .i64 u, .int .i64 1]) (by simp [results, Try.results138, go_sem, s0, s1, s2, s3, m0, m1, m2, m3, hne, hne2]) rfl ⟨u, 1, rfl, ?_, ?_⟩
    · exact ((((hR6.setCell _ hBL _).setCell _ hBL _).setCell _ hRlt _).setCell _ hRlt _).more (by omega)
    · exact (((hDw6.setCell _ (.inl (by show w.heap.size ≤ w3.heap.size; have := HSZ.out; omega)) _).setCell _ (.inl (by show w.heap.size ≤ w3.heap.size; have := HSZ.out; omega)) _).setCell _ (.inl (Nat.le_refl _)) _).setCell _ (.inl (Nat.le_refl _)) _
  · have s0 := hV5.c0
    have s1 := hV5.c1
    have s2 := hV5.f0
    have s3 := hV5.f1
    have m0 := hM5.c0
    have m1 := hM5.c1
    have m2 := hM5.f0
    have m3 := hM5.f1
    have hne := HNE.out
    have hne2 := hne.symm
    go_wp2
    refine bodyPost_ret (v := .agg #[.int .i64 1, .int .i64 999999999]) (by simp [results, Try.results138, go_sem, s0, s1, s2, s3, m0, m1, m2, m3, hne, hne2]) rfl ⟨1, 999999999, rfl, ?_, ?_⟩
    · exact ((((hR5.setCell _ hBL _).setCell _ hBL _).setCell _ hRlt _).setCell _ hRlt _).more (by omega)
    · exact (((hDw5.setCell _ (.inl (by show w.heap.size ≤ w3.heap.size; have := HSZ.out; omega)) _).setCell _ (.inl (by show w.heap.size ≤ w3.heap.size; have := HSZ.out; omega)) _).setCell _ (.inl (Nat.le_refl _)) _).setCell _ (.inl (Nat.le_refl _)) _
  · have s0 := hV5.c0
    have s1 := hV5.c1
    have s2 := hV5.f0
    have s3 := hV5.f1
    have m0 := hM5.c0
    have m1 := hM5.c1
    have t0 : ((z : Int) == 0) = false := by simp; omega
    have t1 : ((z : Int) == 1) = false := by simp; omega
    go_wp2
    refine bodyPost_ret (v := .agg #[.int .i64 a, .int .i64 b]) (by simp [results, Try.results138, go_sem, s0, s1, s2, s3, m0, m1]) rfl ⟨a, b, rfl, ?_, ?_⟩
    · exact ((hR5.setCell _ hRlt _).setCell _ hRlt _).more (by omega)
    · exact (hDw5.setCell _ (.inl (Nat.le_refl _)) _).setCell _ (.inl (Nat.le_refl _)) _


/- Fractions, some of them not valid. -/
set_option maxHeartbeats 4000000 in
set_option maxRecDepth 100000 in
theorem l2Open_any (R P : Nat) (w : World) (h : Rdr R P w) (hP : P ≤ 50000) :
    Calls Try.prog 127 #[.pointer (some ⟨R, 0, none⟩)] w (FrDrawn R (P + 7) w) := by
  have hRlt := h.lt
  obtain ⟨W, hW⟩ : ∃ W : World, W = w.alloc (.cells #[.int .i64 0, .int .i64 0] 32) := ⟨_, rfl⟩
  have hsz : W.heap.size = w.heap.size + 1 := by subst hW; simp
  have hbW : Below w.heap.size w W := by subst hW; exact belowAlloc _ _
  have hV : VarInv W w.heap.size 0 (.int .i64 0) := by subst hW; exact VarInv.made _ _ _ _
  have hRW : Rdr R P W := h.later hbW
  have HSZ := Lib.hid hsz
  have HW := Lib.hid hW
  clear hW hsz h
  go_enter Try.func127, Try.ntmps127
  go_wp2_with fail
  rw [← HW.out]
  refine (l2Some_any R P W hRW (by omega)).mono ?_
  rintro e w1 ⟨a, b, rfl, hR1, hD1⟩
  have hV1 := hV.dr (B := 0) hD1 (by omega)
  have hDw : Dr w.heap.size R w w1 := (Dr.ofBelow hbW).then (by have := HSZ.out; omega) hD1
  have z1 := hD1.size
  clear hV hD1 hRW hbW
  have bA := belowAlloc w1 (.cells #[.int .i64 a, .int .i64 b] 32)
  have hM2 := VarInv.made w1 a (.int .i64 b) 32
  have hV2 := hV1.later bA
  have hR2 := hR1.later bA
  have hDw2 := hDw.thenB (by have := HSZ.out; omega) bA
  have z2 : w1.heap.size + 1 ≤ (w1.alloc (.cells #[.int .i64 a, .int .i64 b] 32)).heap.size := by simp
  have hBL : R < w1.heap.size := hR1.lt
  have hBR : w1.heap.size ≠ R := by omega
  clear bA hV1 hR1 hDw
  go_wp2_with fail
  generalize w1.alloc (.cells #[.int .i64 a, .int .i64 b] 32) = w2 at *
  refine (pick_any R (P + 4) 30 w2 hR2 (by omega) (by omega) (by omega)).mono ?_
  rintro e w3 ⟨z, rfl, hz, hR3, hD3⟩
  have hV3 := hV2.dr (B := 0) hD3 (by omega)
  have hM3 := hM2.dr (B := 0) hD3 hBR
  have hDw3 := hDw2.then (by have := HSZ.out; omega) hD3
  have z3 := hD3.size
  clear hV2 hM2 hR2 hD3 hDw2 hz
  have HNE : Hid (w.heap.size ≠ w1.heap.size) := Lib.hid (by have := HSZ.out; omega)
  rcases (show z = 0 ∨ z = 1 ∨ z = 2 ∨ 2 < z by omega) with rfl | rfl | rfl | hz
  · have hrd : Reads (w3.alloc (.cells #[.int .i64 0, .int .i64 (-1), .int .i64 1000000001] 3)) (some ⟨w3.heap.size, 0, none⟩) [0, -1, 1000000001] := reads_lit w3 [0, -1, 1000000001] _
    go_wp2_with fail
    refine (num_any R (P + 5) _ _ [0, -1, 1000000001] 3 rfl (w3.alloc (.cells #[.int .i64 0, .int .i64 (-1), .int .i64 1000000001] 3)) (hR3.later (belowAlloc _ _)) (by omega) hrd (by intro a ha; cases ha; simp; have := hR3.lt; omega) (by simp) (by simp)).mono ?_
    rintro e w4 ⟨u, hu, rfl, hR4, hD4⟩
    have bA := belowAlloc w3 (.cells #[.int .i64 0, .int .i64 (-1), .int .i64 1000000001] 3)
    have hV4 := (hV3.later bA).dr (B := 0) hD4 (by omega)
    have hM4 := (hM3.later bA).dr (B := 0) hD4 hBR
    have hDw4 := (hDw3.thenB (by have := HSZ.out; omega) bA).then (by simp; have := HSZ.out; omega) hD4
    clear hV3 hM3 hD4 bA hrd hR3 hDw3
    have s0 := hV4.c0
    have s1 := hV4.c1
    have s2 := hV4.f0
    have s3 := hV4.f1
    have m0 := hM4.c0
    have m1 := hM4.c1
    have m2 := hM4.f0
    have m3 := hM4.f1
    have hne := HNE.out
    have hne2 := hne.symm
    go_wp2
    refine bodyPost_ret (v := .agg #[.int .i64 a, .int .i64 u]) (by simp [results, Try.results127, go_sem, s0, s1, s2, s3, m0, m1, m2, m3, hne, hne2]) rfl ⟨_, _, rfl, ?_, ?_⟩
    · exact (((hR4.setCell _ hBL _).setCell _ hRlt _).setCell _ hRlt _).more (by omega)
    · exact (((hDw4.setCell _ (.inl (by show w.heap.size ≤ w1.heap.size; have := HSZ.out; omega)) _).setCell _ (.inl (Nat.le_refl _)) _).setCell _ (.inl (Nat.le_refl _)) _)
  · go_wp2_with fail
    refine (pick_any R (P + 5) 3 w3 hR3 (by omega) (by omega) (by omega)).mono ?_
    rintro e w4 ⟨y, rfl, hy, hR4, hD4⟩
    have hV4 := hV3.dr (B := 0) hD4 (by omega)
    have hM4 := hM3.dr (B := 0) hD4 hBR
    have hDw4 := hDw3.then (by have := HSZ.out; omega) hD4
    clear hV3 hM3 hD4 hR3 hDw3
    have s0 := hV4.c0
    have s1 := hV4.c1
    have s2 := hV4.f0
    have s3 := hV4.f1
    have m0 := hM4.c0
    have m1 := hM4.c1
    have m2 := hM4.f0
    have m3 := hM4.f1
    have hne := HNE.out
    have hne2 := hne.symm
    go_wp2
    refine bodyPost_ret (v := .agg #[.int .i64 (2 * (1 + (y : Int))), .int .i64 2]) (by simp [results, Try.results127, go_sem, s0, s1, s2, s3, m0, m1, m2, m3, hne, hne2]) rfl ⟨_, _, rfl, ?_, ?_⟩
    · exact ((((hR4.setCell _ hBL _).setCell _ hBL _).setCell _ hRlt _).setCell _ hRlt _).more (by omega)
    · exact ((((hDw4.setCell _ (.inl (by show w.heap.size ≤ w1.heap.size; have := HSZ.out; omega)) _).setCell _ (.inl (by show w.heap.size ≤ w1.heap.size; have := HSZ.out; omega)) _).setCell _ (.inl (Nat.le_refl _)) _).setCell _ (.inl (Nat.le_refl _)) _)
  · have hrd : Reads (w3.alloc (.cells #[.int .i64 1000000001, .int .i64 (-9223372036854775808)] 3)) (some ⟨w3.heap.size, 0, none⟩) [1000000001, -9223372036854775808] := reads_lit w3 [1000000001, -9223372036854775808] _
    go_wp2_with fail
    refine (num_any R (P + 5) _ _ [1000000001, -9223372036854775808] 2 rfl (w3.alloc (.cells #[.int .i64 1000000001, .int .i64 (-9223372036854775808)] 3)) (hR3.later (belowAlloc _ _)) (by omega) hrd (by intro a ha; cases ha; simp; have := hR3.lt; omega) (by simp) (by simp)).mono ?_
    rintro e w4 ⟨u, hu, rfl, hR4, hD4⟩
    have bA := belowAlloc w3 (.cells #[.int .i64 1000000001, .int .i64 (-9223372036854775808)] 3)
    have hV4 := (hV3.later bA).dr (B := 0) hD4 (by omega)
    have hM4 := (hM3.later bA).dr (B := 0) hD4 hBR
    have hDw4 := (hDw3.thenB (by have := HSZ.out; omega) bA).then (by simp; have := HSZ.out; omega) hD4
    clear hV3 hM3 hD4 bA hrd hR3 hDw3
    have s0 := hV4.c0
    have s1 := hV4.c1
    have s2 := hV4.f0
    have s3 := hV4.f1
    have m0 := hM4.c0
    have m1 := hM4.c1
    have m2 := hM4.f0
    have m3 := hM4.f1
    have hne := HNE.out
    have hne2 := hne.symm
    go_wp2
    refine bodyPost_ret (v := .agg #[.int .i64 u, .int .i64 b]) (by simp [results, Try.results127, go_sem, s0, s1, s2, s3, m0, m1, m2, m3, hne, hne2]) rfl ⟨_, _, rfl, ?_, ?_⟩
    · exact (((hR4.setCell _ hBL _).setCell _ hRlt _).setCell _ hRlt _).more (by omega)
    · exact (((hDw4.setCell _ (.inl (by show w.heap.size ≤ w1.heap.size; have := HSZ.out; omega)) _).setCell _ (.inl (Nat.le_refl _)) _).setCell _ (.inl (Nat.le_refl _)) _)
  · have t0 : ((z : Int) == 0) = false := by simp; omega
    have t1 : ((z : Int) == 1) = false := by simp; omega
    have t2 : ((z : Int) == 2) = false := by simp; omega
    have s0 := hV3.c0
    have s1 := hV3.c1
    have s2 := hV3.f0
    have s3 := hV3.f1
    have m0 := hM3.c0
    have m1 := hM3.c1
    have m2 := hM3.f0
    have m3 := hM3.f1
    have hne := HNE.out
    have hne2 := hne.symm
    go_wp2
    refine bodyPost_ret (v := .agg #[.int .i64 a, .int .i64 b]) (by simp [results, Try.results127, go_sem, s0, s1, s2, s3, m0, m1, m2, m3, hne, hne2]) rfl ⟨_, _, rfl, ?_, ?_⟩
    · exact ((hR3.setCell _ hRlt _).setCell _ hRlt _).more (by omega)
    · exact ((hDw3.setCell _ (.inl (Nat.le_refl _)) _).setCell _ (.inl (Nat.le_refl _)) _)

set_option maxHeartbeats 4000000 in
set_option maxRecDepth 100000 in
theorem l3Part_any (R P : Nat) (w : World) (h : Rdr R P w) (hP : P ≤ 40000) :
    Calls Try.prog 98 #[.pointer (some ⟨R, 0, none⟩)] w (FrDrawn R (P + 8) w) := by
  have hRlt := h.lt
  obtain ⟨W, hW⟩ : ∃ W : World, W = w.alloc (.cells #[.int .i64 0, .int .i64 0] 32) := ⟨_, rfl⟩
  have hsz : W.heap.size = w.heap.size + 1 := by subst hW; simp
  have hbW : Below w.heap.size w W := by subst hW; exact belowAlloc _ _
  have hV : VarInv W w.heap.size 0 (.int .i64 0) := by subst hW; exact VarInv.made _ _ _ _
  have hRW : Rdr R P W := h.later hbW
  have HSZ := Lib.hid hsz
  have HW := Lib.hid hW
  clear hW hsz h
  go_enter Try.func98, Try.ntmps98
  go_wp2_with fail
  rw [← HW.out]
  refine (pick_any R P 16 W hRW (by omega) (by omega) (by omega)).mono ?_
  rintro e w1 ⟨x, rfl, hx, hR1, hD1⟩
  have hV1 := hV.dr (B := 0) hD1 (by omega)
  have hDw : Dr w.heap.size R w w1 := (Dr.ofBelow hbW).then (by have := HSZ.out; omega) hD1
  have z1 := hD1.size
  clear hV hD1 hRW hbW
  by_cases h0 : x = 0
  · subst h0
    go_wp2_with fail
    refine (l2Open_any R (P + 1) w1 hR1 (by omega)).mono ?_
    rintro e w2 ⟨a, b, rfl, hR2, hD2⟩
    have hV2 := hV1.dr (B := 0) hD2 (by omega)
    have hDw2 := hDw.then (by have := HSZ.out; omega) hD2
    clear hV1 hR1 hD2 hDw
    have s0 := hV2.c0
    have s1 := hV2.c1
    have s2 := hV2.f0
    have s3 := hV2.f1
    go_wp2
    refine bodyPost_ret (v := .agg #[.int .i64 a, .int .i64 b]) (by simp [results, Try.results98, go_sem, s0, s1, s2, s3]) rfl ⟨_, _, rfl, ?_, ?_⟩
    · exact ((hR2.setCell _ hRlt _).setCell _ hRlt _).more (by omega)
    · exact ((hDw2.setCell _ (.inl (Nat.le_refl _)) _).setCell _ (.inl (Nat.le_refl _)) _)
  · have t0 : ((x : Int) == 0) = false := by simp; omega
    go_wp2_with fail
    refine (pick_any R (P + 1) 6 w1 hR1 (by omega) (by omega) (by omega)).mono ?_
    rintro e w2 ⟨y, rfl, hy, hR2, hD2⟩
    have hV2 := hV1.dr (B := 0) hD2 (by omega)
    have hDw2 := hDw.then (by have := HSZ.out; omega) hD2
    have z2 := hD2.size
    clear hV1 hR1 hD2 hDw t0 hx
    go_wp2_with fail
    refine (pick_any R (P + 2) (1 + (y : Int) + 1) w2 hR2 (by omega) (by omega) (by omega)).mono ?_
    rintro e w3 ⟨u, rfl, hu, hR3, hD3⟩
    have hV3 := hV2.dr (B := 0) hD3 (by omega)
    have hDw3 := hDw2.then (by have := HSZ.out; omega) hD3
    have z3 := hD3.size
    clear hV2 hR2 hD3 hDw2
    go_wp2_with fail
    refine (l2Made_any (u : Int) (1 + (y : Int)) w3 (by omega) (by omega) (by omega) (by omega) (by omega)).mono ?_
    rintro e w4 ⟨rfl, hb4⟩
    have hV4 := hV3.later hb4
    have hR4 := hR3.later hb4
    have hDw4 := hDw3.thenB (by have := HSZ.out; omega) hb4
    have z4 := hb4.size
    generalize lowN (u : Int) (1 + (y : Int)) = a
    generalize lowD (u : Int) (1 + (y : Int)) = b
    generalize lowOk (u : Int) (1 + (y : Int)) = ok
    clear hV3 hb4 hR3 hDw3 hu hy
    have bA := belowAlloc w4 (.cells #[.int .i64 a, .int .i64 b] 32)
    have hM5 := VarInv.made w4 a (.int .i64 b) 32
    have hV5 := hV4.later bA
    have hR5 := hR4.later bA
    have hDw5 := hDw4.thenB (by have := HSZ.out; omega) bA
    clear bA hV4 hR4 hDw4
    have s0 := hV5.c0
    have s1 := hV5.c1
    have s2 := hV5.f0
    have s3 := hV5.f1
    have m0 := hM5.c0
    have m1 := hM5.c1
    go_wp2
    refine bodyPost_ret (v := .agg #[.int .i64 a, .int .i64 b]) (by simp [results, Try.results98, go_sem, s0, s1, s2, s3, m0, m1]) rfl ⟨_, _, rfl, ?_, ?_⟩
    · exact ((hR5.setCell _ hRlt _).setCell _ hRlt _).more (by omega)
    · exact ((hDw5.setCell _ (.inl (Nat.le_refl _)) _).setCell _ (.inl (Nat.le_refl _)) _)

end Go.Proofs.Ytjmfjgoehicgcaa
