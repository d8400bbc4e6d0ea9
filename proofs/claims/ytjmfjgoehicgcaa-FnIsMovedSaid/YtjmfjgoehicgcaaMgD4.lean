/- Masses that are drawn, sometimes not valid; numbers that are mostly sets. -/
import Derived.Test.YtjmfjgoehicgcaaD3
set_option linter.unusedVariables false
set_option linter.unusedSimpArgs false
namespace Go.Proofs.Ytjmfjgoehicgcaa
open Go.RowKit

theorem VarInv.dr {B R : Nat} {w w' : World} {m : Nat} {s : Int} {v : Value} (h : VarInv w m s v) (hD : Dr w.heap.size R w w') (hm : m ≠ R) : VarInv w' m s v :=
  ⟨cellDr hD h.c0 hm, cellDr hD h.c1 hm, frozDr hD h.lt hm h.f0, frozDr hD h.lt hm h.f1⟩

theorem Own.otherD {B g n c : Nat} {w : World} {zs : List Int} {p : Addr} (h : Own B w (.slice (some ⟨g, 0, none⟩) n c) zs) (hp : p.block ≠ g) (u : Value) : Own B (w.setCell p u) (.slice (some ⟨g, 0, none⟩) n c) zs := by
  refine ⟨h.1, ?_⟩
  rcases h.2 with ⟨h, _⟩ | ⟨g', cap, cur, a, b, hg, r⟩
  · cases h
  · cases a
    exact .inr ⟨g, _, cur, rfl, b, by rw [Below.heap_setCell _ _ _ _ (fun e => hp e.symm)]; exact hg, r⟩

theorem nth_set_ne (ys : List Int) (k j : Nat) (y : Int) (h : j ≠ k) : nth (ys.set k y) j = nth ys j := by
  simp [nth, List.getD, List.getElem?_set_ne (Ne.symm h)]

theorem VarInv.store0 {w : World} {m : Nat} {s : Int} {v : Value} (h : VarInv w m s v) (y : Int) : VarInv (w.setCell ⟨m, 0, none⟩ (.int .i64 y)) m y v :=
  ⟨World.cell?_setCell_same _ _ _ h.c0, by rw [World.cell?_setCell_other _ _ _ _ (by simp)]; exact h.c1, by rw [World.frozen?_setCell]; exact h.f0, by rw [World.frozen?_setCell]; exact h.f1⟩

/-- A valid mass that is drawn, of some question. -/
def MsSome (R P : Nat) (w : World) (e : Ending) (w' : World) : Prop := ∃ (s : Int) (v : Value) (xs : List Int), e = .returned (.agg #[.int .i64 s, v]) ∧ massB s xs = true ∧ Own w.heap.size w' v xs ∧ Rdr R P w' ∧ Dr w.heap.size R w w'

/-- A mass that is drawn, valid or not. -/
def MsAny (B R P : Nat) (w : World) (e : Ending) (w' : World) : Prop := ∃ (s : Int) (v : Value) (xs : List Int), e = .returned (.agg #[.int .i64 s, v]) ∧ xs.length ≤ 17 ∧ Own B w' v xs ∧ Rdr R P w' ∧ Dr B R w w'

set_option maxHeartbeats 1000000 in
theorem l3Some_any (R P : Nat) (w : World) (h : Rdr R P w) (hP : P ≤ 90000) :
    Calls Try.prog 126 #[.pointer (some ⟨R, 0, none⟩)] w (MsSome R (P + 21) w) := by
  have hRlt := h.lt
  obtain ⟨W, hW⟩ : ∃ W : World, W = w.alloc (.cells #[.int .i64 0, .slice none 0 0] 27) := ⟨_, rfl⟩
  have hsz : W.heap.size = w.heap.size + 1 := by subst hW; simp
  have hbW : Below w.heap.size w W := by subst hW; exact belowAlloc _ _
  have hV : VarInv W w.heap.size 0 (.slice none 0 0) := by subst hW; exact VarInv.made _ _ _ _
  have hRW : Rdr R P W := h.later hbW
  have HSZ := Lib.hid hsz
  have HW := Lib.hid hW
  clear hW hsz h
  have b1 := belowAlloc W (.cells #[.int .i64 3, .int .i64 2, .int .i64 3, .int .i64 1, .int .i64 4, .int .i64 3] 3)
  have hV1 := hV.later b1
  have hrd : Reads (W.alloc (.cells #[.int .i64 3, .int .i64 2, .int .i64 3, .int .i64 1, .int .i64 4, .int .i64 3] 3)) (some ⟨w.heap.size + 1, 0, none⟩) [3, 2, 3, 1, 4, 3] := by rw [← HSZ.out]; exact reads_lit W [3, 2, 3, 1, 4, 3] _
  go_enter Try.func126, Try.ntmps126
  go_wp2_with fail
  rw [← HW.out]
  refine (num_any R P _ _ [3, 2, 3, 1, 4, 3] 6 rfl _ (hRW.later b1) (by omega) hrd (by intro a ha; cases ha; simp; omega) (by simp) (by simp)).mono ?_
  rintro e w2 ⟨y, hy, rfl, hR2, hD2⟩
  have hyb : 1 ≤ y ∧ y ≤ 4 := by simp at hy; omega
  have hV2 := hV1.dr (B := 0) hD2 (by omega)
  have hDw : Dr w.heap.size R w w2 := (Dr.ofBelow (hbW.thenB b1)).then (by simp; have := HSZ.out; omega) hD2
  have hs2 := hD2.size
  have hs2' : w.heap.size + 1 ≤ w2.heap.size := by simp at hs2; have := HSZ.out; omega
  clear hV1 hD2 b1 hrd hV hRW hbW hy hs2
  go_wp2_with fail
  refine (l3Draw_any R (P + 1) y w2 hR2 (by omega) hyb.1 hyb.2).mono ?_
  rintro e w3 ⟨v, xs, rfl, hmb, hO, hR3, hD3⟩
  have hV3 := hV2.dr (B := 0) hD3 (by omega)
  have hDw3 := hDw.then (by omega) hD3
  have hs3 := hD3.size
  obtain ⟨p, c, rfl, hr⟩ := hO.shape
  have s0 := hV3.c0
  have s1 := hV3.c1
  have s2 := hV3.f0
  have s3 := hV3.f1
  have HMB := Lib.hid hmb
  clear hV3 hV2 hD3 hr hmb
  go_wp2
  refine bodyPost_ret (v := .agg #[.int .i64 y, .slice p xs.length c]) (by simp [results, Try.results126, go_sem, s0, s1, s2, s3]) rfl ⟨y, _, xs, rfl, HMB.out, ?_, ?_, ?_⟩
  · exact ((hO.setBelow (by show w.heap.size < _; omega) _).setBelow (by show w.heap.size < _; omega) _).mono (by omega)
  · exact ((hR3.setCell _ hRlt _).setCell _ hRlt _).more (by omega)
  · exact (hDw3.setCell _ (.inl (Nat.le_refl _)) _).setCell _ (.inl (Nat.le_refl _)) _


set_option maxHeartbeats 4000000 in
theorem l3Bad_any (B R P : Nat) (s : Int) (g n c : Nat) (xs : List Int) (w : World) (h : Rdr R P w) (hP : P ≤ 90000) (hm : massB s xs = true) (hn : xs.length = n) (ho : Own B w (.slice (some ⟨g, 0, none⟩) n c) xs) (hRB : R < B) (hB : B ≤ w.heap.size) :
    Calls Try.prog 107 #[.pointer (some ⟨R, 0, none⟩), .agg #[.int .i64 s, .slice (some ⟨g, 0, none⟩) n c]] w (MsAny B R (P + 2) w) := by
  have hk := massB_ok hm
  have hRlt := h.lt
  have hs1 := hk.s1
  have hs4 := hk.s4
  have hn16 : n ≤ 16 := by have := hk.l16; omega
  have hn1 : 1 ≤ n := by have := hk.len; have := pow2_bd s hk.s1 hk.s4; omega
  have hgl := (ho.blockLt g rfl)
  obtain ⟨W, hW, bW, hsz, hBX, hVR⟩ := boxR w s (some ⟨g, 0, none⟩) n c
  have hoW := ho.later bW
  have hRW := h.later bW
  have HK := Lib.hid hk
  have HW := Lib.hid hW
  have HSZ := Lib.hid hsz
  have HB := Lib.hid hB
  have HN := Lib.hid hn
  clear hW hsz h ho hk hm hn
  go_enter Try.func107, Try.ntmps107
  go_wp2_with fail
  rw [← HW.out]
  refine (pick_any R P 40 W hRW (by omega) (by omega) (by omega)).mono ?_
  rintro e w1 ⟨x, rfl, hx, hR1, hD1⟩
  have jB := hBX.dr (B := 0) hD1 (by omega)
  have jV := hVR.dr (B := 0) hD1 (by omega)
  have o1 := hoW.dr hD1 hRB
  have d1 : Dr B R w w1 := (Dr.ofBelow (bW.mono hB)).trans (hD1.mono (by have := HSZ.out; omega))
  have z1 : w.heap.size + 2 ≤ w1.heap.size := by have := hD1.size; have := HSZ.out; omega
  clear hBX hVR hoW hRW hD1 bW
  rcases (show x = 0 ∨ x = 1 ∨ x = 2 ∨ x = 3 ∨ x = 4 ∨ 4 < x by omega) with rfl | rfl | rfl | rfl | rfl | hx5
  · have bl := belowAlloc w1 (.cells #[.int .i64 0, .int .i64 5, .int .i64 (-1), .int .i64 (s + 1), .int .i64 9223372036854775807] 3)
    have hrd : Reads (w1.alloc (.cells #[.int .i64 0, .int .i64 5, .int .i64 (-1), .int .i64 (s + 1), .int .i64 9223372036854775807] 3)) (some ⟨w1.heap.size, 0, none⟩) [0, 5, -1, s + 1, 9223372036854775807] := reads_lit w1 _ _
    have b0 := jB.c0
    have jB1 := jB.later bl
    have jV1 := jV.later bl
    have o2 := o1.later bl
    have d2 := d1.trans (Dr.ofBelow (bl.mono (by omega)))
    go_wp2_with fail
    refine (num_any R (P + 1) _ _ [0, 5, -1, s + 1, 9223372036854775807] 5 rfl _ (hR1.later bl) (by omega) hrd (by intro a ha; cases ha; simp; omega) (by simp) (by simp)).mono ?_
    rintro e w2 ⟨y, _hy, rfl, hR2, hD2⟩
    have jB2 := jB1.dr (B := 0) hD2 (by omega)
    have tv := jV1.dr (B := 0) hD2 (by omega)
    have to0 := o2.dr hD2 hRB
    have td0 := d2.then (by simp; omega) hD2
    have z2 := hD2.size
    simp at z2
    clear jB jV jB1 jV1 o1 o2 d1 d2 hR1 hD2 hrd bl b0
    have b0 := jB2.c0
    have b1 := jB2.c1
    have q0 := jB2.f0
    have to_ := to0.otherD (p := ⟨w.heap.size, 0, none⟩) (by show w.heap.size ≠ g; omega) (.int .i64 y)
    have td := td0.setCell ⟨w.heap.size, 0, none⟩ (.inl (by show B ≤ w.heap.size; omega)) (.int .i64 y)
    have tr := hR2.setCell ⟨w.heap.size, 0, none⟩ (by show R < w.heap.size; omega) (.int .i64 y)
    have tn := HN.out
    have tl : xs.length ≤ 17 := by omega
    have tg : g ≠ w.heap.size + 1 := by omega
    clear jB2 hR2 to0 td0
    have s0 := tv.c0
    have s1 := tv.c1
    have s2 := tv.f0
    have s3 := tv.f1
    have TL := Lib.hid tl
    have TN := Lib.hid tn
    clear tv tl tn
    go_wp2
    refine bodyPost_ret (v := .agg #[.int .i64 y, .slice (some ⟨g, 0, none⟩) n c]) (by simp [results, Try.results107, go_sem, s0, s1, s2, s3]) rfl ⟨y, _, xs, rfl, TL.out, ?_, ?_, ?_⟩
    · exact (to_.otherD (p := ⟨w.heap.size + 1, 0, none⟩) (fun e => tg e.symm) _).otherD (p := ⟨w.heap.size + 1, 1, none⟩) (fun e => tg e.symm) _
    · exact ((tr.setCell _ (by show R < w.heap.size + 1; omega) _).setCell _ (by show R < w.heap.size + 1; omega) _).more (by omega)
    · exact (td.setCell _ (.inl (by show B ≤ w.heap.size + 1; omega)) _).setCell _ (.inl (by show B ≤ w.heap.size + 1; omega)) _
  · have bl := belowAlloc w1 (.cells #[] 3)
    have b1 := (jB.later bl).c1
    have oE := Own.made w1 w1.heap.size (Nat.le_refl _)
    have hrd : Reads (w1.alloc (.cells #[] 3)) (some ⟨g, 0, none⟩) xs := (o1.later bl).reads
    have hx1 : 1 ≤ xs.length := by have := HN.out; omega
    have hx2 : xs.length ≤ 16 := by have := HN.out; omega
    go_wp2_with (first
      | (at_builtin; refine wpList_appendAll _ rfl _ _ rfl w1.heap.size _ [] xs (by rfl) oE g 0 c (by rw [HN.out]; rfl) hrd (by simp; omega) hx1 (by simp) ?_; intro v2 w2 o2 bb2; (rw [List.nil_append] at o2); (have e2 : Below w1.heap.size w1 w2 := bl.trans bb2); (have bl3 := belowAlloc w2 (.cells #[.int .i64 0] 3)); (have z2 := e2.size); (have hx3 : xs.length ≤ 1048576 := by omega); clear oE hrd b1 bb2 bl)
      | (at_builtin; refine wpList_append1 _ rfl _ _ rfl w1.heap.size _ _ (by rfl) (o2.later bl3) ⟨w2.heap.size, 0, none⟩ 1 0 (by rfl) (newCell _ _ _) hx3 (by simp; omega) ?_; intro v3 w3 o3 bb3; (have e3 : Below w1.heap.size w1 w3 := (e2.trans (bl3.mono z2)).trans bb3); obtain ⟨g3, c3, rfl, hg3, hgl3⟩ := o3.form (by simp); (have hn3 : (xs ++ [0]).length = xs.length + 1 := by simp); rw [hn3] at o3 ⊢; (have hn3 := Lib.hid hn3); (have b0 := (jB.later e3).c0); (have b1 := (jB.later e3).c1); (have q1 := (jB.later e3).f1); (have s0 := (jV.later e3).c0); (have s1 := (jV.later e3).c1); (have s2 := (jV.later e3).f0); (have s3 := (jV.later e3).f1)))
    have z3 := e3.size
    have jB2 := jB.later e3
    have tv := jV.later e3
    have td0 := d1.trans (Dr.ofBelow (e3.mono (by omega)))
    have tr0 := hR1.later e3
    have b0 := jB2.c0
    have b1 := jB2.c1
    have q1 := jB2.f1
    have to_ := (o3.mono (show B ≤ w1.heap.size by omega)).otherD (p := ⟨w.heap.size, 1, none⟩) (by show w.heap.size ≠ g3; omega) (.slice (some ⟨g3, 0, none⟩) (xs.length + 1) c3)
    have td := td0.setCell ⟨w.heap.size, 1, none⟩ (.inl (by show B ≤ w.heap.size; omega)) (.slice (some ⟨g3, 0, none⟩) (xs.length + 1) c3)
    have tr := tr0.setCell ⟨w.heap.size, 1, none⟩ (by show R < w.heap.size; omega) (.slice (some ⟨g3, 0, none⟩) (xs.length + 1) c3)
    have tn := hn3.out
    have tl : (xs ++ [0]).length ≤ 17 := by simp; omega
    have tg : g3 ≠ w.heap.size + 1 := by omega
    clear jB jV jB2 tr0 td0 o3 o2 o1 d1 hR1 e2 e3 bl3 bb3 hn3
    have s0 := tv.c0
    have s1 := tv.c1
    have s2 := tv.f0
    have s3 := tv.f1
    have TL := Lib.hid tl
    have TN := Lib.hid tn
    clear tv tl tn
    go_wp2
    refine bodyPost_ret (v := .agg #[.int .i64 s, .slice (some ⟨g3, 0, none⟩) (xs.length + 1) c3]) (by simp [results, Try.results107, go_sem, s0, s1, s2, s3]) rfl ⟨s, _, (xs ++ [0]), rfl, TL.out, ?_, ?_, ?_⟩
    · exact (to_.otherD (p := ⟨w.heap.size + 1, 0, none⟩) (fun e => tg e.symm) _).otherD (p := ⟨w.heap.size + 1, 1, none⟩) (fun e => tg e.symm) _
    · exact ((tr.setCell _ (by show R < w.heap.size + 1; omega) _).setCell _ (by show R < w.heap.size + 1; omega) _).more (by omega)
    · exact (td.setCell _ (.inl (by show B ≤ w.heap.size + 1; omega)) _).setCell _ (.inl (by show B ≤ w.heap.size + 1; omega)) _
  · have bl := (belowAlloc w1 (.cells #[.int .i64 (-1), .int .i64 1000001, .int .i64 9223372036854775807] 3))
    have b1 : w1.drew.cell? ⟨w.heap.size, 1, none⟩ = some (.slice (some ⟨g, 0, none⟩) n c) := jB.c1
    have hn0 : (0 : Int) < (n : Int) := by omega
    have hn00 : 0 < n := by omega
    have b1a : (w1.alloc (.cells #[.int .i64 (-1), .int .i64 1000001, .int .i64 9223372036854775807] 3)).drew.cell? ⟨w.heap.size, 1, none⟩ = some (.slice (some ⟨g, 0, none⟩) n c) := cellDrew (cellKeep (belowAlloc w1 _) jB.c1)
    have hrd : Reads (w1.alloc (.cells #[.int .i64 (-1), .int .i64 1000001, .int .i64 9223372036854775807] 3)).drew (some ⟨w1.heap.size, 0, none⟩) [-1, 1000001, 9223372036854775807] := ReadsK.drew (reads_lit w1 _ _)
    have o2 := (o1.later (belowAlloc w1 (.cells #[.int .i64 (-1), .int .i64 1000001, .int .i64 9223372036854775807] 3))).drew
    have jB2 := (jB.later (belowAlloc w1 (.cells #[.int .i64 (-1), .int .i64 1000001, .int .i64 9223372036854775807] 3))).drew
    have jV2 := (jV.later (belowAlloc w1 (.cells #[.int .i64 (-1), .int .i64 1000001, .int .i64 9223372036854775807] 3))).drew
    have d2 := (d1.trans (Dr.ofBelow ((belowAlloc w1 (.cells #[.int .i64 (-1), .int .i64 1000001, .int .i64 9223372036854775807] 3)).mono (show B ≤ w1.heap.size by omega)))).drew
    have hR1a := (hR1.later (belowAlloc w1 (.cells #[.int .i64 (-1), .int .i64 1000001, .int .i64 9223372036854775807] 3))).drew
    have hap : Apart R (some ⟨w1.heap.size, 0, none⟩) := by intro a ha; cases ha; simp; omega
    clear o1 jB jV d1 hR1 bl
    go_wp2_with fail
    go_region_held3 (fun w' => w'.cell? ⟨w.heap.size, 1, none⟩ = some (.slice (some ⟨g, 0, none⟩) n c))
      (first | exact b1 | exact b1a | exact b1b | exact b1c)
      ((go_at_call 92; (with_reducible refine (num_any R (P + 1) _ _ [-1, 1000001, 9223372036854775807] 3 rfl _ hR1a (by omega) hrd hap (by simp) (by simp)).mono ?_); rintro e w2 ⟨y, _hy, rfl, hR2, hD2⟩; (have jB3 := jB2.dr (B := 0) hD2 (by omega)); (have tv := jV2.dr (B := 0) hD2 (by omega)); (have o3 := o2.dr hD2 hRB); (have td0 := d2.then (by show B ≤ _; simp; omega) hD2); (have z2 := hD2.size); (have b1b := jB3.c1); (have b0 := jB3.c0); (have q1 := (o3.cellAt HN.out 0 hn00).1); (have q2 := (o3.cellAt HN.out 0 hn00).2); (have b1c : (w2.setCell ⟨g, 0, none⟩ (.int .i64 y)).cell? ⟨w.heap.size, 1, none⟩ = some (.slice (some ⟨g, 0, none⟩) n c) := cellStoreL b1b (by omega))))
    have to_ := o3.storedAt HN.out 0 y
    have td := td0.setCell ⟨g, 0, none⟩ (.inl (by show B ≤ g; omega)) (.int .i64 y)
    have tr := hR2.setCell ⟨g, 0, none⟩ (by show R < g; omega) (.int .i64 y)
    have tn : (xs.set 0 y).length = n := by rw [List.length_set]; exact HN.out
    have tl : (xs.set 0 y).length ≤ 17 := by omega
    have tg : g ≠ w.heap.size + 1 := by omega
    simp at z2
    clear o3 td0 hR2 jB3 jB2 jV2 d2 o2 hR1a hrd hap b1a hD2
    have s0 := tv.c0
    have s1 := tv.c1
    have s2 := tv.f0
    have s3 := tv.f1
    have TL := Lib.hid tl
    have TN := Lib.hid tn
    clear tv tl tn
    go_wp2
    refine bodyPost_ret (v := .agg #[.int .i64 s, .slice (some ⟨g, 0, none⟩) n c]) (by simp [results, Try.results107, go_sem, s0, s1, s2, s3]) rfl ⟨s, _, (xs.set 0 y), rfl, TL.out, ?_, ?_, ?_⟩
    · exact (to_.otherD (p := ⟨w.heap.size + 1, 0, none⟩) (fun e => tg e.symm) _).otherD (p := ⟨w.heap.size + 1, 1, none⟩) (fun e => tg e.symm) _
    · exact ((tr.setCell _ (by show R < w.heap.size + 1; omega) _).setCell _ (by show R < w.heap.size + 1; omega) _).more (by omega)
    · exact (td.setCell _ (.inl (by show B ≤ w.heap.size + 1; omega)) _).setCell _ (.inl (by show B ≤ w.heap.size + 1; omega)) _
  · have b1 := jB.c1
    have hl0 := HK.out.all
    obtain ⟨N, hN⟩ : ∃ N : Nat, N = n := ⟨_, rfl⟩
    go_wp2
    go_loopw [5] (fun i wr => ∃ (k : Nat) (ys : List Int), k ≤ n ∧ i = .int .i64 k ∧ ys.length = n ∧ (∀ j, k ≤ j → j < n → 0 ≤ nth ys j ∧ nth ys j ≤ 1000000) ∧ Own B wr (.slice (some ⟨g, 0, none⟩) n c) ys ∧ VarInv wr w.heap.size s (.slice (some ⟨g, 0, none⟩) n c) ∧ VarInv wr (w.heap.size + 1) 0 (.slice none 0 0) ∧ Rdr R (P + 1) wr ∧ Dr B R w wr) (fun i _ => n - (intOf i).toNat)
    case atStart => exact ⟨0, xs, Nat.zero_le _, rfl, HN.out, fun j _ hj => allB_nth hl0 j (by have := HN.out; omega), o1, jB, jV, hR1, d1⟩
    case round =>
      clear o1 jB jV hR1 d1 b1 hl0
      obtain ⟨k, ys, hk, rfl, hyl, hyb, ho, jB, jV, hR1, d1⟩ := hrel
      have b0 := jB.c0
      have b1 := jB.c1
      by_cases hlt : k < n
      · obtain ⟨q1, q2⟩ := ho.cellAt hyl k hlt
        obtain ⟨y0, y1⟩ := hyb k (Nat.le_refl _) hlt
        have hk0 : (0 : Int) ≤ (k : Int) := by omega
        have hk1 : (k : Int) < (n : Int) := by omega
        have hsum : IntKind.i64.wrap (2 * nth ys k) = 2 * nth ys k := IntWalk.i64_in _ (by omega)
        have HY := Lib.hid hyb
        clear hyb
        go_wp2_with fail
        go_region
        all_goals go_wp2
        all_goals
          refine ⟨⟨k + 1, ys.set k (2 * nth ys k), by omega, by go_num, by rw [List.length_set]; exact hyl, ?_, (ho.storedAt hyl k _).drew, (jB.other ⟨g, k, none⟩ (by show g ≠ _; omega) _).drew, (jV.other ⟨g, k, none⟩ (by show g ≠ _; omega) _).drew, (hR1.setCell ⟨g, k, none⟩ (by show R < g; omega) _).drew, (d1.setCell ⟨g, k, none⟩ (.inl (by show B ≤ g; omega)) _).drew⟩, by simp [intOf]; omega⟩
          intro j hj hjn
          rw [nth_set_ne ys k j _ (by omega)]
          exact HY.out j (by omega) hjn
      · have tv := jV
        have tl : ys.length ≤ 17 := by omega
        have tn := hyl
        have to_ := ho
        have tr := hR1
        have td := d1
        have tg : g ≠ w.heap.size + 1 := by omega
        clear jV jB ho hR1 d1 hyb hyl
        have s0 := tv.c0
        have s1 := tv.c1
        have s2 := tv.f0
        have s3 := tv.f1
        have TL := Lib.hid tl
        have TN := Lib.hid tn
        clear tv tl tn
        go_wp2
        refine bodyPost_ret (v := .agg #[.int .i64 s, .slice (some ⟨g, 0, none⟩) n c]) (by simp [results, Try.results107, go_sem, s0, s1, s2, s3]) rfl ⟨s, _, ys, rfl, TL.out, ?_, ?_, ?_⟩
        · exact (to_.otherD (p := ⟨w.heap.size + 1, 0, none⟩) (fun e => tg e.symm) _).otherD (p := ⟨w.heap.size + 1, 1, none⟩) (fun e => tg e.symm) _
        · exact ((tr.setCell _ (by show R < w.heap.size + 1; omega) _).setCell _ (by show R < w.heap.size + 1; omega) _).more (by omega)
        · exact (td.setCell _ (.inl (by show B ≤ w.heap.size + 1; omega)) _).setCell _ (.inl (by show B ≤ w.heap.size + 1; omega)) _
  · have b1 := jB.c1
    go_wp2_with (at_make; refine wpList_makeInts _ rfl _ _ rfl w1.heap.size _ _ _ _ n rfl rfl rfl rfl (by omega) (Nat.le_refl _) ?_)
    intro w2 ho2 hb2 hlt2
    have jB2 := jB.later hb2
    have tv := jV.later hb2
    have td0 := d1.trans (Dr.ofBelow (hb2.mono (by omega)))
    have tr0 := hR1.later hb2
    clear jB jV hb2 d1 hR1 b1
    have b0 := jB2.c0
    have b1 := jB2.c1
    have q1 := jB2.f1
    have to_ := (ho2.mono (show B ≤ w1.heap.size by omega)).otherD (p := ⟨w.heap.size, 1, none⟩) (by show w.heap.size ≠ w1.heap.size; omega) (.slice (some ⟨w1.heap.size, 0, none⟩) n n)
    have td := td0.setCell ⟨w.heap.size, 1, none⟩ (.inl (by show B ≤ w.heap.size; omega)) (.slice (some ⟨w1.heap.size, 0, none⟩) n n)
    have tr := tr0.setCell ⟨w.heap.size, 1, none⟩ (by show R < w.heap.size; omega) (.slice (some ⟨w1.heap.size, 0, none⟩) n n)
    have tn := zeros_len n
    have tl : (zeros n).length ≤ 17 := by omega
    have tg : w1.heap.size ≠ w.heap.size + 1 := by omega
    clear jB2 tr0 td0 ho2 o1
    have s0 := tv.c0
    have s1 := tv.c1
    have s2 := tv.f0
    have s3 := tv.f1
    have TL := Lib.hid tl
    have TN := Lib.hid tn
    clear tv tl tn
    go_wp2
    refine bodyPost_ret (v := .agg #[.int .i64 s, .slice (some ⟨w1.heap.size, 0, none⟩) n n]) (by simp [results, Try.results107, go_sem, s0, s1, s2, s3]) rfl ⟨s, _, zeros n, rfl, TL.out, ?_, ?_, ?_⟩
    · exact (to_.otherD (p := ⟨w.heap.size + 1, 0, none⟩) (fun e => tg e.symm) _).otherD (p := ⟨w.heap.size + 1, 1, none⟩) (fun e => tg e.symm) _
    · exact ((tr.setCell _ (by show R < w.heap.size + 1; omega) _).setCell _ (by show R < w.heap.size + 1; omega) _).more (by omega)
    · exact (td.setCell _ (.inl (by show B ≤ w.heap.size + 1; omega)) _).setCell _ (.inl (by show B ≤ w.heap.size + 1; omega)) _
  · have t0 : ((x : Int) == 0) = false := by simp; omega
    have t1 : ((x : Int) == 1) = false := by simp; omega
    have t2 : ((x : Int) == 2) = false := by simp; omega
    have t3 : ((x : Int) == 3) = false := by simp; omega
    have t4 : ((x : Int) == 4) = false := by simp; omega
    have tv := jV
    have b0 := jB.c0
    have b1 := jB.c1
    have tn := HN.out
    have tl : xs.length ≤ 17 := by omega
    have to_ := o1
    have tr := hR1
    have td := d1
    have tg : g ≠ w.heap.size + 1 := by omega
    clear jV jB o1 hR1 d1
    have s0 := tv.c0
    have s1 := tv.c1
    have s2 := tv.f0
    have s3 := tv.f1
    have TL := Lib.hid tl
    have TN := Lib.hid tn
    clear tv tl tn
    go_wp2
    refine bodyPost_ret (v := .agg #[.int .i64 s, .slice (some ⟨g, 0, none⟩) n c]) (by simp [results, Try.results107, go_sem, s0, s1, s2, s3]) rfl ⟨s, _, xs, rfl, TL.out, ?_, ?_, ?_⟩
    · exact (to_.otherD (p := ⟨w.heap.size + 1, 0, none⟩) (fun e => tg e.symm) _).otherD (p := ⟨w.heap.size + 1, 1, none⟩) (fun e => tg e.symm) _
    · exact ((tr.setCell _ (by show R < w.heap.size + 1; omega) _).setCell _ (by show R < w.heap.size + 1; omega) _).more (by omega)
    · exact (td.setCell _ (.inl (by show B ≤ w.heap.size + 1; omega)) _).setCell _ (.inl (by show B ≤ w.heap.size + 1; omega)) _

end Go.Proofs.Ytjmfjgoehicgcaa

/- Masses that are drawn, with sets of their answers. -/
set_option linter.unusedVariables false
set_option linter.unusedSimpArgs false
namespace Go.Proofs.Ytjmfjgoehicgcaa
open Go.RowKit

theorem VarInv.drB {B R : Nat} {w w' : World} {m : Nat} {s : Int} {v : Value} (h : VarInv w m s v) (hD : Dr B R w w') (hB : m < B) (hm : m ≠ R) : VarInv w' m s v :=
  ⟨(hD.cell hB hm).trans h.c0, (hD.cell hB hm).trans h.c1, (hD.frozen hB hm).trans h.f0, (hD.frozen hB hm).trans h.f1⟩

set_option maxHeartbeats 1000000 in
theorem l3Open_any (R P : Nat) (w : World) (h : Rdr R P w) (hP : P ≤ 60000) :
    Calls Try.prog 97 #[.pointer (some ⟨R, 0, none⟩)] w (MsAny w.heap.size R (P + 23) w) := by
  have hRlt := h.lt
  obtain ⟨W, hW⟩ : ∃ W : World, W = w.alloc (.cells #[.int .i64 0, .slice none 0 0] 27) := ⟨_, rfl⟩
  have hsz : W.heap.size = w.heap.size + 1 := by subst hW; simp
  have hbW : Below w.heap.size w W := by subst hW; exact belowAlloc _ _
  have hV : VarInv W w.heap.size 0 (.slice none 0 0) := by subst hW; exact VarInv.made _ _ _ _
  have hRW : Rdr R P W := h.later hbW
  have HSZ := Lib.hid hsz
  have HW := Lib.hid hW
  clear hW hsz h
  go_enter Try.func97, Try.ntmps97
  go_wp2_with fail
  rw [← HW.out]
  refine (l3Some_any R P W hRW (by omega)).mono ?_
  rintro e w1 ⟨s, v, xs, rfl, hmb, hO, hR1, hD1⟩
  have hk := massB_ok hmb
  have hl1 : 1 ≤ xs.length := by have := hk.len; have := pow2_bd s hk.s1 hk.s4; omega
  obtain ⟨g, c, rfl, hg, hg2⟩ := hO.form (by omega)
  have hV1 := hV.dr (B := 0) hD1 (by omega)
  have hDw : Dr w.heap.size R w w1 := (Dr.ofBelow hbW).then (by have := HSZ.out; omega) hD1
  have z1 := hD1.size
  have HMB := Lib.hid hmb
  clear hV hD1 hRW hbW hk hmb
  go_wp2_with fail
  refine (l3Bad_any W.heap.size R (P + 21) s g xs.length c xs w1 hR1 (by omega) HMB.out rfl hO (by have := HSZ.out; omega) z1).mono ?_
  rintro e w2 ⟨y, v2, ys, rfl, hyl, hO2, hR2, hD2⟩
  have hV2 := hV1.drB hD2 (by have := HSZ.out; omega) (by omega)
  have hDw2 := hDw.trans (hD2.mono (by have := HSZ.out; omega))
  obtain ⟨p, k, rfl, hr⟩ := hO2.shape
  have s0 := hV2.c0
  have s1 := hV2.c1
  have s2 := hV2.f0
  have s3 := hV2.f1
  clear hV2 hV1 hD2 hr hO hDw HMB
  go_wp2
  refine bodyPost_ret (v := .agg #[.int .i64 y, .slice p ys.length k]) (by simp [results, Try.results97, go_sem, s0, s1, s2, s3]) rfl ⟨y, _, ys, rfl, hyl, ?_, ?_, ?_⟩
  · exact ((hO2.setBelow (by show w.heap.size < _; have := HSZ.out; omega) _).setBelow (by show w.heap.size < _; have := HSZ.out; omega) _).mono (by have := HSZ.out; omega)
  · exact ((hR2.setCell _ hRlt _).setCell _ hRlt _).more (by omega)
  · exact (hDw2.setCell _ (.inl (Nat.le_refl _)) _).setCell _ (.inl (Nat.le_refl _)) _

/-- A number that is drawn. -/
def NumDrawn (R P : Nat) (w : World) (e : Ending) (w' : World) : Prop := ∃ y : Int, e = .returned (.int .i64 y) ∧ Rdr R P w' ∧ Dr w.heap.size R w w'

/-- A mass and a number that are drawn. -/
def MsNum (B R P : Nat) (w : World) (e : Ending) (w' : World) : Prop := ∃ (s : Int) (v : Value) (xs : List Int) (a : Int), e = .returned (.tuple #[.agg #[.int .i64 s, v], .int .i64 a]) ∧ xs.length ≤ 17 ∧ Own B w' v xs ∧ Rdr R P w' ∧ Dr B R w w'


/-- A mass and two numbers that are drawn. -/
def MsNums (B R P : Nat) (w : World) (e : Ending) (w' : World) : Prop := ∃ (s : Int) (v : Value) (xs : List Int) (b a : Int), e = .returned (.tuple #[.agg #[.int .i64 s, v], .int .i64 b, .int .i64 a]) ∧ xs.length ≤ 17 ∧ Own B w' v xs ∧ Rdr R P w' ∧ Dr B R w w'


/-- A mass and a number that are drawn, with nothing changed that was there. -/
def OutNum (w : World) (e : Ending) (w' : World) : Prop := ∃ (s : Int) (p : Option Addr) (c : Nat) (xs : List Int) (a : Int), e = .returned (.tuple #[.agg #[.int .i64 s, .slice p xs.length c], .int .i64 a]) ∧ xs.length ≤ 17 ∧ Reads w' p xs ∧ Below w.heap.size w w'
def OutNums (w : World) (e : Ending) (w' : World) : Prop := ∃ (s : Int) (p : Option Addr) (c : Nat) (xs : List Int) (b a : Int), e = .returned (.tuple #[.agg #[.int .i64 s, .slice p xs.length c], .int .i64 b, .int .i64 a]) ∧ xs.length ≤ 17 ∧ Reads w' p xs ∧ Below w.heap.size w w'
def OutMs (w : World) (e : Ending) (w' : World) : Prop := ∃ (s : Int) (p : Option Addr) (c : Nat) (xs : List Int), e = .returned (.agg #[.int .i64 s, .slice p xs.length c]) ∧ xs.length ≤ 17 ∧ Reads w' p xs ∧ Below w.heap.size w w'

end Go.Proofs.Ytjmfjgoehicgcaa
