/- Levels that are drawn. -/
import Derived.Test.YtlkeakfopbdncaaD1
import Derived.Test.YtlkeakfopbdncaaL6
set_option linter.unusedVariables false
set_option linter.unusedSimpArgs false
namespace Go.Proofs.Ytlkeakfopbdncaa
open Go.RowKit

/-- A list that is drawn: memory of its own, at most n numbers. -/
def LvDrawn (R P n : Nat) (w : World) (e : Ending) (w' : World) : Prop := ∃ (v : Value) (xs : List Int), e = .returned v ∧ xs.length ≤ n ∧ Own w.heap.size w' v xs ∧ Rdr R P w' ∧ Dr w.heap.size R w w'

def l9Rel (R P s : Nat) (w : World) (v i : Value) (wr : World) : Prop := ∃ (k : Nat) (xs : List Int), k ≤ s ∧ i = .int .i64 (k : Int) ∧ Own w.heap.size wr v xs ∧ xs.length = k ∧ Rdr R (P + 3 * k) wr ∧ Dr w.heap.size R w wr

set_option maxHeartbeats 2000000 in
theorem l9List_any (R P s : Nat) (w : World) (h : Rdr R P w) (hP : P ≤ 100000) (h1 : 1 ≤ s) (h4 : s ≤ 4) :
    Calls Try.prog 50 #[.pointer (some ⟨R, 0, none⟩), .int .i64 (s : Int)] w (LvDrawn R (P + 20) 8 w) := by
  have hRlt := h.lt
  go_enter Try.func50, Try.ntmps50
  go_wp2
  go_loopw [5, 6] (fun v i wr => l9Rel R P s w v i wr) (fun _ i _ => s - (intOf i).toNat)
  case atStart => exact ⟨0, [], Nat.zero_le _, rfl, Own.made w _ (Nat.le_refl _), rfl, h.later (belowAlloc _ _), Dr.ofBelow (belowAlloc _ _)⟩
  case round =>
    obtain ⟨k, xs, hk, rfl, ho, hl, hR, hD⟩ := hrel
    have hsz := hD.size
    by_cases hlt : k < s
    · go_wp2_with fail
      refine (pick_any R (P + 3 * k) 5 wr hR (by omega) (by omega) (by omega)).mono ?_
      rintro e w1 ⟨x, rfl, hx, hR1, hD1⟩
      have ho1 := ho.dr hD1 hRlt
      have hs1 := hD1.size
      go_wp2_with fail
      refine (pick_any R (P + 3 * k + 1) 4 w1 hR1 (by omega) (by omega) (by omega)).mono ?_
      rintro e w2 ⟨y, rfl, hy, hR2, hD2⟩
      have ho2 := ho1.dr hD2 hRlt
      have hs2 := hD2.size
      go_wp2_with fail
      refine (num_any R (P + 3 * k + 2) _ _ [(x : Int), (y : Int), 4] 3 rfl _ (hR2.later (belowAlloc _ _)) (by omega) (reads_lit w2 [(x : Int), (y : Int), 4] _) (by intro a ha; cases ha; simp; omega) (by simp) (by simp)).mono ?_
      rintro e w3 ⟨z, hz, rfl, hR3, hD3⟩
      have ho3 := (ho2.later (belowAlloc w2 (.cells #[.int .i64 (x : Int), .int .i64 (y : Int), .int .i64 4] 3))).dr hD3 hRlt
      have hs3 := hD3.size
      simp at hs3
      have hD' : Dr w.heap.size R w w3 := (((hD.then hsz hD1).then (by omega) hD2).thenB (by omega) (belowAlloc _ _)).then (by simp; omega) hD3
      clear hz hR hR1 hR2 hD1 hD2 hD3 ho ho1 ho2 hD h hx hy
      go_wp2_with (at_builtin; refine wpList_append1 _ rfl _ _ rfl w.heap.size _ _ (by rfl) (ho3.later (belowAlloc _ _)) ⟨w3.heap.size, 0, none⟩ 1 z (by rfl) (newCell _ _ _) (by omega) (by simp; omega) ?_; intro v1 w4 ho4 hb4)
      have hs4 := hb4.size
      exact ⟨⟨k + 1, _, by omega, by go_num, ho4, by simp [hl], ((hR3.later (belowAlloc _ _)).kept hb4 hRlt).more (by omega), (hD'.thenB (by omega) (belowAlloc _ _)).trans (Dr.ofBelow hb4)⟩, by simp [intOf]; omega⟩
    · have hks : k = s := by omega
      subst hks
      go_wp2_with fail
      refine (pick_any R (P + 3 * k) 24 wr hR (by omega) (by omega) (by omega)).mono ?_
      rintro e w1 ⟨x, rfl, hx, hR1, hD1⟩
      have ho1 := ho.dr hD1 hRlt
      have hs1 := hD1.size
      have hD' : Dr w.heap.size R w w1 := hD.then hsz hD1
      have hR' : Rdr R (P + 19) w1 := hR1.more (by omega)
      clear hR hR1 hD1 ho hD h hx
      rcases (show x = 0 ∨ x = 1 ∨ x = 2 ∨ x = 3 ∨ 3 < x by omega) with rfl | rfl | rfl | rfl | hx
      · go_wp2
        go_ret
        exact ⟨_, [], rfl, by simp, Own.made w1 _ (by omega), (hR'.later (belowAlloc _ _)).more (by omega), hD'.thenB (by omega) (belowAlloc _ _)⟩
      · go_wp2_with (at_builtin; refine wpList_appendAll _ rfl _ _ rfl w.heap.size _ _ [1, 1, 1, 1] (by rfl) (ho1.later (belowAlloc _ _)) w1.heap.size 0 4 (by rfl) (reads_lit _ [1, 1, 1, 1] _) (by simp; omega) (by simp) (by simp; omega) ?_; intro v1 w4 ho4 hb4)
        go_ret
        exact ⟨_, _, rfl, by simp; omega, ho4, ((hR'.later (belowAlloc _ _)).kept hb4 hRlt).more (by omega), (hD'.thenB (by omega) (belowAlloc _ _)).trans (Dr.ofBelow hb4)⟩
      · obtain ⟨g, c, rfl, hg, hg2⟩ := ho1.form (by omega)
        go_wp2_with fail
        refine (num_any R (P + 19) _ _ [-1, 1000001, 1000000] 3 rfl _ (hR'.later (belowAlloc _ _)) (by omega) (reads_lit w1 [-1, 1000001, 1000000] _) (by intro a ha; cases ha; simp; omega) (by simp) (by simp)).mono ?_
        rintro e w3 ⟨z, hz, rfl, hR3, hD3⟩
        have ho3 := (ho1.later (belowAlloc w1 (.cells #[.int .i64 (-1), .int .i64 1000001, .int .i64 1000000] 3))).dr hD3 hRlt
        have hs3 := hD3.size
        simp at hs3
        have hD2 := (hD'.thenB (by omega) (belowAlloc w1 (.cells #[.int .i64 (-1), .int .i64 1000001, .int .i64 1000000] 3))).then (by simp; omega) hD3
        obtain ⟨hc, hf⟩ := ho3.cellAt rfl 0 (by omega)
        have hl0 : 0 < xs.length := by omega
        clear hz hD3 hD' ho1 hR'
        go_wp2
        go_ret
        have ho4 := ho3.storedAt rfl 0 z
        rw [hl] at ho4
        exact ⟨_, xs.set 0 z, rfl, by simp; omega, ho4, hR3.setCell _ (by simp; omega) _, hD2.setCell _ (by simp; omega) _⟩
      · go_wp2_with (at_make; refine wpList_makeInts _ rfl _ _ rfl w1.heap.size _ _ _ _ k rfl rfl rfl rfl (by omega) (Nat.le_refl _) ?_)
        intro w2 ho2 hb2 hlt2
        go_wp2
        go_ret
        exact ⟨_, zeros k, rfl, by rw [zeros_len]; omega, ho2.mono (by omega), (hR'.later hb2).more (by omega), hD'.thenB (by omega) hb2⟩
      · have t0 : ((x : Int) == 0) = false := by simp; omega
        have t1 : ((x : Int) == 1) = false := by simp; omega
        have t2 : ((x : Int) == 2) = false := by simp; omega
        have t3 : ((x : Int) == 3) = false := by simp; omega
        go_wp2
        go_ret
        exact ⟨_, xs, rfl, by omega, ho1, hR'.more (by omega), hD'⟩

theorem l9List_v (R P : Nat) (n : Int) (w : World) (h : Rdr R P w) (hP : P ≤ 100000) (h1 : 1 ≤ n) (h4 : n ≤ 4) :
    Calls Try.prog 50 #[.pointer (some ⟨R, 0, none⟩), .int .i64 n] w (LvDrawn R (P + 20) 8 w) := by
  obtain ⟨s, rfl⟩ := Int.eq_ofNat_of_zero_le (show 0 ≤ n by omega)
  exact l9List_any R P s w h hP (by omega) (by omega)

/-- Two lists that are drawn. -/
def Two (n : Nat) (w : World) (e : Ending) (w' : World) : Prop := ∃ (a b : Option Addr) (c d : Nat) (xs ys : List Int), e = .returned (.tuple #[.slice a xs.length c, .slice b ys.length d]) ∧ xs.length ≤ n ∧ ys.length ≤ n ∧ Reads w' a xs ∧ Reads w' b ys ∧ Below w.heap.size w w'

theorem Own.other {B g n c : Nat} {w : World} {zs : List Int} {p : Addr} (h : Own B w (.slice (some ⟨g, 0, none⟩) n c) zs) (hp : p.block ≠ g) (u : Value) : Own B (w.setCell p u) (.slice (some ⟨g, 0, none⟩) n c) zs := by
  refine ⟨h.1, ?_⟩
  rcases h.2 with ⟨h, _⟩ | ⟨g', cap, cur, a, b, hg, r⟩
  · cases h
  · cases a
    exact .inr ⟨g, _, cur, rfl, b, by rw [Below.heap_setCell _ _ _ _ (fun e => hp e.symm)]; exact hg, r⟩

set_option maxHeartbeats 2000000 in
theorem DrawMeetLevels_any (a : Option Addr) (c : Nat) (bs : List Int) (w : World) (hx : ReadsK .u8 w a bs) (hwf : ∀ n ∈ bs, (Lit.int .u8 n).wf = true) (hl : bs.length ≤ maxLen) (hc : bs.length ≤ c) :
    Calls Try.prog 9 #[.slice a bs.length c] w (Two 8 w) := by
  go_enter Try.func9, Try.ntmps9
  go_wp2_with fail
  refine (l14Open_any a c bs w hx hwf hl hc).mono ?_
  rintro e w1 ⟨rfl, hR1, hb1⟩
  clear hx hwf hl hc
  obtain ⟨R, hRe⟩ : ∃ R, R = w.heap.size := ⟨_, rfl⟩
  rw [← hRe] at hR1 ⊢
  have HR := Lib.hid hRe
  clear hRe
  have hRlt := hR1.lt
  go_wp2_with fail
  refine (pick_any R 0 4 w1 hR1 (by omega) (by omega) (by omega)).mono ?_
  rintro e w2 ⟨s, rfl, hs, hR2, hD2⟩
  have hs2 := hD2.size
  go_wp2_with fail
  refine (l9List_v R 1 _ w2 hR2 (by omega) (by omega) (by omega)).mono ?_
  rintro e w3 ⟨f, xs, rfl, hxl, hO3, hR3, hD3⟩
  have hs3 := hD3.size
  go_wp2_with fail
  refine (l9List_v R _ _ w3 hR3 (by omega) (by omega) (by omega)).mono ?_
  rintro e w4 ⟨g, ys, rfl, hyl, hO4, hR4, hD4⟩
  have hs4 := hD4.size
  have hO3' := hO3.dr hD4 (by omega)
  have hD : Dr w1.heap.size R w1 w4 := (hD2.then (by omega) hD3).then (by omega) hD4
  have hB : Below w.heap.size w w4 := hb1.trans ((hD.mono hb1.size).below (by have := HR.out; omega))
  by_cases hf0 : xs.length = 0
  · obtain ⟨p, k, rfl, hr⟩ := hO3'.shape
    obtain ⟨q, j, rfl, hr2⟩ := hO4.shape
    rw [hf0]
    have HH := Lib.hid hf0
    have HB := Lib.hid hB
    clear hf0 hB hD hD2 hD3 hD4
    go_wp2
    go_ret2
    exact ⟨p, q, k, j, xs, ys, by rw [HH.out]; rfl, hxl, hyl, hr, hr2, HB.out⟩
  by_cases hg0 : ys.length = 0
  · obtain ⟨p, k, rfl, hr⟩ := hO3'.shape
    obtain ⟨q, j, rfl, hr2⟩ := hO4.shape
    rw [hg0]
    have HH := Lib.hid hg0
    have HB := Lib.hid hB
    clear hg0 hB hD hD2 hD3 hD4
    go_wp2
    go_ret2
    exact ⟨p, q, k, j, xs, ys, by rw [HH.out]; rfl, hxl, hyl, hr, hr2, HB.out⟩
  obtain ⟨p, k, rfl, hp, hp2⟩ := hO3.form (by omega)
  obtain ⟨q, j, rfl, hq, hq2⟩ := hO4.form (by omega)
  have HB := Lib.hid hB
  have hw1 := hb1.size
  clear hB hD hD2 hD3 hO3 hD4
  go_wp2_with fail
  refine (pick_any R _ 3 w4 hR4 (by omega) (by omega) (by omega)).mono ?_
  rintro e w5 ⟨x, rfl, hx, hR5, hD5⟩
  have hs5 := hD5.size
  have hO3a := hO3'.dr hD5 (by omega)
  have hO4a := hO4.dr hD5 (by omega)
  have HB5 := Lib.hid (HB.out.trans ((hD5.mono (show w.heap.size ≤ _ by omega)).below (by have := HR.out; omega)))
  clear HB hD5 hO3' hO4 hR4
  by_cases hx0 : x = 0
  · subst hx0
    go_wp2
    go_ret2
    exact ⟨_, _, _, _, xs, ys, rfl, hxl, hyl, hO3a.reads, hO4a.reads, HB5.out⟩
  · have hx1 : (0 : Int) < x := by omega
    go_wp2_with fail
    refine (pick_any R _ (xs.length : Int) w5 hR5 (by omega) (by omega) (by omega)).mono ?_
    rintro e w6 ⟨y, rfl, hy, hR6, hD6⟩
    have hs6 := hD6.size
    have hO3b := hO3a.dr hD6 (by omega)
    have hO4b := hO4a.dr hD6 (by omega)
    have HB6 := Lib.hid (HB5.out.trans ((hD6.mono (show w.heap.size ≤ _ by omega)).below (by have := HR.out; omega)))
    clear HB5 hD6 hO3a hO4a hR5
    obtain ⟨hc, hf⟩ := hO3b.cellAt rfl y (by omega)
    have hO3c := hO3b.storedAt rfl y 6
    have hO4c := hO4b.other (p := ⟨p, y, none⟩) (by simp; omega) (.int .i64 6)
    have hR7 := hR6.setCell ⟨p, y, none⟩ (by simp; omega) (.int .i64 6)
    have HB7 := Lib.hid (HB6.out.setCell (p := ⟨p, y, none⟩) (by simp; have := HR.out; omega) (.int .i64 6))
    have hsw : w6.heap.size = (w6.setCell ⟨p, y, none⟩ (.int .i64 6)).heap.size := by simp
    clear HB6 hR6 hO3b hO4b hx hx1 hx0
    go_wp2_with fail
    clear hc hf
    obtain ⟨w7, hw7⟩ : ∃ w7, w7 = w6.setCell ⟨p, y, none⟩ (.int .i64 6) := ⟨_, rfl⟩
    rw [← hw7] at hsw HB7 hR7 hO3c hO4c ⊢
    clear hw7
    refine (pick_any R _ (ys.length : Int) w7 hR7 (by omega) (by omega) (by omega)).mono ?_
    rintro e w8 ⟨z, rfl, hz, hR8, hD8⟩
    have hs8 := hD8.size
    have hO3d := hO3c.dr hD8 (by omega)
    have hO4d := hO4c.dr hD8 (by omega)
    have HB8 := Lib.hid (HB7.out.trans ((hD8.mono (show w.heap.size ≤ _ by omega)).below (by have := HR.out; omega)))
    clear HB7 hD8 hO3c hO4c hR7 hR8
    obtain ⟨hc, hf⟩ := hO4d.cellAt rfl z (by omega)
    have hO4e := hO4d.storedAt rfl z 6
    have hO3e := hO3d.other (p := ⟨q, z, none⟩) (by simp; omega) (.int .i64 6)
    have HB9 := Lib.hid (HB8.out.setCell (p := ⟨q, z, none⟩) (by simp; have := HR.out; omega) (.int .i64 6))
    clear HB8 hO3d hO4d hs8 hsw
    go_wp2
    go_ret2
    exact ⟨some ⟨p, 0, none⟩, some ⟨q, 0, none⟩, k, j, xs.set y 6, ys.set z 6, by simp, by simpa using hxl, by simpa using hyl, by have := hO3e.reads; exact this, by have := hO4e.reads; exact this, HB9.out⟩

end Go.Proofs.Ytlkeakfopbdncaa
