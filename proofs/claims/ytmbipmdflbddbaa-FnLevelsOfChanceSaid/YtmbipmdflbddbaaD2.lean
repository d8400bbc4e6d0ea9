/- Levels that are drawn. -/
import Derived.Test.YtmbipmdflbddbaaD1
import Derived.Test.YtmbipmdflbddbaaL6
set_option linter.unusedVariables false
set_option linter.unusedSimpArgs false
namespace Go.Proofs.Ytmbipmdflbddbaa
open Go.RowKit

/-- A list that is drawn: memory of its own, at most n numbers. -/
def LvDrawn (R P n : Nat) (w : World) (e : Ending) (w' : World) : Prop := ∃ (v : Value) (xs : List Int), e = .returned v ∧ xs.length ≤ n ∧ Own w.heap.size w' v xs ∧ Rdr R P w' ∧ Dr w.heap.size R w w'

def l9Rel (R P s : Nat) (w : World) (v i : Value) (wr : World) : Prop := ∃ (k : Nat) (xs : List Int), k ≤ s ∧ i = .int .i64 (k : Int) ∧ Own w.heap.size wr v xs ∧ xs.length = k ∧ Rdr R (P + 3 * k) wr ∧ Dr w.heap.size R w wr

set_option maxHeartbeats 2000000 in
theorem l9List_any (R P s : Nat) (w : World) (h : Rdr R P w) (hP : P ≤ 100000) (h1 : 1 ≤ s) (h4 : s ≤ 4) :
    Calls Try.prog 106 #[.pointer (some ⟨R, 0, none⟩), .int .i64 (s : Int)] w (LvDrawn R (P + 20) 8 w) := by
  have hRlt := h.lt
  go_enter Try.func106, Try.ntmps106
  go_wp2
  go_loopw [5, 6] (fun v i wr => l9Rel R P s w v i wr) (fun _ i _ => s - (intOf i).toNat)
  case atStart => exact ⟨0, [], Nat.zero_le _, rfl, Own.made w _ (Nat.le_refl _), rfl, h.later (belowAlloc _ _), Dr.ofBelow (belowAlloc _ _)⟩
  case round =>
    obtain ⟨k, xs, hk, rfl, ho, hl, hR, hD⟩ := hrel
    have hsz := hD.size
    by_cases hlt : k < s
    · go_wp2_with fail
      refine (pick_any R (P + 3 * k) 5 wr hR (by omega) (by omega) (by omega)).mono ?_
      rintro e w1 ⟨x, rfl, hx, hR1, hD1⟩
      have ho1 := ho.dr hD1 hRlt
      have hs1 := hD1.size
      go_wp2_with fail
      refine (pick_any R (P + 3 * k + 1) 4 w1 hR1 (by omega) (by omega) (by omega)).mono ?_
      rintro e w2 ⟨y, rfl, hy, hR2, hD2⟩
      have ho2 := ho1.dr hD2 hRlt
      have hs2 := hD2.size
      go_wp2_with fail
      refine (num_any R (P + 3 * k + 2) _ _ [(x : Int), (y : Int), 4] 3 rfl _ (hR2.later (belowAlloc _ _)) (by omega) (reads_lit w2 [(x : Int), (y : Int), 4] _) (by intro a ha; cases ha; simp; omega) (by simp) (by simp)).mono ?_
      rintro e w3 ⟨z, hz, rfl, hR3, hD3⟩
      have ho3 := (ho2.later (belowAlloc w2 (.cells #[.int .i64 (x : Int), .int .i64 (y : Int), .int .i64 4] 3))).dr hD3 hRlt
      have hs3 := hD3.size
      simp at hs3
      have hD' : Dr w.heap.size R w w3 := (((hD.then hsz hD1).then (by omega) hD2).thenB (by omega) (belowAlloc _ _)).then (by simp; omega) hD3
      clear hz hR hR1 hR2 hD1 hD2 hD3 ho ho1 ho2 hD h hx hy
      go_wp2_with (at_builtin; refine wpList_append1 _ rfl _ _ rfl w.heap.size _ _ (by rfl) (ho3.later (belowAlloc _ _)) ⟨w3.heap.size, 0, none⟩ 1 z (by rfl) (newCell _ _ _) (by omega) (by simp; omega) ?_; intro v1 w4 ho4 hb4)
      have hs4 := hb4.size
      exact ⟨⟨k + 1, _, by omega, by go_num, ho4, by simp [hl], ((hR3.later (belowAlloc _ _)).kept hb4 hRlt).more (by omega), (hD'.thenB (by omega) (belowAlloc _ _)).trans (Dr.ofBelow hb4)⟩, by simp [intOf]; omega⟩
    · have hks : k = s := by omega
      subst hks
      go_wp2_with fail
      refine (pick_any R (P + 3 * k) 24 wr hR (by omega) (by omega) (by omega)).mono ?_
      rintro e w1 ⟨x, rfl, hx, hR1, hD1⟩
      have ho1 := ho.dr hD1 hRlt
      have hs1 := hD1.size
      have hD' : Dr w.heap.size R w w1 := hD.then hsz hD1
      have hR' : Rdr R (P + 19) w1 := hR1.more (by omega)
      clear hR hR1 hD1 ho hD h hx
      rcases (show x = 0 ∨ x = 1 ∨ x = 2 ∨ x = 3 ∨ 3 < x by omega) with rfl | rfl | rfl | rfl | hx
      · go_wp2
        go_ret
        exact ⟨_, [], rfl, by simp, Own.made w1 _ (by omega), (hR'.later (belowAlloc _ _)).more (by omega), hD'.thenB (by omega) (belowAlloc _ _)⟩
      · go_wp2_with (at_builtin; refine wpList_appendAll _ rfl _ _ rfl w.heap.size _ _ [1, 1, 1, 1] (by rfl) (ho1.later (belowAlloc _ _)) w1.heap.size 0 4 (by rfl) (reads_lit _ [1, 1, 1, 1] _) (by simp; omega) (by simp) (by simp; omega) ?_; intro v1 w4 ho4 hb4)
        go_ret
        exact ⟨_, _, rfl, by simp; omega, ho4, ((hR'.later (belowAlloc _ _)).kept hb4 hRlt).more (by omega), (hD'.thenB (by omega) (belowAlloc _ _)).trans (Dr.ofBelow hb4)⟩
      · obtain ⟨g, c, rfl, hg, hg2⟩ := ho1.form (by omega)
        go_wp2_with fail
        refine (num_any R (P + 19) _ _ [-1, 1000001, 1000000] 3 rfl _ (hR'.later (belowAlloc _ _)) (by omega) (reads_lit w1 [-1, 1000001, 1000000] _) (by intro a ha; cases ha; simp; omega) (by simp) (by simp)).mono ?_
        rintro e w3 ⟨z, hz, rfl, hR3, hD3⟩
        have ho3 := (ho1.later (belowAlloc w1 (.cells #[.int .i64 (-1), .int .i64 1000001, .int .i64 1000000] 3))).dr hD3 hRlt
        have hs3 := hD3.size
        simp at hs3
        have hD2 := (hD'.thenB (by omega) (belowAlloc w1 (.cells #[.int .i64 (-1), .int .i64 1000001, .int .i64 1000000] 3))).then (by simp; omega) hD3
        obtain ⟨hc, hf⟩ := ho3.cellAt rfl 0 (by omega)
        have hl0 : 0 < xs.length := by omega
        clear hz hD3 hD' ho1 hR'
        go_wp2
        go_ret
        have ho4 := ho3.storedAt rfl 0 z
        rw [hl] at ho4
        exact ⟨_, xs.set 0 z, rfl, by simp; omega, ho4, hR3.setCell _ (by simp; omega) _, hD2.setCell _ (by simp; omega) _⟩
      · go_wp2_with (at_make; refine wpList_makeInts _ rfl _ _ rfl w1.heap.size _ _ _ _ k rfl rfl rfl rfl (by omega) (Nat.le_refl _) ?_)
        intro w2 ho2 hb2 hlt2
        go_wp2
        go_ret
        exact ⟨_, zeros k, rfl, by rw [zeros_len]; omega, ho2.mono (by omega), (hR'.later hb2).more (by omega), hD'.thenB (by omega) hb2⟩
      · have t0 : ((x : Int) == 0) = false := by simp; omega
        have t1 : ((x : Int) == 1) = false := by simp; omega
        have t2 : ((x : Int) == 2) = false := by simp; omega
        have t3 : ((x : Int) == 3) = false := by simp; omega
        go_wp2
        go_ret
        exact ⟨_, xs, rfl, by omega, ho1, hR'.more (by omega), hD'⟩

theorem l9List_v (R P : Nat) (n : Int) (w : World) (h : Rdr R P w) (hP : P ≤ 100000) (h1 : 1 ≤ n) (h4 : n ≤ 4) :
    Calls Try.prog 106 #[.pointer (some ⟨R, 0, none⟩), .int .i64 n] w (LvDrawn R (P + 20) 8 w) := by
  obtain ⟨s, rfl⟩ := Int.eq_ofNat_of_zero_le (show 0 ≤ n by omega)
  exact l9List_any R P s w h hP (by omega) (by omega)

/-- Two lists that are drawn. -/
def Two (n : Nat) (w : World) (e : Ending) (w' : World) : Prop := ∃ (a b : Option Addr) (c d : Nat) (xs ys : List Int), e = .returned (.tuple #[.slice a xs.length c, .slice b ys.length d]) ∧ xs.length ≤ n ∧ ys.length ≤ n ∧ Reads w' a xs ∧ Reads w' b ys ∧ Below w.heap.size w w'

theorem Own.other {B g n c : Nat} {w : World} {zs : List Int} {p : Addr} (h : Own B w (.slice (some ⟨g, 0, none⟩) n c) zs) (hp : p.block ≠ g) (u : Value) : Own B (w.setCell p u) (.slice (some ⟨g, 0, none⟩) n c) zs := by
  refine ⟨h.1, ?_⟩
  rcases h.2 with ⟨h, _⟩ | ⟨g', cap, cur, a, b, hg, r⟩
  · cases h
  · cases a
    exact .inr ⟨g, _, cur, rfl, b, by rw [Below.heap_setCell _ _ _ _ (fun e => hp e.symm)]; exact hg, r⟩

end Go.Proofs.Ytmbipmdflbddbaa
