/- The laws' own helpers on masses. -/
import Derived.Test.YtjmfjgoehicgcaaT3
import Derived.Test.YtjmfjgoehicgcaaM3
set_option linter.unusedVariables false
set_option linter.unusedSimpArgs false
namespace Go.Proofs.Ytjmfjgoehicgcaa
open Go.RowKit

theorem szIntS_any (a : Option Addr) (c : Nat) (xs : List Int) (left : Int) (w : World) (hxm : xs.length ≤ maxLen) (h1 : 0 ≤ left) (h2 : left ≤ 1048576) :
    Calls Try.prog 53 #[.slice a xs.length c, .int .i64 left] w fun e w' => e = .returned (.int .i64 (if left < xs.length then -1 else left - xs.length)) ∧ w = w' := by
  unfold maxLen at hxm
  by_cases hl : left < xs.length
  · have hl2 : left - (xs.length : Int) < 0 := by omega
    go_enter Try.func53, Try.ntmps53
    go_wp2
    go_ret
    exact ⟨by simp [hl], rfl⟩
  · have hl2 : ¬ left - (xs.length : Int) < 0 := by omega
    go_enter Try.func53, Try.ntmps53
    go_wp2
    go_ret
    exact ⟨by simp [hl], rfl⟩

theorem szMass_any (s : Int) (a : Option Addr) (c : Nat) (xs : List Int) (left : Int) (w : World) (hxm : xs.length ≤ maxLen) (h1 : 0 ≤ left) (h2 : left ≤ 1048576) :
    Calls Try.prog 11 #[.agg #[.int .i64 s, .slice a xs.length c], .int .i64 left] w fun e w' => e = .returned (.int .i64 (if left < xs.length then -1 else left - xs.length)) ∧ Below w.heap.size w w' := by
  have hb0 : Below w.heap.size w (w.alloc (.cells #[.int .i64 s, .slice a xs.length c] 24)) := (Below.refl _ _).alloc (Nat.le_refl _) _
  by_cases hl : left < xs.length
  · go_enter Try.func11, Try.ntmps11
    go_wp2_with fail
    refine (szIntS_any _ _ _ _ _ hxm h1 h2).mono ?_
    rintro e w' ⟨rfl, rfl⟩
    go_wp2
    go_ret
    exact ⟨by simp [hl], hb0⟩
  · have hl2 : ¬ left - (xs.length : Int) < 0 := by omega
    go_enter Try.func11, Try.ntmps11
    go_wp2_with fail
    refine (szIntS_any _ _ _ _ _ hxm h1 h2).mono ?_
    rintro e w' ⟨rfl, rfl⟩
    go_wp2
    go_ret
    exact ⟨by simp [hl], hb0⟩

theorem eqMass_any (s t : Int) (p q : Option Addr) (c d : Nat) (xs ys : List Int) (w : World) (hx : Reads w p xs) (hy : Reads w q ys) (hxm : xs.length ≤ 1048576) (hym : ys.length ≤ 1048576) :
    Calls Try.prog 15 #[.agg #[.int .i64 s, .slice p xs.length c], .agg #[.int .i64 t, .slice q ys.length d]] w fun e w' => e = .returned (.bool (decide (s = t ∧ xs = ys))) ∧ Below w.heap.size w w' := by
  obtain ⟨W, hW, hbW, hsz, c0, c1, c2, c3⟩ := box2 w s t p q xs.length ys.length c d
  have hxW := hx.below hbW
  have hyW := hy.below hbW
  have HW := Lib.hid hW
  clear hW hx hy hsz
  by_cases hst : s = t
  · have hne : (s != t) = false := by simp [hst]
    have HST := Lib.hid hst
    clear hst
    by_cases he : xs = ys
    · have hd : decide (xs = ys) = true := by simpa using he
      have HE := Lib.hid he
      clear he
      go_enter Try.func15, Try.ntmps15
      go_wp2_with fail
      rw [← HW.out]
      refine (eqIntS_any _ _ _ _ _ _ _ hxW hyW (by unfold maxLen; omega) (by unfold maxLen; omega)).mono ?_
      rintro e w1 ⟨rfl, hb1⟩
      go_wp2
      go_ret
      exact ⟨ret_bool (by simp [HST.out, HE.out]), hbW.trans (hb1.mono hbW.size)⟩
    · have hd : decide (xs = ys) = false := by simpa using he
      have HE := Lib.hid he
      clear he
      go_enter Try.func15, Try.ntmps15
      go_wp2_with fail
      rw [← HW.out]
      refine (eqIntS_any _ _ _ _ _ _ _ hxW hyW (by unfold maxLen; omega) (by unfold maxLen; omega)).mono ?_
      rintro e w1 ⟨rfl, hb1⟩
      go_wp2
      go_ret
      exact ⟨ret_bool (by simp [HE.out]), hbW.trans (hb1.mono hbW.size)⟩
  · have hne : (s != t) = true := bne_iff_ne.2 hst
    have HST := Lib.hid hst
    clear hst
    go_enter Try.func15, Try.ntmps15
    go_wp2
    go_ret
    exact ⟨ret_bool (by simp [HST.out]), (((Below.refl _ _).alloc (Nat.le_refl _) _).alloc (by simp) _)⟩

theorem toMass_any (s : Int) (a : Option Addr) (c : Nat) (xs : List Int) (w : World) (hx : Reads w a xs) (hxm : xs.length ≤ 1048576) :
    Calls Try.prog 13 #[.agg #[.int .i64 s, .slice a xs.length c]] w fun e w' => ∃ v, e = .returned (.agg #[.int .i64 s, v]) ∧ Own w.heap.size w' v xs ∧ Below w.heap.size w w' := by
  obtain ⟨W, hW⟩ : ∃ W, W = ((w.alloc (.cells #[.int .i64 s, .slice a xs.length c] 24)).alloc (.cells #[.int .i64 0, .slice none 0 0] 27)).alloc (.cells #[.int .i64 s, .slice none 0 0] 27) := ⟨_, rfl⟩
  have hbW : Below w.heap.size w W := by subst hW; exact (((Below.refl _ _).alloc (Nat.le_refl _) _).alloc (by simp) _).alloc (by simp; omega) _
  have hxW := hx.below hbW
  have hsz : W.heap.size = w.heap.size + 3 := by subst hW; simp
  have c0 : W.cell? ⟨w.heap.size + 1, 0, none⟩ = some (.int .i64 0) := by subst hW; rw [World.cell?_alloc_past _ _ _ (by simp), World.cell?_alloc_at _ _ _ _ (by simp)]; rfl
  have c1 : W.cell? ⟨w.heap.size + 1, 1, none⟩ = some (.slice none 0 0) := by subst hW; rw [World.cell?_alloc_past _ _ _ (by simp), World.cell?_alloc_at _ _ _ _ (by simp)]; rfl
  have c2 : W.cell? ⟨w.heap.size + 1 + 1, 0, none⟩ = some (.int .i64 s) := by subst hW; rw [World.cell?_alloc_at _ _ _ _ (by simp)]; rfl
  have c3 : W.cell? ⟨w.heap.size + 1 + 1, 1, none⟩ = some (.slice none 0 0) := by subst hW; rw [World.cell?_alloc_at _ _ _ _ (by simp)]; rfl
  have g0 : W.frozen? ⟨w.heap.size + 1, 0, none⟩ = false := by subst hW; rw [World.frozen?_alloc_past _ _ _ (by simp), World.frozen?_alloc_at _ _ _ _ (by simp)]
  have g1 : W.frozen? ⟨w.heap.size + 1, 1, none⟩ = false := by subst hW; rw [World.frozen?_alloc_past _ _ _ (by simp), World.frozen?_alloc_at _ _ _ _ (by simp)]
  have g2 : W.frozen? ⟨w.heap.size + 1 + 1, 0, none⟩ = false := by subst hW; rw [World.frozen?_alloc_at _ _ _ _ (by simp)]
  have g3 : W.frozen? ⟨w.heap.size + 1 + 1, 1, none⟩ = false := by subst hW; rw [World.frozen?_alloc_at _ _ _ _ (by simp)]
  have HW := Lib.hid hW
  clear hW hx
  go_enter Try.func13, Try.ntmps13
  go_wp2_with fail
  rw [← HW.out]
  refine (toIntS_any _ _ _ _ hxW hxm).mono ?_
  rintro e w1 ⟨v, rfl, ho, hb1⟩
  obtain ⟨a1, k1, rfl, hr1⟩ := ho.shape
  clear hr1
  have hc1 := bcell hb1
  have l1 : w.heap.size + 1 < W.heap.size := by omega
  have l2 : w.heap.size + 1 + 1 < W.heap.size := by omega
  go_wp2
  refine bodyPost_ret (v := .agg #[.int .i64 s, .slice a1 xs.length k1]) (by simp [results, Try.results13, go_sem, hc1.1, hc1.2, l1, l2, c0, c1, c2, c3, g0, g1, g2, g3]) rfl ⟨_, rfl, ?_, ?_⟩
  · exact (((ho.setBelow (by show w.heap.size + 1 + 1 < _; omega) _).setBelow (by show w.heap.size + 1 < _; omega) _).setBelow (by show w.heap.size + 1 < _; omega) _).mono hbW.size
  · exact (((hbW.trans (hb1.mono hbW.size)).setCell (by show _ ≤ w.heap.size + 1 + 1; omega) _).setCell (by show _ ≤ w.heap.size + 1; omega) _).setCell (by show _ ≤ w.heap.size + 1; omega) _


/-- Masses of the laws, boxed at a law's entry. -/
theorem box2L (w : World) (s t : Int) (p q : Option Addr) (m n c d : Nat) : ∃ W : World, W = (w.alloc (.cells #[.int .i64 s, .slice p m c] 24)).alloc (.cells #[.int .i64 t, .slice q n d] 24) ∧
    Below w.heap.size w W ∧ W.heap.size = w.heap.size + 2 ∧ W.cell? ⟨w.heap.size, 0, none⟩ = some (.int .i64 s) ∧ W.cell? ⟨w.heap.size, 1, none⟩ = some (.slice p m c) ∧
    W.cell? ⟨w.heap.size + 1, 0, none⟩ = some (.int .i64 t) ∧ W.cell? ⟨w.heap.size + 1, 1, none⟩ = some (.slice q n d) := by
  refine ⟨_, rfl, (belowAlloc _ _).thenB (belowAlloc _ _), by simp, cellKeep (belowAlloc _ _) (newCell0 _ _ _ _), cellKeep (belowAlloc _ _) (newCell1 _ _ _ _), ?_, ?_⟩
  · rw [World.cell?_alloc_at _ _ _ _ (by simp)]; rfl
  · rw [World.cell?_alloc_at _ _ _ _ (by simp)]; rfl

theorem box1L (w : World) (s : Int) (p : Option Addr) (m c : Nat) : ∃ W : World, W = w.alloc (.cells #[.int .i64 s, .slice p m c] 24) ∧
    Below w.heap.size w W ∧ W.heap.size = w.heap.size + 1 ∧ W.cell? ⟨w.heap.size, 0, none⟩ = some (.int .i64 s) ∧ W.cell? ⟨w.heap.size, 1, none⟩ = some (.slice p m c) :=
  ⟨_, rfl, belowAlloc _ _, by simp, newCell0 _ _ _ _, newCell1 _ _ _ _⟩

theorem szMass_yes (s : Int) (a : Option Addr) (c : Nat) (xs : List Int) (left : Int) (w : World) (hxm : xs.length ≤ maxLen) (h1 : 0 ≤ left) (h2 : left ≤ 1048576) (hl : ¬ left < xs.length) :
    Calls Try.prog 11 #[.agg #[.int .i64 s, .slice a xs.length c], .int .i64 left] w fun e w' => e = .returned (.int .i64 (left - xs.length)) ∧ Below w.heap.size w w' :=
  (szMass_any s a c xs left w hxm h1 h2).mono fun _ _ h => ⟨by rw [h.1, if_neg hl], h.2⟩
theorem szMass_no (s : Int) (a : Option Addr) (c : Nat) (xs : List Int) (left : Int) (w : World) (hxm : xs.length ≤ maxLen) (h1 : 0 ≤ left) (h2 : left ≤ 1048576) (hl : left < xs.length) :
    Calls Try.prog 11 #[.agg #[.int .i64 s, .slice a xs.length c], .int .i64 left] w fun e w' => e = .returned (.int .i64 (-1)) ∧ Below w.heap.size w w' :=
  (szMass_any s a c xs left w hxm h1 h2).mono fun _ _ h => ⟨by rw [h.1, if_pos hl], h.2⟩

theorem eqMass_same (s : Int) (p q : Option Addr) (c d : Nat) (xs : List Int) (w : World) (hx : Reads w p xs) (hy : Reads w q xs) (hxm : xs.length ≤ 1048576) :
    Calls Try.prog 15 #[.agg #[.int .i64 s, .slice p xs.length c], .agg #[.int .i64 s, .slice q xs.length d]] w fun e w' => e = .returned (.bool true) ∧ Below w.heap.size w w' :=
  (eqMass_any s s p q c d xs xs w hx hy hxm hxm).mono fun _ _ h => ⟨by rw [h.1]; simp, h.2⟩

theorem eqIntS_same (p q : Option Addr) (c d : Nat) (xs : List Int) (w : World) (hx : Reads w p xs) (hy : Reads w q xs) (hxm : xs.length ≤ 1048576) :
    Calls Try.prog 36 #[.slice p xs.length c, .slice q xs.length d] w fun e w' => e = .returned (.bool true) ∧ Below w.heap.size w w' :=
  (eqIntS_any p q c d xs xs w hx hy (by unfold maxLen; omega) (by unfold maxLen; omega)).mono fun _ _ h => ⟨by rw [h.1]; simp, h.2⟩


/-- A cell outside the row that was written. -/
theorem cellGrown {w w' : World} {u : Value} {b o : Nat} {v : Value} (hg : w.grownBy w' u.ownBlock) (h : w.cell? ⟨b, o, none⟩ = some v) (hne : ∀ k, u.ownBlock = some k → k ≠ b) : w'.cell? ⟨b, o, none⟩ = some v :=
  hg.cell h (fun e => hne b e.symm rfl)

theorem belowGrown {B : Nat} {w w' : World} {u : Value} (hg : w.grownBy w' u.ownBlock) (hB : B ≤ w.heap.size) (hne : ∀ k, u.ownBlock = some k → B ≤ k) : Below B w w' :=
  (Below.refl _ _).grown hg hB hne

theorem markMass_any (B : Nat) (s : Int) (v : Value) (xs : List Int) (m : Int) (w : World) (ho : Own B w v xs) (hxm : xs.length ≤ 1048576) (hm : 0 ≤ m) (hm2 : m ≤ 8388608) (hB : B ≤ w.heap.size) :
    Calls Try.prog 37 #[.agg #[.int .i64 s, v], .int .i64 m] w fun e w' => e = .returned (.int .i64 (m + xs.length)) ∧ Own B w' v (marks m xs.length) ∧ w.grownBy w' v.ownBlock := by
  obtain ⟨p, k, rfl, hr⟩ := ho.shape
  clear hr
  have ho1 := ho.later (belowAlloc w (.cells #[.int .i64 s, .slice p xs.length k] 27))
  have hg1 := World.grownBy_alloc w (.cells #[.int .i64 s, .slice p xs.length k] 27) (Value.ownBlock (.slice p xs.length k))
  go_enter Try.func37, Try.ntmps37
  go_wp2_with fail
  refine (markIntS_any _ _ _ _ _ ho1 hxm hm hm2).mono ?_
  rintro e w1 ⟨rfl, ho2, hg2⟩
  go_wp2
  go_ret
  exact ⟨rfl, ho2, hg1.trans2 hg2⟩

end Go.Proofs.Ytjmfjgoehicgcaa
