/- The chance in which each set is shared evenly: both packages. -/
import Derived.Test.YtjmfjgoehicgcaaMgDC
set_option linter.unusedVariables false
set_option linter.unusedSimpArgs false
namespace Go.Proofs.Ytjmfjgoehicgcaa
open Go.RowKit

set_option maxHeartbeats 4000000 in
theorem OnesCount64_any (a : Nat) (w : World) (ha : a < 16) :
    Calls Try.prog 122 #[.int .u64 a] w fun e w' => e = .returned (.int .i64 (pop a : Nat)) ∧ w = w' := by
  have h : a = 0 ∨ a = 1 ∨ a = 2 ∨ a = 3 ∨ a = 4 ∨ a = 5 ∨ a = 6 ∨ a = 7 ∨ a = 8 ∨ a = 9 ∨ a = 10 ∨ a = 11 ∨ a = 12 ∨ a = 13 ∨ a = 14 ∨ a = 15 := by omega
  rcases h with rfl | rfl | rfl | rfl | rfl | rfl | rfl | rfl | rfl | rfl | rfl | rfl | rfl | rfl | rfl | rfl
  all_goals
    clear ha
    go_enter Try.func122, Try.ntmps122
    go_wp2
    go_ret
    exact ⟨ret_int (by decide +kernel), rfl⟩

theorem OnesCount_any (a : Nat) (w : World) (ha : a < 16) :
    Calls Try.prog 89 #[.int .u64 a] w fun e w' => e = .returned (.int .i64 (pop a : Nat)) ∧ w = w' := by
  go_enter Try.func89, Try.ntmps89
  go_wp2_with fail
  refine (OnesCount64_any a _ ha).mono ?_
  rintro e w' ⟨rfl, rfl⟩
  go_wp2
  go_ret
  exact ⟨rfl, rfl⟩

/-- Twelve times what a set gets of the part of another one. -/
def evA (a b : Nat) (x : Int) : Int := 12 * x * (pop (a &&& b) : Nat) / (pop b : Nat)

def evTo (a : Nat) (xs : List Int) (k : Nat) : Int := (List.range k).foldl (fun s b => s + evA a b (nth xs b)) 0

theorem evTo_succ (a : Nat) (xs : List Int) (k : Nat) : evTo a xs (k + 1) = evTo a xs k + evA a k (nth xs k) := by simp [evTo, List.range_succ]

theorem evA_zero (a : Nat) (x : Int) : evA a 0 x = 0 := by simp [evA, pop]

theorem evTo_one (a : Nat) (xs : List Int) : evTo a xs 1 = 0 := by rw [evTo_succ, evA_zero]; rfl

theorem pop_pos (b : Nat) (hb : b < 16) (h0 : b ≠ 0) : 1 ≤ pop b := by
  have h := (count_bits ⟨b, hb⟩).2.2.2
  dsimp only at h
  rcases Nat.eq_zero_or_pos (pop b) with h1 | h1
  · exact absurd (h h1) h0
  · exact h1

/-- What the walks need of one step. -/
theorem ev_step (a b : Nat) (x : Int) (ha : a < 16) (hb : b < 16) (h0 : 0 ≤ x) (h1 : x ≤ 1000000) :
    (0 ≤ x * (pop (a &&& b) : Nat) ∧ x * (pop (a &&& b) : Nat) ≤ 4000000) ∧ (0 ≤ 12 * x * (pop (a &&& b) : Nat) ∧ 12 * x * (pop (a &&& b) : Nat) ≤ 48000000) ∧ x * (pop (a &&& b) : Nat) * 12 = 12 * x * (pop (a &&& b) : Nat) ∧ 0 ≤ evA a b x ∧ evA a b x ≤ 48000000 := by
  have hp := pop_le (a &&& b) (Nat.lt_of_le_of_lt Nat.and_le_left ha)
  obtain ⟨n, hn⟩ : ∃ n : Nat, n = pop (a &&& b) := ⟨_, rfl⟩
  have e1 : 0 ≤ x * (n : Int) := Int.mul_nonneg h0 (by omega)
  have e2 : x * (n : Int) ≤ 1000000 * 4 := Int.mul_le_mul h1 (by omega) (by omega) (by omega)
  have e3 : 12 * x * (n : Int) = 12 * (x * n) := Int.mul_assoc _ _ _
  have e4 : 0 ≤ 12 * x * (n : Int) / (pop b : Nat) := Int.ediv_nonneg (by omega) (by omega)
  have e5 : 12 * x * (n : Int) / (pop b : Nat) ≤ 12 * x * (n : Int) := Int.ediv_le_self _ (by omega)
  unfold evA
  rw [← hn]
  refine ⟨⟨e1, by omega⟩, ⟨by omega, by omega⟩, by omega, e4, by omega⟩

theorem evTo_bd (a : Nat) (xs : List Int) (ha : a < 16) (hl : xs.length ≤ 16) (h : allB 0 1000000 xs = true) (k : Nat) (hk : k ≤ xs.length) : 0 ≤ evTo a xs k ∧ evTo a xs k ≤ 48000000 * k := by
  induction k with
  | zero => simp [evTo]
  | succ k ih =>
    have h1 := ih (by omega)
    obtain ⟨h2, h3⟩ := allB_nth h k (by omega)
    have h4 := ev_step a k (nth xs k) ha (by omega) h2 h3
    rw [evTo_succ]
    omega


theorem cellStoreS {w : World} {m o b k : Nat} {v x : Value} (h : w.cell? ⟨b, o, none⟩ = some v) (hne : m ≠ b) : (w.setCell ⟨m, k, none⟩ x).cell? ⟨b, o, none⟩ = some v := by
  rw [World.cell?_setCell_other _ _ _ _ (fun e => hne (by cases e; rfl))]; exact h

theorem bit_wrapK (k : Nat) (h : k < 4) : IntKind.i64.wrap (2 ^ k) = ((bit k : Nat) : Int) := by
  have h2 : k = 0 ∨ k = 1 ∨ k = 2 ∨ k = 3 := by omega
  rcases h2 with rfl | rfl | rfl | rfl <;> decide

/-- What the single answers get. -/
def shTo (xs zs : List Int) (k : Nat) : List Int := (List.range k).foldl (fun zs x => zs.set (bit x) (evTo (bit x) xs xs.length)) zs

theorem shTo_succ (xs zs : List Int) (k : Nat) : shTo xs zs (k + 1) = (shTo xs zs k).set (bit k) (evTo (bit k) xs xs.length) := by simp [shTo, List.range_succ]

theorem shTo_len (xs zs : List Int) (k : Nat) : (shTo xs zs k).length = zs.length := by
  induction k with
  | zero => rfl
  | succ k ih => rw [shTo_succ, List.length_set, ih]

theorem bit_lt16 (y : Nat) (h : y < 4) : bit y < 16 := by
  have := Nat.pow_le_pow_right (n := 2) (by omega) (show y ≤ 3 by omega)
  unfold bit; omega

theorem shTo_all (xs zs : List Int) (hl : xs.length ≤ 16) (hx : allB 0 1000000 xs = true) (hz : allB 0 0 zs = true) (k : Nat) (hk : k ≤ 4) : allB 0 768000000 (shTo xs zs k) = true := by
  induction k with
  | zero => exact allB_wider hz (by omega) (by omega)
  | succ k ih =>
    rw [shTo_succ]
    have h1 := evTo_bd (bit k) xs (bit_lt16 k (by omega)) hl hx xs.length (Nat.le_refl _)
    have ih := ih (by omega)
    rw [allB_iff] at ih ⊢
    intro j hj
    rw [List.length_set] at hj
    have := ih j hj
    rw [nth_eq _ _ (by simpa using hj), List.getElem_set]
    rw [nth_eq _ _ hj] at this
    split <;> omega

def shP (s : Int) (xs : List Int) : List Int := shTo xs (zeros xs.length) s.toNat

theorem shP_len (s : Int) (xs : List Int) : (shP s xs).length = xs.length := by rw [shP, shTo_len, zeros_len]

theorem shP_wide {s : Int} {xs : List Int} (h : MassOk s xs) : allB 0 4611686018427387904 (shP s xs) = true :=
  allB_wider (shTo_all xs _ h.l16 h.all (zeros_all _) _ (by have := h.s4; omega)) (by omega) (by omega)

theorem shR_len (s : Int) (xs : List Int) (h : xs.length ≤ 1048576) : (gL (massB s xs) s (shP s xs)).length ≤ 1048576 := by
  have := gL_len (massB s xs) s (shP s xs)
  rw [shP_len] at this
  omega

theorem bit_in {s : Int} {xs : List Int} (h : MassOk s xs) (k : Nat) (hk : (k : Int) < s) : bit k < xs.length := by
  have h1 : (xs.length : Int) = 2 ^ s.toNat := h.len
  have h2 : 2 ^ k < 2 ^ s.toNat := Nat.pow_lt_pow_right (by omega) (by omega)
  have h3 : ((2 ^ s.toNat : Nat) : Int) = (2 : Int) ^ s.toNat := by simp
  unfold bit
  omega

end Go.Proofs.Ytjmfjgoehicgcaa

/- Sources that are conjoined or joined, sure masses, counts: the program. -/
set_option linter.unusedVariables false
set_option linter.unusedSimpArgs false
namespace Go.Proofs.Ytjmfjgoehicgcaa
open Go.RowKit

theorem box3R (w : World) (s t : Int) (p q : Option Addr) (m n c d : Nat) : ∃ W : World, W = ((w.alloc (.cells #[.int .i64 s, .slice p m c] 27)).alloc (.cells #[.int .i64 t, .slice q n d] 27)).alloc (.cells #[.int .i64 0, .slice none 0 0] 27) ∧
    Below w.heap.size w W ∧ W.heap.size = w.heap.size + 3 ∧ VarInv W w.heap.size s (.slice p m c) ∧ VarInv W (w.heap.size + 1) t (.slice q n d) ∧ VarInv W (w.heap.size + 2) 0 (.slice none 0 0) := by
  refine ⟨_, rfl, ((belowAlloc _ _).thenB (belowAlloc _ _)).thenB (belowAlloc _ _), by simp, ((VarInv.made w _ _ _).later (belowAlloc _ _)).later (belowAlloc _ _), ?_, ?_⟩
  · have h := VarInv.made (w.alloc (.cells #[.int .i64 s, .slice p m c] 27)) t (.slice q n d) 27
    rw [show (w.alloc (.cells #[.int .i64 s, .slice p m c] 27)).heap.size = w.heap.size + 1 by simp] at h
    exact h.later (belowAlloc _ _)
  · have h := VarInv.made ((w.alloc (.cells #[.int .i64 s, .slice p m c] 27)).alloc (.cells #[.int .i64 t, .slice q n d] 27)) 0 (.slice none 0 0) 27
    rw [show ((w.alloc (.cells #[.int .i64 s, .slice p m c] 27)).alloc (.cells #[.int .i64 t, .slice q n d] 27)).heap.size = w.heap.size + 2 by simp] at h
    exact h

/-- The products of the parts, for the answers in both sets. -/
def cjP (xs ys : List Int) : List Int := togTo (fun b c => b &&& c) xs ys (zeros xs.length) xs.length
theorem cjP_len (xs ys : List Int) : (cjP xs ys).length = xs.length := by rw [cjP, togTo_len, zeros_len]
theorem cjP_wide (xs ys : List Int) (hx : allB 0 1000000 xs = true) (hy : allB 0 1000000 ys = true) (hl : ys.length ≤ 16) (hl2 : xs.length ≤ 16) : allB 0 4611686018427387904 (cjP xs ys) = true :=
  allB_wider (togTo_all _ xs ys _ hx hy (zeros_all _) hl _ (Nat.le_refl _)) (by omega) (by omega)
theorem gL_le (g : Bool) (s : Int) (L : List Int) (n : Nat) (h : L.length = n) : (gL g s L).length ≤ n := by have := gL_len g s L; omega


set_option maxHeartbeats 2000000 in
theorem iConjoin_any (s : Int) (p : Option Addr) (c : Nat) (xs : List Int) (t : Int) (q : Option Addr) (d : Nat) (ys : List Int) (w : World) (hx : Reads w p xs) (hy : Reads w q ys) (hxm : xs.length ≤ 1048576) (hym : ys.length ≤ 1048576) :
    Calls Try.prog 46 #[.agg #[.int .i64 s, .slice p xs.length c], .agg #[.int .i64 t, .slice q ys.length d]] w fun e w' => ∃ v, e = .returned (.tuple #[.agg #[.int .i64 (gS (bothB s xs t ys) s (cjP xs ys)), v], .bool (gOk (bothB s xs t ys) s (cjP xs ys))]) ∧ Own w.heap.size w' v (gL (bothB s xs t ys) s (cjP xs ys)) ∧ Below w.heap.size w w' := by
  obtain ⟨W, hW, hbW, hsz, hM, hN, hR⟩ := box3R w s t p q xs.length ys.length c d
  have hxW := hx.below hbW
  have hyW := hy.below hbW
  have HWW := Lib.hid hW
  have HSZ := Lib.hid hsz
  clear hW hsz hx hy
  have m0 := hM.c0
  have m1 := hM.c1
  have n0 := hN.c0
  have n1 := hN.c1
  by_cases hg : bothB s xs t ys = true
  rotate_left
  · replace hg : bothB s xs t ys = false := by simpa using hg
    obtain ⟨hS, hO, hL⟩ := gNo (s := s) (L := cjP xs ys) hg
    have hS := Lib.hid hS
    have hO := Lib.hid hO
    have hL := Lib.hid hL
    have HG := Lib.hid hg
    clear hg
    go_enter Try.func46, Try.ntmps46
    go_wp2_with fail
    rw [← HWW.out]
    refine (ofOneQuestion_any _ _ _ _ _ _ _ _ _ hxW hyW hxm hym).mono ?_
    rintro e w1 ⟨rfl, hb1⟩
    rw [HG.out]
    have jR := hR.later hb1
    have s0 := jR.c0
    have s1 := jR.c1
    have s2 := jR.f0
    have s3 := jR.f1
    clear m0 m1 n0 n1
    go_wp2
    refine bodyPost_ret (v := .tuple #[.agg #[.int .i64 0, .slice none 0 0], .bool false]) (by simp [results, Try.results46, go_sem, s0, s1, s2, s3]) rfl ⟨_, by rw [hS.out, hO.out], by rw [hL.out]; exact Own.nil _ _, ?_⟩
    exact ((hbW.thenB hb1).setCell (by show _ ≤ w.heap.size + 2; omega) _).setCell (by show _ ≤ w.heap.size + 2; omega) _
  · obtain ⟨hk, hj, hst, hlen⟩ := bothB_ok hg
    obtain ⟨hS, hO, hL⟩ := gYes (s := s) (L := cjP xs ys) hg
    have hS := Lib.hid hS
    have hO := Lib.hid hO
    have hL := Lib.hid hL
    have HG := Lib.hid hg
    have hl16 := hk.l16
    have hly : ys.length ≤ 16 := hj.l16
    have hl1 : 1 ≤ xs.length := by have := hk.len; have := pow2_bd s hk.s1 hk.s4; omega
    have hax := hk.all
    have hay := hj.all
    have HP := Lib.hid (cjP_wide xs ys hax hay hly hl16)
    have HPL := Lib.hid (cjP_len xs ys)
    clear hg hk hj hst hlen
    go_enter Try.func46, Try.ntmps46
    go_wp2_with fail
    rw [← HWW.out]
    refine (ofOneQuestion_any _ _ _ _ _ _ _ _ _ hxW hyW hxm hym).mono ?_
    rintro e w1 ⟨rfl, hb1⟩
    rw [HG.out]
    clear m0 m1 n0 n1
    have hz1 := hb1.size
    have jM := (hM.later hb1).drew
    have jN := (hN.later hb1).drew
    have jR := (hR.later hb1).drew
    have bb := drewAll (hbW.thenB hb1)
    have m0 := jM.c0
    have m1 := jM.c1
    have n0 := jN.c0
    have n1 := jN.c1
    have hx1 := (hxW.below hb1).drew
    have hy1 := (hyW.below hb1).drew
    have s0 := jR.c0
    have s1 := jR.c1
    have s2 := jR.f0
    have s3 := jR.f1
    have hzd : w1.drew.heap.size = w1.heap.size := rfl
    have tkA : True := trivial
    have tkB : True := trivial
    clear hb1 hxW hyW hM hN hR hbW
    go_wp2_with fail
    go_region_held3 (fun w' => w'.cell? ⟨w.heap.size, 0, none⟩ = some (.int .i64 s) ∧ w'.cell? ⟨w.heap.size, 1, none⟩ = some (.slice p xs.length c) ∧ w'.cell? ⟨w.heap.size + 1, 0, none⟩ = some (.int .i64 t) ∧ w'.cell? ⟨w.heap.size + 1, 1, none⟩ = some (.slice q ys.length d))
      (first | exact ⟨m0, m1, n0, n1⟩ | (refine ⟨cellStore2 m0 ?_, cellStore2 m1 ?_, cellStore2 n0 ?_, cellStore2 n1 ?_⟩ <;> omega))
      (first
        | (go_at_call 90; have _t := tkA; (with_reducible refine (conjoined_any _ _ _ _ _ _ xs ys _ hx1 hy1 hl16 hly hax hay).mono ?_); rintro e w2 ⟨v2, rfl, o2, hb⟩; clear m0 m1 n0 n1 s0 s1 s2 s3; (replace jM := jM.later hb); (replace jN := jN.later hb); (replace jR := jR.later hb); (replace bb := bb.thenB hb); (have m0 := jM.c0); (have m1 := jM.c1); (have n0 := jN.c0); (have n1 := jN.c1); (have s0 := jR.c0); (have s1 := jR.c1); (have s2 := jR.f0); (have s3 := jR.f1); (replace o2 : Own _ w2 v2 (cjP xs ys) := o2); (have z2 := hb.size); (have hlc : (cjP xs ys).length = xs.length := HPL.out); obtain ⟨p2, c2, rfl, r2⟩ := o2.shape; clear hb tkA _t)
        | (go_at_call 71; have _t := tkB; (with_reducible refine (makeMass_n _ _ _ xs.length (cjP xs ys) _ HPL.out r2 (by rw [HPL.out]; omega) HP.out).mono ?_); rintro e w3 ⟨v3, rfl, o3, hb⟩; clear m0 m1 n0 n1 s0 s1 s2 s3; (replace jM := jM.later hb); (replace jN := jN.later hb); (replace jR := jR.later hb); (replace bb := bb.thenB hb); (have m0 := jM.c0); (have m1 := jM.c1); (have n0 := jN.c0); (have n1 := jN.c1); (have s0 := jR.c0); (have s1 := jR.c1); (have s2 := jR.f0); (have s3 := jR.f1); (have z3 := hb.size); obtain ⟨p3, c3, rfl, r3⟩ := o3.shape; clear hb tkB _t))
    go_wp2
    refine bodyPost_ret (v := .tuple #[.agg #[.int .i64 (mkS s (cjP xs ys)), .slice p3 (mkL s (cjP xs ys)).length c3], .bool (mkOk s (cjP xs ys))]) (by simp [results, Try.results46, go_sem, s0, s1, s2, s3]) rfl ⟨_, by rw [hS.out, hO.out], ?_, ?_⟩
    · rw [hL.out]; exact ((o3.setBelow (by show w.heap.size + 2 < _; have := HSZ.out; omega) _).setBelow (by show w.heap.size + 2 < _; have := HSZ.out; omega) _).mono (by have := HSZ.out; omega)
    · exact (bb.setCell (by show _ ≤ w.heap.size + 2; omega) _).setCell (by show _ ≤ w.heap.size + 2; omega) _

/-- The sure mass of a set, if it is one. -/
def suG (s a : Int) : Bool := szB s && setB s a
def suS (s a : Int) : Int := if suG s a = true then s else 0
def suL (s a : Int) : List Int := if suG s a = true then sureL (pow2 s).toNat a.toNat else []
theorem su_no {s a : Int} (h : suG s a = false) : suS s a = 0 ∧ suL s a = [] := by simp [suS, suL, h]
theorem su_yes {s a : Int} (h : suG s a = true) : suS s a = s ∧ suL s a = sureL (pow2 s).toNat a.toNat := by simp [suS, suL, h]

set_option maxHeartbeats 1000000 in
theorem iSureMass_any (s a : Int) (w : World) :
    Calls Try.prog 47 #[.int .i64 s, .int .i64 a] w fun e w' => ∃ v, e = .returned (.tuple #[.agg #[.int .i64 (suS s a), v], .bool (suG s a)]) ∧ Own w.heap.size w' v (suL s a) ∧ Below w.heap.size w w' := by
  obtain ⟨W, hW⟩ : ∃ W : World, W = w.alloc (.cells #[.int .i64 0, .slice none 0 0] 27) := ⟨_, rfl⟩
  have hbW : Below w.heap.size w W := by subst hW; exact belowAlloc _ _
  have hsz : W.heap.size = w.heap.size + 1 := by subst hW; simp
  have hR : VarInv W w.heap.size 0 (.slice none 0 0) := by subst hW; exact VarInv.made _ _ _ _
  have HWW := Lib.hid hW
  have HSZ := Lib.hid hsz
  have s0 := hR.c0
  have s1 := hR.c1
  have s2 := hR.f0
  have s3 := hR.f1
  clear hW hsz
  cases h1 : szB s
  · have hG : suG s a = false := by simp [suG, h1]
    have HS := Lib.hid (su_no hG)
    have HG := Lib.hid hG
    clear hG
    go_enter Try.func47, Try.ntmps47
    go_wp2_with fail
    rw [← HWW.out]
    refine (isSize_any _ _).mono ?_
    rintro e w' ⟨rfl, rfl⟩
    rw [h1]
    go_wp2
    refine bodyPost_ret (v := .tuple #[.agg #[.int .i64 0, .slice none 0 0], .bool false]) (by simp [results, Try.results47, go_sem, s0, s1, s2, s3]) rfl ⟨.slice none 0 0, by rw [HS.out.1, HG.out], by rw [HS.out.2]; exact Own.nil _ _, ?_⟩
    exact (hbW.setCell (by show _ ≤ w.heap.size; omega) _).setCell (by show _ ≤ w.heap.size; omega) _
  · have hsz : 1 ≤ s ∧ s ≤ 4 := by simpa [szB, inB] using h1
    obtain ⟨k1, k4⟩ := hsz
    have H1 := Lib.hid h1
    cases h2 : setB s a
    · have H2 := Lib.hid h2
      have hG : suG s a = false := by simp [suG, h2]
      have HS := Lib.hid (su_no hG)
      have HG := Lib.hid hG
      clear h1 h2 hG
      go_enter Try.func47, Try.ntmps47
      go_wp2_with fail
      rw [← HWW.out]
      refine (isSize_any _ _).mono ?_
      rintro e w' ⟨rfl, rfl⟩
      rw [H1.out]
      go_wp2_with fail
      refine (isSetOf_any _ _ _ k1 k4).mono ?_
      rintro e w' ⟨rfl, rfl⟩
      rw [H2.out]
      go_wp2
      refine bodyPost_ret (v := .tuple #[.agg #[.int .i64 0, .slice none 0 0], .bool false]) (by simp [results, Try.results47, go_sem, s0, s1, s2, s3]) rfl ⟨.slice none 0 0, by rw [HS.out.1, HG.out], by rw [HS.out.2]; exact Own.nil _ _, ?_⟩
      exact (hbW.setCell (by show _ ≤ w.heap.size; omega) _).setCell (by show _ ≤ w.heap.size; omega) _
    · obtain ⟨n, rfl, hn16, hn2⟩ := setB_nat k1 k4 h2
      have H2 := Lib.hid h2
      have hG : suG s (n : Int) = true := by simp [suG, h1, h2]
      have HS := Lib.hid (su_yes hG)
      have HG := Lib.hid hG
      clear hG
      have hpb := pow2_bd s k1 k4
      obtain ⟨N, hN⟩ : ∃ N : Nat, N = (pow2 s).toNat := ⟨_, rfl⟩
      have hN2 : (N : Int) = pow2 s := by omega
      have HN := Lib.hid hN
      have HN2 := Lib.hid hN2
      have hnN : n < N := by omega
      have hN16 : N ≤ 16 := by omega
      clear h1 h2 hN hN2 hpb hn2 s0 s1 s2 s3
      go_enter Try.func47, Try.ntmps47
      go_wp2_with fail
      rw [← HWW.out]
      refine (isSize_any _ _).mono ?_
      rintro e w' ⟨rfl, rfl⟩
      rw [H1.out]
      go_wp2_with fail
      refine (isSetOf_any _ _ _ k1 k4).mono ?_
      rintro e w' ⟨rfl, rfl⟩
      rw [H2.out]
      go_wp2_with fail
      refine (sureMass_any s n N _ k1 k4 HN2.out hnN hN16).mono ?_
      rintro e w2 ⟨v, rfl, ho, hb⟩
      have jR := hR.later hb
      have s0 := jR.c0
      have s1 := jR.c1
      have s2 := jR.f0
      have s3 := jR.f1
      obtain ⟨pv, cv, rfl, _hv⟩ := ho.shape
      clear _hv
      go_wp2
      refine bodyPost_ret (v := .tuple #[.agg #[.int .i64 s, .slice pv (sureL N n).length cv], .bool true]) (by simp [results, Try.results47, go_sem, s0, s1, s2, s3]) rfl ⟨.slice pv (sureL N n).length cv, by rw [HS.out.1, HG.out], ?_, ?_⟩
      · rw [HS.out.2, Int.toNat_natCast, ← HN.out]
        exact ((ho.setBelow (by show w.heap.size < _; have := HSZ.out; omega) _).setBelow (by show w.heap.size < _; have := HSZ.out; omega) _).mono (by have := HSZ.out; omega)
      · exact ((hbW.thenB hb).setCell (by show _ ≤ w.heap.size; omega) _).setCell (by show _ ≤ w.heap.size; omega) _

end Go.Proofs.Ytjmfjgoehicgcaa
