/- The levels of a chance that is as sure as possible: both packages. -/
import Derived.Test.YtmbipmdflbddbaaH1
set_option linter.unusedVariables false
set_option linter.unusedSimpArgs false
namespace Go.Proofs.Ytmbipmdflbddbaa
open Go.RowKit

theorem bit_wrapC (k : Nat) (h : k < 4) : IntKind.i64.wrap (2 ^ k) = ((bit k : Nat) : Int) := by
  have h2 : k = 0 ∨ k = 1 ∨ k = 2 ∨ k = 3 := by omega
  rcases h2 with rfl | rfl | rfl | rfl <;> decide

theorem bit_inC {s : Int} {xs : List Int} (h : MassOk s xs) (k : Nat) (hk : (k : Int) < s) : bit k < xs.length := by
  have h1 : (xs.length : Int) = 2 ^ s.toNat := h.len
  have h2 : 2 ^ k < 2 ^ s.toNat := Nat.pow_lt_pow_right (by omega) (by omega)
  have h3 : ((2 ^ s.toNat : Nat) : Int) = (2 : Int) ^ s.toNat := by simp
  unfold bit
  omega

/-- The sum of the parts of the single answers whose part is at most that of an answer. -/
def lcS (xs : List Int) (x : Nat) (k : Nat) : Int := (List.range k).foldl (fun s y => if nth xs (bit y) ≤ nth xs (bit x) then s + nth xs (bit y) else s) 0

theorem lcS_succ (xs : List Int) (x k : Nat) : lcS xs x (k + 1) = if nth xs (bit k) ≤ nth xs (bit x) then lcS xs x k + nth xs (bit k) else lcS xs x k := by simp [lcS, List.range_succ]

theorem lcS_bd {s : Int} {xs : List Int} (h : MassOk s xs) (x : Nat) : ∀ k : Nat, (k : Int) ≤ s → 0 ≤ lcS xs x k ∧ lcS xs x k ≤ 1000000 * k := by
  intro k
  induction k with
  | zero => intro _; simp [lcS]
  | succ k ih =>
    intro hk
    have h1 := ih (by omega)
    have h2 := allB_nth h.all (bit k) (bit_inC h k (by omega))
    rw [lcS_succ]
    split <;> omega

def lcTo (xs : List Int) (n k : Nat) : List Int := (List.range k).map fun x => lcS xs x n

theorem lcTo_succ (xs : List Int) (n k : Nat) : lcTo xs n (k + 1) = lcTo xs n k ++ [lcS xs k n] := by simp [lcTo, List.range_succ]

theorem lcTo_len (xs : List Int) (n k : Nat) : (lcTo xs n k).length = k := by simp [lcTo]

def lcL (s : Int) (xs : List Int) : List Int := if chB s xs = true then lcTo xs s.toNat s.toNat else []

theorem chB_ok {s : Int} {xs : List Int} (h : chB s xs = true) : MassOk s xs := massB_ok (by simp only [chB, Bool.and_eq_true] at h; exact h.1)

theorem lcL_len (s : Int) (xs : List Int) : (lcL s xs).length ≤ 1048576 := by
  unfold lcL
  split
  · rename_i h
    have := (chB_ok h).s4
    rw [lcTo_len]; omega
  · simp

theorem cellAcross {B : Nat} {W W' : World} {b o : Nat} {v : Value} (hb : Below B W W') (h : W.cell? ⟨b, o, none⟩ = some v) (hlt : b < B) : W'.cell? ⟨b, o, none⟩ = some v :=
  (hb.cell (p := ⟨b, o, none⟩) hlt).trans h

set_option maxHeartbeats 2000000 in
theorem iLevelsOfChance_any (s : Int) (p : Option Addr) (c : Nat) (xs : List Int) (w : World) (hx : Reads w p xs) (hxm : xs.length ≤ 1048576) :
    Calls Try.prog 25 #[.agg #[.int .i64 s, .slice p xs.length c]] w fun e w' => ∃ v, e = .returned (.tuple #[v, .bool (chB s xs)]) ∧ Own w.heap.size w' v (lcL s xs) ∧ Below w.heap.size w w' := by
  obtain ⟨W, hW, bW, hsz, c0, c1⟩ := box1 w s p xs.length c
  have HW := Lib.hid hW
  have HSZ := Lib.hid hsz
  clear hW hsz
  by_cases hg : chB s xs = true
  rotate_left
  · replace hg : chB s xs = false := by simpa using hg
    have hL : Hid (lcL s xs = []) := Lib.hid (by simp [lcL, hg])
    have hG := Lib.hid hg
    go_enter Try.func25, Try.ntmps25
    go_wp2_with fail
    rw [← HW.out]
    refine (isChance_any _ _ _ _ _ (hx.below bW) hxm).mono ?_
    rintro e w1 ⟨rfl, hb1⟩
    replace c0 := cellKeep hb1 c0
    replace c1 := cellKeep hb1 c1
    have z1 := hb1.size
    replace bW := bW.thenB hb1
    clear hb1
    go_wp2
    go_ret2
    exact ⟨.slice none 0 0, by rw [hG.out]; rfl, by rw [hL.out]; exact Own.nil _ _, bW⟩
  · have hk := chB_ok hg
    have k1 := hk.s1
    have k4 := hk.s4
    have hL : Hid (lcL s xs = lcTo xs s.toNat s.toNat) := Lib.hid (by simp [lcL, hg])
    have hG := Lib.hid hg
    have HK := Lib.hid hk
    have hl16 := hk.l16
    clear hk
    go_enter Try.func25, Try.ntmps25
    go_wp2_with fail
    rw [← HW.out]
    refine (isChance_any _ _ _ _ _ (hx.below bW) hxm).mono ?_
    rintro e w1 ⟨rfl, hb1⟩
    replace c0 := cellKeep hb1 c0
    replace c1 := cellKeep hb1 c1
    have z1 := hb1.size
    replace bW := bW.thenB hb1
    clear hb1
    have hz2 : w.heap.size < w1.heap.size := by have := HSZ.out; omega
    have hx1 := hx.below bW
    clear hx
    go_wp2_with fail
    have bA := belowAlloc w1 (.cells #[] 3)
    have hO0 : Own w1.heap.size (w1.alloc (.cells #[] 3)) (.slice (some ⟨w1.heap.size, 0, none⟩) 0 0) [] := Own.made w1 _ (Nat.le_refl _)
    replace c0 := cellKeep bA c0
    replace c1 := cellKeep bA c1
    go_loopw [4, 14] (fun v i wr => ∃ k : Nat, (k : Int) ≤ s ∧ i = .int .i64 k ∧ Own w1.heap.size wr v (lcTo xs s.toNat k) ∧ wr.cell? ⟨w.heap.size, 0, none⟩ = some (.int .i64 s) ∧ wr.cell? ⟨w.heap.size, 1, none⟩ = some (.slice p xs.length c) ∧ Below w1.heap.size w1 wr) (fun _ i _ => (s - intOf i).toNat)
    case atStart => exact ⟨0, by omega, rfl, hO0, c0, c1, bA⟩
    case round =>
      clear hO0 c0 c1 bA
      obtain ⟨k, hk, rfl, ho, m0, m1, hb⟩ := hrel
      by_cases hlt : (k : Int) < s
      · obtain ⟨pv, kv, rfl, _hr⟩ := ho.shape
        clear _hr
        have hbk := bit_inC HK.out k hlt
        have hwk := bit_wrapC k (by omega)
        have hwk2 := bit_wrap' k (by omega)
        have hbk0 : (0 : Int) ≤ ((bit k : Nat) : Int) := Int.natCast_nonneg _
        have hbkn : ((bit k : Nat) : Int) < (xs.length : Int) := Int.ofNat_lt.mpr hbk
        have hlk : (lcTo xs s.toNat k).length = k := lcTo_len _ _ _
        have HLK := Lib.hid hlk
        clear hlk
        obtain ⟨blk, off, rfl, hbl, hc0⟩ := hx1 (bit k) hbk
        have hbl2 : blk < wr.heap.size := by have := hb.size; omega
        have hc := (hb.cell (p := ⟨blk, off + bit k, none⟩) hbl).trans hc0
        have hx1' := Lib.hid hx1
        clear hx1 hc0
        have hzb := hb.size
        have hzw := World.block_lt_of_cell? _ _ m0
        go_wp2_with fail
        have M0 := m0
        have M1 := m1
        go_loopw [6, 19] (fun v i wz => ∃ j : Nat, (j : Int) ≤ s ∧ i = .int .i64 j ∧ v = .int .i64 (lcS xs k j) ∧ Below wr.heap.size wr wz) (fun _ i _ => (s - intOf i).toNat)
        case atStart => exact ⟨0, by omega, rfl, rfl, Below.refl _ _⟩
        case round =>
          obtain ⟨j, hj, rfl, rfl, hbz⟩ := hrel
          replace m0 := cellKeep hbz M0
          replace m1 := cellKeep hbz M1
          replace hc := cellKeep hbz hc
          clear M0 M1
          by_cases hlj : (j : Int) < s
          · have hbj := bit_inC HK.out j hlj
            have hwj := bit_wrapC j (by omega)
            have hwj2 := bit_wrap' j (by omega)
            have hbj0 : (0 : Int) ≤ ((bit j : Nat) : Int) := Int.natCast_nonneg _
            have hbjn : ((bit j : Nat) : Int) < (xs.length : Int) := Int.ofNat_lt.mpr hbj
            obtain ⟨b1, o1, e1, hb1, hd0⟩ := hx1'.out (bit j) hbj
            cases e1
            have hd := (hbz.cell (p := ⟨blk, off + bit j, none⟩) hbl2).trans ((hb.cell (p := ⟨blk, off + bit j, none⟩) hb1).trans hd0)
            obtain ⟨f1, f2⟩ := allB_nth HK.out.all (bit j) hbj
            obtain ⟨g1, g2⟩ := lcS_bd HK.out k j hj
            have hs := Lib.hid (lcS_succ xs k j)
            clear hd0
            have hsum : IntKind.i64.wrap (lcS xs k j + nth xs (bit j)) = lcS xs k j + nth xs (bit j) := IntWalk.i64_in _ ⟨by clear hwj hwj2 hwk hwk2; omega, by clear hwj hwj2 hwk hwk2; omega⟩
            by_cases hle : nth xs (bit j) ≤ nth xs (bit k)
            · rw [if_pos hle] at hs
              go_wp2_with fail
              go_region
              all_goals go_wp2_with fail
              all_goals try go_region
              all_goals go_wp2
              all_goals exact ⟨⟨j + 1, by omega, by go_num, by rw [hs.out], hbz.drew.drew⟩, by simp [intOf]; omega⟩
            · rw [if_neg hle] at hs
              go_wp2_with fail
              go_region
              all_goals go_wp2
              all_goals exact ⟨⟨j + 1, by omega, by go_num, by rw [hs.out], hbz.drew⟩, by simp [intOf]; omega⟩
          · have hjs : (j : Int) = s := by omega
            have hjn : Hid (j = s.toNat) := Lib.hid (by omega)
            clear hjs
            have ho2 := ho.later hbz
            have hzz := hbz.size
            have hbb := hb.thenB hbz
            obtain ⟨y, hy⟩ : ∃ y : Int, y = lcS xs k j := ⟨_, rfl⟩
            rw [← hy]
            have hs := Lib.hid (lcTo_succ xs s.toNat k)
            have HY := Lib.hid hy
            clear hy
            have hkb : k ≤ 4 := by omega
            go_wp2_with (at_builtin; refine wpList_append1 _ rfl _ _ rfl w1.heap.size _ _ rfl (ho2.later (belowAlloc _ _)) ⟨wr.heap.size, 0, none⟩ 1 y rfl (newCell _ _ _) (by have := HLK.out; omega) (by simp; have := HSZ.out; omega) ?_; intro v1 w4 ho1 hba)
            have hbq := belowAlloc wr (.cells #[.int .i64 y] 3)
            have m0' := cellAcross hba (cellKeep hbq m0) (by have := HSZ.out; omega)
            have m1' := cellAcross hba (cellKeep hbq m1) (by have := HSZ.out; omega)
            exact ⟨⟨k + 1, by omega, by go_num, by rw [hs.out, ← hjn.out, ← HY.out]; rw [hjn.out]; exact ho1, m0', m1', (hbb.thenB hbq).trans (hba.mono (by have := HSZ.out; omega))⟩, by simp [intOf]; omega⟩
      · have hks : (k : Int) = s := by omega
        have hkn : Hid (k = s.toNat) := Lib.hid (by omega)
        clear hks hx1
        have HO := Lib.hid (show Own w1.heap.size wr _ (lcTo xs s.toNat s.toNat) by have h := ho; rw [hkn.out] at h; exact h)
        clear ho
        go_wp2
        go_ret2
        exact ⟨_, by first | rfl | (rw [hG.out]; rfl), by rw [hL.out]; exact HO.out.mono (by have := HSZ.out; omega), bW.thenB hb⟩

set_option maxHeartbeats 2000000 in
theorem sLevelsOfChance_any (s : Int) (p : Option Addr) (c : Nat) (xs : List Int) (w : World) (hx : Reads w p xs) (hxm : xs.length ≤ 1048576) :
    Calls Try.prog 26 #[.agg #[.int .i64 s, .slice p xs.length c]] w fun e w' => ∃ v, e = .returned (.tuple #[v, .bool (chB s xs)]) ∧ Own w.heap.size w' v (lcL s xs) ∧ Below w.heap.size w w' := by
  obtain ⟨W, hW, bW, hsz, c0, c1⟩ := box1 w s p xs.length c
  have HW := Lib.hid hW
  have HSZ := Lib.hid hsz
  clear hW hsz
  have bA := belowAlloc W (.cells #[] 3)
  have hO0 : Own (w.heap.size + 1) (W.alloc (.cells #[] 3)) (.slice (some ⟨w.heap.size + 1, 0, none⟩) 0 0) [] := by have h := Own.made W (w.heap.size + 1) (by have := HSZ.out; omega); rw [HSZ.out] at h; exact h
  by_cases hg : chB s xs = true
  rotate_left
  · replace hg : chB s xs = false := by simpa using hg
    have hL : Hid (lcL s xs = []) := Lib.hid (by simp [lcL, hg])
    have hG := Lib.hid hg
    go_enter Try.func26, Try.ntmps26
    go_wp2_with fail
    rw [← HW.out]
    replace c0 := cellKeep bA c0
    replace c1 := cellKeep bA c1
    replace bW := bW.thenB bA
    refine (IsChance_any _ _ _ _ _ (hx.below bW) hxm).mono ?_
    rintro e w1 ⟨rfl, hb1⟩
    replace c0 := cellKeep hb1 c0
    replace c1 := cellKeep hb1 c1
    have z1 := hb1.size
    replace bW := bW.thenB hb1
    replace hO0 := hO0.later hb1
    have z0 : W.heap.size + 1 ≤ w1.heap.size := by simpa using z1
    clear z1
    clear hb1
    go_wp2
    go_ret2
    exact ⟨_, by rw [hG.out]; rfl, by rw [hL.out]; exact hO0.mono (by omega), bW⟩
  · have hk := chB_ok hg
    have k1 := hk.s1
    have k4 := hk.s4
    have hL : Hid (lcL s xs = lcTo xs s.toNat s.toNat) := Lib.hid (by simp [lcL, hg])
    have hG := Lib.hid hg
    have HK := Lib.hid hk
    have hl16 := hk.l16
    clear hk
    go_enter Try.func26, Try.ntmps26
    go_wp2_with fail
    rw [← HW.out]
    replace c0 := cellKeep bA c0
    replace c1 := cellKeep bA c1
    replace bW := bW.thenB bA
    refine (IsChance_any _ _ _ _ _ (hx.below bW) hxm).mono ?_
    rintro e w1 ⟨rfl, hb1⟩
    replace c0 := cellKeep hb1 c0
    replace c1 := cellKeep hb1 c1
    have z1 := hb1.size
    replace bW := bW.thenB hb1
    replace hO0 := hO0.later hb1
    have z0 : W.heap.size + 1 ≤ w1.heap.size := by simpa using z1
    clear z1
    clear hb1
    have hz2 : w.heap.size < w1.heap.size := by have := HSZ.out; omega
    have hx1 := hx
    clear hx
    go_wp2_with fail
    go_loopw [4, 5] (fun v i wr => ∃ k : Nat, (k : Int) ≤ s ∧ i = .int .i64 k ∧ Own (w.heap.size + 1) wr v (lcTo xs s.toNat k) ∧ wr.cell? ⟨w.heap.size, 0, none⟩ = some (.int .i64 s) ∧ wr.cell? ⟨w.heap.size, 1, none⟩ = some (.slice p xs.length c) ∧ Below w.heap.size w wr) (fun _ i _ => (s - intOf i).toNat)
    case atStart => exact ⟨0, by omega, rfl, hO0, c0, c1, bW⟩
    case round =>
      clear hO0 c0 c1
      obtain ⟨k, hk, rfl, ho, m0, m1, hb⟩ := hrel
      by_cases hlt : (k : Int) < s
      · obtain ⟨pv, kv, rfl, _hr⟩ := ho.shape
        clear _hr
        have hbk := bit_inC HK.out k hlt
        have hwk := bit_wrapC k (by omega)
        have hwk2 := bit_wrap' k (by omega)
        have hbk0 : (0 : Int) ≤ ((bit k : Nat) : Int) := Int.natCast_nonneg _
        have hbkn : ((bit k : Nat) : Int) < (xs.length : Int) := Int.ofNat_lt.mpr hbk
        have hlk : (lcTo xs s.toNat k).length = k := lcTo_len _ _ _
        have HLK := Lib.hid hlk
        clear hlk
        obtain ⟨blk, off, rfl, hbl, hc0⟩ := hx1 (bit k) hbk
        have hbl2 : blk < wr.heap.size := by have := hb.size; omega
        have hc := (hb.cell (p := ⟨blk, off + bit k, none⟩) hbl).trans hc0
        have hx1' := Lib.hid hx1
        clear hx1 hc0
        have hzb := hb.size
        have hzw := World.block_lt_of_cell? _ _ m0
        go_wp2_with fail
        have M0 := m0
        have M1 := m1
        go_loopw [6, 7] (fun v i wz => ∃ j : Nat, (j : Int) ≤ s ∧ i = .int .i64 j ∧ v = .int .i64 (lcS xs k j) ∧ Below wr.heap.size wr wz) (fun _ i _ => (s - intOf i).toNat)
        case atStart => exact ⟨0, by omega, rfl, rfl, Below.refl _ _⟩
        case round =>
          obtain ⟨j, hj, rfl, rfl, hbz⟩ := hrel
          replace m0 := cellKeep hbz M0
          replace m1 := cellKeep hbz M1
          replace hc := cellKeep hbz hc
          clear M0 M1
          by_cases hlj : (j : Int) < s
          · have hbj := bit_inC HK.out j hlj
            have hwj := bit_wrapC j (by omega)
            have hwj2 := bit_wrap' j (by omega)
            have hbj0 : (0 : Int) ≤ ((bit j : Nat) : Int) := Int.natCast_nonneg _
            have hbjn : ((bit j : Nat) : Int) < (xs.length : Int) := Int.ofNat_lt.mpr hbj
            obtain ⟨b1, o1, e1, hb1, hd0⟩ := hx1'.out (bit j) hbj
            cases e1
            have hd := (hbz.cell (p := ⟨blk, off + bit j, none⟩) hbl2).trans ((hb.cell (p := ⟨blk, off + bit j, none⟩) hb1).trans hd0)
            obtain ⟨f1, f2⟩ := allB_nth HK.out.all (bit j) hbj
            obtain ⟨g1, g2⟩ := lcS_bd HK.out k j hj
            have hs := Lib.hid (lcS_succ xs k j)
            clear hd0
            have hsum : IntKind.i64.wrap (lcS xs k j + nth xs (bit j)) = lcS xs k j + nth xs (bit j) := IntWalk.i64_in _ ⟨by clear hwj hwj2 hwk hwk2; omega, by clear hwj hwj2 hwk hwk2; omega⟩
            by_cases hle : nth xs (bit j) ≤ nth xs (bit k)
            · rw [if_pos hle] at hs
              go_wp2_with fail
              go_region
              all_goals go_wp2_with fail
              all_goals try go_region
              all_goals go_wp2
              all_goals exact ⟨⟨j + 1, by omega, by go_num, by rw [hs.out], hbz.drew⟩, by simp [intOf]; omega⟩
            · rw [if_neg hle] at hs
              go_wp2_with fail
              go_region
              all_goals go_wp2
              all_goals exact ⟨⟨j + 1, by omega, by go_num, by rw [hs.out], hbz.drew⟩, by simp [intOf]; omega⟩
          · have hjs : (j : Int) = s := by omega
            have hjn : Hid (j = s.toNat) := Lib.hid (by omega)
            clear hjs
            have ho2 := ho.later hbz
            have hzz := hbz.size
            have hbb := hb.thenB hbz
            obtain ⟨y, hy⟩ : ∃ y : Int, y = lcS xs k j := ⟨_, rfl⟩
            rw [← hy]
            have hs := Lib.hid (lcTo_succ xs s.toNat k)
            have HY := Lib.hid hy
            clear hy
            have hkb : k ≤ 4 := by omega
            go_wp2_with (at_builtin; refine wpList_append1 _ rfl _ _ rfl (w.heap.size + 1) _ _ rfl (ho2.later (belowAlloc _ _)) ⟨wr.heap.size, 0, none⟩ 1 y rfl (newCell _ _ _) (by have := HLK.out; omega) (by simp; have := HSZ.out; omega) ?_; intro v1 w4 ho1 hba)
            have hbq := belowAlloc wr (.cells #[.int .i64 y] 3)
            have m0' := cellAcross hba (cellKeep hbq m0) (by have := HSZ.out; omega)
            have m1' := cellAcross hba (cellKeep hbq m1) (by have := HSZ.out; omega)
            exact ⟨⟨k + 1, by omega, by go_num, by rw [hs.out, ← hjn.out, ← HY.out]; rw [hjn.out]; exact ho1, m0', m1', (hbb.thenB hbq).trans (hba.mono (by have := HSZ.out; omega))⟩, by simp [intOf]; omega⟩
      · have hks : (k : Int) = s := by omega
        have hkn : Hid (k = s.toNat) := Lib.hid (by omega)
        clear hks hx1
        have HO := Lib.hid (show Own (w.heap.size + 1) wr _ (lcTo xs s.toNat s.toNat) by have h := ho; rw [hkn.out] at h; exact h)
        clear ho
        go_wp2
        go_ret2
        exact ⟨_, by first | rfl | (rw [hG.out]; rfl), by rw [hL.out]; exact HO.out.mono (by have := HSZ.out; omega), hb⟩

end Go.Proofs.Ytmbipmdflbddbaa
