/- Cases in which a set is known: FocusMass, both packages. -/
import Derived.Test.YtolbbeiiohegpaaC7
set_option linter.unusedVariables false
set_option linter.unusedSimpArgs false
namespace Go.Proofs.Ytolbbeiiohegpaa
open Go.RowKit

/-- A set, not none, within another one. -/
def focT (a b : Nat) : Bool := b != 0 && subB b a

def focTo (a : Nat) (xs zs : List Int) (k : Nat) : List Int := (List.range k).foldl (fun zs b => if focT a b then zs.set b (nth xs b) else zs) zs

theorem focTo_succ (a : Nat) (xs zs : List Int) (k : Nat) : focTo a xs zs (k + 1) = if focT a k then (focTo a xs zs k).set k (nth xs k) else focTo a xs zs k := by simp [focTo, List.range_succ]

theorem focTo_yes {a : Nat} {xs zs : List Int} {k : Nat} (h : focT a k = true) : focTo a xs zs (k + 1) = (focTo a xs zs k).set k (nth xs k) := by rw [focTo_succ, h]; rfl

theorem focTo_no {a : Nat} {xs zs : List Int} {k : Nat} (h : focT a k = false) : focTo a xs zs (k + 1) = focTo a xs zs k := by rw [focTo_succ, h]; rfl

theorem focTo_one (a : Nat) (xs zs : List Int) : focTo a xs zs 1 = zs := by simp [focTo, focT]

theorem focTo_len (a : Nat) (xs zs : List Int) (k : Nat) : (focTo a xs zs k).length = zs.length := by
  induction k with
  | zero => rfl
  | succ k ih => rw [focTo_succ]; split <;> simp [ih]

theorem allB_set {low high y : Int} {zs : List Int} (k : Nat) (h : allB low high zs = true) (h1 : low ≤ y) (h2 : y ≤ high) : allB low high (zs.set k y) = true := by
  rw [allB_iff] at *
  intro j hj
  rw [List.length_set] at hj
  have := h j hj
  rw [nth_eq _ _ (by simpa using hj), List.getElem_set]
  rw [nth_eq _ _ hj] at this
  split <;> omega

theorem focTo_all (a : Nat) (xs zs : List Int) (M : Int) (hM : 0 ≤ M) (hx : allB 0 M xs = true) (hz : allB 0 0 zs = true) (k : Nat) (hk : k ≤ xs.length) : allB 0 M (focTo a xs zs k) = true := by
  induction k with
  | zero => exact allB_wider hz (by omega) hM
  | succ k ih =>
    rw [focTo_succ]
    have h1 := allB_nth hx k (by omega)
    split
    · exact allB_set k (ih (by omega)) h1.1 h1.2
    · exact ih (by omega)

def focP (a : Nat) (xs : List Int) : List Int := focTo a xs (zeros xs.length) xs.length

theorem focP_len (a : Nat) (xs : List Int) : (focP a xs).length = xs.length := by rw [focP, focTo_len, zeros_len]

theorem focP_wide (a : Nat) (xs : List Int) (h : allB 0 1000000 xs = true) : allB 0 4611686018427387904 (focP a xs) = true :=
  allB_wider (focTo_all a xs _ _ (by omega) h (zeros_all _) _ (Nat.le_refl _)) (by omega) (by omega)

theorem focR_len (s : Int) (xs : List Int) (a : Int) (h : xs.length ≤ 1048576) : (gL (msB s xs a) s (focP a.toNat xs)).length ≤ 1048576 := by
  have := gL_len (msB s xs a) s (focP a.toNat xs)
  rw [focP_len] at this
  omega

set_option maxHeartbeats 1000000 in
theorem iFocusMass_any (s : Int) (p : Option Addr) (c : Nat) (xs : List Int) (a : Int) (w : World) (hx : Reads w p xs) (hxm : xs.length ≤ 1048576) :
    Calls Try.prog 24 #[.agg #[.int .i64 s, .slice p xs.length c], .int .i64 a] w fun e w' => ∃ v, e = .returned (.tuple #[.agg #[.int .i64 (gS (msB s xs a) s (focP a.toNat xs)), v], .bool (gOk (msB s xs a) s (focP a.toNat xs))]) ∧ Own w.heap.size w' v (gL (msB s xs a) s (focP a.toNat xs)) ∧ Below w.heap.size w w' := by
  obtain ⟨W, hW, hbW, hsz, hM, hR⟩ := boxR w s p xs.length c
  have hxW := hx.below hbW
  have HWW := Lib.hid hW
  have HSZ := Lib.hid hsz
  clear hW hsz
  cases h1 : massB s xs
  · have hg : msB s xs a = false := by simp [msB, h1]
    obtain ⟨hS, hO, hL⟩ := gNo (s := s) (L := focP a.toNat xs) hg
    clear hg
    have hS := Lib.hid hS
    have hO := Lib.hid hO
    have hL := Lib.hid hL
    go_enter Try.func24, Try.ntmps24
    go_wp2_with fail
    rw [← HWW.out]
    refine (isMass_any _ _ _ _ _ hxW hxm).mono ?_
    rintro e w1 ⟨rfl, hb1⟩
    have jR := hR.later hb1
    have s0 := jR.c0
    have s1 := jR.c1
    have s2 := jR.f0
    have s3 := jR.f1
    go_wp2
    refine bodyPost_ret (v := .tuple #[.agg #[.int .i64 0, .slice none 0 0], .bool false]) (by simp [results, Try.results24, go_sem, s0, s1, s2, s3]) rfl ⟨_, by rw [hS.out, hO.out], by rw [hL.out]; exact Own.nil _ _, ?_⟩
    exact ((hbW.thenB hb1).setCell (by show _ ≤ w.heap.size + 1; omega) _).setCell (by show _ ≤ w.heap.size + 1; omega) _
  · have hk := massB_ok h1
    have k1 := hk.s1
    have k4 := hk.s4
    cases h2 : setB s a
    · have hg : msB s xs a = false := by simp [msB, h2]
      obtain ⟨hS, hO, hL⟩ := gNo (s := s) (L := focP a.toNat xs) hg
      clear hg
      have hS := Lib.hid hS
      have hO := Lib.hid hO
      have hL := Lib.hid hL
      go_enter Try.func24, Try.ntmps24
      go_wp2_with fail
      rw [← HWW.out]
      refine (isMass_any _ _ _ _ _ hxW hxm).mono ?_
      rintro e w1 ⟨rfl, hb1⟩
      have jM := hM.later hb1
      have m0 := jM.c0
      have m1 := jM.c1
      go_wp2_with fail
      refine (isSetOf_any _ _ _ k1 k4).mono ?_
      rintro e w' ⟨rfl, rfl⟩
      have jR := hR.later hb1
      have s0 := jR.c0
      have s1 := jR.c1
      have s2 := jR.f0
      have s3 := jR.f1
      go_wp2
      refine bodyPost_ret (v := .tuple #[.agg #[.int .i64 0, .slice none 0 0], .bool false]) (by simp [results, Try.results24, go_sem, s0, s1, s2, s3]) rfl ⟨_, by rw [hS.out, hO.out], by rw [hL.out]; exact Own.nil _ _, ?_⟩
      exact ((hbW.thenB hb1).setCell (by show _ ≤ w.heap.size + 1; omega) _).setCell (by show _ ≤ w.heap.size + 1; omega) _
    · have hg : msB s xs a = true := by simp [msB, h1, h2]
      obtain ⟨n, rfl, hn16, hn2⟩ := setB_nat k1 k4 h2
      obtain ⟨hS, hO, hL⟩ := gYes (s := s) (L := focP n xs) hg
      rw [Int.toNat_natCast]
      have hS := Lib.hid hS
      have hO := Lib.hid hO
      have hL := Lib.hid hL
      have HK := Lib.hid hk
      have hl16 := hk.l16
      have HP := Lib.hid (focP_wide n xs hk.all)
      have HPL := Lib.hid (focP_len n xs)
      have h2l : 2 ≤ xs.length := by have := pow2_bd s k1 k4; have := hk.len; omega
      clear hg hk hn2
      go_enter Try.func24, Try.ntmps24
      go_wp2_with fail
      rw [← HWW.out]
      refine (isMass_any _ _ _ _ _ hxW hxm).mono ?_
      rintro e w1 ⟨rfl, hb1⟩
      have jM := hM.later hb1
      have m0 := jM.c0
      have m1 := jM.c1
      go_wp2_with fail
      refine (isSetOf_any _ _ _ k1 k4).mono ?_
      rintro e w' ⟨rfl, rfl⟩
      have jR := hR.later hb1
      have hx1 := hxW.below hb1
      have hbf := hbW.thenB hb1
      have hz1 := hb1.size
      have hz2 : w.heap.size + 1 < w1.heap.size := by have := HSZ.out; omega
      clear hxW hbW hb1 hM hR hx
      go_wp2_with (at_make; refine wpList_makeInts _ rfl _ _ rfl w1.heap.size _ _ _ _ xs.length rfl rfl rfl rfl (by omega) (Nat.le_refl _) ?_)
      intro w2 hown hb2 hlt2
      have hM2 := jM.later hb2
      have hR2 := jR.later hb2
      replace m0 := hM2.c0
      replace m1 := hM2.c1
      clear jM jR
      go_wp2_with fail
      clear m0 m1
      go_loopw [27] (fun i wr => ∃ k : Nat, k ≤ xs.length ∧ i = .int .i64 k ∧ Own w1.heap.size wr (.slice (some ⟨w1.heap.size, 0, none⟩) xs.length xs.length) (focTo n xs (zeros xs.length) k) ∧ VarInv wr w.heap.size s (.slice p xs.length c) ∧ VarInv wr (w.heap.size + 1) 0 (.slice none 0 0) ∧ Below w1.heap.size w1 wr ∧ w1.heap.size < wr.heap.size) (fun i _ => xs.length - (intOf i).toNat)
      case atStart => exact ⟨0, Nat.zero_le _, rfl, hown, hM2, hR2, hb2, hlt2⟩
      case round =>
        clear hown hM2 hR2 hb2 hlt2
        obtain ⟨k, hk, rfl, ho, iM, iR, hb, hlt2⟩ := hrel
        have m0 := iM.c0
        have m1 := iM.c1
        by_cases hlt : k < xs.length
        · obtain ⟨b, off, rfl, hbl, hc0⟩ := hx1 k hlt
          have hc := (hb.cell (p := ⟨b, off + k, none⟩) hbl).trans hc0
          have hln := focTo_len n xs (zeros xs.length) k
          rw [zeros_len] at hln
          obtain ⟨q1, q2⟩ := ho.cellAt hln k hlt
          have HST := Lib.hid (ho.storedAt hln k (nth xs k))
          have HO := Lib.hid ho
          have ht := sub_test k n (by omega) hn16
          have hk0 : (0 : Int) ≤ (k : Int) := by omega
          have hkn : (k : Int) < (xs.length : Int) := by omega
          clear hx1 hc0 ho hln
          by_cases h0 : k = 0
          · have HN := Lib.hid (focTo_no (a := n) (xs := xs) (zs := zeros xs.length) (k := k) (by simp [focT, h0]))
            replace h0 : ((k : Int) != 0) = false := by simp [h0]
            clear ht
            go_wp2
            exact ⟨⟨k + 1, by omega, by go_num, by rw [HN.out]; exact HO.out, iM, iR, hb, hlt2⟩, by simp [intOf]; omega⟩
          have h1k : ((k : Int) != 0) = true := by simp [h0]
          have hkz : 1 ≤ k := by omega
          clear h0
          by_cases hs : subB k n = true
          · have HY := Lib.hid (focTo_yes (a := n) (xs := xs) (zs := zeros xs.length) (k := k) (by simp [focT, hs]; omega))
            rw [hs] at ht
            clear hs
            go_wp2
            exact ⟨⟨k + 1, by omega, by go_num, by rw [HY.out]; exact HST.out, iM.other _ (by show w1.heap.size ≠ w.heap.size; omega) _, iR.other _ (by show w1.heap.size ≠ w.heap.size + 1; omega) _, hb.setCell (Nat.le_refl _) _, by simpa using hlt2⟩, by simp [intOf]; omega⟩
          · have HN := Lib.hid (focTo_no (a := n) (xs := xs) (zs := zeros xs.length) (k := k) (by simp [focT, hs]))
            replace hs : subB k n = false := by simpa using hs
            rw [hs] at ht
            clear hs
            go_wp2
            exact ⟨⟨k + 1, by omega, by go_num, by rw [HN.out]; exact HO.out, iM, iR, hb, hlt2⟩, by simp [intOf]; omega⟩
        · have h1 : k = xs.length := by omega
          subst h1
          clear hx1
          go_wp2_with fail
          refine (makeMass_n _ _ _ _ (focP n xs) _ HPL.out ho.reads (by rw [HPL.out]; exact hxm) HP.out).mono ?_
          rintro e w3 ⟨v, rfl, ho2, hb3⟩
          obtain ⟨p2, c2, rfl, hr2⟩ := ho2.shape
          clear hr2
          have jR := iR.later hb3
          have s0 := jR.c0
          have s1 := jR.c1
          have s2 := jR.f0
          have s3 := jR.f1
          go_wp2
          refine bodyPost_ret (v := .tuple #[.agg #[.int .i64 (mkS s (focP n xs)), .slice p2 (mkL s (focP n xs)).length c2], .bool (mkOk s (focP n xs))]) (by simp [results, Try.results24, go_sem, s0, s1, s2, s3]) rfl ⟨_, by rw [hS.out, hO.out], ?_, ?_⟩
          · rw [hL.out]
            exact ((ho2.setBelow (by show w.heap.size + 1 < _; omega) _).setBelow (by show w.heap.size + 1 < _; omega) _).mono (by omega)
          · exact (((hbf.thenB hb).thenB hb3).setCell (by show _ ≤ w.heap.size + 1; omega) _).setCell (by show _ ≤ w.heap.size + 1; omega) _

set_option maxHeartbeats 1000000 in
theorem sFocusMass_any (s : Int) (p : Option Addr) (c : Nat) (xs : List Int) (a : Int) (w : World) (hx : Reads w p xs) (hxm : xs.length ≤ 1048576) :
    Calls Try.prog 25 #[.agg #[.int .i64 s, .slice p xs.length c], .int .i64 a] w fun e w' => ∃ v, e = .returned (.tuple #[.agg #[.int .i64 (gS (msB s xs a) s (focP a.toNat xs)), v], .bool (gOk (msB s xs a) s (focP a.toNat xs))]) ∧ Own w.heap.size w' v (gL (msB s xs a) s (focP a.toNat xs)) ∧ Below w.heap.size w w' := by
  obtain ⟨W, hW, hbW, hsz, hM, hR⟩ := boxR w s p xs.length c
  have hxW := hx.below hbW
  have HWW := Lib.hid hW
  have HSZ := Lib.hid hsz
  clear hW hsz
  by_cases hg : msB s xs a = true
  rotate_left
  · replace hg : msB s xs a = false := by simpa using hg
    have hg' := Lib.hid hg
    obtain ⟨hS, hO, hL⟩ := gNo (s := s) (L := focP a.toNat xs) hg
    clear hg
    have hg := hg'.out
    have hS := Lib.hid hS
    have hO := Lib.hid hO
    have hL := Lib.hid hL
    go_enter Try.func25, Try.ntmps25
    go_wp2_with fail
    rw [← HWW.out]
    refine (l3Set_any _ _ _ _ _ _ hxW hxm).mono ?_
    rintro e w1 ⟨rfl, hb1⟩
    have jR := hR.later hb1
    have s0 := jR.c0
    have s1 := jR.c1
    have s2 := jR.f0
    have s3 := jR.f1
    go_wp2
    refine bodyPost_ret (v := .tuple #[.agg #[.int .i64 0, .slice none 0 0], .bool false]) (by simp [results, Try.results25, go_sem, s0, s1, s2, s3]) rfl ⟨_, by rw [hS.out, hO.out], by rw [hL.out]; exact Own.nil _ _, ?_⟩
    exact ((hbW.thenB hb1).setCell (by show _ ≤ w.heap.size + 1; omega) _).setCell (by show _ ≤ w.heap.size + 1; omega) _
  · have hg2 : massB s xs = true ∧ setB s a = true := by simpa [msB] using hg
    have hk := massB_ok hg2.1
    have k1 := hk.s1
    have k4 := hk.s4
    obtain ⟨n, rfl, hn16, hn2⟩ := setB_nat k1 k4 hg2.2
    clear hg2
    obtain ⟨hS, hO, hL⟩ := gYes (s := s) (L := focP n xs) hg
    rw [Int.toNat_natCast]
    have hS := Lib.hid hS
    have hO := Lib.hid hO
    have hL := Lib.hid hL
    have HK := Lib.hid hk
    have hl16 := hk.l16
    have HP := Lib.hid (focP_wide n xs hk.all)
    have HPL := Lib.hid (focP_len n xs)
    have h2l : 2 ≤ xs.length := by have := pow2_bd s k1 k4; have := hk.len; omega
    clear hk hn2
    go_enter Try.func25, Try.ntmps25
    go_wp2_with fail
    rw [← HWW.out]
    refine (l3Set_any _ _ _ _ _ _ hxW hxm).mono ?_
    rintro e w1 ⟨rfl, hb1⟩
    have jM := hM.later hb1
    have m0 := jM.c0
    have m1 := jM.c1
    have jR := hR.later hb1
    have hx1 := hxW.below hb1
    have hbf := hbW.thenB hb1
    have hz1 := hb1.size
    have hz2 : w.heap.size + 1 < w1.heap.size := by have := HSZ.out; omega
    clear hxW hbW hb1 hM hR hx
    go_wp2_with (at_make; refine wpList_makeInts _ rfl _ _ rfl w1.heap.size _ _ _ _ xs.length rfl rfl rfl rfl (by omega) (Nat.le_refl _) ?_)
    intro w2 hown hb2 hlt2
    have hM2 := jM.later hb2
    have hR2 := jR.later hb2
    replace m0 := hM2.c0
    replace m1 := hM2.c1
    clear jM jR
    go_wp2_with fail
    clear m0 m1
    go_loopw [7] (fun i wr => ∃ k : Nat, 1 ≤ k ∧ k ≤ xs.length ∧ i = .int .i64 k ∧ Own w1.heap.size wr (.slice (some ⟨w1.heap.size, 0, none⟩) xs.length xs.length) (focTo n xs (zeros xs.length) k) ∧ VarInv wr w.heap.size s (.slice p xs.length c) ∧ VarInv wr (w.heap.size + 1) 0 (.slice none 0 0) ∧ Below w1.heap.size w1 wr ∧ w1.heap.size < wr.heap.size) (fun i _ => xs.length - (intOf i).toNat)
    case atStart => exact ⟨1, Nat.le_refl _, by omega, rfl, by rw [focTo_one]; exact hown, hM2, hR2, hb2, hlt2⟩
    case round =>
      clear hown hM2 hR2 hb2 hlt2
      obtain ⟨k, hk1, hk, rfl, ho, iM, iR, hb, hlt2⟩ := hrel
      have m0 := iM.c0
      have m1 := iM.c1
      by_cases hlt : k < xs.length
      · obtain ⟨b, off, rfl, hbl, hc0⟩ := hx1 k hlt
        have hc := (hb.cell (p := ⟨b, off + k, none⟩) hbl).trans hc0
        have hln := focTo_len n xs (zeros xs.length) k
        rw [zeros_len] at hln
        obtain ⟨q1, q2⟩ := ho.cellAt hln k hlt
        have HST := Lib.hid (ho.storedAt hln k (nth xs k))
        have HO := Lib.hid ho
        have ht := sub_test k n (by omega) hn16
        have hk0 : (0 : Int) ≤ (k : Int) := by omega
        have hkn : (k : Int) < (xs.length : Int) := by omega
        clear hx1 hc0 ho hln
        by_cases hs : subB k n = true
        · have HY := Lib.hid (focTo_yes (a := n) (xs := xs) (zs := zeros xs.length) (k := k) (by simp [focT, hs]; omega))
          rw [hs] at ht
          clear hs
          go_wp2
          exact ⟨⟨k + 1, by omega, by omega, by go_num, by rw [HY.out]; exact HST.out, iM.other _ (by show w1.heap.size ≠ w.heap.size; omega) _, iR.other _ (by show w1.heap.size ≠ w.heap.size + 1; omega) _, hb.setCell (Nat.le_refl _) _, by simpa using hlt2⟩, by simp [intOf]; omega⟩
        · have HN := Lib.hid (focTo_no (a := n) (xs := xs) (zs := zeros xs.length) (k := k) (by simp [focT, hs]))
          replace hs : subB k n = false := by simpa using hs
          rw [hs] at ht
          clear hs
          go_wp2
          exact ⟨⟨k + 1, by omega, by omega, by go_num, by rw [HN.out]; exact HO.out, iM, iR, hb, hlt2⟩, by simp [intOf]; omega⟩
      · have h1 : k = xs.length := by omega
        subst h1
        clear hx1
        go_wp2_with fail
        refine (l3Made_n _ _ _ _ (focP n xs) _ HPL.out ho.reads (by rw [HPL.out]; exact hxm) HP.out).mono ?_
        rintro e w3 ⟨v, rfl, ho2, hb3⟩
        obtain ⟨p2, c2, rfl, hr2⟩ := ho2.shape
        clear hr2
        have jR := iR.later hb3
        have s0 := jR.c0
        have s1 := jR.c1
        have s2 := jR.f0
        have s3 := jR.f1
        go_wp2
        refine bodyPost_ret (v := .tuple #[.agg #[.int .i64 (mkS s (focP n xs)), .slice p2 (mkL s (focP n xs)).length c2], .bool (mkOk s (focP n xs))]) (by simp [results, Try.results25, go_sem, s0, s1, s2, s3]) rfl ⟨_, by rw [hS.out, hO.out], ?_, ?_⟩
        · rw [hL.out]
          exact ((ho2.setBelow (by show w.heap.size + 1 < _; omega) _).setBelow (by show w.heap.size + 1 < _; omega) _).mono (by omega)
        · exact (((hbf.thenB hb).thenB hb3).setCell (by show _ ≤ w.heap.size + 1; omega) _).setCell (by show _ ≤ w.heap.size + 1; omega) _

end Go.Proofs.Ytolbbeiiohegpaa
