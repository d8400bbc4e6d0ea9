/- MeetLevels of both packages. -/
import Derived.Test.YtlkeakfopbdncaaL9b
set_option linter.unusedVariables false
set_option linter.unusedSimpArgs false
namespace Go.Proofs.Ytlkeakfopbdncaa
open Go.RowKit

/-- The lesser numbers of two lists before place k. -/
def minTo (xs ys : List Int) (k : Nat) : List Int := (List.range k).map fun x => min (nth xs x) (nth ys x)

theorem minTo_succ (xs ys : List Int) (k : Nat) : minTo xs ys (k + 1) = minTo xs ys k ++ [min (nth xs k) (nth ys k)] := by simp [minTo, List.range_succ]
theorem minTo_len (xs ys : List Int) (k : Nat) : (minTo xs ys k).length = k := by simp [minTo]

theorem min_if (a b : Int) : (if b < a then b else a) = min a b := by split <;> omega

theorem minTo_all (xs ys : List Int) (h : allB 0 1000000 xs = true) (h2 : allB 0 1000000 ys = true) (hl : xs.length = ys.length) : allB 0 1000000 (minTo xs ys xs.length) = true := by
  unfold allB
  rw [List.all_eq_true]
  intro z hz
  simp only [minTo, List.mem_map, List.mem_range] at hz
  obtain ⟨k, hk, rfl⟩ := hz
  have h3 := allB_nth h k hk
  have h4 := allB_nth h2 k (by omega)
  simp [inB]; omega

/-- The greatest level is not 0. -/
def topPos (zs : List Int) : Bool := decide (0 < topL zs)

theorem topPos_test (zs : List Int) : (topL zs == 0) = !topPos zs := by
  have := (le_foldl_max zs 0).1
  unfold topPos topL
  rw [Bool.eq_iff_iff]; simp; omega

/-- The lesser levels, or nothing where all are 0. -/
def meetTo (xs ys : List Int) : List Int := if topPos (minTo xs ys xs.length) = true then minTo xs ys xs.length else []

/-- Levels can be met. -/
def meetOk (xs ys : List Int) : Bool := lvB xs && (lvB ys && (decide (xs.length = ys.length) && (decide (topL xs = topL ys) && topPos (minTo xs ys xs.length))))

theorem iMeetLoop (a b : Option Addr) (c d : Nat) (xs ys : List Int) (w : World) (hx : Reads w a xs) (hy : Reads w b ys) (hk : LvOk xs) (hj : LvOk ys) (hl : xs.length = ys.length) (ht : topL xs = topL ys) (hB1 : lvB xs = true) (hB2 : lvB ys = true) :
    Calls Try.prog 10 #[.slice a xs.length c, .slice b ys.length d] w fun e w' => ∃ v, e = .returned (.tuple #[v, .bool (topPos (minTo xs ys xs.length))]) ∧ Own w.heap.size w' v (meetTo xs ys) ∧ Below w.heap.size w w' := by
  have hl1 := hk.l1
  have hl4 := hk.l4
  have hmx := mxL_topL xs hk.l1 (allB_nth hk.all 0 hk.l1).1
  have hmy := mxL_topL ys hj.l1 (allB_nth hj.all 0 hj.l1).1
  have hL : ((xs.length : Int) != (ys.length : Int)) = false := by simp [hl]
  have hT : (topL xs != topL ys) = false := by simp [ht]
  have HL := Lib.hid hl
  have HT := Lib.hid ht
  clear hl ht
  go_enter Try.func10, Try.ntmps10
  go_wp2_with fail
  refine (areLevels_any _ _ _ _ hx (by omega)).mono ?_
  rintro e w' ⟨rfl, rfl⟩
  go_wp2_with fail
  refine (areLevels_any _ _ _ _ hy (by have := hj.l4; omega)).mono ?_
  rintro e w' ⟨rfl, rfl⟩
  go_wp2_with fail
  refine (Max_any _ _ _ _ hx (by omega) hk.l1).mono ?_
  rintro e w' ⟨rfl, rfl⟩
  go_wp2_with fail
  refine (Max_any _ _ _ _ hy (by have := hj.l4; omega) hj.l1).mono ?_
  rintro e w' ⟨rfl, rfl⟩
  go_wp2_with fail
  have hb0 : Below w.heap.size w (w.alloc (.cells #[] 3)) := (Below.refl _ _).alloc (Nat.le_refl _) _
  go_loopw [6, 33] (fun v i wr => ∃ k : Nat, k ≤ xs.length ∧ i = .int .i64 k ∧ Own w.heap.size wr v (minTo xs ys k) ∧ Below w.heap.size w wr) (fun _ i _ => xs.length - (intOf i).toNat)
  case atStart => exact ⟨0, Nat.zero_le _, rfl, Own.made w _ (Nat.le_refl _), hb0⟩
  case round =>
    obtain ⟨k, hk0, rfl, ho, hb⟩ := hrel
    by_cases hlt : k < xs.length
    · obtain ⟨b1, off1, rfl, hbl1, hc1⟩ := hx k hlt
      obtain ⟨b2, off2, rfl, hbl2, hc2⟩ := hy k (by rw [← HL.out]; exact hlt)
      have hlt2 : k < ys.length := by rw [← HL.out]; exact hlt
      have hd1 := (hb.cell (p := ⟨b1, off1 + k, none⟩) hbl1).trans hc1
      have hd2 := (hb.cell (p := ⟨b2, off2 + k, none⟩) hbl2).trans hc2
      have hs := Lib.hid (minTo_succ xs ys k)
      have hln := minTo_len xs ys k
      have hsz := hb.size
      clear hx hy hB1 hB2 hmx hmy hL hT hb0 hc1 hc2
      go_wp2_with fail
      go_region_held3 (fun w' => w'.cell? ⟨b1, off1 + k, none⟩ = some (.int .i64 (nth xs k)) ∧ w'.cell? ⟨b2, off2 + k, none⟩ = some (.int .i64 (nth ys k)))
        (first | go_keep | (go_split_ands; refine ⟨?_, ?_⟩ <;> (rw [hba.cell (by assumption)]; assumption)))
        ((refine step_append1 _ (by rfl) _ _ (by rfl) w.heap.size _ _ (by rfl) (ho.later (by exact ((Below.refl _ _).alloc (Nat.le_refl _) _).drew)) ⟨wr.heap.size, 0, none⟩ 1 (if nth ys k < nth xs k then nth ys k else nth xs k) (by rfl) (by simp) (by omega) (by simp; omega) ?_; intro v1 w1 ho1 hba))
      go_wp2
      exact ⟨⟨k + 1, by omega, by go_num, by rw [hs.out, ← min_if]; exact ho1, (hb.trans (((Below.refl _ _).alloc hsz _).drew)).trans hba⟩, by simp [intOf]; omega⟩
    · have h1 : k = xs.length := by omega
      subst h1
      obtain ⟨a3, c3, rfl, hr3⟩ := ho.shape
      have hln := minTo_len xs ys xs.length
      have hal := minTo_all xs ys hk.all hj.all HL.out
      have hmz := mxL_topL (minTo xs ys xs.length) (by omega) (allB_nth hal 0 (by omega)).1
      have hHM := Lib.hid hmz
      have hHL := Lib.hid hln
      have h30 := hHL.out
      clear hx hy hB1 hB2 hmx hmy hL hT hb0 hmz hal hln
      have hB := topPos_test (minTo xs ys xs.length)
      cases ht0 : topPos (minTo xs ys xs.length)
      · rw [ht0] at hB
        have hF : Hid (topPos (minTo xs ys xs.length) = false) := Lib.hid ht0
        clear ht0 h30
        go_wp2_with fail
        refine (Max_any _ _ _ _ hr3 (by have := hHL.out; omega) (by have := hHL.out; omega)).mono ?_
        rintro e w' ⟨rfl, rfl⟩
        rw [hHM.out]
        go_wp2
        go_ret2
        exact ⟨.slice none 0 0, by rw [hF.out]; rfl, by rw [meetTo, hF.out]; exact Own.nil _ _, hb⟩
      · rw [ht0] at hB
        have hF : Hid (topPos (minTo xs ys xs.length) = true) := Lib.hid ht0
        clear ht0 h30
        go_wp2_with fail
        refine (Max_any _ _ _ _ hr3 (by have := hHL.out; omega) (by have := hHL.out; omega)).mono ?_
        rintro e w' ⟨rfl, rfl⟩
        rw [hHM.out]
        go_wp2
        go_ret2
        exact ⟨_, by rw [hF.out]; rfl, by rw [meetTo, hF.out]; exact ho, hb⟩


theorem sMeetLoop (a b : Option Addr) (c d : Nat) (xs ys : List Int) (w : World) (hx : Reads w a xs) (hy : Reads w b ys) (hk : LvOk xs) (hj : LvOk ys) (hl : xs.length = ys.length) (ht : topL xs = topL ys) (hB1 : lvB xs = true) (hB2 : lvB ys = true) :
    Calls Try.prog 11 #[.slice a xs.length c, .slice b ys.length d] w fun e w' => ∃ v, e = .returned (.tuple #[v, .bool (topPos (minTo xs ys xs.length))]) ∧ Own w.heap.size w' v (meetTo xs ys) ∧ Below w.heap.size w w' := by
  have hl1 := hk.l1
  have hl4 := hk.l4
  have hb0 : Below w.heap.size w (w.alloc (.cells #[] 3)) := (Below.refl _ _).alloc (Nat.le_refl _) _
  have hx0 := hx.below hb0
  have hy0 := hy.below hb0
  have hL : ((xs.length : Int) != (ys.length : Int)) = false := by simp [hl]
  have hT : (topL xs != topL ys) = false := by simp [ht]
  have HL := Lib.hid hl
  have HT := Lib.hid ht
  clear hl ht
  go_enter Try.func11, Try.ntmps11
  go_wp2_with fail
  refine (sLevelsValid_any _ _ _ _ hx0 (by omega)).mono ?_
  rintro e w' ⟨rfl, rfl⟩
  go_wp2_with fail
  refine (sLevelsValid_any _ _ _ _ hy0 (by have := hj.l4; omega)).mono ?_
  rintro e w' ⟨rfl, rfl⟩
  go_wp2_with fail
  refine (l9Top_any _ _ _ _ hx0 (by omega)).mono ?_
  rintro e w' ⟨rfl, rfl⟩
  go_wp2_with fail
  refine (l9Top_any _ _ _ _ hy0 (by have := hj.l4; omega)).mono ?_
  rintro e w' ⟨rfl, rfl⟩
  go_wp2_with fail
  go_loopw [6, 7] (fun v i wr => ∃ k : Nat, k ≤ xs.length ∧ i = .int .i64 k ∧ Own w.heap.size wr v (minTo xs ys k) ∧ Below w.heap.size w wr) (fun _ i _ => xs.length - (intOf i).toNat)
  case atStart => exact ⟨0, Nat.zero_le _, rfl, Own.made w _ (Nat.le_refl _), hb0⟩
  case round =>
    obtain ⟨k, hk0, rfl, ho, hb⟩ := hrel
    by_cases hlt : k < xs.length
    · obtain ⟨b1, off1, rfl, hbl1, hc1⟩ := hx k hlt
      obtain ⟨b2, off2, rfl, hbl2, hc2⟩ := hy k (by rw [← HL.out]; exact hlt)
      have hlt2 : k < ys.length := by rw [← HL.out]; exact hlt
      have hd1 := (hb.cell (p := ⟨b1, off1 + k, none⟩) hbl1).trans hc1
      have hd2 := (hb.cell (p := ⟨b2, off2 + k, none⟩) hbl2).trans hc2
      have hs := Lib.hid (minTo_succ xs ys k)
      have hln := minTo_len xs ys k
      have hsz := hb.size
      clear hx hy hx0 hy0 hB1 hB2 hL hT hb0 hc1 hc2
      go_wp2_with fail
      go_region_held3 (fun w' => w'.cell? ⟨b1, off1 + k, none⟩ = some (.int .i64 (nth xs k)) ∧ w'.cell? ⟨b2, off2 + k, none⟩ = some (.int .i64 (nth ys k)))
        (first | go_keep | (go_split_ands; refine ⟨?_, ?_⟩ <;> (rw [hba.cell (by assumption)]; assumption)))
        ((refine step_append1 _ (by rfl) _ _ (by rfl) w.heap.size _ _ (by rfl) (ho.later (by exact ((Below.refl _ _).alloc (Nat.le_refl _) _).drew)) ⟨wr.heap.size, 0, none⟩ 1 (if nth ys k < nth xs k then nth ys k else nth xs k) (by rfl) (by simp) (by omega) (by simp; omega) ?_; intro v1 w1 ho1 hba))
      go_wp2
      exact ⟨⟨k + 1, by omega, by go_num, by rw [hs.out, ← min_if]; exact ho1, (hb.trans (((Below.refl _ _).alloc hsz _).drew)).trans hba⟩, by simp [intOf]; omega⟩
    · have h1 : k = xs.length := by omega
      subst h1
      obtain ⟨a3, c3, rfl, hr3⟩ := ho.shape
      have hln := minTo_len xs ys xs.length
      have hal := minTo_all xs ys hk.all hj.all HL.out
      have hHL := Lib.hid hln
      have h30 := hHL.out
      clear hx hy hx0 hy0 hB1 hB2 hL hT hb0 hal hln
      have hB := topPos_test (minTo xs ys xs.length)
      cases ht0 : topPos (minTo xs ys xs.length)
      · rw [ht0] at hB
        have hF : Hid (topPos (minTo xs ys xs.length) = false) := Lib.hid ht0
        clear ht0 h30
        go_wp2_with fail
        refine (l9Top_any _ _ _ _ hr3 (by have := hHL.out; omega)).mono ?_
        rintro e w' ⟨rfl, rfl⟩
        go_wp2
        go_ret2
        exact ⟨.slice (some ⟨wr.heap.size, 0, none⟩) 0 0, by rw [hF.out]; rfl, by rw [meetTo, hF.out]; exact Own.made _ _ hb.size, hb.alloc hb.size _⟩
      · rw [ht0] at hB
        have hF : Hid (topPos (minTo xs ys xs.length) = true) := Lib.hid ht0
        clear ht0 h30
        go_wp2_with fail
        refine (l9Top_any _ _ _ _ hr3 (by have := hHL.out; omega)).mono ?_
        rintro e w' ⟨rfl, rfl⟩
        go_wp2
        go_ret2
        exact ⟨_, by rw [hF.out]; rfl, by rw [meetTo, hF.out]; exact ho, hb⟩


/-- What MeetLevels returns. -/
def meetL (xs ys : List Int) : List Int := if meetOk xs ys = true then minTo xs ys xs.length else []

theorem meetOk_to {xs ys : List Int} (h1 : lvB xs = true) (h2 : lvB ys = true) (h3 : xs.length = ys.length) (h4 : topL xs = topL ys) : meetOk xs ys = topPos (minTo xs ys xs.length) ∧ meetL xs ys = meetTo xs ys := by
  have e : meetOk xs ys = topPos (minTo xs ys xs.length) := by simp [meetOk, h1, h2, h3, h4]
  exact ⟨e, by simp [meetL, meetTo, e]⟩

theorem meetOk_no {xs ys : List Int} (h : meetOk xs ys = false) : meetL xs ys = [] := by simp [meetL, h]

theorem iMeetLevels_any (a b : Option Addr) (c d : Nat) (xs ys : List Int) (w : World) (hx : Reads w a xs) (hy : Reads w b ys) (hxm : xs.length ≤ 1048576) (hym : ys.length ≤ 1048576) :
    Calls Try.prog 10 #[.slice a xs.length c, .slice b ys.length d] w fun e w' => ∃ v, e = .returned (.tuple #[v, .bool (meetOk xs ys)]) ∧ Own w.heap.size w' v (meetL xs ys) ∧ Below w.heap.size w w' := by
  cases h1 : lvB xs
  · have hf : meetOk xs ys = false := by simp [meetOk, h1]
    rw [meetOk_no hf, hf]
    clear hf
    go_enter Try.func10, Try.ntmps10
    go_wp2_with fail
    refine (areLevels_any _ _ _ _ hx hxm).mono ?_
    rintro e w' ⟨rfl, rfl⟩
    go_wp2
    go_ret2
    exact ⟨_, rfl, Own.nil _ _, Below.refl _ _⟩
  · cases h2 : lvB ys
    · have hf : meetOk xs ys = false := by simp [meetOk, h2]
      rw [meetOk_no hf, hf]
      clear hf
      go_enter Try.func10, Try.ntmps10
      go_wp2_with fail
      refine (areLevels_any _ _ _ _ hx hxm).mono ?_
      rintro e w' ⟨rfl, rfl⟩
      go_wp2_with fail
      refine (areLevels_any _ _ _ _ hy hym).mono ?_
      rintro e w' ⟨rfl, rfl⟩
      go_wp2
      go_ret2
      exact ⟨_, rfl, Own.nil _ _, Below.refl _ _⟩
    · have hk := lvB_ok h1
      have hj := lvB_ok h2
      by_cases h3 : xs.length = ys.length
      · by_cases h4 : topL xs = topL ys
        · have h5 := meetOk_to h1 h2 h3 h4
          rw [h5.1, h5.2]
          exact iMeetLoop _ _ _ _ _ _ _ hx hy hk hj h3 h4 h1 h2
        · have hf : meetOk xs ys = false := by simp [meetOk, h4]
          rw [meetOk_no hf, hf]
          have hmx := mxL_topL xs hk.l1 (allB_nth hk.all 0 hk.l1).1
          have hmy := mxL_topL ys hj.l1 (allB_nth hj.all 0 hj.l1).1
          have hL : ((xs.length : Int) != (ys.length : Int)) = false := by simp [h3]
          have hT : (topL xs != topL ys) = true := bne_iff_ne.2 h4
          clear hf h3 h4
          go_enter Try.func10, Try.ntmps10
          go_wp2_with fail
          refine (areLevels_any _ _ _ _ hx hxm).mono ?_
          rintro e w' ⟨rfl, rfl⟩
          go_wp2_with fail
          refine (areLevels_any _ _ _ _ hy hym).mono ?_
          rintro e w' ⟨rfl, rfl⟩
          go_wp2_with fail
          refine (Max_any _ _ _ _ hx hxm hk.l1).mono ?_
          rintro e w' ⟨rfl, rfl⟩
          go_wp2_with fail
          refine (Max_any _ _ _ _ hy hym hj.l1).mono ?_
          rintro e w' ⟨rfl, rfl⟩
          go_wp2
          go_ret2
          exact ⟨_, rfl, Own.nil _ _, Below.refl _ _⟩
      · have hf : meetOk xs ys = false := by simp [meetOk, h3]
        rw [meetOk_no hf, hf]
        have hL : ((xs.length : Int) != (ys.length : Int)) = true := by rw [bne_iff_ne]; omega
        clear hf h3
        go_enter Try.func10, Try.ntmps10
        go_wp2_with fail
        refine (areLevels_any _ _ _ _ hx hxm).mono ?_
        rintro e w' ⟨rfl, rfl⟩
        go_wp2_with fail
        refine (areLevels_any _ _ _ _ hy hym).mono ?_
        rintro e w' ⟨rfl, rfl⟩
        go_wp2
        go_ret2
        exact ⟨_, rfl, Own.nil _ _, Below.refl _ _⟩

theorem sMeetLevels_any (a b : Option Addr) (c d : Nat) (xs ys : List Int) (w : World) (hx : Reads w a xs) (hy : Reads w b ys) (hxm : xs.length ≤ 1048576) (hym : ys.length ≤ 1048576) :
    Calls Try.prog 11 #[.slice a xs.length c, .slice b ys.length d] w fun e w' => ∃ v, e = .returned (.tuple #[v, .bool (meetOk xs ys)]) ∧ Own w.heap.size w' v (meetL xs ys) ∧ Below w.heap.size w w' := by
  have hb0 : Below w.heap.size w (w.alloc (.cells #[] 3)) := (Below.refl _ _).alloc (Nat.le_refl _) _
  have hx0 := hx.below hb0
  have hy0 := hy.below hb0
  cases h1 : lvB xs
  · have hf : meetOk xs ys = false := by simp [meetOk, h1]
    rw [meetOk_no hf, hf]
    clear hf
    go_enter Try.func11, Try.ntmps11
    go_wp2_with fail
    refine (sLevelsValid_any _ _ _ _ hx0 hxm).mono ?_
    rintro e w' ⟨rfl, rfl⟩
    go_wp2
    go_ret2
    exact ⟨_, rfl, Own.made w _ (Nat.le_refl _), hb0⟩
  · cases h2 : lvB ys
    · have hf : meetOk xs ys = false := by simp [meetOk, h2]
      rw [meetOk_no hf, hf]
      clear hf
      go_enter Try.func11, Try.ntmps11
      go_wp2_with fail
      refine (sLevelsValid_any _ _ _ _ hx0 hxm).mono ?_
      rintro e w' ⟨rfl, rfl⟩
      go_wp2_with fail
      refine (sLevelsValid_any _ _ _ _ hy0 hym).mono ?_
      rintro e w' ⟨rfl, rfl⟩
      go_wp2
      go_ret2
      exact ⟨_, rfl, Own.made w _ (Nat.le_refl _), hb0⟩
    · have hk := lvB_ok h1
      have hj := lvB_ok h2
      by_cases h3 : xs.length = ys.length
      · by_cases h4 : topL xs = topL ys
        · have h5 := meetOk_to h1 h2 h3 h4
          rw [h5.1, h5.2]
          exact sMeetLoop _ _ _ _ _ _ _ hx hy hk hj h3 h4 h1 h2
        · have hf : meetOk xs ys = false := by simp [meetOk, h4]
          rw [meetOk_no hf, hf]
          have hL : ((xs.length : Int) != (ys.length : Int)) = false := by simp [h3]
          have hT : (topL xs != topL ys) = true := bne_iff_ne.2 h4
          clear hf h3 h4
          go_enter Try.func11, Try.ntmps11
          go_wp2_with fail
          refine (sLevelsValid_any _ _ _ _ hx0 hxm).mono ?_
          rintro e w' ⟨rfl, rfl⟩
          go_wp2_with fail
          refine (sLevelsValid_any _ _ _ _ hy0 hym).mono ?_
          rintro e w' ⟨rfl, rfl⟩
          go_wp2_with fail
          refine (l9Top_any _ _ _ _ hx0 hxm).mono ?_
          rintro e w' ⟨rfl, rfl⟩
          go_wp2_with fail
          refine (l9Top_any _ _ _ _ hy0 hym).mono ?_
          rintro e w' ⟨rfl, rfl⟩
          go_wp2
          go_ret2
          exact ⟨_, rfl, Own.made w _ (Nat.le_refl _), hb0⟩
      · have hf : meetOk xs ys = false := by simp [meetOk, h3]
        rw [meetOk_no hf, hf]
        have hL : ((xs.length : Int) != (ys.length : Int)) = true := by rw [bne_iff_ne]; omega
        clear hf h3
        go_enter Try.func11, Try.ntmps11
        go_wp2_with fail
        refine (sLevelsValid_any _ _ _ _ hx0 hxm).mono ?_
        rintro e w' ⟨rfl, rfl⟩
        go_wp2_with fail
        refine (sLevelsValid_any _ _ _ _ hy0 hym).mono ?_
        rintro e w' ⟨rfl, rfl⟩
        go_wp2
        go_ret2
        exact ⟨_, rfl, Own.made w _ (Nat.le_refl _), hb0⟩

theorem meetL_len (xs ys : List Int) : (meetL xs ys).length ≤ xs.length := by
  unfold meetL; split <;> simp [minTo_len]

end Go.Proofs.Ytlkeakfopbdncaa
