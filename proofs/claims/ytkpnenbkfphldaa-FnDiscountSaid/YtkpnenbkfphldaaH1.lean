/- Focal sets, chances: both packages. -/
import Derived.Test.YtkpnenbkfphldaaC7
set_option linter.unusedVariables false
set_option linter.unusedSimpArgs false
namespace Go.Proofs.Ytkpnenbkfphldaa
open Go.RowKit

/-- The number of the answers of a set. -/
def pop (a : Nat) : Nat := (a.testBit 0).toNat + (a.testBit 1).toNat + (a.testBit 2).toNat + (a.testBit 3).toNat

theorem count_bits : ∀ a : Fin 16, bits BinOp.and IntKind.i64 (a.val : Int) 1 = ((a.val % 2 : Nat) : Int) ∧ pop a.val = a.val % 2 + pop (a.val / 2) ∧ pop a.val ≤ 4 ∧ (pop a.val = 0 → a.val = 0) := by decide +kernel

theorem pop_le (a : Nat) (h : a < 16) : pop a ≤ 4 := (count_bits ⟨a, h⟩).2.2.1

def focL (xs : List Int) (k : Nat) : List Int := ((List.range k).filter fun a => nth xs a != 0).map fun a => ((a : Nat) : Int)

theorem focL_yes {xs : List Int} {k : Nat} (h : nth xs k ≠ 0) : focL xs (k + 1) = focL xs k ++ [(k : Int)] := by
  simp [focL, List.range_succ, List.filter_append, h]

theorem focL_no {xs : List Int} {k : Nat} (h : nth xs k = 0) : focL xs (k + 1) = focL xs k := by
  simp [focL, List.range_succ, List.filter_append, h]

theorem focL_len (xs : List Int) (k : Nat) : (focL xs k).length ≤ k := by
  have := List.length_filter_le (fun a => nth xs a != 0) (List.range k)
  simpa [focL] using this

theorem focL_mem {xs : List Int} {k : Nat} {x : Int} (h : x ∈ focL xs k) : ∃ a : Nat, x = a ∧ a < k ∧ nth xs a ≠ 0 := by
  simp [focL] at h
  obtain ⟨a, ⟨h1, h2⟩, rfl⟩ := h
  exact ⟨a, rfl, h1, h2⟩

theorem focL_at (xs : List Int) (k i : Nat) (h : i < (focL xs k).length) : ∃ a : Nat, nth (focL xs k) i = a ∧ a < k ∧ nth xs a ≠ 0 :=
  focL_mem (by rw [nth_eq _ _ h]; exact List.getElem_mem h)

/-- A set of one answer. -/
def single (a : Nat) : Bool := pop a == 1

theorem single_bits : ∀ a : Fin 16, a.val ≠ 0 → (bits BinOp.and IntKind.i64 (a.val : Int) ((a.val : Int) - 1) != 0) = !single a.val := by decide +kernel

def chTo (xs : List Int) (k : Nat) : Bool := (List.range k).all fun a => nth xs a == 0 || single a

theorem chTo_succ (xs : List Int) (k : Nat) : chTo xs (k + 1) = (chTo xs k && (nth xs k == 0 || single k)) := by simp [chTo, List.range_succ]

theorem chTo_false {xs : List Int} {a k : Nat} (h : a < k) (h0 : nth xs a ≠ 0) (h1 : single a = false) : chTo xs k = false := by
  cases e : chTo xs k
  · rfl
  · unfold chTo at e
    rw [List.all_eq_true] at e
    have := e a (List.mem_range.mpr h)
    simp [h0, h1] at this

theorem chTo_foc {xs : List Int} {k : Nat} (h : ∀ j, j < (focL xs k).length → single (nth (focL xs k) j).toNat = true) : chTo xs k = true := by
  unfold chTo
  rw [List.all_eq_true]
  intro a ha
  rw [List.mem_range] at ha
  by_cases h0 : nth xs a = 0
  · simp [h0]
  · have hm : (a : Int) ∈ focL xs k := by
      simp only [focL, List.mem_map, List.mem_filter, List.mem_range]
      exact ⟨a, ⟨ha, by simpa using h0⟩, rfl⟩
    obtain ⟨j, hj, e⟩ := List.getElem_of_mem hm
    have := h j hj
    rw [nth_eq _ _ hj, e] at this
    simpa [h0] using this

def chB (s : Int) (xs : List Int) : Bool := massB s xs && chTo xs xs.length

set_option maxHeartbeats 1000000 in
theorem focalSets_any (s : Int) (p : Option Addr) (c : Nat) (xs : List Int) (w : World) (hx : Reads w p xs) (hxm : xs.length ≤ 16) :
    Calls Try.prog 102 #[.agg #[.int .i64 s, .slice p xs.length c]] w fun e w' => ∃ v, e = .returned v ∧ Own w.heap.size w' v (focL xs xs.length) ∧ Below w.heap.size w w' := by
  obtain ⟨W, hW, hbW, hsz, c0, c1⟩ := box1 w s p xs.length c
  have HW := Lib.hid hW
  have HSZ := Lib.hid hsz
  have hxW := hx.below hbW
  clear hW hsz hx
  go_enter Try.func102, Try.ntmps102
  go_wp2_with fail
  rw [← HW.out]
  have hb0 : Below W.heap.size W (W.alloc (.cells #[] 3)) := (Below.refl _ _).alloc (Nat.le_refl _) _
  have hcb := bcell hb0
  have hl0 : w.heap.size < W.heap.size := by have := HSZ.out; omega
  go_wp2_with fail
  go_loopw [3, 10] (fun v i wr => ∃ k : Nat, k ≤ xs.length ∧ i = .int .i64 k ∧ Own (w.heap.size + 1) wr v (focL xs k) ∧ Below W.heap.size W wr) (fun _ i _ => xs.length - (intOf i).toNat)
  case atStart => exact ⟨0, Nat.zero_le _, rfl, by have h := Own.made W (w.heap.size + 1) (by have := HSZ.out; omega); rw [HSZ.out] at h; exact h, hb0⟩
  case round =>
    obtain ⟨k, hk0, rfl, ho, hb⟩ := hrel
    by_cases hlt : k < xs.length
    · obtain ⟨b1, off1, rfl, hbl1, hc1⟩ := hxW k hlt
      have hd1 := (hb.cell (p := ⟨b1, off1 + k, none⟩) hbl1).trans hc1
      have hln := focL_len xs k
      have hsz := hb.size
      clear hxW hb0 hc1 hcb c0 c1
      by_cases hz : nth xs k = 0
      · have HN := Lib.hid (focL_no hz)
        replace hz : (nth xs k != 0) = false := by simp [hz]
        go_wp2
        exact ⟨⟨k + 1, by omega, by go_num, by rw [HN.out]; exact ho, hb⟩, by simp [intOf]; omega⟩
      · have HY := Lib.hid (focL_yes hz)
        replace hz : (nth xs k != 0) = true := by simp [hz]
        go_wp2_with (at_builtin; refine wpList_append1 _ rfl _ _ rfl (w.heap.size + 1) _ _ rfl (ho.later (belowAlloc _ _)) ⟨wr.heap.size, 0, none⟩ 1 (k : Int) rfl (newCell _ _ _) (by omega) (by have := HSZ.out; simp; omega) ?_; intro v1 w1 ho1 hba)
        exact ⟨⟨k + 1, by omega, by go_num, by rw [HY.out]; exact ho1, (hb.trans ((belowAlloc _ _).mono hsz)).trans (hba.mono (by have := HSZ.out; omega))⟩, by simp [intOf]; omega⟩
    · have h1 : k = xs.length := by omega
      subst h1
      clear hxW hb0 hcb c0 c1
      go_wp2
      go_ret
      exact ⟨_, rfl, ho.mono (by omega), hbW.thenB hb⟩

set_option maxHeartbeats 1000000 in
theorem isChance_any (s : Int) (p : Option Addr) (c : Nat) (xs : List Int) (w : World) (hx : Reads w p xs) (hxm : xs.length ≤ 1048576) :
    Calls Try.prog 105 #[.agg #[.int .i64 s, .slice p xs.length c]] w fun e w' => e = .returned (.bool (chB s xs)) ∧ Below w.heap.size w w' := by
  obtain ⟨W, hW, hbW, hsz, c0, c1⟩ := box1 w s p xs.length c
  have HW := Lib.hid hW
  have HSZ := Lib.hid hsz
  have hxW := hx.below hbW
  clear hW hsz hx
  cases h1 : massB s xs
  · have hr : Hid (chB s xs = false) := Lib.hid (by simp [chB, h1])
    go_enter Try.func105, Try.ntmps105
    go_wp2_with fail
    rw [← HW.out]
    refine (isMass_any _ _ _ _ _ hxW hxm).mono ?_
    rintro e w1 ⟨rfl, hb1⟩
    go_wp2
    go_ret
    exact ⟨ret_bool hr.out.symm, hbW.thenB hb1⟩
  · have hr : Hid (chB s xs = chTo xs xs.length) := Lib.hid (by simp [chB, h1])
    have hl16 := (massB_ok h1).l16
    go_enter Try.func105, Try.ntmps105
    go_wp2_with fail
    rw [← HW.out]
    refine (isMass_any _ _ _ _ _ hxW hxm).mono ?_
    rintro e w1 ⟨rfl, hb1⟩
    have d0 := cellKeep hb1 c0
    have d1 := cellKeep hb1 c1
    have hx1 := hxW.below hb1
    clear c0 c1
    go_wp2_with fail
    refine (focalSets_any _ _ _ _ _ hx1 hl16).mono ?_
    rintro e w2 ⟨v, rfl, ho, hb2⟩
    obtain ⟨p2, c2, rfl, hr2⟩ := ho.shape
    have hbf := (hbW.thenB hb1).thenB hb2
    have hln := focL_len xs xs.length
    clear d0 d1 hx1 hb1 hb2 hxW hbW ho
    go_wp2_with fail
    go_loop [11] (fun i => ∃ k : Nat, k ≤ (focL xs xs.length).length ∧ i = .int .i64 k ∧ ∀ j, j < k → single (nth (focL xs xs.length) j).toNat = true) (fun i => (focL xs xs.length).length - (intOf i).toNat)
    case atStart => exact ⟨0, Nat.zero_le _, rfl, fun j hj => absurd hj (by omega)⟩
    case round =>
      obtain ⟨k, hk, rfl, hall⟩ := hrel
      have HA := Lib.hid hall
      clear hall
      by_cases hlt : k < (focL xs xs.length).length
      · obtain ⟨b, off, rfl, hbl, hc⟩ := hr2 k hlt
        obtain ⟨a, ha, ha1, ha2⟩ := focL_at xs xs.length k hlt
        rw [ha] at hc
        have HE := Lib.hid ha
        have ha16 : a < 16 := by omega
        clear hr2 ha
        by_cases hz : a = 0
        · subst hz
          have hF := Lib.hid (chTo_false (k := xs.length) ha1 ha2 (by decide))
          have hc2 : w2.cell? ⟨b, off + k, none⟩ = some (.int .i64 0) := by simpa using hc
          clear hc ha2
          go_wp2
          go_ret
          exact ⟨ret_bool (by rw [hr.out, hF.out]), hbf⟩
        · have hs := single_bits ⟨a, ha16⟩ hz
          dsimp only at hs
          have hz2 : ((a : Int) == 0) = false := by simp [hz]
          by_cases h2 : single a = true
          · rw [h2] at hs
            have H2 := Lib.hid h2
            clear h2 ha2
            go_wp2
            exact ⟨⟨k + 1, by omega, by go_num, fun j hj => by
              by_cases e : j = k
              · subst e; rw [HE.out, Int.toNat_natCast]; exact H2.out
              · exact HA.out j (by omega)⟩, by simp [intOf]; omega⟩
          · replace h2 : single a = false := by simpa using h2
            have hF := Lib.hid (chTo_false (k := xs.length) ha1 ha2 h2)
            rw [h2] at hs
            clear h2 ha2
            go_wp2
            go_ret
            exact ⟨ret_bool (by rw [hr.out, hF.out]), hbf⟩
      · have h2 : k = (focL xs xs.length).length := by omega
        have hT : Hid (chTo xs xs.length = true) := Lib.hid (chTo_foc (by rw [← h2]; exact HA.out))
        subst h2
        clear hr2
        go_wp2
        go_ret
        exact ⟨ret_bool (by rw [hr.out, hT.out]), hbf⟩

end Go.Proofs.Ytkpnenbkfphldaa
