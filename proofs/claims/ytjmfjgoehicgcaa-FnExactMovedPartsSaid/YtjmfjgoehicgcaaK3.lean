/- Masses in lowest terms: makeMass and l3Made. -/
import Derived.Test.YtjmfjgoehicgcaaM3
import Derived.Deep.RegionLaw
set_option linter.unusedVariables false
set_option linter.unusedSimpArgs false
namespace Go.Proofs.Ytjmfjgoehicgcaa
open Go.RowKit

/-- The quotients of numbers before k. -/
def quoTo (ps : List Int) (k : Nat) : List Int := (List.range k).map fun x => nth ps x / (gcdL ps : Int)
theorem quoTo_succ (ps : List Int) (k : Nat) : quoTo ps (k + 1) = quoTo ps k ++ [nth ps k / (gcdL ps : Int)] := by simp [quoTo, List.range_succ]
theorem quo_wrap (x : Int) (g : Nat) (h1 : 0 ≤ x) (h2 : x ≤ 4611686018427387904) (h3 : 0 < g) : IntKind.i64.wrap (x.tdiv (g : Int)) = x / (g : Int) := by
  rw [Int.tdiv_eq_ediv_of_nonneg h1]
  have h4 : 0 ≤ x / (g : Int) := Int.ediv_nonneg h1 (by omega)
  have h5 : x / (g : Int) ≤ x := Int.ediv_le_self _ h1
  exact IntWalk.i64_in _ (by omega)

theorem quoTo_len (ps : List Int) (k : Nat) : (quoTo ps k).length = k := by simp [quoTo]

/-- Parts in lowest terms make a mass. -/
def mkOk (s : Int) (ps : List Int) : Bool := !decide (gcdL ps = 0) && massB s (quoTo ps ps.length)
def mkS (s : Int) (ps : List Int) : Int := if mkOk s ps = true then s else 0
def mkL (s : Int) (ps : List Int) : List Int := if mkOk s ps = true then quoTo ps ps.length else []

theorem mkL_len (s : Int) (ps : List Int) : (mkL s ps).length ≤ ps.length := by unfold mkL; split <;> simp [quoTo_len]

set_option maxHeartbeats 1000000 in
theorem makeMass_any (s : Int) (a : Option Addr) (c : Nat) (ps : List Int) (w : World) (hx : Reads w a ps) (hxm : ps.length ≤ 1048576) (hr : allB 0 4611686018427387904 ps = true) :
    Calls Try.prog 71 #[.int .i64 s, .slice a ps.length c] w fun e w' => ∃ v, e = .returned (.tuple #[.agg #[.int .i64 (mkS s ps), v], .bool (mkOk s ps)]) ∧ Own w.heap.size w' v (mkL s ps) ∧ Below w.heap.size w w' := by
  have hb0 := belowAlloc w (.cells #[.int .i64 0, .slice none 0 0] 27)
  have hx0 := hx.below hb0
  have HR := Lib.hid hr
  have HW := Lib.hid (allB_wider hr (low' := -4611686018427387904) (high' := 4611686018427387904) (by omega) (by omega))
  clear hr
  by_cases hg : gcdL ps = 0
  · have hz : (((gcdL ps : Nat) : Int) == 0) = true := by simp [hg]
    have hok : Hid (mkOk s ps = false) := Lib.hid (by simp [mkOk, hg])
    clear hg
    go_enter Try.func71, Try.ntmps71
    go_wp2_with fail
    refine (divisorOf_any _ _ _ _ hx0 hxm HW.out).mono ?_
    rintro e w1 ⟨rfl, n, rfl⟩
    go_wp2
    refine bodyPost_ret (v := .tuple #[.agg #[.int .i64 0, .slice none 0 0], .bool false]) (by simp [results, Try.results71, go_sem]) rfl ⟨.slice none 0 0, by rw [mkS, hok.out]; rfl, by rw [mkL, hok.out]; exact Own.nil _ _, ?_⟩
    exact ((below_drewN hb0 _).setCell (Nat.le_refl _) _).setCell (Nat.le_refl _) _
  · have hz : (((gcdL ps : Nat) : Int) == 0) = false := by rw [beq_eq_false_iff_ne]; omega
    have hd1 : (1 : Int) ≤ ((gcdL ps : Nat) : Int) := by omega
    have hd2 : ((gcdL ps : Nat) : Int) ≤ 4611686018427387904 := by have := gcdL_le ps HW.out; omega
    have hz2 : ¬ ((gcdL ps : Nat) : Int) = 0 := by omega
    have HG := Lib.hid hg
    clear hg
    go_enter Try.func71, Try.ntmps71
    go_wp2_with fail
    refine (divisorOf_any _ _ _ _ hx0 hxm HW.out).mono ?_
    rintro e w1 ⟨rfl, n, rfl⟩
    obtain ⟨W, hW⟩ : ∃ W : World, W = (((w.alloc (.cells #[.int .i64 0, .slice none 0 0] 27)).drewN n).alloc (.cells #[.int .i64 s, .slice none 0 0] 27)) := ⟨_, rfl⟩
    have hbW : Below w.heap.size w W := by subst hW; exact (below_drewN hb0 _).alloc (by simp) _
    have hsz : W.heap.size = w.heap.size + 2 := by subst hW; simp
    have hR : VarInv W w.heap.size 0 (.slice none 0 0) := by subst hW; exact ((VarInv.made w _ _ _).drewN n).later (belowAlloc _ _)
    have hM : VarInv W (w.heap.size + 1) s (.slice none 0 0) := by
      subst hW
      have h := VarInv.made ((w.alloc (.cells #[.int .i64 0, .slice none 0 0] 27)).drewN n) s (.slice none 0 0) 27
      rw [show ((w.alloc (.cells #[.int .i64 0, .slice none 0 0] 27)).drewN n).heap.size = w.heap.size + 1 by simp] at h
      exact h
    have HWW := Lib.hid hW
    have HSZ := Lib.hid hsz
    clear hW hsz hb0 hx0
    go_wp2
    rw [← HWW.out]
    go_loopw [19] (fun i wr => ∃ (k : Nat) (v : Value), k ≤ ps.length ∧ i = .int .i64 k ∧ VarInv wr w.heap.size 0 (.slice none 0 0) ∧ VarInv wr (w.heap.size + 1) s v ∧ Own (w.heap.size + 2) wr v (quoTo ps k) ∧ Below w.heap.size w wr ∧ Below (w.heap.size + 1) W wr) (fun i _ => ps.length - (intOf i).toNat)
    case atStart => exact ⟨0, .slice none 0 0, Nat.zero_le _, rfl, hR, hM, Own.nil _ _, hbW, Below.refl _ _⟩
    case round =>
      obtain ⟨k, v, hk, rfl, iR, iM, ho, hb, hbw⟩ := hrel
      by_cases hlt : k < ps.length
      · have hwsz : w.heap.size + 2 ≤ wr.heap.size := by have := iM.lt; omega
        have hs := Lib.hid (quoTo_succ ps k)
        have hln := quoTo_len ps k
        have hn := allB_nth HR.out k hlt
        obtain ⟨hn1, hn2⟩ := hn
        obtain ⟨b, off, rfl, hbl, hc0⟩ := hx k hlt
        have hc := (hb.cell (p := ⟨b, off + k, none⟩) hbl).trans hc0
        have hg0 := HG.out
        have hlt1 : w.heap.size + 1 < wr.heap.size := by omega
        have hq := quo_wrap (nth ps k) (gcdL ps) hn1 hn2 (by omega)
        have r1 := iM.c1
        have r2 := iM.f1
        clear hx hc0
        go_wp2_with fail
        go_region_law ((refine step_append1 _ (by rfl) _ _ (by rfl) (w.heap.size + 2) _ _ (by rfl) (ho.later (by exact ((Below.refl _ _).alloc (Nat.le_refl _) _).drew)) ⟨wr.heap.size, 0, none⟩ 1 (nth ps k / (gcdL ps : Int)) (by rfl) (by simp) (by omega) (by simp; omega) ?_; intro v1 w1 ho1 hba; obtain ⟨p1, k1, rfl, _hr⟩ := ho1.shape; clear _hr; have iM1 := (iM.later (((Below.refl _ _).alloc (Nat.le_refl _) _).drew)).keep hba (by omega); have q1 := iM1.c1; have q2 := iM1.f1))
        all_goals go_wp2
        all_goals
          have iW : Below wr.heap.size wr (wr.alloc (.cells #[.int .i64 (nth ps k / (gcdL ps : Int))] 3)).drew := ((Below.refl _ _).alloc (Nat.le_refl _) _).drew
          have iR1 := (iR.later iW).keep hba (by omega)
          have e1 : (quoTo ps k ++ [nth ps k / (gcdL ps : Int)]).length = k + 1 := by simp [quoTo_len]
          rw [e1, ← hs.out] at ho1
          have bA := (hb.trans (iW.mono (by omega))).trans (hba.mono (by omega))
          have bB := (hbw.trans (iW.mono (by omega))).trans (hba.mono (by omega))
          exact ⟨⟨k + 1, .slice p1 (k + 1) k1, by omega, by go_num, iR1.other _ (by simp) _, iM1.store _, ho1.setBelow (by show w.heap.size + 1 < _; omega) _, bA.setCell (by show _ ≤ w.heap.size + 1; omega) _, bB.setCell (Nat.le_refl _) _⟩, by simp [intOf]; omega⟩
      · have h1 : k = ps.length := by omega
        subst h1
        obtain ⟨p1, k1, rfl, hr1⟩ := ho.shape
        have hln := quoTo_len ps ps.length
        have r1 := iM.c0
        have r2 := iM.c1
        have hwsz : w.heap.size + 2 ≤ wr.heap.size := by have := hbw.size; have := HSZ.out; omega
        clear hx
        cases hv : massB s (quoTo ps ps.length)
        · have hok : Hid (mkOk s ps = false) := Lib.hid (by simp [mkOk, hv])
          go_wp2_with fail
          rw [← hln]
          refine (isMass_any _ _ _ _ _ hr1 (by rw [hln]; exact hxm)).mono ?_
          rintro e w2 ⟨rfl, hb2⟩
          have jR := iR.later hb2
          have s0 := jR.c0
          have s1 := jR.c1
          have s2 := jR.f0
          have s3 := jR.f1
          go_wp2
          refine bodyPost_ret (v := .tuple #[.agg #[.int .i64 0, .slice none 0 0], .bool false]) (by simp [results, Try.results71, go_sem, s0, s1, s2, s3]) rfl ⟨.slice none 0 0, by rw [mkS, hok.out]; rfl, by rw [mkL, hok.out]; exact Own.nil _ _, ?_⟩
          exact ((hb.trans (hb2.mono (by omega))).setCell (Nat.le_refl _) _).setCell (Nat.le_refl _) _
        · have hok : Hid (mkOk s ps = true) := Lib.hid (by simp [mkOk, hv, HG.out])
          go_wp2_with fail
          rw [← hln]
          refine (isMass_any _ _ _ _ _ hr1 (by rw [hln]; exact hxm)).mono ?_
          rintro e w2 ⟨rfl, hb2⟩
          have jR := iR.later hb2
          have jM := iM.later hb2
          have s0 := jR.c0
          have s1 := jR.c1
          have s2 := jR.f0
          have s3 := jR.f1
          have s4 := jM.c0
          have s5 := jM.c1
          have ho2 := ho.later hb2
          go_wp2
          refine bodyPost_ret (v := .tuple #[.agg #[.int .i64 s, .slice p1 (quoTo ps ps.length).length k1], .bool true]) (by simp [results, Try.results71, go_sem, s0, s1, s2, s3, s4, s5, hln]) rfl ⟨.slice p1 (quoTo ps ps.length).length k1, by rw [mkS, hok.out]; rfl, ?_, ?_⟩
          · rw [mkL, hok.out]
            exact ((ho2.setBelow (by show w.heap.size < _; omega) _).setBelow (by show w.heap.size < _; omega) _).mono (by omega)
          · exact ((hb.trans (hb2.mono (by omega))).setCell (Nat.le_refl _) _).setCell (Nat.le_refl _) _

set_option maxHeartbeats 1000000 in
theorem l3Made_any (s : Int) (a : Option Addr) (c : Nat) (ps : List Int) (w : World) (hx : Reads w a ps) (hxm : ps.length ≤ 1048576) (hr : allB 0 4611686018427387904 ps = true) :
    Calls Try.prog 105 #[.int .i64 s, .slice a ps.length c] w fun e w' => ∃ v, e = .returned (.tuple #[.agg #[.int .i64 (mkS s ps), v], .bool (mkOk s ps)]) ∧ Own w.heap.size w' v (mkL s ps) ∧ Below w.heap.size w w' := by
  have hb0 := belowAlloc w (.cells #[.int .i64 0, .slice none 0 0] 27)
  have hx0 := hx.below hb0
  have HR := Lib.hid hr
  have HW := Lib.hid (allB_wider hr (low' := -4611686018427387904) (high' := 4611686018427387904) (by omega) (by omega))
  clear hr
  by_cases hg : gcdL ps = 0
  · have hz : (((gcdL ps : Nat) : Int) == 0) = true := by simp [hg]
    have hok : Hid (mkOk s ps = false) := Lib.hid (by simp [mkOk, hg])
    clear hg
    go_enter Try.func105, Try.ntmps105
    go_wp2_with fail
    refine (l3Lowest_any _ _ _ _ hx0 hxm HW.out).mono ?_
    rintro e w' ⟨rfl, rfl⟩
    go_wp2
    refine bodyPost_ret (v := .tuple #[.agg #[.int .i64 0, .slice none 0 0], .bool false]) (by simp [results, Try.results105, go_sem]) rfl ⟨.slice none 0 0, by rw [mkS, hok.out]; rfl, by rw [mkL, hok.out]; exact Own.nil _ _, ?_⟩
    exact hb0
  · have hz : (((gcdL ps : Nat) : Int) == 0) = false := by rw [beq_eq_false_iff_ne]; omega
    have hd1 : (1 : Int) ≤ ((gcdL ps : Nat) : Int) := by omega
    have hd2 : ((gcdL ps : Nat) : Int) ≤ 4611686018427387904 := by have := gcdL_le ps HW.out; omega
    have hz2 : ¬ ((gcdL ps : Nat) : Int) = 0 := by omega
    have HG := Lib.hid hg
    clear hg
    go_enter Try.func105, Try.ntmps105
    go_wp2_with fail
    refine (l3Lowest_any _ _ _ _ hx0 hxm HW.out).mono ?_
    rintro e w' ⟨rfl, rfl⟩
    obtain ⟨W, hW⟩ : ∃ W : World, W = ((w.alloc (.cells #[.int .i64 0, .slice none 0 0] 27)).alloc (.cells #[.int .i64 s, .slice none 0 0] 27)) := ⟨_, rfl⟩
    have hbW : Below w.heap.size w W := by subst hW; exact hb0.alloc (by simp) _
    have hsz : W.heap.size = w.heap.size + 2 := by subst hW; simp
    have hR : VarInv W w.heap.size 0 (.slice none 0 0) := by subst hW; exact (VarInv.made w _ _ _).later (belowAlloc _ _)
    have hM : VarInv W (w.heap.size + 1) s (.slice none 0 0) := by
      subst hW
      have h := VarInv.made (w.alloc (.cells #[.int .i64 0, .slice none 0 0] 27)) s (.slice none 0 0) 27
      rw [show (w.alloc (.cells #[.int .i64 0, .slice none 0 0] 27)).heap.size = w.heap.size + 1 by simp] at h
      exact h
    have HWW := Lib.hid hW
    have HSZ := Lib.hid hsz
    clear hW hsz hb0 hx0
    go_wp2
    rw [← HWW.out]
    go_loopw [8] (fun i wr => ∃ (k : Nat) (v : Value), k ≤ ps.length ∧ i = .int .i64 k ∧ VarInv wr w.heap.size 0 (.slice none 0 0) ∧ VarInv wr (w.heap.size + 1) s v ∧ Own (w.heap.size + 2) wr v (quoTo ps k) ∧ Below w.heap.size w wr ∧ Below (w.heap.size + 1) W wr) (fun i _ => ps.length - (intOf i).toNat)
    case atStart => exact ⟨0, .slice none 0 0, Nat.zero_le _, rfl, hR, hM, Own.nil _ _, hbW, Below.refl _ _⟩
    case round =>
      obtain ⟨k, v, hk, rfl, iR, iM, ho, hb, hbw⟩ := hrel
      by_cases hlt : k < ps.length
      · have hwsz : w.heap.size + 2 ≤ wr.heap.size := by have := iM.lt; omega
        have hs := Lib.hid (quoTo_succ ps k)
        have hln := quoTo_len ps k
        have hn := allB_nth HR.out k hlt
        obtain ⟨hn1, hn2⟩ := hn
        obtain ⟨b, off, rfl, hbl, hc0⟩ := hx k hlt
        have hc := (hb.cell (p := ⟨b, off + k, none⟩) hbl).trans hc0
        have hg0 := HG.out
        have hlt1 : w.heap.size + 1 < wr.heap.size := by omega
        have hq := quo_wrap (nth ps k) (gcdL ps) hn1 hn2 (by omega)
        have r1 := iM.c1
        have r2 := iM.f1
        clear hx hc0
        go_wp2_with fail
        go_region_law ((refine step_append1 _ (by rfl) _ _ (by rfl) (w.heap.size + 2) _ _ (by rfl) (ho.later (by exact ((Below.refl _ _).alloc (Nat.le_refl _) _).drew)) ⟨wr.heap.size, 0, none⟩ 1 (nth ps k / (gcdL ps : Int)) (by rfl) (by simp) (by omega) (by simp; omega) ?_; intro v1 w1 ho1 hba; obtain ⟨p1, k1, rfl, _hr⟩ := ho1.shape; clear _hr; have iM1 := (iM.later (((Below.refl _ _).alloc (Nat.le_refl _) _).drew)).keep hba (by omega); have q1 := iM1.c1; have q2 := iM1.f1))
        all_goals go_wp2
        all_goals
          have iW : Below wr.heap.size wr (wr.alloc (.cells #[.int .i64 (nth ps k / (gcdL ps : Int))] 3)).drew := ((Below.refl _ _).alloc (Nat.le_refl _) _).drew
          have iR1 := (iR.later iW).keep hba (by omega)
          have e1 : (quoTo ps k ++ [nth ps k / (gcdL ps : Int)]).length = k + 1 := by simp [quoTo_len]
          rw [e1, ← hs.out] at ho1
          have bA := (hb.trans (iW.mono (by omega))).trans (hba.mono (by omega))
          have bB := (hbw.trans (iW.mono (by omega))).trans (hba.mono (by omega))
          exact ⟨⟨k + 1, .slice p1 (k + 1) k1, by omega, by go_num, iR1.other _ (by simp) _, iM1.store _, ho1.setBelow (by show w.heap.size + 1 < _; omega) _, bA.setCell (by show _ ≤ w.heap.size + 1; omega) _, bB.setCell (Nat.le_refl _) _⟩, by simp [intOf]; omega⟩
      · have h1 : k = ps.length := by omega
        subst h1
        obtain ⟨p1, k1, rfl, hr1⟩ := ho.shape
        have hln := quoTo_len ps ps.length
        have r1 := iM.c0
        have r2 := iM.c1
        have hwsz : w.heap.size + 2 ≤ wr.heap.size := by have := hbw.size; have := HSZ.out; omega
        clear hx
        cases hv : massB s (quoTo ps ps.length)
        · have hok : Hid (mkOk s ps = false) := Lib.hid (by simp [mkOk, hv])
          go_wp2_with fail
          rw [← hln]
          refine (MassValid_any _ _ _ _ _ hr1 (by rw [hln]; exact hxm)).mono ?_
          rintro e w2 ⟨rfl, hb2⟩
          have jR := iR.later hb2
          have s0 := jR.c0
          have s1 := jR.c1
          have s2 := jR.f0
          have s3 := jR.f1
          go_wp2
          refine bodyPost_ret (v := .tuple #[.agg #[.int .i64 0, .slice none 0 0], .bool false]) (by simp [results, Try.results105, go_sem, s0, s1, s2, s3]) rfl ⟨.slice none 0 0, by rw [mkS, hok.out]; rfl, by rw [mkL, hok.out]; exact Own.nil _ _, ?_⟩
          exact ((hb.trans (hb2.mono (by omega))).setCell (Nat.le_refl _) _).setCell (Nat.le_refl _) _
        · have hok : Hid (mkOk s ps = true) := Lib.hid (by simp [mkOk, hv, HG.out])
          go_wp2_with fail
          rw [← hln]
          refine (MassValid_any _ _ _ _ _ hr1 (by rw [hln]; exact hxm)).mono ?_
          rintro e w2 ⟨rfl, hb2⟩
          have jR := iR.later hb2
          have jM := iM.later hb2
          have s0 := jR.c0
          have s1 := jR.c1
          have s2 := jR.f0
          have s3 := jR.f1
          have s4 := jM.c0
          have s5 := jM.c1
          have ho2 := ho.later hb2
          go_wp2
          refine bodyPost_ret (v := .tuple #[.agg #[.int .i64 s, .slice p1 (quoTo ps ps.length).length k1], .bool true]) (by simp [results, Try.results105, go_sem, s0, s1, s2, s3, s4, s5, hln]) rfl ⟨.slice p1 (quoTo ps ps.length).length k1, by rw [mkS, hok.out]; rfl, ?_, ?_⟩
          · rw [mkL, hok.out]
            exact ((ho2.setBelow (by show w.heap.size < _; omega) _).setBelow (by show w.heap.size < _; omega) _).mono (by omega)
          · exact ((hb.trans (hb2.mono (by omega))).setCell (Nat.le_refl _) _).setCell (Nat.le_refl _) _

theorem makeMass_n (s : Int) (a : Option Addr) (c n : Nat) (ps : List Int) (w : World) (hn : ps.length = n) (hx : Reads w a ps) (hxm : ps.length ≤ 1048576) (hr : allB 0 4611686018427387904 ps = true) :
    Calls Try.prog 71 #[.int .i64 s, .slice a n c] w fun e w' => ∃ v, e = .returned (.tuple #[.agg #[.int .i64 (mkS s ps), v], .bool (mkOk s ps)]) ∧ Own w.heap.size w' v (mkL s ps) ∧ Below w.heap.size w w' := by
  subst hn; exact makeMass_any s a c ps w hx hxm hr

theorem l3Made_n (s : Int) (a : Option Addr) (c n : Nat) (ps : List Int) (w : World) (hn : ps.length = n) (hx : Reads w a ps) (hxm : ps.length ≤ 1048576) (hr : allB 0 4611686018427387904 ps = true) :
    Calls Try.prog 105 #[.int .i64 s, .slice a n c] w fun e w' => ∃ v, e = .returned (.tuple #[.agg #[.int .i64 (mkS s ps), v], .bool (mkOk s ps)]) ∧ Own w.heap.size w' v (mkL s ps) ∧ Below w.heap.size w w' := by
  subst hn; exact l3Made_any s a c ps w hx hxm hr

end Go.Proofs.Ytjmfjgoehicgcaa
