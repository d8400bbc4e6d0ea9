/- The levels of a nested mass: both packages. -/
import Derived.Test.YtmbipmdflbddbaaH1
import Derived.Test.YtmbipmdflbddbaaV9
set_option linter.unusedVariables false
set_option linter.unusedSimpArgs false
namespace Go.Proofs.Ytmbipmdflbddbaa
open Go.RowKit

/-- One of two sets has the other. -/
def cmpN (a b : Nat) : Bool := subB a b || subB b a

theorem cmpN_comm (a b : Nat) : cmpN a b = cmpN b a := Bool.or_comm _ _

theorem cmpN_refl (a : Nat) : cmpN a a = true := by simp [cmpN, subB, Nat.and_self]

def nsB (L : List Int) : Bool := (List.range L.length).all fun i => (List.range L.length).all fun k => cmpN (nth L i).toNat (nth L k).toNat

theorem nsB_yes {L : List Int} (h : ∀ i, i < L.length → ∀ k, k < L.length → cmpN (nth L i).toNat (nth L k).toNat = true) : nsB L = true := by
  unfold nsB
  rw [List.all_eq_true]
  intro i hi
  rw [List.all_eq_true]
  intro k hk
  exact h i (List.mem_range.mp hi) k (List.mem_range.mp hk)

theorem nsB_no {L : List Int} {i k : Nat} (hi : i < L.length) (hk : k < L.length) (h : cmpN (nth L i).toNat (nth L k).toNat = false) : nsB L = false := by
  cases e : nsB L
  · rfl
  · unfold nsB at e
    rw [List.all_eq_true] at e
    have e := e i (List.mem_range.mpr hi)
    rw [List.all_eq_true] at e
    have e := e k (List.mem_range.mpr hk)
    rw [h] at e
    cases e

theorem nsB_half {L : List Int} (h : ∀ i, i < L.length → ∀ k, k < i → cmpN (nth L i).toNat (nth L k).toNat = true) : nsB L = true := by
  refine nsB_yes fun i hi k hk => ?_
  rcases Nat.lt_trichotomy i k with h1 | h1 | h1
  · rw [cmpN_comm]; exact h k hk i h1
  · subst h1; exact cmpN_refl _
  · exact h i hi k h1

def neG (s : Int) (xs : List Int) : Bool := massB s xs && nsB (focL xs xs.length)

theorem notSub (a b : Nat) (ha : a < 16) (hb : b < 16) : (bits BinOp.andNot IntKind.i64 (a : Int) (b : Int) != 0) = !subB a b := by
  rw [← sub_test a b ha hb]; rfl

theorem and_ne (a b : Nat) : (((a &&& b : Nat) : Int) != (a : Int)) = !subB a b := by
  unfold subB
  by_cases h : a &&& b = a
  · have h2 : ((a &&& b : Nat) : Int) = (a : Int) := by rw [h]
    have h3 : ((a &&& b) == a) = true := beq_iff_eq.mpr h
    rw [h3, h2]
    exact bne_self_eq_false _
  · have h2 : ((a &&& b : Nat) : Int) ≠ (a : Int) := fun e => h (by exact_mod_cast e)
    have h3 : ((a &&& b) == a) = false := beq_eq_false_iff_ne.mpr h
    rw [h3]
    exact bne_iff_ne.mpr h2

theorem and_nat16 (a b : Nat) (ha : a < 16) (hb : b < 16) : bits BinOp.and IntKind.i64 (a : Int) (b : Int) = ((a &&& b : Nat) : Int) := and_bits ⟨a, ha⟩ ⟨b, hb⟩

set_option maxHeartbeats 2000000 in
theorem iIsNested_any (s : Int) (p : Option Addr) (c : Nat) (xs : List Int) (w : World) (hx : Reads w p xs) (hxm : xs.length ≤ 1048576) :
    Calls Try.prog 31 #[.agg #[.int .i64 s, .slice p xs.length c]] w fun e w' => e = .returned (.bool (neG s xs)) ∧ Below w.heap.size w w' := by
  obtain ⟨W, hW, hbW, hsz, c0, c1⟩ := box1 w s p xs.length c
  have HW := Lib.hid hW
  have HSZ := Lib.hid hsz
  have hxW := hx.below hbW
  clear hW hsz hx
  cases h1 : massB s xs
  · have hr : Hid (neG s xs = false) := Lib.hid (by simp [neG, h1])
    go_enter Try.func31, Try.ntmps31
    go_wp2_with fail
    rw [← HW.out]
    refine (isMass_any _ _ _ _ _ hxW hxm).mono ?_
    rintro e w1 ⟨rfl, hb1⟩
    go_wp2
    go_ret
    exact ⟨ret_bool hr.out.symm, hbW.thenB hb1⟩
  · have hr : Hid (neG s xs = nsB (focL xs xs.length)) := Lib.hid (by simp [neG, h1])
    have hl16 := (massB_ok h1).l16
    go_enter Try.func31, Try.ntmps31
    go_wp2_with fail
    rw [← HW.out]
    refine (isMass_any _ _ _ _ _ hxW hxm).mono ?_
    rintro e w1 ⟨rfl, hb1⟩
    have d0 := cellKeep hb1 c0
    have d1 := cellKeep hb1 c1
    have hx1 := hxW.below hb1
    clear c0 c1
    go_wp2_with fail
    refine (focalSets_any _ _ _ _ _ hx1 hl16).mono ?_
    rintro e w2 ⟨v, rfl, ho, hb2⟩
    obtain ⟨p2, c2, rfl, hr2⟩ := ho.shape
    replace d0 := cellKeep hb2 d0
    replace d1 := cellKeep hb2 d1
    have hbf := (hbW.thenB hb1).thenB hb2
    have hx2 := hx1.below hb2
    have hln := focL_len xs xs.length
    clear hx1 hb1 hb2 hxW hbW ho
    go_wp2_with fail
    go_loopw [13] (fun i wr => ∃ k : Nat, k ≤ (focL xs xs.length).length ∧ i = .int .i64 k ∧ (∀ j, j < k → ∀ l, l < (focL xs xs.length).length → cmpN (nth (focL xs xs.length) j).toNat (nth (focL xs xs.length) l).toNat = true) ∧ Below w2.heap.size w2 wr) (fun i _ => (focL xs xs.length).length - (intOf i).toNat)
    case atStart => exact ⟨0, Nat.zero_le _, rfl, fun j hj => absurd hj (by omega), Below.refl _ _⟩
    case round =>
      obtain ⟨k, hk, rfl, hall, hb⟩ := hrel
      have HA := Lib.hid hall
      clear hall
      have m0 := cellKeep hb d0
      have m1 := cellKeep hb d1
      by_cases hlt : k < (focL xs xs.length).length
      · obtain ⟨b, off, rfl, hbl, hc⟩ := (hr2.below hb) k hlt
        obtain ⟨a, ha, ha1, ha2⟩ := focL_at xs xs.length k hlt
        rw [ha] at hc
        have HE := Lib.hid ha
        have ha16 : a < 16 := by omega
        have hxr := hx2.below hb
        clear ha ha2
        go_wp2_with fail
        refine (focalSets_any _ _ _ _ _ hxr hl16).mono ?_
        rintro e w3 ⟨v3, rfl, ho3, hb3⟩
        obtain ⟨p3, c3, rfl, hr3⟩ := ho3.shape
        have hb4 := hb.thenB hb3
        clear m0 m1 hc ho3 hxr
        go_wp2_with fail
        go_loop [20] (fun i => ∃ l : Nat, l ≤ (focL xs xs.length).length ∧ i = .int .i64 l ∧ ∀ j, j < l → cmpN (nth (focL xs xs.length) k).toNat (nth (focL xs xs.length) j).toNat = true) (fun i => (focL xs xs.length).length - (intOf i).toNat)
        case atStart => exact ⟨0, Nat.zero_le _, rfl, fun j hj => absurd hj (by omega)⟩
        case round =>
          obtain ⟨l, hl, rfl, hin⟩ := hrel
          have HI := Lib.hid hin
          clear hin
          by_cases hll : l < (focL xs xs.length).length
          · obtain ⟨b2, off2, rfl, hbl2, hc2⟩ := hr3 l hll
            obtain ⟨u, hu, hu1, hu2⟩ := focL_at xs xs.length l hll
            rw [hu] at hc2
            have HU := Lib.hid hu
            have hu16 : u < 16 := by omega
            clear hr3 hu hu2
            have t1 := notSub a u ha16 hu16
            have t2 := notSub u a hu16 ha16
            have hstep : cmpN a u = true → Hid (∀ j, j < l + 1 → cmpN (nth (focL xs xs.length) k).toNat (nth (focL xs xs.length) j).toNat = true) := fun h => Lib.hid (by
              intro j hj
              by_cases e : j = l
              · subst e; rw [HE.out, HU.out, Int.toNat_natCast, Int.toNat_natCast]; exact h
              · exact HI.out j (by omega))
            cases hs1 : subB a u
            · rw [hs1] at t1
              cases hs2 : subB u a
              · rw [hs2] at t2
                have hF : Hid (nsB (focL xs xs.length) = false) := Lib.hid (nsB_no hlt hll (by rw [HE.out, HU.out, Int.toNat_natCast, Int.toNat_natCast, cmpN, hs1, hs2]; rfl))
                clear hstep hs1 hs2
                go_wp2
                go_ret
                exact ⟨ret_bool (by rw [hr.out, hF.out]), hbf.thenB hb4⟩
              · rw [hs2] at t2
                have HS := hstep (by rw [cmpN, hs2]; simp)
                clear hstep hs1 hs2
                go_wp2
                exact ⟨⟨l + 1, by omega, by go_num, HS.out⟩, by simp [intOf]; omega⟩
            · rw [hs1] at t1
              have HS := hstep (by rw [cmpN, hs1]; rfl)
              clear hstep hs1
              go_wp2
              exact ⟨⟨l + 1, by omega, by go_num, HS.out⟩, by simp [intOf]; omega⟩
          · have h2 : l = (focL xs xs.length).length := by omega
            have HN : Hid (∀ j, j < k + 1 → ∀ l, l < (focL xs xs.length).length → cmpN (nth (focL xs xs.length) j).toNat (nth (focL xs xs.length) l).toNat = true) := Lib.hid (by
              intro j hj q hq
              by_cases e : j = k
              · subst e; exact HI.out q (by omega)
              · exact HA.out j (by omega) q hq)
            subst h2
            clear hr3
            go_wp2
            exact ⟨⟨k + 1, by omega, by go_num, HN.out, hb4⟩, by simp [intOf]; omega⟩
      · have h2 : k = (focL xs xs.length).length := by omega
        have hT : Hid (nsB (focL xs xs.length) = true) := Lib.hid (nsB_yes (by rw [← h2]; exact fun i hi q hq => HA.out i hi q (by rw [← h2]; exact hq)))
        subst h2
        clear m0 m1
        go_wp2
        go_ret
        exact ⟨ret_bool (by rw [hr.out, hT.out]), hbf.thenB hb⟩

def fsL (s : Int) (xs : List Int) : List Int := if massB s xs = true then focL xs xs.length else []

theorem fsL_no {s : Int} {xs : List Int} (h : massB s xs = false) : fsL s xs = [] := by simp [fsL, h]
theorem fsL_yes {s : Int} {xs : List Int} (h : massB s xs = true) : fsL s xs = focL xs xs.length := by simp [fsL, h]

set_option maxHeartbeats 2000000 in
theorem sFocalSets_any (s : Int) (p : Option Addr) (c : Nat) (xs : List Int) (w : World) (hx : Reads w p xs) (hxm : xs.length ≤ 1048576) :
    Calls Try.prog 107 #[.agg #[.int .i64 s, .slice p xs.length c]] w fun e w' => ∃ v, e = .returned v ∧ Own w.heap.size w' v (fsL s xs) ∧ Below w.heap.size w w' := by
  obtain ⟨W, hW, hbW, hsz, c0, c1⟩ := box1 w s p xs.length c
  have HW := Lib.hid hW
  have HSZ := Lib.hid hsz
  have bA := belowAlloc W (.cells #[] 3)
  have hO0 : Own (w.heap.size + 1) (W.alloc (.cells #[] 3)) (.slice (some ⟨w.heap.size + 1, 0, none⟩) 0 0) [] := by have h := Own.made W (w.heap.size + 1) (by omega); rw [hsz] at h; exact h
  have d0 := cellKeep bA c0
  have d1 := cellKeep bA c1
  have bW := hbW.thenB bA
  clear hW hsz hbW bA c0 c1
  by_cases h1 : massB s xs = true
  rotate_left
  · replace h1 : massB s xs = false := by simpa using h1
    have HN := Lib.hid (fsL_no h1)
    go_enter Try.func107, Try.ntmps107
    go_wp2
    rw [← HW.out]
    refine wp_loop_rounds 1 ?_
    rw [rounds_succ]
    go_wp2_with fail
    refine (MassValid_any _ _ _ _ _ (hx.below bW) hxm).mono ?_
    rintro e w1 ⟨rfl, hb1⟩
    go_wp2
    go_ret
    exact ⟨_, rfl, by rw [HN.out]; exact (hO0.later hb1).mono (by omega), bW.thenB hb1⟩
  · have HY := Lib.hid (fsL_yes h1)
    have HK := Lib.hid (massB_ok h1)
    have hl16 := (massB_ok h1).l16
    go_enter Try.func107, Try.ntmps107
    go_wp2
    rw [← HW.out]
    go_loopw [3, 4] (fun v i wr => ∃ k : Nat, k ≤ xs.length ∧ i = .int .i64 k ∧ Own (w.heap.size + 1) wr v (focL xs k) ∧ wr.cell? ⟨w.heap.size, 0, none⟩ = some (.int .i64 s) ∧ wr.cell? ⟨w.heap.size, 1, none⟩ = some (.slice p xs.length c) ∧ Below w.heap.size w wr) (fun _ i _ => xs.length - (intOf i).toNat)
    case atStart => exact ⟨0, Nat.zero_le _, rfl, hO0, d0, d1, bW⟩
    case round =>
      clear hO0 d0 d1 bW
      obtain ⟨k, hk, rfl, ho, m0, m1, hb⟩ := hrel
      go_wp2_with fail
      refine (MassValid_any _ _ _ _ _ (hx.below hb) hxm).mono ?_
      rintro e w1 ⟨rfl, hb1⟩
      replace m0 := cellKeep hb1 m0
      replace m1 := cellKeep hb1 m1
      replace ho := ho.later hb1
      replace hb := hb.thenB hb1
      clear hb1
      by_cases hlt : k < xs.length
      · obtain ⟨b, off, rfl, hbl, hc0⟩ := hx k hlt
        have hc := (hb.cell (p := ⟨b, off + k, none⟩) hbl).trans hc0
        obtain ⟨p1, p2⟩ := allB_nth HK.out.all k hlt
        have hln := focL_len xs k
        have hzw := World.block_lt_of_cell? _ _ m0
        clear hx hc0
        by_cases hz : nth xs k = 0
        · have HN := Lib.hid (focL_no hz)
          replace hz : ¬ 0 < nth xs k := by omega
          go_wp2
          exact ⟨⟨k + 1, by omega, by go_num, by rw [HN.out]; exact ho, m0, m1, hb⟩, by simp [intOf]; omega⟩
        · have HYY := Lib.hid (focL_yes hz)
          replace hz : 0 < nth xs k := by omega
          go_wp2_with (at_builtin; refine wpList_append1 _ rfl _ _ rfl (w.heap.size + 1) _ _ rfl (ho.later (belowAlloc _ _)) ⟨w1.heap.size, 0, none⟩ 1 (k : Int) rfl (newCell _ _ _) (by omega) (by simp; omega) ?_; intro v1 w4 ho1 hba)
          have hbq := belowAlloc w1 (.cells #[.int .i64 (k : Int)] 3)
          have m0' := (hba.cell (p := ⟨w.heap.size, 0, none⟩) (by show w.heap.size < _; omega)).trans (cellKeep hbq m0)
          have m1' := (hba.cell (p := ⟨w.heap.size, 1, none⟩) (by show w.heap.size < _; omega)).trans (cellKeep hbq m1)
          exact ⟨⟨k + 1, by omega, by go_num, by rw [HYY.out]; exact ho1, m0', m1', (hb.thenB hbq).trans (hba.mono (by omega))⟩, by simp [intOf]; omega⟩
      · have h2 : k = xs.length := by omega
        subst h2
        have HO := Lib.hid ho
        clear hx ho
        go_wp2
        go_ret
        exact ⟨_, rfl, by rw [HY.out]; exact HO.out.mono (by omega), hb⟩

set_option maxHeartbeats 2000000 in
theorem sIsNested_any (s : Int) (p : Option Addr) (c : Nat) (xs : List Int) (w : World) (hx : Reads w p xs) (hxm : xs.length ≤ 1048576) :
    Calls Try.prog 77 #[.agg #[.int .i64 s, .slice p xs.length c]] w fun e w' => e = .returned (.bool (neG s xs)) ∧ Below w.heap.size w w' := by
  obtain ⟨W, hW, hbW, hsz, c0, c1⟩ := box1 w s p xs.length c
  have HW := Lib.hid hW
  have hxW := hx.below hbW
  clear hW hsz hx
  by_cases h1 : massB s xs = true
  rotate_left
  · replace h1 : massB s xs = false := by simpa using h1
    have hr : Hid (neG s xs = false) := Lib.hid (by simp [neG, h1])
    have HF := Lib.hid (fsL_no h1)
    go_enter Try.func77, Try.ntmps77
    go_wp2_with fail
    rw [← HW.out]
    refine (sFocalSets_any _ _ _ _ _ hxW hxm).mono ?_
    rintro e w1 ⟨v, rfl, ho, hb1⟩
    rw [HF.out] at ho
    obtain ⟨p2, c2, rfl, hr2⟩ := ho.shape
    have d0 := cellKeep hb1 c0
    have d1 := cellKeep hb1 c1
    have hx1 := hxW.below hb1
    clear ho hr2
    go_wp2_with fail
    refine wp_loop_rounds 1 ?_
    rw [rounds_succ]
    go_wp2_with fail
    refine (MassValid_any _ _ _ _ _ hx1 hxm).mono ?_
    rintro e w2 ⟨rfl, hb2⟩
    go_wp2
    go_ret
    exact ⟨ret_bool hr.out.symm, (hbW.thenB hb1).thenB hb2⟩
  · have hr : Hid (neG s xs = nsB (focL xs xs.length)) := Lib.hid (by simp [neG, h1])
    have HF := Lib.hid (fsL_yes h1)
    have hl16 := (massB_ok h1).l16
    have hln := focL_len xs xs.length
    go_enter Try.func77, Try.ntmps77
    go_wp2_with fail
    rw [← HW.out]
    refine (sFocalSets_any _ _ _ _ _ hxW hxm).mono ?_
    rintro e w1 ⟨v, rfl, ho, hb1⟩
    rw [HF.out] at ho
    obtain ⟨p2, c2, rfl, hr2⟩ := ho.shape
    have d0 := cellKeep hb1 c0
    have d1 := cellKeep hb1 c1
    have hx1 := hxW.below hb1
    have hbf := hbW.thenB hb1
    clear ho c0 c1 hxW hbW hb1
    go_wp2_with fail
    go_loopw [4] (fun i wr => ∃ k : Nat, k ≤ (focL xs xs.length).length ∧ i = .int .i64 k ∧ (∀ j, j < k → ∀ l, l < j → cmpN (nth (focL xs xs.length) j).toNat (nth (focL xs xs.length) l).toNat = true) ∧ Below w1.heap.size w1 wr) (fun i _ => (focL xs xs.length).length - (intOf i).toNat)
    case atStart => exact ⟨0, Nat.zero_le _, rfl, fun j hj => absurd hj (by omega), Below.refl _ _⟩
    case round =>
      obtain ⟨k, hk, rfl, hall, hb⟩ := hrel
      have HA := Lib.hid hall
      clear hall
      by_cases hlt : k < (focL xs xs.length).length
      · obtain ⟨b, off, rfl, hbl, hc0⟩ := (hr2.below hb) k hlt
        obtain ⟨a, ha, ha1, ha2⟩ := focL_at xs xs.length k hlt
        rw [ha] at hc0
        have HE := Lib.hid ha
        have ha16 : a < 16 := by omega
        have HR := Lib.hid hr2
        have HC := Lib.hid hc0
        have HB := Lib.hid hb
        clear ha ha2 hr2 hc0
        go_wp2_with fail
        go_loopw [5] (fun i wz => ∃ l : Nat, l ≤ k ∧ i = .int .i64 l ∧ (∀ j, j < l → cmpN (nth (focL xs xs.length) k).toNat (nth (focL xs xs.length) j).toNat = true) ∧ Below w1.heap.size w1 wz) (fun i _ => k - (intOf i).toNat)
        case atStart => exact ⟨0, Nat.zero_le _, rfl, fun j hj => absurd hj (by omega), hb⟩
        case round =>
          clear hb
          obtain ⟨l, hl, rfl, hin, hb⟩ := hrel
          have HI := Lib.hid hin
          clear hin
          by_cases hll : l < k
          · have hll2 : l < (focL xs xs.length).length := by omega
            obtain ⟨b2, off2, e2, hbl2, hc2⟩ := (HR.out.below hb) l hll2
            cases e2
            obtain ⟨b3, off3, e3, hbl3, hc⟩ := (HR.out.below hb) k hlt
            cases e3
            obtain ⟨u, hu, hu1, hu2⟩ := focL_at xs xs.length l hll2
            rw [hu] at hc2
            rw [HE.out] at hc
            have HU := Lib.hid hu
            have hu16 : u < 16 := by omega
            clear hu hu2
            have hbit := and_nat16 a u ha16 hu16
            have t1 := and_ne a u
            have t2 := and_ne u a
            rw [Nat.and_comm] at t2
            obtain ⟨n, hn⟩ : ∃ n : Nat, n = a &&& u := ⟨_, rfl⟩
            rw [← hn] at hbit t1 t2
            clear hn
            have hstep : cmpN a u = true → Hid (∀ j, j < l + 1 → cmpN (nth (focL xs xs.length) k).toNat (nth (focL xs xs.length) j).toNat = true) := fun h => Lib.hid (by
              intro j hj
              by_cases e : j = l
              · subst e; rw [HE.out, HU.out, Int.toNat_natCast, Int.toNat_natCast]; exact h
              · exact HI.out j (by omega))
            cases hs1 : subB a u
            · rw [hs1] at t1
              cases hs2 : subB u a
              · rw [hs2] at t2
                have hF : Hid (nsB (focL xs xs.length) = false) := Lib.hid (nsB_no hlt hll2 (by rw [HE.out, HU.out, Int.toNat_natCast, Int.toNat_natCast, cmpN, hs1, hs2]; rfl))
                clear hstep hs1 hs2
                go_wp2_with fail
                go_region
                all_goals go_wp2
                all_goals go_ret
                all_goals exact ⟨ret_bool (by rw [hr.out, hF.out]), hbf.thenB hb.drew⟩
              · rw [hs2] at t2
                have HS := hstep (by rw [cmpN, hs2]; simp)
                clear hstep hs1 hs2
                go_wp2_with fail
                go_region
                all_goals go_wp2
                all_goals exact ⟨⟨l + 1, by omega, by go_num, HS.out, hb.drew⟩, by simp [intOf]; omega⟩
            · rw [hs1] at t1
              have HS := hstep (by rw [cmpN, hs1]; rfl)
              clear hstep hs1
              go_wp2_with fail
              go_region
              all_goals go_wp2
              all_goals exact ⟨⟨l + 1, by omega, by go_num, HS.out, hb.drew⟩, by simp [intOf]; omega⟩
          · have h2 : l = k := by omega
            have HN : Hid (∀ j, j < k + 1 → ∀ l, l < j → cmpN (nth (focL xs xs.length) j).toNat (nth (focL xs xs.length) l).toNat = true) := Lib.hid (by
              intro j hj q hq
              by_cases e : j = k
              · subst e; exact HI.out q (by omega)
              · exact HA.out j (by omega) q hq)
            clear h2
            go_wp2
            exact ⟨⟨k + 1, by omega, by go_num, HN.out, hb⟩, by simp [intOf]; omega⟩
      · have h2 : k = (focL xs xs.length).length := by omega
        have hT : Hid (nsB (focL xs xs.length) = true) := Lib.hid (nsB_half (by rw [← h2]; exact HA.out))
        have m0 := cellKeep hb d0
        have m1 := cellKeep hb d1
        have hxr := hx1.below hb
        subst h2
        clear hr2
        go_wp2_with fail
        refine (MassValid_any _ _ _ _ _ hxr hxm).mono ?_
        rintro e w2 ⟨rfl, hb2⟩
        go_wp2
        go_ret
        exact ⟨ret_bool (by rw [hr.out, hT.out]), (hbf.thenB hb).thenB hb2⟩

/-- The contour. -/
def cnTo (xs : List Int) (k : Nat) : List Int := (List.range k).map fun x => possS (bit x) xs

theorem cnTo_succ (xs : List Int) (k : Nat) : cnTo xs (k + 1) = cnTo xs k ++ [possS (bit k) xs] := by simp [cnTo, List.range_succ]

theorem cnTo_len (xs : List Int) (k : Nat) : (cnTo xs k).length = k := by simp [cnTo]

theorem bit_wrapN (k : Nat) (h : k < 4) : IntKind.i64.wrap (2 ^ k) = ((bit k : Nat) : Int) := by
  have h2 : k = 0 ∨ k = 1 ∨ k = 2 ∨ k = 3 := by omega
  rcases h2 with rfl | rfl | rfl | rfl <;> decide

theorem bit_lt16N (y : Nat) (h : y < 4) : bit y < 16 := by
  have := Nat.pow_le_pow_right (n := 2) (by omega) (show y ≤ 3 by omega)
  unfold bit; omega

theorem cellAcr {B : Nat} {W W' : World} {b o : Nat} {v : Value} (hb : Below B W W') (hlt : b < B) (h : W.cell? ⟨b, o, none⟩ = some v) : W'.cell? ⟨b, o, none⟩ = some v :=
  (hb.cell (p := ⟨b, o, none⟩) hlt).trans h

def loG (s : Int) (xs : List Int) : Bool := neG s xs && normB s xs
def loL (s : Int) (xs : List Int) : List Int := if loG s xs = true then cnTo xs s.toNat else []

theorem loL_len (s : Int) (xs : List Int) : (loL s xs).length ≤ 1048576 := by
  by_cases h : loG s xs = true
  · have h2 : massB s xs = true := by simp only [loG, neG, Bool.and_eq_true] at h; exact h.1.1
    have := (massB_ok h2).s4
    rw [loL, if_pos h, cnTo_len]; omega
  · rw [loL, if_neg h]; simp

set_option maxHeartbeats 2000000 in
set_option maxRecDepth 100000 in
theorem iContour_any (s : Int) (p : Option Addr) (c : Nat) (xs : List Int) (w : World) (hx : Reads w p xs) (h1 : massB s xs = true) :
    Calls Try.prog 76 #[.agg #[.int .i64 s, .slice p xs.length c]] w fun e w' => ∃ v, e = .returned v ∧ Own w.heap.size w' v (cnTo xs s.toNat) ∧ Below w.heap.size w w' := by
  obtain ⟨W, hW, hbW, hsz, c0, c1⟩ := box1 w s p xs.length c
  have HW := Lib.hid hW
  have HSZ := Lib.hid hsz
  have bA := belowAlloc W (.cells #[] 3)
  have hO0 : Own (w.heap.size + 1) (W.alloc (.cells #[] 3)) (.slice (some ⟨w.heap.size + 1, 0, none⟩) 0 0) [] := by have h := Own.made W (w.heap.size + 1) (by omega); rw [hsz] at h; exact h
  have d0 := cellKeep bA c0
  have d1 := cellKeep bA c1
  have bW := hbW.thenB bA
  have hk := massB_ok h1
  have HK := Lib.hid hk
  have k1 := hk.s1
  have k4 := hk.s4
  have hl16 := hk.l16
  have hal := hk.all
  clear hW hsz hbW bA c0 c1 hk h1
  go_enter Try.func76, Try.ntmps76
  go_wp2
  rw [← HW.out]
  go_loopw [3, 8] (fun v i wr => ∃ k : Nat, (k : Int) ≤ s ∧ i = .int .i64 k ∧ Own (w.heap.size + 1) wr v (cnTo xs k) ∧ wr.cell? ⟨w.heap.size, 0, none⟩ = some (.int .i64 s) ∧ wr.cell? ⟨w.heap.size, 1, none⟩ = some (.slice p xs.length c) ∧ Below w.heap.size w wr) (fun _ i _ => (s - intOf i).toNat)
  case atStart => exact ⟨0, by omega, rfl, hO0, d0, d1, bW⟩
  case round =>
    clear hO0 d0 d1 bW
    obtain ⟨k, hk, rfl, ho, m0, m1, hb⟩ := hrel
    by_cases hlt : (k : Int) < s
    · have hs := Lib.hid (cnTo_succ xs k)
      have hln := cnTo_len xs k
      have HLN := Lib.hid hln
      have hwk := bit_wrapN k (by omega)
      have hwk2 := bit_wrap' k (by omega)
      have hb16 := bit_lt16N k (by omega)
      have hk4 : k ≤ 4 := by omega
      have hxr := hx.below hb
      have hzw := World.block_lt_of_cell? _ _ m0
      clear hln hx
      go_wp2_with fail
      go_region_held3 (fun w' => w'.cell? ⟨w.heap.size, 0, none⟩ = some (.int .i64 s) ∧ w'.cell? ⟨w.heap.size, 1, none⟩ = some (.slice p xs.length c))
        (first | exact ⟨m0, m1⟩ | exact ⟨cellAcr hba (by omega) (cellKeep (belowAlloc _ _) m0), cellAcr hba (by omega) (cellKeep (belowAlloc _ _) m1)⟩ | exact ⟨cellKeep (belowAlloc _ _) m0, cellKeep (belowAlloc _ _) m1⟩)
        (first
          | (go_at_call 64; (with_reducible refine (iPoss_any _ _ _ _ (bit k) _ (ReadsK.drew hxr) hl16 hb16 hal).mono ?_); rintro e w3 ⟨rfl, hb3⟩; (replace hb3 := undrew hb3); (replace m0 := cellKeep hb3 m0); (replace m1 := cellKeep hb3 m1); (replace ho := ho.later hb3); (replace hb := hb.thenB hb3); (have hz3 := hb3.size); clear hb3)
          | (refine step_append1 _ (by rfl) _ _ (by rfl) (w.heap.size + 1) _ _ (by rfl) (ho.later (belowAlloc _ _)) ⟨w3.heap.size, 0, none⟩ 1 (possS (bit k) xs) (by rfl) (newCell _ _ _) (by have := HLN.out; omega) (by simp; omega) ?_; intro v1 w4 ho1 hba))
      all_goals go_wp2
      all_goals have hbq := belowAlloc w3 (.cells #[.int .i64 (possS (bit k) xs)] 3)
      all_goals exact ⟨⟨k + 1, by omega, by go_num, by rw [hs.out]; exact ho1, cellAcr hba (by omega) (cellKeep hbq m0), cellAcr hba (by omega) (cellKeep hbq m1), (hb.thenB hbq).trans (hba.mono (by omega))⟩, by simp [intOf]; omega⟩
    · have hkn : Hid (k = s.toNat) := Lib.hid (by omega)
      have HO : Hid (Own (w.heap.size + 1) wr _ (cnTo xs s.toNat)) := Lib.hid (by have h := ho; rw [hkn.out] at h; exact h)
      clear hx ho
      go_wp2
      go_ret
      exact ⟨_, rfl, HO.out.mono (by omega), hb⟩

set_option maxHeartbeats 2000000 in
theorem sContour_any (s : Int) (p : Option Addr) (c : Nat) (xs : List Int) (w : World) (hx : Reads w p xs) (h1 : massB s xs = true) :
    Calls Try.prog 78 #[.agg #[.int .i64 s, .slice p xs.length c]] w fun e w' => ∃ v, e = .returned v ∧ Own w.heap.size w' v (cnTo xs s.toNat) ∧ Below w.heap.size w w' := by
  obtain ⟨W, hW, hbW, hsz, c0, c1⟩ := box1 w s p xs.length c
  have HW := Lib.hid hW
  have HSZ := Lib.hid hsz
  have bA := belowAlloc W (.cells #[] 3)
  have hO0 : Own (w.heap.size + 1) (W.alloc (.cells #[] 3)) (.slice (some ⟨w.heap.size + 1, 0, none⟩) 0 0) [] := by have h := Own.made W (w.heap.size + 1) (by omega); rw [hsz] at h; exact h
  have d0 := cellKeep bA c0
  have d1 := cellKeep bA c1
  have bW := hbW.thenB bA
  have hk := massB_ok h1
  have HK := Lib.hid hk
  have k1 := hk.s1
  have k4 := hk.s4
  have hl16 := hk.l16
  have hal := hk.all
  clear hW hsz hbW bA c0 c1 hk
  go_enter Try.func78, Try.ntmps78
  go_wp2
  rw [← HW.out]
  go_loopw [3, 4] (fun v i wr => ∃ k : Nat, (k : Int) ≤ s ∧ i = .int .i64 k ∧ Own (w.heap.size + 1) wr v (cnTo xs k) ∧ wr.cell? ⟨w.heap.size, 0, none⟩ = some (.int .i64 s) ∧ wr.cell? ⟨w.heap.size, 1, none⟩ = some (.slice p xs.length c) ∧ Below w.heap.size w wr) (fun _ i _ => (s - intOf i).toNat)
  case atStart => exact ⟨0, by omega, rfl, hO0, d0, d1, bW⟩
  case round =>
    clear hO0 d0 d1 bW
    obtain ⟨k, hk, rfl, ho, m0, m1, hb⟩ := hrel
    go_wp2_with fail
    refine (MassValid_any _ _ _ _ _ (hx.below hb) (by omega)).mono ?_
    rintro e w1 ⟨rfl, hb1⟩
    replace m0 := cellKeep hb1 m0
    replace m1 := cellKeep hb1 m1
    replace ho := ho.later hb1
    replace hb := hb.thenB hb1
    clear hb1
    by_cases hlt : (k : Int) < s
    · have hs := Lib.hid (cnTo_succ xs k)
      have hln := cnTo_len xs k
      have HLN := Lib.hid hln
      have hwk := bit_wrapN k (by omega)
      have hwk2 := bit_wrap' k (by omega)
      have hb16 := bit_lt16N k (by omega)
      have hk4 : k ≤ 4 := by omega
      have hxr := hx.below hb
      have hzw := World.block_lt_of_cell? _ _ m0
      clear hln hx
      go_wp2_with fail
      refine (sPoss_any _ _ _ _ (bit k) _ hxr hl16 hb16 hal).mono ?_
      rintro e w3 ⟨rfl, hb3⟩
      replace m0 := cellKeep hb3 m0
      replace m1 := cellKeep hb3 m1
      replace ho := ho.later hb3
      replace hb := hb.thenB hb3
      have hz3 := hb3.size
      clear hb3
      go_wp2_with (at_builtin; refine wpList_append1 _ rfl _ _ rfl (w.heap.size + 1) _ _ rfl (ho.later (belowAlloc _ _)) ⟨w3.heap.size, 0, none⟩ 1 (possS (bit k) xs) rfl (newCell _ _ _) (by have := HLN.out; omega) (by simp; omega) ?_; intro v1 w4 ho1 hba)
      all_goals have hbq := belowAlloc w3 (.cells #[.int .i64 (possS (bit k) xs)] 3)
      all_goals exact ⟨⟨k + 1, by omega, by go_num, by rw [hs.out]; exact ho1, cellAcr hba (by omega) (cellKeep hbq m0), cellAcr hba (by omega) (cellKeep hbq m1), (hb.thenB hbq).trans (hba.mono (by omega))⟩, by simp [intOf]; omega⟩
    · have hkn : Hid (k = s.toNat) := Lib.hid (by omega)
      have HO : Hid (Own (w.heap.size + 1) w1 _ (cnTo xs s.toNat)) := Lib.hid (by have h := ho; rw [hkn.out] at h; exact h)
      clear hx ho
      go_wp2
      go_ret
      exact ⟨_, rfl, HO.out.mono (by omega), hb⟩

set_option maxHeartbeats 2000000 in
theorem iLevelsOf_any (s : Int) (p : Option Addr) (c : Nat) (xs : List Int) (w : World) (hx : Reads w p xs) (hxm : xs.length ≤ 1048576) :
    Calls Try.prog 29 #[.agg #[.int .i64 s, .slice p xs.length c]] w fun e w' => ∃ v, e = .returned (.tuple #[v, .bool (loG s xs)]) ∧ Own w.heap.size w' v (loL s xs) ∧ Below w.heap.size w w' := by
  obtain ⟨W, hW⟩ : ∃ W : World, W = (w.alloc (.cells #[.int .i64 s, .slice p xs.length c] 24)) := ⟨_, rfl⟩
  have bW : Below w.heap.size w W := by subst hW; exact (belowAlloc _ _)
  have hsz : W.heap.size = w.heap.size + 1 := by subst hW; simp
  have b0 : VarInv W (w.heap.size) (s) (.slice p xs.length c) := by
    subst hW
    have h := VarInv.made w (s) (.slice p xs.length c) 24
    exact h
  have HWW := Lib.hid hW
  have HSZ := Lib.hid hsz
  clear hW hsz
  by_cases h1 : neG s xs = true
  rotate_left
  · have h1 : neG s xs = false := by simpa using h1
    have hG : Hid (loG s xs = false) := Lib.hid (by simp [loG, h1])
    have hL : Hid (loL s xs = []) := Lib.hid (by simp [loL, hG.out])
    go_enter Try.func29, Try.ntmps29
    go_wp2_with fail
    rw [← HWW.out]
    refine (iIsNested_any _ _ _ _ _ (hx.below bW) hxm).mono ?_
    rintro e w1 ⟨rfl, hb⟩
    replace b0 := b0.later hb
    have b0_0 := b0.c0
    have b0_1 := b0.c1
    replace bW := bW.thenB hb
    have z1 := hb.size
    clear hb
    go_wp2
    go_ret2
    exact ⟨.slice none 0 0, by rw [hG.out]; rfl, by rw [hL.out]; exact Own.nil _ _, bW⟩
  by_cases h2 : normB s xs = true
  rotate_left
  · have h2 : normB s xs = false := by simpa using h2
    have hG : Hid (loG s xs = false) := Lib.hid (by simp [loG, h2])
    have hL : Hid (loL s xs = []) := Lib.hid (by simp [loL, hG.out])
    go_enter Try.func29, Try.ntmps29
    go_wp2_with fail
    rw [← HWW.out]
    refine (iIsNested_any _ _ _ _ _ (hx.below bW) hxm).mono ?_
    rintro e w1 ⟨rfl, hb⟩
    replace b0 := b0.later hb
    have b0_0 := b0.c0
    have b0_1 := b0.c1
    replace bW := bW.thenB hb
    have z1 := hb.size
    clear hb
    go_wp2_with fail
    refine (isNormal_any _ _ _ _ _ (hx.below bW) hxm).mono ?_
    rintro e w2 ⟨rfl, hb⟩
    clear b0_0 b0_1
    replace b0 := b0.later hb
    have b0_0 := b0.c0
    have b0_1 := b0.c1
    replace bW := bW.thenB hb
    have z2 := hb.size
    clear hb
    go_wp2
    go_ret2
    exact ⟨.slice none 0 0, by rw [hG.out]; rfl, by rw [hL.out]; exact Own.nil _ _, bW⟩
  have hG : Hid (loG s xs = true) := Lib.hid (by simp [loG, h1, h2])
  have hL : Hid (loL s xs = cnTo xs s.toNat) := Lib.hid (by simp [loL, hG.out])
  have hm : Hid (massB s xs = true) := Lib.hid (by have h := h1; simp only [neG, Bool.and_eq_true] at h; exact h.1)
  go_enter Try.func29, Try.ntmps29
  go_wp2_with fail
  rw [← HWW.out]
  refine (iIsNested_any _ _ _ _ _ (hx.below bW) hxm).mono ?_
  rintro e w1 ⟨rfl, hb⟩
  replace b0 := b0.later hb
  have b0_0 := b0.c0
  have b0_1 := b0.c1
  replace bW := bW.thenB hb
  have z1 := hb.size
  clear hb
  go_wp2_with fail
  refine (isNormal_any _ _ _ _ _ (hx.below bW) hxm).mono ?_
  rintro e w2 ⟨rfl, hb⟩
  clear b0_0 b0_1
  replace b0 := b0.later hb
  have b0_0 := b0.c0
  have b0_1 := b0.c1
  replace bW := bW.thenB hb
  have z2 := hb.size
  clear hb
  go_wp2_with fail
  refine (iContour_any _ _ _ _ _ (hx.below bW) hm.out).mono ?_
  rintro e w3 ⟨vo, rfl, o, hb⟩
  clear b0_0 b0_1
  replace b0 := b0.later hb
  have b0_0 := b0.c0
  have b0_1 := b0.c1
  replace bW := bW.thenB hb
  have z3 := hb.size
  obtain ⟨po, co, rfl, _hr⟩ := o.shape
  clear hb _hr
  go_wp2
  go_ret2
  exact ⟨_, by rw [hG.out]; rfl, by rw [hL.out]; exact o.mono (by have := HSZ.out; omega), bW⟩

set_option maxHeartbeats 2000000 in
theorem sLevelsOf_any (s : Int) (p : Option Addr) (c : Nat) (xs : List Int) (w : World) (hx : Reads w p xs) (hxm : xs.length ≤ 1048576) :
    Calls Try.prog 30 #[.agg #[.int .i64 s, .slice p xs.length c]] w fun e w' => ∃ v, e = .returned (.tuple #[v, .bool (loG s xs)]) ∧ Own w.heap.size w' v (loL s xs) ∧ Below w.heap.size w w' := by
  obtain ⟨W, hW⟩ : ∃ W : World, W = (w.alloc (.cells #[.int .i64 s, .slice p xs.length c] 24)) := ⟨_, rfl⟩
  have bW : Below w.heap.size w W := by subst hW; exact (belowAlloc _ _)
  have hsz : W.heap.size = w.heap.size + 1 := by subst hW; simp
  have b0 : VarInv W (w.heap.size) (s) (.slice p xs.length c) := by
    subst hW
    have h := VarInv.made w (s) (.slice p xs.length c) 24
    exact h
  have HWW := Lib.hid hW
  have HSZ := Lib.hid hsz
  clear hW hsz
  by_cases h1 : neG s xs = true
  rotate_left
  · have h1 : neG s xs = false := by simpa using h1
    have hG : Hid (loG s xs = false) := Lib.hid (by simp [loG, h1])
    have hL : Hid (loL s xs = []) := Lib.hid (by simp [loL, hG.out])
    go_enter Try.func30, Try.ntmps30
    go_wp2_with fail
    rw [← HWW.out]
    refine (sIsNested_any _ _ _ _ _ (hx.below bW) hxm).mono ?_
    rintro e w1 ⟨rfl, hb⟩
    replace b0 := b0.later hb
    have b0_0 := b0.c0
    have b0_1 := b0.c1
    replace bW := bW.thenB hb
    have z1 := hb.size
    clear hb
    go_wp2
    go_ret2
    exact ⟨.slice (some ⟨w1.heap.size, 0, none⟩) 0 0, by rw [hG.out]; rfl, by rw [hL.out]; exact Own.made _ _ bW.size, bW.alloc bW.size _⟩
  by_cases h2 : normB s xs = true
  rotate_left
  · have h2 : normB s xs = false := by simpa using h2
    have hG : Hid (loG s xs = false) := Lib.hid (by simp [loG, h2])
    have hL : Hid (loL s xs = []) := Lib.hid (by simp [loL, hG.out])
    go_enter Try.func30, Try.ntmps30
    go_wp2_with fail
    rw [← HWW.out]
    refine (sIsNested_any _ _ _ _ _ (hx.below bW) hxm).mono ?_
    rintro e w1 ⟨rfl, hb⟩
    replace b0 := b0.later hb
    have b0_0 := b0.c0
    have b0_1 := b0.c1
    replace bW := bW.thenB hb
    have z1 := hb.size
    clear hb
    go_wp2_with fail
    refine (IsNormal_any _ _ _ _ _ (hx.below bW) hxm).mono ?_
    rintro e w2 ⟨rfl, hb⟩
    clear b0_0 b0_1
    replace b0 := b0.later hb
    have b0_0 := b0.c0
    have b0_1 := b0.c1
    replace bW := bW.thenB hb
    have z2 := hb.size
    clear hb
    go_wp2
    go_ret2
    exact ⟨.slice (some ⟨w2.heap.size, 0, none⟩) 0 0, by rw [hG.out]; rfl, by rw [hL.out]; exact Own.made _ _ bW.size, bW.alloc bW.size _⟩
  have hG : Hid (loG s xs = true) := Lib.hid (by simp [loG, h1, h2])
  have hL : Hid (loL s xs = cnTo xs s.toNat) := Lib.hid (by simp [loL, hG.out])
  have hm : Hid (massB s xs = true) := Lib.hid (by have h := h1; simp only [neG, Bool.and_eq_true] at h; exact h.1)
  go_enter Try.func30, Try.ntmps30
  go_wp2_with fail
  rw [← HWW.out]
  refine (sIsNested_any _ _ _ _ _ (hx.below bW) hxm).mono ?_
  rintro e w1 ⟨rfl, hb⟩
  replace b0 := b0.later hb
  have b0_0 := b0.c0
  have b0_1 := b0.c1
  replace bW := bW.thenB hb
  have z1 := hb.size
  clear hb
  go_wp2_with fail
  refine (IsNormal_any _ _ _ _ _ (hx.below bW) hxm).mono ?_
  rintro e w2 ⟨rfl, hb⟩
  clear b0_0 b0_1
  replace b0 := b0.later hb
  have b0_0 := b0.c0
  have b0_1 := b0.c1
  replace bW := bW.thenB hb
  have z2 := hb.size
  clear hb
  go_wp2_with fail
  refine (sContour_any _ _ _ _ _ (hx.below bW) hm.out).mono ?_
  rintro e w3 ⟨vo, rfl, o, hb⟩
  clear b0_0 b0_1
  replace b0 := b0.later hb
  have b0_0 := b0.c0
  have b0_1 := b0.c1
  replace bW := bW.thenB hb
  have z3 := hb.size
  obtain ⟨po, co, rfl, _hr⟩ := o.shape
  clear hb _hr
  go_wp2
  go_ret2
  exact ⟨_, by rw [hG.out]; rfl, by rw [hL.out]; exact o.mono (by have := HSZ.out; omega), bW⟩

end Go.Proofs.Ytmbipmdflbddbaa
