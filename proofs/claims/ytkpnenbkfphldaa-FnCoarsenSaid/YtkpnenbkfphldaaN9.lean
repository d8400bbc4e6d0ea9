/- The levels of a nested mass: both packages. -/
import Derived.Test.YtkpnenbkfphldaaH1
import Derived.Test.YtkpnenbkfphldaaV9
set_option linter.unusedVariables false
set_option linter.unusedSimpArgs false
namespace Go.Proofs.Ytkpnenbkfphldaa
open Go.RowKit

/-- One of two sets has the other. -/
def cmpN (a b : Nat) : Bool := subB a b || subB b a

theorem cmpN_comm (a b : Nat) : cmpN a b = cmpN b a := Bool.or_comm _ _

theorem cmpN_refl (a : Nat) : cmpN a a = true := by simp [cmpN, subB, Nat.and_self]

def nsB (L : List Int) : Bool := (List.range L.length).all fun i => (List.range L.length).all fun k => cmpN (nth L i).toNat (nth L k).toNat

theorem nsB_yes {L : List Int} (h : ∀ i, i < L.length → ∀ k, k < L.length → cmpN (nth L i).toNat (nth L k).toNat = true) : nsB L = true := by
  unfold nsB
  rw [List.all_eq_true]
  intro i hi
  rw [List.all_eq_true]
  intro k hk
  exact h i (List.mem_range.mp hi) k (List.mem_range.mp hk)

theorem nsB_no {L : List Int} {i k : Nat} (hi : i < L.length) (hk : k < L.length) (h : cmpN (nth L i).toNat (nth L k).toNat = false) : nsB L = false := by
  cases e : nsB L
  · rfl
  · unfold nsB at e
    rw [List.all_eq_true] at e
    have e := e i (List.mem_range.mpr hi)
    rw [List.all_eq_true] at e
    have e := e k (List.mem_range.mpr hk)
    rw [h] at e
    cases e

theorem nsB_half {L : List Int} (h : ∀ i, i < L.length → ∀ k, k < i → cmpN (nth L i).toNat (nth L k).toNat = true) : nsB L = true := by
  refine nsB_yes fun i hi k hk => ?_
  rcases Nat.lt_trichotomy i k with h1 | h1 | h1
  · rw [cmpN_comm]; exact h k hk i h1
  · subst h1; exact cmpN_refl _
  · exact h i hi k h1

def neG (s : Int) (xs : List Int) : Bool := massB s xs && nsB (focL xs xs.length)

theorem notSub (a b : Nat) (ha : a < 16) (hb : b < 16) : (bits BinOp.andNot IntKind.i64 (a : Int) (b : Int) != 0) = !subB a b := by
  rw [← sub_test a b ha hb]; rfl

theorem and_ne (a b : Nat) : (((a &&& b : Nat) : Int) != (a : Int)) = !subB a b := by
  unfold subB
  by_cases h : a &&& b = a
  · have h2 : ((a &&& b : Nat) : Int) = (a : Int) := by rw [h]
    have h3 : ((a &&& b) == a) = true := beq_iff_eq.mpr h
    rw [h3, h2]
    exact bne_self_eq_false _
  · have h2 : ((a &&& b : Nat) : Int) ≠ (a : Int) := fun e => h (by exact_mod_cast e)
    have h3 : ((a &&& b) == a) = false := beq_eq_false_iff_ne.mpr h
    rw [h3]
    exact bne_iff_ne.mpr h2

theorem and_nat16 (a b : Nat) (ha : a < 16) (hb : b < 16) : bits BinOp.and IntKind.i64 (a : Int) (b : Int) = ((a &&& b : Nat) : Int) := and_bits ⟨a, ha⟩ ⟨b, hb⟩

set_option maxHeartbeats 2000000 in
theorem iIsNested_any (s : Int) (p : Option Addr) (c : Nat) (xs : List Int) (w : World) (hx : Reads w p xs) (hxm : xs.length ≤ 1048576) :
    Calls Try.prog 38 #[.agg #[.int .i64 s, .slice p xs.length c]] w fun e w' => e = .returned (.bool (neG s xs)) ∧ Below w.heap.size w w' := by
  obtain ⟨W, hW, hbW, hsz, c0, c1⟩ := box1 w s p xs.length c
  have HW := Lib.hid hW
  have HSZ := Lib.hid hsz
  have hxW := hx.below hbW
  clear hW hsz hx
  cases h1 : massB s xs
  · have hr : Hid (neG s xs = false) := Lib.hid (by simp [neG, h1])
    go_enter Try.func38, Try.ntmps38
    go_wp2_with fail
    rw [← HW.out]
    refine (isMass_any _ _ _ _ _ hxW hxm).mono ?_
    rintro e w1 ⟨rfl, hb1⟩
    go_wp2
    go_ret
    exact ⟨ret_bool hr.out.symm, hbW.thenB hb1⟩
  · have hr : Hid (neG s xs = nsB (focL xs xs.length)) := Lib.hid (by simp [neG, h1])
    have hl16 := (massB_ok h1).l16
    go_enter Try.func38, Try.ntmps38
    go_wp2_with fail
    rw [← HW.out]
    refine (isMass_any _ _ _ _ _ hxW hxm).mono ?_
    rintro e w1 ⟨rfl, hb1⟩
    have d0 := cellKeep hb1 c0
    have d1 := cellKeep hb1 c1
    have hx1 := hxW.below hb1
    clear c0 c1
    go_wp2_with fail
    refine (focalSets_any _ _ _ _ _ hx1 hl16).mono ?_
    rintro e w2 ⟨v, rfl, ho, hb2⟩
    obtain ⟨p2, c2, rfl, hr2⟩ := ho.shape
    replace d0 := cellKeep hb2 d0
    replace d1 := cellKeep hb2 d1
    have hbf := (hbW.thenB hb1).thenB hb2
    have hx2 := hx1.below hb2
    have hln := focL_len xs xs.length
    clear hx1 hb1 hb2 hxW hbW ho
    go_wp2_with fail
    go_loopw [13] (fun i wr => ∃ k : Nat, k ≤ (focL xs xs.length).length ∧ i = .int .i64 k ∧ (∀ j, j < k → ∀ l, l < (focL xs xs.length).length → cmpN (nth (focL xs xs.length) j).toNat (nth (focL xs xs.length) l).toNat = true) ∧ Below w2.heap.size w2 wr) (fun i _ => (focL xs xs.length).length - (intOf i).toNat)
    case atStart => exact ⟨0, Nat.zero_le _, rfl, fun j hj => absurd hj (by omega), Below.refl _ _⟩
    case round =>
      obtain ⟨k, hk, rfl, hall, hb⟩ := hrel
      have HA := Lib.hid hall
      clear hall
      have m0 := cellKeep hb d0
      have m1 := cellKeep hb d1
      by_cases hlt : k < (focL xs xs.length).length
      · obtain ⟨b, off, rfl, hbl, hc⟩ := (hr2.below hb) k hlt
        obtain ⟨a, ha, ha1, ha2⟩ := focL_at xs xs.length k hlt
        rw [ha] at hc
        have HE := Lib.hid ha
        have ha16 : a < 16 := by omega
        have hxr := hx2.below hb
        clear ha ha2
        go_wp2_with fail
        refine (focalSets_any _ _ _ _ _ hxr hl16).mono ?_
        rintro e w3 ⟨v3, rfl, ho3, hb3⟩
        obtain ⟨p3, c3, rfl, hr3⟩ := ho3.shape
        have hb4 := hb.thenB hb3
        clear m0 m1 hc ho3 hxr
        go_wp2_with fail
        go_loop [20] (fun i => ∃ l : Nat, l ≤ (focL xs xs.length).length ∧ i = .int .i64 l ∧ ∀ j, j < l → cmpN (nth (focL xs xs.length) k).toNat (nth (focL xs xs.length) j).toNat = true) (fun i => (focL xs xs.length).length - (intOf i).toNat)
        case atStart => exact ⟨0, Nat.zero_le _, rfl, fun j hj => absurd hj (by omega)⟩
        case round =>
          obtain ⟨l, hl, rfl, hin⟩ := hrel
          have HI := Lib.hid hin
          clear hin
          by_cases hll : l < (focL xs xs.length).length
          · obtain ⟨b2, off2, rfl, hbl2, hc2⟩ := hr3 l hll
            obtain ⟨u, hu, hu1, hu2⟩ := focL_at xs xs.length l hll
            rw [hu] at hc2
            have HU := Lib.hid hu
            have hu16 : u < 16 := by omega
            clear hr3 hu hu2
            have t1 := notSub a u ha16 hu16
            have t2 := notSub u a hu16 ha16
            have hstep : cmpN a u = true → Hid (∀ j, j < l + 1 → cmpN (nth (focL xs xs.length) k).toNat (nth (focL xs xs.length) j).toNat = true) := fun h => Lib.hid (by
              intro j hj
              by_cases e : j = l
              · subst e; rw [HE.out, HU.out, Int.toNat_natCast, Int.toNat_natCast]; exact h
              · exact HI.out j (by omega))
            cases hs1 : subB a u
            · rw [hs1] at t1
              cases hs2 : subB u a
              · rw [hs2] at t2
                have hF : Hid (nsB (focL xs xs.length) = false) := Lib.hid (nsB_no hlt hll (by rw [HE.out, HU.out, Int.toNat_natCast, Int.toNat_natCast, cmpN, hs1, hs2]; rfl))
                clear hstep hs1 hs2
                go_wp2
                go_ret
                exact ⟨ret_bool (by rw [hr.out, hF.out]), hbf.thenB hb4⟩
              · rw [hs2] at t2
                have HS := hstep (by rw [cmpN, hs2]; simp)
                clear hstep hs1 hs2
                go_wp2
                exact ⟨⟨l + 1, by omega, by go_num, HS.out⟩, by simp [intOf]; omega⟩
            · rw [hs1] at t1
              have HS := hstep (by rw [cmpN, hs1]; rfl)
              clear hstep hs1
              go_wp2
              exact ⟨⟨l + 1, by omega, by go_num, HS.out⟩, by simp [intOf]; omega⟩
          · have h2 : l = (focL xs xs.length).length := by omega
            have HN : Hid (∀ j, j < k + 1 → ∀ l, l < (focL xs xs.length).length → cmpN (nth (focL xs xs.length) j).toNat (nth (focL xs xs.length) l).toNat = true) := Lib.hid (by
              intro j hj q hq
              by_cases e : j = k
              · subst e; exact HI.out q (by omega)
              · exact HA.out j (by omega) q hq)
            subst h2
            clear hr3
            go_wp2
            exact ⟨⟨k + 1, by omega, by go_num, HN.out, hb4⟩, by simp [intOf]; omega⟩
      · have h2 : k = (focL xs xs.length).length := by omega
        have hT : Hid (nsB (focL xs xs.length) = true) := Lib.hid (nsB_yes (by rw [← h2]; exact fun i hi q hq => HA.out i hi q (by rw [← h2]; exact hq)))
        subst h2
        clear m0 m1
        go_wp2
        go_ret
        exact ⟨ret_bool (by rw [hr.out, hT.out]), hbf.thenB hb⟩

def fsL (s : Int) (xs : List Int) : List Int := if massB s xs = true then focL xs xs.length else []

theorem fsL_no {s : Int} {xs : List Int} (h : massB s xs = false) : fsL s xs = [] := by simp [fsL, h]
theorem fsL_yes {s : Int} {xs : List Int} (h : massB s xs = true) : fsL s xs = focL xs xs.length := by simp [fsL, h]

/-- The contour. -/
def cnTo (xs : List Int) (k : Nat) : List Int := (List.range k).map fun x => possS (bit x) xs

theorem cnTo_succ (xs : List Int) (k : Nat) : cnTo xs (k + 1) = cnTo xs k ++ [possS (bit k) xs] := by simp [cnTo, List.range_succ]

theorem cnTo_len (xs : List Int) (k : Nat) : (cnTo xs k).length = k := by simp [cnTo]

theorem bit_wrapN (k : Nat) (h : k < 4) : IntKind.i64.wrap (2 ^ k) = ((bit k : Nat) : Int) := by
  have h2 : k = 0 ∨ k = 1 ∨ k = 2 ∨ k = 3 := by omega
  rcases h2 with rfl | rfl | rfl | rfl <;> decide

theorem bit_lt16N (y : Nat) (h : y < 4) : bit y < 16 := by
  have := Nat.pow_le_pow_right (n := 2) (by omega) (show y ≤ 3 by omega)
  unfold bit; omega

theorem cellAcr {B : Nat} {W W' : World} {b o : Nat} {v : Value} (hb : Below B W W') (hlt : b < B) (h : W.cell? ⟨b, o, none⟩ = some v) : W'.cell? ⟨b, o, none⟩ = some v :=
  (hb.cell (p := ⟨b, o, none⟩) hlt).trans h

def loG (s : Int) (xs : List Int) : Bool := neG s xs && normB s xs
def loL (s : Int) (xs : List Int) : List Int := if loG s xs = true then cnTo xs s.toNat else []

theorem loL_len (s : Int) (xs : List Int) : (loL s xs).length ≤ 1048576 := by
  by_cases h : loG s xs = true
  · have h2 : massB s xs = true := by simp only [loG, neG, Bool.and_eq_true] at h; exact h.1.1
    have := (massB_ok h2).s4
    rw [loL, if_pos h, cnTo_len]; omega
  · rw [loL, if_neg h]; simp

end Go.Proofs.Ytkpnenbkfphldaa
