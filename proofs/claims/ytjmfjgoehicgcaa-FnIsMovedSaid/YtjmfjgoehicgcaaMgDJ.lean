/- Sources that are conjoined: the reference. -/
import Derived.Test.YtjmfjgoehicgcaaMgS10
import Derived.Test.YtjmfjgoehicgcaaMgK7
import Derived.Test.YtjmfjgoehicgcaaMgDC
import Derived.Test.YtjmfjgoehicgcaaF2
set_option linter.unusedVariables false
set_option linter.unusedSimpArgs false
namespace Go.Proofs.Ytjmfjgoehicgcaa
open Go.RowKit

set_option maxHeartbeats 2000000 in
theorem l6Parts_any (s t : Int) (p q : Option Addr) (c d : Nat) (xs ys : List Int) (w : World)
    (hx : Reads w p xs) (hy : Reads w q ys) (hxm : xs.length ≤ 16) (hym : ys.length ≤ 16) (hrx : allB 0 1000000 xs = true) (hry : allB 0 1000000 ys = true) :
    Calls Try.prog 140 #[.agg #[.int .i64 s, .slice p xs.length c], .agg #[.int .i64 t, .slice q ys.length d], .string ⟨#[97, 110, 100]⟩] w fun e w' =>
      ∃ v, e = .returned v ∧ Own w.heap.size w' v (cjP xs ys) ∧ Below w.heap.size w w' := by
  have hF : ∀ a b, a < xs.length → a &&& b < xs.length := fun a b ha => Nat.lt_of_le_of_lt Nat.and_le_left ha
  obtain ⟨W, hW, hbW, hsz, c0, c1, c2, c3⟩ := box2 w s t p q xs.length ys.length c d
  have HRX := Lib.hid hrx
  have HRY := Lib.hid hry
  have HW := Lib.hid hW
  have HSZ := Lib.hid hsz
  have hxW := hx.below hbW
  have hyW := hy.below hbW
  clear hW hsz hrx hry
  go_enter Try.func140, Try.ntmps140
  go_wp2_with (at_make; (try rw [← HW.out]); refine wpList_makeInts _ rfl _ _ rfl (w.heap.size + 2) _ _ _ _ xs.length rfl rfl rfl rfl (by omega) (by have := HSZ.out; omega) ?_)
  intro w1 hown hb1 hlt1
  rw [HSZ.out] at hown hlt1
  replace c0 := cellKeep hb1 c0
  replace c1 := cellKeep hb1 c1
  replace c2 := cellKeep hb1 c2
  replace c3 := cellKeep hb1 c3
  have hbw1 := hbW.thenB hb1
  have hz1 := hb1.size
  have hz2 : w.heap.size + 2 ≤ w1.heap.size := by have := HSZ.out; omega
  clear hb1 hxW hyW hbW hz1
  go_wp2_with fail
  rw [HSZ.out]
  go_loopw [8] (fun i wr => ∃ k : Nat, k ≤ xs.length ∧ i = .int .i64 k ∧ Own (w.heap.size + 2) wr (.slice (some ⟨w.heap.size + 2, 0, none⟩) xs.length xs.length) (togTo (fun b c => b &&& c) xs ys (zeros xs.length) k) ∧ wr.cell? ⟨w.heap.size, 0, none⟩ = some (.int .i64 s) ∧ wr.cell? ⟨w.heap.size, 1, none⟩ = some (.slice p xs.length c) ∧ wr.cell? ⟨w.heap.size + 1, 0, none⟩ = some (.int .i64 t) ∧ wr.cell? ⟨w.heap.size + 1, 1, none⟩ = some (.slice q ys.length d) ∧ Below w.heap.size w wr ∧ w.heap.size + 2 < wr.heap.size) (fun i _ => xs.length - (intOf i).toNat)
  case atStart => exact ⟨0, Nat.zero_le _, rfl, hown, c0, c1, c2, c3, hbw1, hlt1⟩
  case round =>
    clear hown c0 c1 c2 c3 hbw1 hlt1 hz2
    obtain ⟨k, hk, rfl, ho, m0, m1, n0, n1, hb, hlt1⟩ := hrel
    have hln := togTo_len (fun b c => b &&& c) xs ys (zeros xs.length) k
    rw [zeros_len] at hln
    by_cases hlt : k < xs.length
    · obtain ⟨b, off, rfl, hbl, hc0⟩ := hx k hlt
      have hc := (hb.cell (p := ⟨b, off + k, none⟩) hbl).trans hc0
      have hs := Lib.hid (togTo_succ (fun b c => b &&& c) xs ys (zeros xs.length) k)
      have hal := Lib.hid (togTo_all (fun b c => b &&& c) xs ys (zeros xs.length) HRX.out HRY.out (zeros_all _) hym k hk)
      obtain ⟨d1, d2⟩ := allB_nth HRX.out k hlt
      have HLN := Lib.hid hln
      have HC0 := Lib.hid hc0
      clear hc0 hln hc
      go_wp2_with fail
      have HB := Lib.hid hb
      go_loopw [9] (fun i wr => ∃ j : Nat, j ≤ ys.length ∧ i = .int .i64 j ∧ Own (w.heap.size + 2) wr (.slice (some ⟨w.heap.size + 2, 0, none⟩) xs.length xs.length) (togIn (fun c => k &&& c) (nth xs k) ys (togTo (fun b c => b &&& c) xs ys (zeros xs.length) k) j) ∧ wr.cell? ⟨w.heap.size, 0, none⟩ = some (.int .i64 s) ∧ wr.cell? ⟨w.heap.size, 1, none⟩ = some (.slice (some ⟨b, off, none⟩) xs.length c) ∧ wr.cell? ⟨w.heap.size + 1, 0, none⟩ = some (.int .i64 t) ∧ wr.cell? ⟨w.heap.size + 1, 1, none⟩ = some (.slice q ys.length d) ∧ Below w.heap.size w wr ∧ w.heap.size + 2 < wr.heap.size) (fun i _ => ys.length - (intOf i).toNat)
      case atStart => exact ⟨0, Nat.zero_le _, rfl, ho, m0, m1, n0, n1, hb, hlt1⟩
      case round =>
        clear ho m0 m1 n0 n1 hb hlt1 HB
        obtain ⟨j, hj, rfl, ho, m0, m1, n0, n1, hb, hlt1⟩ := hrel
        by_cases hlj : j < ys.length
        · obtain ⟨b2, off2, rfl, hbl2, hc0⟩ := hy j hlj
          have hc := (hb.cell (p := ⟨b2, off2 + j, none⟩) hbl2).trans hc0
          have hs2 := Lib.hid (togIn_succ (fun c => k &&& c) (nth xs k) ys (togTo (fun b c => b &&& c) xs ys (zeros xs.length) k) j)
          have hln2 : (togIn (fun c => k &&& c) (nth xs k) ys (togTo (fun b c => b &&& c) xs ys (zeros xs.length) k) j).length = xs.length := by rw [togIn_len]; exact HLN.out
          have hal2 := togIn_all (fun c => k &&& c) (nth xs k) ys _ _ d1 d2 HRY.out hal.out j hj
          have hFk := hF k j hlt
          obtain ⟨f1, f2⟩ := allB_nth hal2 (k &&& j) (by rw [hln2]; exact hFk)
          obtain ⟨e1, e2⟩ := allB_nth HRY.out j hlj
          obtain ⟨g1, g2⟩ := prodL6 (nth xs k) (nth ys j) 1000000 1000000 d1 d2 e1 e2
          obtain ⟨q1, q2⟩ := ho.cellAt hln2 (k &&& j) hFk
          have HST := Lib.hid (ho.storedAt hln2 (k &&& j) (nth (togIn (fun c => k &&& c) (nth xs k) ys (togTo (fun b c => b &&& c) xs ys (zeros xs.length) k) j) (k &&& j) + nth xs k * nth ys j))
          have hcx := (hb.cell (p := ⟨b, off + k, none⟩) hbl).trans HC0.out
          have hbit := and_nat k j (by omega) (by omega)
          have hjn : (j : Int) < (ys.length : Int) := by omega
          have hkn : (k : Int) < (xs.length : Int) := by omega
          have hFn : ((k &&& j : Nat) : Int) < (xs.length : Int) := by omega
          have hF0 : (0 : Int) ≤ ((k &&& j : Nat) : Int) := by omega
          have hkk : (k : Int) < 16 := by omega
          have hjj : (j : Int) ≤ 16 := by omega
          have hw1 : IntKind.i64.wrap (nth xs k * nth ys j) = nth xs k * nth ys j := IntWalk.i64_in _ ⟨by omega, by omega⟩
          have hw2 : IntKind.i64.wrap (nth (togIn (fun c => k &&& c) (nth xs k) ys (togTo (fun b c => b &&& c) xs ys (zeros xs.length) k) j) (k &&& j) + nth xs k * nth ys j) = nth (togIn (fun c => k &&& c) (nth xs k) ys (togTo (fun b c => b &&& c) xs ys (zeros xs.length) k) j) (k &&& j) + nth xs k * nth ys j := IntWalk.i64_in _ ⟨by omega, by omega⟩
          clear hal2 ho hc0 hln2 hx hy
          go_wp2_with fail
          go_region
          go_wp2
          exact ⟨⟨j + 1, by omega, by go_num, by rw [hs2.out]; exact HST.out, cellStoreL m0 (by omega), cellStoreL m1 (by omega), cellStoreL n0 (by omega), cellStoreL n1 (by omega), (hb.setCell (by show _ ≤ w.heap.size + 2; omega) _).drew, by first | (simp; done) | (simp; omega)⟩, by simp [intOf]; omega⟩
        · have h1 : j = ys.length := by omega
          subst h1
          have HO := Lib.hid ho
          clear hx hy ho
          go_wp2
          exact ⟨⟨k + 1, by omega, by go_num, by rw [hs.out]; exact HO.out, m0, m1, n0, n1, hb, hlt1⟩, by simp [intOf]; omega⟩
    · have h1 : k = xs.length := by omega
      subst h1
      have HO := Lib.hid ho
      clear ho hx hy
      go_wp2
      go_ret
      exact ⟨_, rfl, HO.out.mono (by omega), hb⟩

set_option maxHeartbeats 2000000 in
theorem l6Told_any (s : Int) (p : Option Addr) (c : Nat) (xs : List Int) (t : Int) (q : Option Addr) (d : Nat) (ys : List Int) (w : World) (hx : Reads w p xs) (hy : Reads w q ys) (hxm : xs.length ≤ 1048576) (hym : ys.length ≤ 1048576) :
    Calls Try.prog 132 #[.agg #[.int .i64 s, .slice p xs.length c], .agg #[.int .i64 t, .slice q ys.length d], .string ⟨#[97, 110, 100]⟩] w fun e w' => ∃ v, e = .returned (.tuple #[.agg #[.int .i64 (gS (bothB s xs t ys) s (cjP xs ys)), v], .bool (gOk (bothB s xs t ys) s (cjP xs ys))]) ∧ Own w.heap.size w' v (gL (bothB s xs t ys) s (cjP xs ys)) ∧ Below w.heap.size w w' := by
  obtain ⟨W, hW, hbW, hsz, hM, hN, hR⟩ := box3R w s t p q xs.length ys.length c d
  have hxW := hx.below hbW
  have hyW := hy.below hbW
  have HWW := Lib.hid hW
  have HSZ := Lib.hid hsz
  clear hW hsz hx hy
  have m0 := hM.c0
  have m1 := hM.c1
  have n0 := hN.c0
  have n1 := hN.c1
  by_cases hg : bothB s xs t ys = true
  rotate_left
  · replace hg : bothB s xs t ys = false := by simpa using hg
    obtain ⟨hS, hO, hL⟩ := gNo (s := s) (L := cjP xs ys) hg
    have hS := Lib.hid hS
    have hO := Lib.hid hO
    have hL := Lib.hid hL
    have HG := Lib.hid hg
    clear hg
    go_enter Try.func132, Try.ntmps132
    go_wp2_with fail
    rw [← HWW.out]
    refine (l3Both_any _ _ _ _ _ _ _ _ _ hxW hyW hxm hym).mono ?_
    rintro e w1 ⟨rfl, hb1⟩
    rw [HG.out]
    have jR := hR.later hb1
    have s0 := jR.c0
    have s1 := jR.c1
    have s2 := jR.f0
    have s3 := jR.f1
    clear m0 m1 n0 n1
    go_wp2
    refine bodyPost_ret (v := .tuple #[.agg #[.int .i64 0, .slice none 0 0], .bool false]) (by simp [results, Try.results132, go_sem, s0, s1, s2, s3]) rfl ⟨_, by rw [hS.out, hO.out], by rw [hL.out]; exact Own.nil _ _, ?_⟩
    exact ((hbW.thenB hb1).setCell (by show _ ≤ w.heap.size + 2; omega) _).setCell (by show _ ≤ w.heap.size + 2; omega) _
  · obtain ⟨hk, hj, hst, hlen⟩ := bothB_ok hg
    obtain ⟨hS, hO, hL⟩ := gYes (s := s) (L := cjP xs ys) hg
    have hS := Lib.hid hS
    have hO := Lib.hid hO
    have hL := Lib.hid hL
    have HG := Lib.hid hg
    have hl16 := hk.l16
    have hly : ys.length ≤ 16 := hj.l16
    have hl1 : 1 ≤ xs.length := by have := hk.len; have := pow2_bd s hk.s1 hk.s4; omega
    have hax := hk.all
    have hay := hj.all
    have HP := Lib.hid (cjP_wide xs ys hax hay hly hl16)
    have HPL := Lib.hid (cjP_len xs ys)
    clear hg hk hj hst hlen
    go_enter Try.func132, Try.ntmps132
    go_wp2_with fail
    rw [← HWW.out]
    refine (l3Both_any _ _ _ _ _ _ _ _ _ hxW hyW hxm hym).mono ?_
    rintro e w1 ⟨rfl, hb1⟩
    rw [HG.out]
    clear m0 m1 n0 n1
    have hz1 := hb1.size
    have jM := (hM.later hb1).drew
    have jN := (hN.later hb1).drew
    have jR := (hR.later hb1).drew
    have bb := drewAll (hbW.thenB hb1)
    have m0 := jM.c0
    have m1 := jM.c1
    have n0 := jN.c0
    have n1 := jN.c1
    have hx1 := (hxW.below hb1).drew
    have hy1 := (hyW.below hb1).drew
    have s0 := jR.c0
    have s1 := jR.c1
    have s2 := jR.f0
    have s3 := jR.f1
    have hzd : w1.drew.heap.size = w1.heap.size := rfl
    have tkA : True := trivial
    have tkB : True := trivial
    clear hb1 hxW hyW hM hN hR hbW
    go_wp2_with fail
    go_region_held3 (fun w' => w'.cell? ⟨w.heap.size, 0, none⟩ = some (.int .i64 s) ∧ w'.cell? ⟨w.heap.size, 1, none⟩ = some (.slice p xs.length c) ∧ w'.cell? ⟨w.heap.size + 1, 0, none⟩ = some (.int .i64 t) ∧ w'.cell? ⟨w.heap.size + 1, 1, none⟩ = some (.slice q ys.length d))
      (first | exact ⟨m0, m1, n0, n1⟩ | (refine ⟨cellStore2 m0 ?_, cellStore2 m1 ?_, cellStore2 n0 ?_, cellStore2 n1 ?_⟩ <;> omega))
      (first
        | (go_at_call 140; have _t := tkA; (with_reducible refine (l6Parts_any _ _ _ _ _ _ xs ys _ hx1 hy1 hl16 hly hax hay).mono ?_); rintro e w2 ⟨v2, rfl, o2, hb⟩; clear m0 m1 n0 n1 s0 s1 s2 s3; (replace jM := jM.later hb); (replace jN := jN.later hb); (replace jR := jR.later hb); (replace bb := bb.thenB hb); (have m0 := jM.c0); (have m1 := jM.c1); (have n0 := jN.c0); (have n1 := jN.c1); (have s0 := jR.c0); (have s1 := jR.c1); (have s2 := jR.f0); (have s3 := jR.f1); (replace o2 : Own _ w2 v2 (cjP xs ys) := o2); (have z2 := hb.size); (have hlc : (cjP xs ys).length = xs.length := HPL.out); obtain ⟨p2, c2, rfl, r2⟩ := o2.shape; clear hb tkA _t)
        | (go_at_call 105; have _t := tkB; (with_reducible refine (l3Made_n _ _ _ xs.length (cjP xs ys) _ HPL.out r2 (by rw [HPL.out]; omega) HP.out).mono ?_); rintro e w3 ⟨v3, rfl, o3, hb⟩; clear m0 m1 n0 n1 s0 s1 s2 s3; (replace jM := jM.later hb); (replace jN := jN.later hb); (replace jR := jR.later hb); (replace bb := bb.thenB hb); (have m0 := jM.c0); (have m1 := jM.c1); (have n0 := jN.c0); (have n1 := jN.c1); (have s0 := jR.c0); (have s1 := jR.c1); (have s2 := jR.f0); (have s3 := jR.f1); (have z3 := hb.size); obtain ⟨p3, c3, rfl, r3⟩ := o3.shape; clear hb tkB _t))
    go_wp2
    refine bodyPost_ret (v := .tuple #[.agg #[.int .i64 (mkS s (cjP xs ys)), .slice p3 (mkL s (cjP xs ys)).length c3], .bool (mkOk s (cjP xs ys))]) (by simp [results, Try.results132, go_sem, s0, s1, s2, s3]) rfl ⟨_, by rw [hS.out, hO.out], ?_, ?_⟩
    · rw [hL.out]; exact ((o3.setBelow (by show w.heap.size + 2 < _; have := HSZ.out; omega) _).setBelow (by show w.heap.size + 2 < _; have := HSZ.out; omega) _).mono (by have := HSZ.out; omega)
    · exact (bb.setCell (by show _ ≤ w.heap.size + 2; omega) _).setCell (by show _ ≤ w.heap.size + 2; omega) _


set_option maxHeartbeats 1000000 in
theorem sConjoin_any (s : Int) (p : Option Addr) (c : Nat) (xs : List Int) (t : Int) (q : Option Addr) (d : Nat) (ys : List Int) (w : World) (hx : Reads w p xs) (hy : Reads w q ys) (hxm : xs.length ≤ 1048576) (hym : ys.length ≤ 1048576) :
    Calls Try.prog 109 #[.agg #[.int .i64 s, .slice p xs.length c], .agg #[.int .i64 t, .slice q ys.length d]] w fun e w' => ∃ v, e = .returned (.tuple #[.agg #[.int .i64 (gS (bothB s xs t ys) s (cjP xs ys)), v], .bool (gOk (bothB s xs t ys) s (cjP xs ys))]) ∧ Own w.heap.size w' v (gL (bothB s xs t ys) s (cjP xs ys)) ∧ Below w.heap.size w w' := by
  obtain ⟨W, hW, hbW, hsz, hM, hN, hR⟩ := box3R w s t p q xs.length ys.length c d
  have hxW := hx.below hbW
  have hyW := hy.below hbW
  have HWW := Lib.hid hW
  have HSZ := Lib.hid hsz
  obtain ⟨S, hS⟩ : ∃ x, x = gS (bothB s xs t ys) s (cjP xs ys) := ⟨_, rfl⟩
  obtain ⟨OK, hOK⟩ : ∃ x, x = gOk (bothB s xs t ys) s (cjP xs ys) := ⟨_, rfl⟩
  obtain ⟨K, hK⟩ : ∃ x, x = gL (bothB s xs t ys) s (cjP xs ys) := ⟨_, rfl⟩
  have hC := l6Told_any s p c xs t q d ys W hxW hyW hxm hym
  rw [← hS, ← hOK, ← hK] at hC ⊢
  have HC := Lib.hid hC
  have m0 := hM.c0
  have m1 := hM.c1
  have n0 := hN.c0
  have n1 := hN.c1
  clear hW hsz hx hy hC hS hOK hK
  go_enter Try.func109, Try.ntmps109
  go_wp2_with fail
  rw [← HWW.out]
  refine HC.out.mono ?_
  rintro e w1 ⟨v, rfl, o, hb⟩
  obtain ⟨p3, c3, rfl, _hr⟩ := o.shape
  replace hR := hR.later hb
  have s0 := hR.c0
  have s1 := hR.c1
  have s2 := hR.f0
  have s3 := hR.f1
  clear m0 m1 n0 n1 _hr
  go_wp2
  refine bodyPost_ret (v := .tuple #[.agg #[.int .i64 S, .slice p3 K.length c3], .bool OK]) (by simp [results, Try.results109, go_sem, s0, s1, s2, s3]) rfl ⟨_, rfl, ?_, ?_⟩
  · exact ((o.setBelow (by show w.heap.size + 2 < _; have := HSZ.out; omega) _).setBelow (by show w.heap.size + 2 < _; have := HSZ.out; omega) _).mono (by have := HSZ.out; omega)
  · exact ((hbW.thenB hb).setCell (by show _ ≤ w.heap.size + 2; omega) _).setCell (by show _ ≤ w.heap.size + 2; omega) _

end Go.Proofs.Ytjmfjgoehicgcaa

/- Lists of answers and orders of answers: both packages. -/
set_option linter.unusedVariables false
set_option linter.unusedSimpArgs false
namespace Go.Proofs.Ytjmfjgoehicgcaa
open Go.RowKit

/-- The set of the first k answers of a list. -/
def maskTo (ts : List Int) (k : Nat) : Nat := (List.range k).foldl (fun o x => o ||| bit (nth ts x).toNat) 0

theorem maskTo_succ (ts : List Int) (k : Nat) : maskTo ts (k + 1) = maskTo ts k ||| bit (nth ts k).toNat := by simp [maskTo, List.range_succ]

/-- No answer of a list is there twice. -/
def ndTo (ts : List Int) (k : Nat) : Bool := (List.range k).all fun i => !(maskTo ts i).testBit (nth ts i).toNat

theorem ndTo_succ (ts : List Int) (k : Nat) : ndTo ts (k + 1) = (ndTo ts k && !(maskTo ts k).testBit (nth ts k).toNat) := by simp [ndTo, List.range_succ]

theorem ndTo_false (ts : List Int) (k n : Nat) (hk : k < n) (h : (maskTo ts k).testBit (nth ts k).toNat = true) : ndTo ts n = false := by
  cases e : ndTo ts n
  · rfl
  · unfold ndTo at e
    rw [List.all_eq_true] at e
    have := e k (List.mem_range.mpr hk)
    rw [h] at this
    cases this

theorem nd1 : ∀ a : Fin 1, ndTo [(a.val : Int)] 1 = decide (maskTo [(a.val : Int)] 1 = 1) := by decide +kernel
theorem nd2 : ∀ a b : Fin 2, ndTo [(a.val : Int), b.val] 2 = decide (maskTo [(a.val : Int), b.val] 2 = 3) := by decide +kernel
theorem nd3 : ∀ a b c : Fin 3, ndTo [(a.val : Int), b.val, c.val] 3 = decide (maskTo [(a.val : Int), b.val, c.val] 3 = 7) := by decide +kernel
theorem nd4 : ∀ a b c d : Fin 4, ndTo [(a.val : Int), b.val, c.val, d.val] 4 = decide (maskTo [(a.val : Int), b.val, c.val, d.val] 4 = 15) := by decide +kernel

theorem fin_of {n : Nat} {x : Int} (h0 : 0 ≤ x) (h1 : x < n) : ∃ a : Fin n, x = a.val := ⟨⟨x.toNat, by omega⟩, by simp; omega⟩

/-- A list of so many answers of a question with as many, as one of few lists. -/
theorem few {s : Int} {ts : List Int} (h1 : 1 ≤ s) (h4 : s ≤ 4) (h : allB 0 (s - 1) ts = true) (hl : (ts.length : Int) = s) :
    (s = 1 ∧ ∃ a : Fin 1, ts = [(a.val : Int)]) ∨ (s = 2 ∧ ∃ a b : Fin 2, ts = [(a.val : Int), b.val]) ∨ (s = 3 ∧ ∃ a b c : Fin 3, ts = [(a.val : Int), b.val, c.val]) ∨ (s = 4 ∧ ∃ a b c d : Fin 4, ts = [(a.val : Int), b.val, c.val, d.val]) := by
  have hn := fun k hk => allB_nth h k hk
  match ts, hl with
  | [], hl => simp at hl; omega
  | [a], hl =>
    have e : s = 1 := by simp at hl; omega
    have a0 := hn 0 (by simp)
    simp [nth] at a0
    obtain ⟨a', ha⟩ := fin_of (n := 1) a0.1 (by omega)
    exact .inl ⟨e, a', by rw [ha]⟩
  | [a, b], hl =>
    have e : s = 2 := by simp at hl; omega
    have a0 := hn 0 (by simp)
    have a1 := hn 1 (by simp)
    simp [nth] at a0 a1
    obtain ⟨a', ha⟩ := fin_of (n := 2) a0.1 (by omega)
    obtain ⟨b', hb⟩ := fin_of (n := 2) a1.1 (by omega)
    exact .inr (.inl ⟨e, a', b', by rw [ha, hb]⟩)
  | [a, b, c], hl =>
    have e : s = 3 := by simp at hl; omega
    have a0 := hn 0 (by simp)
    have a1 := hn 1 (by simp)
    have a2 := hn 2 (by simp)
    simp [nth] at a0 a1 a2
    obtain ⟨a', ha⟩ := fin_of (n := 3) a0.1 (by omega)
    obtain ⟨b', hb⟩ := fin_of (n := 3) a1.1 (by omega)
    obtain ⟨c', hc⟩ := fin_of (n := 3) a2.1 (by omega)
    exact .inr (.inr (.inl ⟨e, a', b', c', by rw [ha, hb, hc]⟩))
  | [a, b, c, d], hl =>
    have e : s = 4 := by simp at hl; omega
    have a0 := hn 0 (by simp)
    have a1 := hn 1 (by simp)
    have a2 := hn 2 (by simp)
    have a3 := hn 3 (by simp)
    simp [nth] at a0 a1 a2 a3
    obtain ⟨a', ha⟩ := fin_of (n := 4) a0.1 (by omega)
    obtain ⟨b', hb⟩ := fin_of (n := 4) a1.1 (by omega)
    obtain ⟨c', hc⟩ := fin_of (n := 4) a2.1 (by omega)
    obtain ⟨d', hd⟩ := fin_of (n := 4) a3.1 (by omega)
    exact .inr (.inr (.inr ⟨e, a', b', c', d', by rw [ha, hb, hc, hd]⟩))
  | _ :: _ :: _ :: _ :: _ :: _, hl => simp at hl; omega

theorem ord_nd {s : Int} {ts : List Int} (h1 : 1 ≤ s) (h4 : s ≤ 4) (h : allB 0 (s - 1) ts = true) (hl : (ts.length : Int) = s) : ndTo ts ts.length = decide ((maskTo ts ts.length : Int) = pow2 s - 1) := by
  rcases few h1 h4 h hl with ⟨rfl, a, rfl⟩ | ⟨rfl, a, b, rfl⟩ | ⟨rfl, a, b, c, rfl⟩ | ⟨rfl, a, b, c, d, rfl⟩
  · show ndTo _ 1 = decide ((maskTo _ 1 : Int) = _)
    rw [nd1 a, decide_eq_decide, show pow2 1 = 2 by decide]
    omega
  · show ndTo _ 2 = decide ((maskTo _ 2 : Int) = _)
    rw [nd2 a b, decide_eq_decide, show pow2 2 = 4 by decide]
    omega
  · show ndTo _ 3 = decide ((maskTo _ 3 : Int) = _)
    rw [nd3 a b c, decide_eq_decide, show pow2 3 = 8 by decide]
    omega
  · show ndTo _ 4 = decide ((maskTo _ 4 : Int) = _)
    rw [nd4 a b c d, decide_eq_decide, show pow2 4 = 16 by decide]
    omega

/-- A list has each answer of a question once. -/
def ordB (s : Int) (ts : List Int) : Bool := allB 0 (s - 1) ts && (decide ((ts.length : Int) = s) && ndTo ts ts.length)

theorem ordB_all {s : Int} {ts : List Int} (h : allB 0 (s - 1) ts = false) : ordB s ts = false := by simp [ordB, h]

theorem ordB_dup {s : Int} {ts : List Int} (h : ndTo ts ts.length = false) : ordB s ts = false := by simp [ordB, h]

theorem maskTo_lt {s : Int} {ts : List Int} (h4 : s ≤ 4) (h : allB 0 (s - 1) ts = true) (k : Nat) (hk : k ≤ ts.length) : maskTo ts k < 16 := by
  induction k with
  | zero => simp [maskTo]
  | succ k ih =>
    rw [maskTo_succ]
    have := allB_nth h k (by omega)
    exact or_lt' _ _ (ih (by omega)) (by omega)

/-- The first k elements lie within bounds. -/
def allTo (low high : Int) (ts : List Int) (k : Nat) : Prop := ∀ j, j < k → low ≤ nth ts j ∧ nth ts j ≤ high

theorem allTo_succ {low high : Int} {ts : List Int} {k : Nat} (h : allTo low high ts k) (h1 : low ≤ nth ts k) (h2 : nth ts k ≤ high) : allTo low high ts (k + 1) := by
  intro j hj
  by_cases e : j = k
  · subst e; exact ⟨h1, h2⟩
  · exact h j (by omega)

theorem allTo_all {low high : Int} {ts : List Int} (h : allTo low high ts ts.length) : allB low high ts = true := allB_iff.mpr h

theorem maskTo_lt2 {s : Int} {ts : List Int} (h4 : s ≤ 4) (k : Nat) (h : allTo 0 (s - 1) ts k) : maskTo ts k < 16 := by
  induction k with
  | zero => simp [maskTo]
  | succ k ih =>
    rw [maskTo_succ]
    have := h k (by omega)
    exact or_lt' _ _ (ih fun j hj => h j (by omega)) (by omega)

theorem not_inB {n low high : Int} (h : inB n low high = false) : ¬ (low ≤ n ∧ n ≤ high) := by simpa [inB] using h

theorem yes_inB {n low high : Int} (h : inB n low high = true) : low ≤ n ∧ n ≤ high := by simpa [inB] using h

theorem int_nat4 {x s : Int} (h0 : 0 ≤ x) (h1 : x < s) (h4 : s ≤ 4) : ∃ n : Nat, x = n ∧ n < 4 := ⟨x.toNat, by omega, by omega⟩

theorem fullSetR_any (s : Int) (w : World) (h1 : 1 ≤ s) (h4 : s ≤ 4) :
    Calls Try.prog 85 #[.int .i64 s] w fun e w' => e = .returned (.int .i64 (pow2 s - 1)) ∧ w = w' := by
  have h := pow2_wrap s h1 h4
  have hb := pow2_bd s h1 h4
  have h0 : ¬ s < 0 := by omega
  go_enter Try.func85, Try.ntmps85
  go_wp2
  go_ret
  exact ⟨rfl, rfl⟩

end Go.Proofs.Ytjmfjgoehicgcaa

/- Shares, and masses that are mixed: what they are. -/
set_option linter.unusedVariables false
set_option linter.unusedSimpArgs false
namespace Go.Proofs.Ytjmfjgoehicgcaa
open Go.RowKit

/-- A fraction between 0 and 1. -/
def shB (n d : Int) : Bool := fracB n d && (decide (0 ≤ n) && decide (n ≤ d))

theorem boxF (w : World) (n d : Int) : ∃ W : World, W = w.alloc (.cells #[.int .i64 n, .int .i64 d] 32) ∧
    Below w.heap.size w W ∧ W.heap.size = w.heap.size + 1 ∧ VarInv W w.heap.size n (.int .i64 d) :=
  ⟨_, rfl, belowAlloc _ _, by simp, VarInv.made _ _ _ _⟩

theorem isShare_any (n d : Int) (w : World) :
    Calls Try.prog 100 #[.agg #[.int .i64 n, .int .i64 d]] w fun e w' => e = .returned (.bool (shB n d)) ∧ Below w.heap.size w w' := by
  obtain ⟨W, hW, bW, hsz, b0⟩ := boxF w n d
  have HW := Lib.hid hW
  clear hW
  cases h1 : fracB n d
  · have hr : Hid (shB n d = false) := Lib.hid (by simp [shB, h1])
    have H1 := Lib.hid h1
    have c0 := b0.c0
    have c1 := b0.c1
    go_enter Try.func100, Try.ntmps100
    go_wp2_with fail
    rw [← HW.out]
    refine (isFraction_any _ _ _).mono ?_
    rintro e w1 ⟨rfl, hb1⟩
    rw [H1.out]
    have bb := bW.thenB hb1
    clear c0 c1
    go_wp2
    go_ret
    exact ⟨ret_bool hr.out.symm, bb⟩
  · have H1 := Lib.hid h1
    have c0 := b0.c0
    have c1 := b0.c1
    rcases (show n < 0 ∨ (0 ≤ n ∧ d < n) ∨ (0 ≤ n ∧ n ≤ d) by omega) with h | ⟨h, h2⟩ | ⟨h, h2⟩
    all_goals have hr : Hid (shB n d = (decide (0 ≤ n) && decide (n ≤ d))) := Lib.hid (by simp [shB, h1])
    all_goals clear h1
    all_goals go_enter Try.func100, Try.ntmps100
    all_goals go_wp2_with fail
    all_goals rw [← HW.out]
    all_goals refine (isFraction_any _ _ _).mono ?_
    all_goals rintro e w1 ⟨rfl, hb1⟩
    all_goals rw [H1.out]
    all_goals have bb := bW.thenB hb1
    all_goals have b1 := b0.later hb1
    all_goals clear c0 c1
    all_goals have c0 := b1.c0
    all_goals have c1 := b1.c1
    all_goals go_wp2
    all_goals go_ret
    · exact ⟨ret_bool (by rw [hr.out, show decide (0 ≤ n) = false from by simp; omega]; rfl), bb⟩
    · exact ⟨ret_bool (by rw [hr.out, show decide (n ≤ d) = false from by simp; omega]; simp), bb⟩
    · exact ⟨ret_bool (by rw [hr.out, show decide (0 ≤ n) = true from by simp; omega, show decide (n ≤ d) = true from by simp; omega]; rfl), bb⟩

theorem l3Share_any (n d : Int) (w : World) :
    Calls Try.prog 104 #[.agg #[.int .i64 n, .int .i64 d]] w fun e w' => e = .returned (.bool (shB n d)) ∧ Below w.heap.size w w' := by
  obtain ⟨W, hW, bW, hsz, b0⟩ := boxF w n d
  have HW := Lib.hid hW
  clear hW
  have c0 := b0.c0
  have c1 := b0.c1
  cases h1 : fracB n d
  · have hr : Hid (shB n d = false) := Lib.hid (by simp [shB, h1])
    have H1 := Lib.hid h1
    go_enter Try.func104, Try.ntmps104
    go_wp2_with fail
    rw [← HW.out]
    refine (FractionValid_any _ _ _).mono ?_
    rintro e w1 ⟨rfl, hb1⟩
    rw [H1.out]
    have bb := bW.thenB hb1
    clear c0 c1
    go_wp2
    go_ret
    exact ⟨ret_bool hr.out.symm, bb⟩
  · have H1 := Lib.hid h1
    have hr : Hid (shB n d = inB n 0 d) := Lib.hid (by simp [shB, h1, inB])
    clear h1
    go_enter Try.func104, Try.ntmps104
    go_wp2_with fail
    rw [← HW.out]
    refine (FractionValid_any _ _ _).mono ?_
    rintro e w1 ⟨rfl, hb1⟩
    rw [H1.out]
    have bb := bW.thenB hb1
    have b1 := b0.later hb1
    clear c0 c1
    have c0 := b1.c0
    have c1 := b1.c1
    go_wp2_with fail
    refine (l1In_any _ _ _ _).mono ?_
    rintro e w' ⟨rfl, rfl⟩
    go_wp2
    go_ret
    exact ⟨ret_bool hr.out.symm, bb⟩

theorem box4 (w : World) (s t n d : Int) (p q : Option Addr) (m l c e : Nat) : ∃ W : World, W = (((w.alloc (.cells #[.int .i64 s, .slice p m c] 27)).alloc (.cells #[.int .i64 t, .slice q l e] 27)).alloc (.cells #[.int .i64 n, .int .i64 d] 32)).alloc (.cells #[.int .i64 0, .slice none 0 0] 27) ∧
    Below w.heap.size w W ∧ W.heap.size = w.heap.size + 4 ∧ VarInv W w.heap.size s (.slice p m c) ∧ VarInv W (w.heap.size + 1) t (.slice q l e) ∧ VarInv W (w.heap.size + 2) n (.int .i64 d) ∧ VarInv W (w.heap.size + 3) 0 (.slice none 0 0) := by
  obtain ⟨W1, hW1⟩ : ∃ W, W = w.alloc (.cells #[.int .i64 s, .slice p m c] 27) := ⟨_, rfl⟩
  obtain ⟨W2, hW2⟩ : ∃ W, W = W1.alloc (.cells #[.int .i64 t, .slice q l e] 27) := ⟨_, rfl⟩
  obtain ⟨W3, hW3⟩ : ∃ W, W = W2.alloc (.cells #[.int .i64 n, .int .i64 d] 32) := ⟨_, rfl⟩
  have s1 : W1.heap.size = w.heap.size + 1 := by subst hW1; simp
  have s2 : W2.heap.size = w.heap.size + 2 := by subst hW2; simp [s1]
  have s3 : W3.heap.size = w.heap.size + 3 := by subst hW3; simp [s2]
  have b1 : Below w.heap.size w W1 := by subst hW1; exact belowAlloc _ _
  have b2 : Below W1.heap.size W1 W2 := by subst hW2; exact belowAlloc _ _
  have b3 : Below W2.heap.size W2 W3 := by subst hW3; exact belowAlloc _ _
  have v1 : VarInv W1 w.heap.size s (.slice p m c) := by subst hW1; exact VarInv.made _ _ _ _
  have v2 : VarInv W2 W1.heap.size t (.slice q l e) := by subst hW2; exact VarInv.made _ _ _ _
  have v3 : VarInv W3 W2.heap.size n (.int .i64 d) := by subst hW3; exact VarInv.made _ _ _ _
  have b4 := belowAlloc W3 (.cells #[.int .i64 0, .slice none 0 0] 27)
  have v4 := VarInv.made W3 0 (.slice none 0 0) 27
  refine ⟨W3.alloc (.cells #[.int .i64 0, .slice none 0 0] 27), by rw [hW3, hW2, hW1], ((b1.thenB b2).thenB b3).thenB b4, by simp [s3], ((v1.later b2).later b3).later b4, ?_, ?_, ?_⟩
  · rw [← s1]; exact (v2.later b3).later b4
  · rw [← s2]; exact v3.later b4
  · rw [← s3]; exact v4

def mixN (xs ys : List Int) (n d : Int) (b : Nat) : Int := n * nth xs b * sumL ys + (d - n) * nth ys b * sumL xs
/-- The parts of a mixed mass: n of d parts of the first. -/
def mixP (xs ys : List Int) (n d : Int) : List Int := (List.range xs.length).map (mixN xs ys n d)
def mixG (s : Int) (xs : List Int) (t : Int) (ys : List Int) (n d : Int) : Bool := bothB s xs t ys && (shB n d && decide (d ≤ 1000))

theorem mixP_len (xs ys : List Int) (n d : Int) : (mixP xs ys n d).length = xs.length := by simp [mixP]
theorem mixP_nth (xs ys : List Int) (n d : Int) (b : Nat) (hb : b < xs.length) : nth (mixP xs ys n d) b = mixN xs ys n d b := by
  rw [nth_eq _ _ (by rw [mixP_len]; exact hb)]; simp [mixP]

theorem shB_ok {n d : Int} (h : shB n d = true) : 0 ≤ n ∧ n ≤ d ∧ 1 ≤ d := by
  simp only [shB, fracB, Bool.and_eq_true, decide_eq_true_eq] at h
  have := yes_inB h.1.2.1
  exact ⟨h.2.1, h.2.2, this.1⟩

/-- The steps of a mixed part: none leaves the ints. -/
structure MixIn (n d x y X Y : Int) : Prop where
  a1 : IntKind.i64.wrap (n * x) = n * x
  a2 : IntKind.i64.wrap (n * x * Y) = n * x * Y
  b0 : IntKind.i64.wrap (d - n) = d - n
  b1 : IntKind.i64.wrap ((d - n) * y) = (d - n) * y
  b2 : IntKind.i64.wrap ((d - n) * y * X) = (d - n) * y * X
  c : IntKind.i64.wrap (n * x * Y + (d - n) * y * X) = n * x * Y + (d - n) * y * X
  s1 : IntKind.i64.wrap (x * Y) = x * Y
  s2 : IntKind.i64.wrap (x * Y * n) = x * Y * n
  t1 : IntKind.i64.wrap (y * X) = y * X
  t2 : IntKind.i64.wrap (y * X * (d - n)) = y * X * (d - n)
  e : x * Y * n + y * X * (d - n) = n * x * Y + (d - n) * y * X
  lo : 0 ≤ n * x * Y + (d - n) * y * X
  hi : n * x * Y + (d - n) * y * X ≤ 2000000000000000

theorem mixIn {n d x y X Y : Int} (hn : 0 ≤ n) (hd : n ≤ d) (h1000 : d ≤ 1000) (x0 : 0 ≤ x) (x1 : x ≤ 1000000) (y0 : 0 ≤ y) (y1 : y ≤ 1000000) (X0 : 0 ≤ X) (X1 : X ≤ 1000000) (Y0 : 0 ≤ Y) (Y1 : Y ≤ 1000000) : MixIn n d x y X Y := by
  have p1 : 0 ≤ n * x := Int.mul_nonneg hn x0
  have p2 : n * x ≤ 1000 * 1000000 := Int.mul_le_mul (by omega) x1 x0 (by omega)
  have p3 : 0 ≤ n * x * Y := Int.mul_nonneg p1 Y0
  have p4 : n * x * Y ≤ 1000 * 1000000 * 1000000 := Int.mul_le_mul p2 Y1 Y0 (by omega)
  have q1 : 0 ≤ (d - n) * y := Int.mul_nonneg (by omega) y0
  have q2 : (d - n) * y ≤ 1000 * 1000000 := Int.mul_le_mul (by omega) y1 y0 (by omega)
  have q3 : 0 ≤ (d - n) * y * X := Int.mul_nonneg q1 X0
  have q4 : (d - n) * y * X ≤ 1000 * 1000000 * 1000000 := Int.mul_le_mul q2 X1 X0 (by omega)
  have r1 : 0 ≤ x * Y := Int.mul_nonneg x0 Y0
  have r2 : x * Y ≤ 1000000 * 1000000 := Int.mul_le_mul x1 Y1 Y0 (by omega)
  have r3 : 0 ≤ y * X := Int.mul_nonneg y0 X0
  have r4 : y * X ≤ 1000000 * 1000000 := Int.mul_le_mul y1 X1 X0 (by omega)
  have e1 : x * Y * n = n * x * Y := by ac_rfl
  have e2 : y * X * (d - n) = (d - n) * y * X := by ac_rfl
  refine ⟨IntWalk.i64_in _ (by omega), IntWalk.i64_in _ (by omega), IntWalk.i64_in _ (by omega), IntWalk.i64_in _ (by omega), IntWalk.i64_in _ (by omega), IntWalk.i64_in _ (by omega), IntWalk.i64_in _ (by omega), ?_, IntWalk.i64_in _ (by omega), ?_, by rw [e1, e2], by omega, by omega⟩
  · rw [e1]; exact IntWalk.i64_in _ (by omega)
  · rw [e2]; exact IntWalk.i64_in _ (by omega)

theorem mixP_wide {xs ys : List Int} {n d : Int} (hn : 0 ≤ n) (hd : n ≤ d) (h1000 : d ≤ 1000) (hx : allB 0 1000000 xs = true) (hy : allB 0 1000000 ys = true) (hl : ys.length = xs.length) (hX : 0 ≤ sumL xs ∧ sumL xs ≤ 1000000) (hY : 0 ≤ sumL ys ∧ sumL ys ≤ 1000000) : allB 0 4611686018427387904 (mixP xs ys n d) = true := by
  rw [allB_iff]
  intro k hk
  rw [mixP_len] at hk
  have h1 := allB_nth hx k hk
  have h2 := allB_nth hy k (by omega)
  have m := mixIn hn hd h1000 h1.1 h1.2 h2.1 h2.2 hX.1 hX.2 hY.1 hY.2
  rw [mixP_nth _ _ _ _ _ hk, mixN]
  exact ⟨m.lo, by have := m.hi; omega⟩

end Go.Proofs.Ytjmfjgoehicgcaa
