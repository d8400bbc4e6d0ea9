/- Sources that are conjoined: the reference. -/
import Derived.Test.YtjmfjgoehicgcaaN2
set_option linter.unusedVariables false
set_option linter.unusedSimpArgs false
namespace Go.Proofs.Ytjmfjgoehicgcaa
open Go.RowKit

set_option maxHeartbeats 2000000 in
theorem l6Parts_any (s t : Int) (p q : Option Addr) (c d : Nat) (xs ys : List Int) (w : World)
    (hx : Reads w p xs) (hy : Reads w q ys) (hxm : xs.length ≤ 16) (hym : ys.length ≤ 16) (hrx : allB 0 1000000 xs = true) (hry : allB 0 1000000 ys = true) :
    Calls Try.prog 140 #[.agg #[.int .i64 s, .slice p xs.length c], .agg #[.int .i64 t, .slice q ys.length d], .string ⟨#[97, 110, 100]⟩] w fun e w' =>
      ∃ v, e = .returned v ∧ Own w.heap.size w' v (cjP xs ys) ∧ Below w.heap.size w w' := by
  have hF : ∀ a b, a < xs.length → a &&& b < xs.length := fun a b ha => Nat.lt_of_le_of_lt Nat.and_le_left ha
  obtain ⟨W, hW, hbW, hsz, c0, c1, c2, c3⟩ := box2 w s t p q xs.length ys.length c d
  have HRX := Lib.hid hrx
  have HRY := Lib.hid hry
  have HW := Lib.hid hW
  have HSZ := Lib.hid hsz
  have hxW := hx.below hbW
  have hyW := hy.below hbW
  clear hW hsz hrx hry
  go_enter Try.func140, Try.ntmps140
  go_wp2_with (at_make; (try rw [← HW.out]); refine wpList_makeInts _ rfl _ _ rfl (w.heap.size + 2) _ _ _ _ xs.length rfl rfl rfl rfl (by omega) (by have := HSZ.out; omega) ?_)
  intro w1 hown hb1 hlt1
  rw [HSZ.out] at hown hlt1
  replace c0 := cellKeep hb1 c0
  replace c1 := cellKeep hb1 c1
  replace c2 := cellKeep hb1 c2
  replace c3 := cellKeep hb1 c3
  have hbw1 := hbW.thenB hb1
  have hz1 := hb1.size
  have hz2 : w.heap.size + 2 ≤ w1.heap.size := by have := HSZ.out; omega
  clear hb1 hxW hyW hbW hz1
  go_wp2_with fail
  rw [HSZ.out]
  go_loopw [8] (fun i wr => ∃ k : Nat, k ≤ xs.length ∧ i = .int .i64 k ∧ Own (w.heap.size + 2) wr (.slice (some ⟨w.heap.size + 2, 0, none⟩) xs.length xs.length) (togTo (fun b c => b &&& c) xs ys (zeros xs.length) k) ∧ wr.cell? ⟨w.heap.size, 0, none⟩ = some (.int .i64 s) ∧ wr.cell? ⟨w.heap.size, 1, none⟩ = some (.slice p xs.length c) ∧ wr.cell? ⟨w.heap.size + 1, 0, none⟩ = some (.int .i64 t) ∧ wr.cell? ⟨w.heap.size + 1, 1, none⟩ = some (.slice q ys.length d) ∧ Below w.heap.size w wr ∧ w.heap.size + 2 < wr.heap.size) (fun i _ => xs.length - (intOf i).toNat)
  case atStart => exact ⟨0, Nat.zero_le _, rfl, hown, c0, c1, c2, c3, hbw1, hlt1⟩
  case round =>
    clear hown c0 c1 c2 c3 hbw1 hlt1 hz2
    obtain ⟨k, hk, rfl, ho, m0, m1, n0, n1, hb, hlt1⟩ := hrel
    have hln := togTo_len (fun b c => b &&& c) xs ys (zeros xs.length) k
    rw [zeros_len] at hln
    by_cases hlt : k < xs.length
    · obtain ⟨b, off, rfl, hbl, hc0⟩ := hx k hlt
      have hc := (hb.cell (p := ⟨b, off + k, none⟩) hbl).trans hc0
      have hs := Lib.hid (togTo_succ (fun b c => b &&& c) xs ys (zeros xs.length) k)
      have hal := Lib.hid (togTo_all (fun b c => b &&& c) xs ys (zeros xs.length) HRX.out HRY.out (zeros_all _) hym k hk)
      obtain ⟨d1, d2⟩ := allB_nth HRX.out k hlt
      have HLN := Lib.hid hln
      have HC0 := Lib.hid hc0
      clear hc0 hln hc
      go_wp2_with fail
      have HB := Lib.hid hb
      go_loopw [9] (fun i wr => ∃ j : Nat, j ≤ ys.length ∧ i = .int .i64 j ∧ Own (w.heap.size + 2) wr (.slice (some ⟨w.heap.size + 2, 0, none⟩) xs.length xs.length) (togIn (fun c => k &&& c) (nth xs k) ys (togTo (fun b c => b &&& c) xs ys (zeros xs.length) k) j) ∧ wr.cell? ⟨w.heap.size, 0, none⟩ = some (.int .i64 s) ∧ wr.cell? ⟨w.heap.size, 1, none⟩ = some (.slice (some ⟨b, off, none⟩) xs.length c) ∧ wr.cell? ⟨w.heap.size + 1, 0, none⟩ = some (.int .i64 t) ∧ wr.cell? ⟨w.heap.size + 1, 1, none⟩ = some (.slice q ys.length d) ∧ Below w.heap.size w wr ∧ w.heap.size + 2 < wr.heap.size) (fun i _ => ys.length - (intOf i).toNat)
      case atStart => exact ⟨0, Nat.zero_le _, rfl, ho, m0, m1, n0, n1, hb, hlt1⟩
      case round =>
        clear ho m0 m1 n0 n1 hb hlt1 HB
        obtain ⟨j, hj, rfl, ho, m0, m1, n0, n1, hb, hlt1⟩ := hrel
        by_cases hlj : j < ys.length
        · obtain ⟨b2, off2, rfl, hbl2, hc0⟩ := hy j hlj
          have hc := (hb.cell (p := ⟨b2, off2 + j, none⟩) hbl2).trans hc0
          have hs2 := Lib.hid (togIn_succ (fun c => k &&& c) (nth xs k) ys (togTo (fun b c => b &&& c) xs ys (zeros xs.length) k) j)
          have hln2 : (togIn (fun c => k &&& c) (nth xs k) ys (togTo (fun b c => b &&& c) xs ys (zeros xs.length) k) j).length = xs.length := by rw [togIn_len]; exact HLN.out
          have hal2 := togIn_all (fun c => k &&& c) (nth xs k) ys _ _ d1 d2 HRY.out hal.out j hj
          have hFk := hF k j hlt
          obtain ⟨f1, f2⟩ := allB_nth hal2 (k &&& j) (by rw [hln2]; exact hFk)
          obtain ⟨e1, e2⟩ := allB_nth HRY.out j hlj
          obtain ⟨g1, g2⟩ := prodL6 (nth xs k) (nth ys j) 1000000 1000000 d1 d2 e1 e2
          obtain ⟨q1, q2⟩ := ho.cellAt hln2 (k &&& j) hFk
          have HST := Lib.hid (ho.storedAt hln2 (k &&& j) (nth (togIn (fun c => k &&& c) (nth xs k) ys (togTo (fun b c => b &&& c) xs ys (zeros xs.length) k) j) (k &&& j) + nth xs k * nth ys j))
          have hcx := (hb.cell (p := ⟨b, off + k, none⟩) hbl).trans HC0.out
          have hbit := and_nat k j (by omega) (by omega)
          have hjn : (j : Int) < (ys.length : Int) := by omega
          have hkn : (k : Int) < (xs.length : Int) := by omega
          have hFn : ((k &&& j : Nat) : Int) < (xs.length : Int) := by omega
          have hF0 : (0 : Int) ≤ ((k &&& j : Nat) : Int) := by omega
          have hkk : (k : Int) < 16 := by omega
          have hjj : (j : Int) ≤ 16 := by omega
          have hw1 : IntKind.i64.wrap (nth xs k * nth ys j) = nth xs k * nth ys j := IntWalk.i64_in _ ⟨by omega, by omega⟩
          have hw2 : IntKind.i64.wrap (nth (togIn (fun c => k &&& c) (nth xs k) ys (togTo (fun b c => b &&& c) xs ys (zeros xs.length) k) j) (k &&& j) + nth xs k * nth ys j) = nth (togIn (fun c => k &&& c) (nth xs k) ys (togTo (fun b c => b &&& c) xs ys (zeros xs.length) k) j) (k &&& j) + nth xs k * nth ys j := IntWalk.i64_in _ ⟨by omega, by omega⟩
          clear hal2 ho hc0 hln2 hx hy
          go_wp2_with fail
          go_region
          go_wp2
          exact ⟨⟨j + 1, by omega, by go_num, by rw [hs2.out]; exact HST.out, cellStoreL m0 (by omega), cellStoreL m1 (by omega), cellStoreL n0 (by omega), cellStoreL n1 (by omega), (hb.setCell (by show _ ≤ w.heap.size + 2; omega) _).drew, by first | (simp; done) | (simp; omega)⟩, by simp [intOf]; omega⟩
        · have h1 : j = ys.length := by omega
          subst h1
          have HO := Lib.hid ho
          clear hx hy ho
          go_wp2
          exact ⟨⟨k + 1, by omega, by go_num, by rw [hs.out]; exact HO.out, m0, m1, n0, n1, hb, hlt1⟩, by simp [intOf]; omega⟩
    · have h1 : k = xs.length := by omega
      subst h1
      have HO := Lib.hid ho
      clear ho hx hy
      go_wp2
      go_ret
      exact ⟨_, rfl, HO.out.mono (by omega), hb⟩

set_option maxHeartbeats 2000000 in
theorem l6Told_any (s : Int) (p : Option Addr) (c : Nat) (xs : List Int) (t : Int) (q : Option Addr) (d : Nat) (ys : List Int) (w : World) (hx : Reads w p xs) (hy : Reads w q ys) (hxm : xs.length ≤ 1048576) (hym : ys.length ≤ 1048576) :
    Calls Try.prog 132 #[.agg #[.int .i64 s, .slice p xs.length c], .agg #[.int .i64 t, .slice q ys.length d], .string ⟨#[97, 110, 100]⟩] w fun e w' => ∃ v, e = .returned (.tuple #[.agg #[.int .i64 (gS (bothB s xs t ys) s (cjP xs ys)), v], .bool (gOk (bothB s xs t ys) s (cjP xs ys))]) ∧ Own w.heap.size w' v (gL (bothB s xs t ys) s (cjP xs ys)) ∧ Below w.heap.size w w' := by
  obtain ⟨W, hW, hbW, hsz, hM, hN, hR⟩ := box3R w s t p q xs.length ys.length c d
  have hxW := hx.below hbW
  have hyW := hy.below hbW
  have HWW := Lib.hid hW
  have HSZ := Lib.hid hsz
  clear hW hsz hx hy
  have m0 := hM.c0
  have m1 := hM.c1
  have n0 := hN.c0
  have n1 := hN.c1
  by_cases hg : bothB s xs t ys = true
  rotate_left
  · replace hg : bothB s xs t ys = false := by simpa using hg
    obtain ⟨hS, hO, hL⟩ := gNo (s := s) (L := cjP xs ys) hg
    have hS := Lib.hid hS
    have hO := Lib.hid hO
    have hL := Lib.hid hL
    have HG := Lib.hid hg
    clear hg
    go_enter Try.func132, Try.ntmps132
    go_wp2_with fail
    rw [← HWW.out]
    refine (l3Both_any _ _ _ _ _ _ _ _ _ hxW hyW hxm hym).mono ?_
    rintro e w1 ⟨rfl, hb1⟩
    rw [HG.out]
    have jR := hR.later hb1
    have s0 := jR.c0
    have s1 := jR.c1
    have s2 := jR.f0
    have s3 := jR.f1
    clear m0 m1 n0 n1
    go_wp2
    refine bodyPost_ret (v := .tuple #[.agg #[.int .i64 0, .slice none 0 0], .bool false]) (by simp [results, Try.results132, go_sem, s0, s1, s2, s3]) rfl ⟨_, by rw [hS.out, hO.out], by rw [hL.out]; exact Own.nil _ _, ?_⟩
    exact ((hbW.thenB hb1).setCell (by show _ ≤ w.heap.size + 2; omega) _).setCell (by show _ ≤ w.heap.size + 2; omega) _
  · obtain ⟨hk, hj, hst, hlen⟩ := bothB_ok hg
    obtain ⟨hS, hO, hL⟩ := gYes (s := s) (L := cjP xs ys) hg
    have hS := Lib.hid hS
    have hO := Lib.hid hO
    have hL := Lib.hid hL
    have HG := Lib.hid hg
    have hl16 := hk.l16
    have hly : ys.length ≤ 16 := hj.l16
    have hl1 : 1 ≤ xs.length := by have := hk.len; have := pow2_bd s hk.s1 hk.s4; omega
    have hax := hk.all
    have hay := hj.all
    have HP := Lib.hid (cjP_wide xs ys hax hay hly hl16)
    have HPL := Lib.hid (cjP_len xs ys)
    clear hg hk hj hst hlen
    go_enter Try.func132, Try.ntmps132
    go_wp2_with fail
    rw [← HWW.out]
    refine (l3Both_any _ _ _ _ _ _ _ _ _ hxW hyW hxm hym).mono ?_
    rintro e w1 ⟨rfl, hb1⟩
    rw [HG.out]
    clear m0 m1 n0 n1
    have hz1 := hb1.size
    have jM := (hM.later hb1).drew
    have jN := (hN.later hb1).drew
    have jR := (hR.later hb1).drew
    have bb := drewAll (hbW.thenB hb1)
    have m0 := jM.c0
    have m1 := jM.c1
    have n0 := jN.c0
    have n1 := jN.c1
    have hx1 := (hxW.below hb1).drew
    have hy1 := (hyW.below hb1).drew
    have s0 := jR.c0
    have s1 := jR.c1
    have s2 := jR.f0
    have s3 := jR.f1
    have hzd : w1.drew.heap.size = w1.heap.size := rfl
    have tkA : True := trivial
    have tkB : True := trivial
    clear hb1 hxW hyW hM hN hR hbW
    go_wp2_with fail
    go_region_held3 (fun w' => w'.cell? ⟨w.heap.size, 0, none⟩ = some (.int .i64 s) ∧ w'.cell? ⟨w.heap.size, 1, none⟩ = some (.slice p xs.length c) ∧ w'.cell? ⟨w.heap.size + 1, 0, none⟩ = some (.int .i64 t) ∧ w'.cell? ⟨w.heap.size + 1, 1, none⟩ = some (.slice q ys.length d))
      (first | exact ⟨m0, m1, n0, n1⟩ | (refine ⟨cellStore2 m0 ?_, cellStore2 m1 ?_, cellStore2 n0 ?_, cellStore2 n1 ?_⟩ <;> omega))
      (first
        | (go_at_call 140; have _t := tkA; (with_reducible refine (l6Parts_any _ _ _ _ _ _ xs ys _ hx1 hy1 hl16 hly hax hay).mono ?_); rintro e w2 ⟨v2, rfl, o2, hb⟩; clear m0 m1 n0 n1 s0 s1 s2 s3; (replace jM := jM.later hb); (replace jN := jN.later hb); (replace jR := jR.later hb); (replace bb := bb.thenB hb); (have m0 := jM.c0); (have m1 := jM.c1); (have n0 := jN.c0); (have n1 := jN.c1); (have s0 := jR.c0); (have s1 := jR.c1); (have s2 := jR.f0); (have s3 := jR.f1); (replace o2 : Own _ w2 v2 (cjP xs ys) := o2); (have z2 := hb.size); (have hlc : (cjP xs ys).length = xs.length := HPL.out); obtain ⟨p2, c2, rfl, r2⟩ := o2.shape; clear hb tkA _t)
        | (go_at_call 105; have _t := tkB; (with_reducible refine (l3Made_n _ _ _ xs.length (cjP xs ys) _ HPL.out r2 (by rw [HPL.out]; omega) HP.out).mono ?_); rintro e w3 ⟨v3, rfl, o3, hb⟩; clear m0 m1 n0 n1 s0 s1 s2 s3; (replace jM := jM.later hb); (replace jN := jN.later hb); (replace jR := jR.later hb); (replace bb := bb.thenB hb); (have m0 := jM.c0); (have m1 := jM.c1); (have n0 := jN.c0); (have n1 := jN.c1); (have s0 := jR.c0); (have s1 := jR.c1); (have s2 := jR.f0); (have s3 := jR.f1); (have z3 := hb.size); obtain ⟨p3, c3, rfl, r3⟩ := o3.shape; clear hb tkB _t))
    go_wp2
    refine bodyPost_ret (v := .tuple #[.agg #[.int .i64 (mkS s (cjP xs ys)), .slice p3 (mkL s (cjP xs ys)).length c3], .bool (mkOk s (cjP xs ys))]) (by simp [results, Try.results132, go_sem, s0, s1, s2, s3]) rfl ⟨_, by rw [hS.out, hO.out], ?_, ?_⟩
    · rw [hL.out]; exact ((o3.setBelow (by show w.heap.size + 2 < _; have := HSZ.out; omega) _).setBelow (by show w.heap.size + 2 < _; have := HSZ.out; omega) _).mono (by have := HSZ.out; omega)
    · exact (bb.setCell (by show _ ≤ w.heap.size + 2; omega) _).setCell (by show _ ≤ w.heap.size + 2; omega) _


set_option maxHeartbeats 1000000 in
theorem sConjoin_any (s : Int) (p : Option Addr) (c : Nat) (xs : List Int) (t : Int) (q : Option Addr) (d : Nat) (ys : List Int) (w : World) (hx : Reads w p xs) (hy : Reads w q ys) (hxm : xs.length ≤ 1048576) (hym : ys.length ≤ 1048576) :
    Calls Try.prog 109 #[.agg #[.int .i64 s, .slice p xs.length c], .agg #[.int .i64 t, .slice q ys.length d]] w fun e w' => ∃ v, e = .returned (.tuple #[.agg #[.int .i64 (gS (bothB s xs t ys) s (cjP xs ys)), v], .bool (gOk (bothB s xs t ys) s (cjP xs ys))]) ∧ Own w.heap.size w' v (gL (bothB s xs t ys) s (cjP xs ys)) ∧ Below w.heap.size w w' := by
  obtain ⟨W, hW, hbW, hsz, hM, hN, hR⟩ := box3R w s t p q xs.length ys.length c d
  have hxW := hx.below hbW
  have hyW := hy.below hbW
  have HWW := Lib.hid hW
  have HSZ := Lib.hid hsz
  obtain ⟨S, hS⟩ : ∃ x, x = gS (bothB s xs t ys) s (cjP xs ys) := ⟨_, rfl⟩
  obtain ⟨OK, hOK⟩ : ∃ x, x = gOk (bothB s xs t ys) s (cjP xs ys) := ⟨_, rfl⟩
  obtain ⟨K, hK⟩ : ∃ x, x = gL (bothB s xs t ys) s (cjP xs ys) := ⟨_, rfl⟩
  have hC := l6Told_any s p c xs t q d ys W hxW hyW hxm hym
  rw [← hS, ← hOK, ← hK] at hC ⊢
  have HC := Lib.hid hC
  have m0 := hM.c0
  have m1 := hM.c1
  have n0 := hN.c0
  have n1 := hN.c1
  clear hW hsz hx hy hC hS hOK hK
  go_enter Try.func109, Try.ntmps109
  go_wp2_with fail
  rw [← HWW.out]
  refine HC.out.mono ?_
  rintro e w1 ⟨v, rfl, o, hb⟩
  obtain ⟨p3, c3, rfl, _hr⟩ := o.shape
  replace hR := hR.later hb
  have s0 := hR.c0
  have s1 := hR.c1
  have s2 := hR.f0
  have s3 := hR.f1
  clear m0 m1 n0 n1 _hr
  go_wp2
  refine bodyPost_ret (v := .tuple #[.agg #[.int .i64 S, .slice p3 K.length c3], .bool OK]) (by simp [results, Try.results109, go_sem, s0, s1, s2, s3]) rfl ⟨_, rfl, ?_, ?_⟩
  · exact ((o.setBelow (by show w.heap.size + 2 < _; have := HSZ.out; omega) _).setBelow (by show w.heap.size + 2 < _; have := HSZ.out; omega) _).mono (by have := HSZ.out; omega)
  · exact ((hbW.thenB hb).setCell (by show _ ≤ w.heap.size + 2; omega) _).setCell (by show _ ≤ w.heap.size + 2; omega) _

end Go.Proofs.Ytjmfjgoehicgcaa
