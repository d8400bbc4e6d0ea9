/- How parts are moved: the reference. -/
import Derived.Test.YtjmfjgoehicgcaaJH
set_option linter.unusedVariables false
set_option linter.unusedSimpArgs false
namespace Go.Proofs.Ytjmfjgoehicgcaa
open Go.RowKit

/-- The first table, as a list. -/
noncomputable def firstL (N : Nat) (sup dem : Nat → Int) : List Int :=
  @dite _ (∃ F, First N sup dem F) (Classical.propDecidable _) (fun h => (List.range (N * N)).map fun k => Classical.choose h (k / N) (k % N)) (fun _ => [])

theorem firstL_is {N : Nat} {sup dem : Nat → Int} {Fl : List Int} (hl : Fl.length = N * N) (hN : 0 < N) (h : First N sup dem (tab N Fl)) : Fl = firstL N sup dem := by
  have he : ∃ F, First N sup dem F := ⟨_, h⟩
  unfold firstL
  rw [dif_pos he]
  refine nth_ext2 _ _ (by simp [hl]) fun i hi => ?_
  rw [hl] at hi
  obtain ⟨i1, i2, i3⟩ := pl_of hN hi
  have e := First.unique h (Classical.choose_spec he) i hi
  rw [tab_at i1 i2, i3] at e
  rw [← e, nth_eq _ i (by simp [hi])]
  simp

noncomputable def mvL (s : Int) (xs : List Int) (t : Int) (ys : List Int) : List Int := if spB s xs t ys = true then firstL xs.length (supS xs ys) (demS xs ys) else []

/-- The reference's state between two places. -/
structure KM (N nn P : Nat) (sup dem : Nat → Int) (w wr : World) (i : Nat) : Prop where
  ex : ∃ (fb lb db cf cl cd : Nat) (Fl lf du : List Int), FM w.heap.size wr N nn fb lb db cf cl cd Fl lf du ∧ Bx wr P (.int .i64 (N : Int)) (.slice (some ⟨fb, 0, none⟩) nn cf) (.slice (some ⟨lb, 0, none⟩) N cl) (.slice (some ⟨db, 0, none⟩) N cd) ∧
    Stl N sup dem i (tab N Fl) ∧ (∀ b, b < N → nth lf b = lfS N sup (tab N Fl) b) ∧ (∀ a, a < N → nth du a = duS N dem (tab N Fl) a)
  fz : ∀ o, wr.frozen? ⟨P, o, none⟩ = false
  bl : Below w.heap.size w wr
  pB : w.heap.size ≤ P

theorem stl_fn {N : Nat} {sup dem : Nat → Int} {i : Nat} {F : Nat → Nat → Int} {lf du : List Int} (h : Stl N sup dem i F) (hN : 0 < N) (hl : lf.length = N) (hd : du.length = N) (h1 : ∀ b, b < N → nth lf b = lfS N sup F b) (h2 : ∀ a, a < N → nth du a = duS N dem F a)
    (hs : ∀ b, b < N → sup b ≤ 1000000000000) (ht : ∀ a, a < N → dem a ≤ 1000000000000) : FN N lf du := by
  obtain ⟨n1, n2, n3, n4⟩ := h.nn hN
  refine ⟨hl, hd, fun b hb => ⟨by rw [h1 b hb]; exact n1 b hb, ?_⟩, fun a ha => ⟨by rw [h2 a ha]; exact n2 a ha, ?_⟩, ?_⟩
  · rw [h1 b hb]; have := hs b hb; have : 0 ≤ sm N (fun a => F b a) := sm_nonneg fun a ha => n4 b a hb ha
    unfold lfS; omega
  · rw [h2 a ha]; have := ht a ha; have : 0 ≤ sm N (fun b => F b a) := sm_nonneg fun b hb => n4 b a hb ha
    unfold duS; omega
  · rw [sm_congr h1, sm_congr h2, n3]

theorem can_iff {N : Nat} {sup dem : Nat → Int} {F : Nat → Nat → Int} {lf du : List Int} {b a : Nat} {n : Int} (h1 : ∀ b, b < N → nth lf b = lfS N sup F b) (h2 : ∀ a, a < N → nth du a = duS N dem F a) :
    CanG N lf du b a n ↔ ∃ G, Flow N (less (lfS N sup F) b n) (less (duS N dem F) a n) G := by
  have e1 : ∀ x, x < N → less (nth lf) b n x = less (lfS N sup F) b n x := fun x hx => by unfold less; rw [h1 x hx]
  have e2 : ∀ x, x < N → less (nth du) a n x = less (duS N dem F) a n x := fun x hx => by unfold less; rw [h2 x hx]
  exact ⟨fun ⟨G, g⟩ => ⟨G, g.cong e1 e2⟩, fun ⟨G, g⟩ => ⟨G, g.cong (fun x hx => (e1 x hx).symm) (fun x hx => (e2 x hx).symm)⟩⟩

/-- One place is settled. -/
theorem stl_next {N : Nat} {sup dem : Nat → Int} {Fl lf du : List Int} {b a : Nat} {n : Int} (hb : b < N) (ha : a < N) (hs : subB a b = true) (hfl : Fl.length = N * N) (hl : lf.length = N) (hd : du.length = N) (h : Stl N sup dem (N * b + a) (tab N Fl)) (h1 : ∀ b, b < N → nth lf b = lfS N sup (tab N Fl) b) (h2 : ∀ a, a < N → nth du a = duS N dem (tab N Fl) a)
    (hbin : Bin N lf du b a n n) : Stl N sup dem (N * b + (a + 1)) (tab N (Fl.set (N * b + a) n)) ∧ (∀ x, x < N → nth (lf.set b (nth lf b - n)) x = lfS N sup (tab N (Fl.set (N * b + a) n)) x) ∧ (∀ x, x < N → nth (du.set a (nth du a - n)) x = duS N dem (tab N (Fl.set (N * b + a) n)) x) := by
  obtain ⟨k1, k2, k3⟩ := h.settle hb ha hs n hbin.l0 ((can_iff h1 h2).1 hbin.can) (fun m m1 m2 m3 hc => hbin.no m m1 (by rw [h1 b hb]; exact m2) (by rw [h2 a ha]; exact m3) ((can_iff h1 h2).2 hc))
  rw [tab_set hfl hb ha, k2, k3]
  refine ⟨k1, fun x hx => ?_, fun x hx => ?_⟩
  · rw [nth_less (by rw [hl]; exact hb)]; unfold less; rw [h1 x hx]
  · rw [nth_less (by rw [hd]; exact ha)]; unfold less; rw [h2 x hx]

set_option maxHeartbeats 8000000 in
set_option maxRecDepth 100000 in
theorem sMoved_any (s t : Int) (p q : Option Addr) (c d : Nat) (xs ys : List Int) (w : World) (hx : Reads w p xs) (hy : Reads w q ys) (hxm : xs.length ≤ 1048576) (hym : ys.length ≤ 1048576) :
    Calls Try.prog 34 #[.agg #[.int .i64 s, .slice p xs.length c], .agg #[.int .i64 t, .slice q ys.length d]] w fun e w' => ∃ v, e = .returned (.tuple #[v, .bool (spB s xs t ys)]) ∧ Own w.heap.size w' v (mvL s xs t ys) ∧ Below w.heap.size w w' := by
  obtain ⟨W, hW, hbW, hsz, c0, c1, c2, c3⟩ := box2 w s t p q xs.length ys.length c d
  have HW := Lib.hid hW
  have HSZ := Lib.hid hsz
  clear hW hsz
  have HB := Lib.hid (sIsSpec_any s t p q c d xs ys W (hx.below hbW) (hy.below hbW) hxm hym)
  have HX := Lib.hid hx
  have HY := Lib.hid hy
  clear hx hy
  cases hb : spB s xs t ys
  · have hr : Hid (mvL s xs t ys = []) := Lib.hid (by rw [mvL, hb]; rfl)
    rw [hb] at HB
    clear hb
    go_enter Try.func34, Try.ntmps34
    go_wp2_with fail
    rw [← HW.out]
    refine HB.out.mono ?_
    rintro e w1 ⟨rfl, b1⟩
    clear c0 c1 c2 c3
    have hs1 := hbW.size
    have HBL := Lib.hid ((hbW.thenB b1).thenB (belowAlloc w1 (.cells #[] 3)))
    have HO := Lib.hid (Own.made w1 w.heap.size (by have := b1.size; omega))
    go_wp2
    go_ret2
    exact ⟨_, rfl, by rw [hr.out]; exact HO.out, HBL.out⟩
  · have hbo : bothB s xs t ys = true := by rw [spB, Bool.and_eq_true] at hb; exact hb.1
    have hfl : ∃ G, Flow xs.length (supS xs ys) (demS xs ys) G := by rw [spB, Bool.and_eq_true] at hb; exact flB_iff.1 hb.2
    have ht := two_of hbo
    have hr : Hid (mvL s xs t ys = firstL xs.length (supS xs ys) (demS xs ys)) := Lib.hid (by rw [mvL, if_pos hb])
    rw [hb] at HB
    have HT := Lib.hid ht
    have HFL := Lib.hid hfl
    clear hb hbo ht hfl
    go_enter Try.func34, Try.ntmps34
    go_wp2_with fail
    rw [← HW.out]
    refine HB.out.mono ?_
    rintro e w1 ⟨rfl, b1⟩
    replace c0 := cellKeep b1 c0
    replace c1 := cellKeep b1 c1
    replace c2 := cellKeep b1 c2
    replace c3 := cellKeep b1 c3
    replace hbW := hbW.thenB b1
    clear b1 HB HW
    have hyl : ys.length = xs.length := HT.out.yl
    have HN := Lib.hid (l8New_any xs.length s t p q c d xs ys w1 (HX.out.below hbW) (HY.out.below hbW) HT.out.n1 HT.out.n16 rfl hyl HT.out.ax HT.out.ay HT.out.sx HT.out.sy)
    rw [hyl] at c3
    clear hyl
    obtain ⟨N, hN⟩ : ∃ N, N = xs.length := ⟨_, rfl⟩
    rw [← hN] at HN HT HFL hr c1 c3 hxm ⊢
    have HNL := Lib.hid hN
    clear hN
    obtain ⟨nn, hnn⟩ : ∃ nn, nn = N * N := ⟨_, rfl⟩
    rw [← hnn] at HN
    have HNN := Lib.hid hnn
    clear hnn
    go_wp2_with fail
    refine HN.out.mono ?_
    rintro e w2 ⟨fb, lb, db, cl, cd, rfl, hfm, b2⟩
    clear HN c0 c1 c2 c3
    have hs1 := hbW.size
    have hs2 := b2.size
    replace hbW := hbW.thenB b2
    have b3 := belowAlloc w2 (.cells #[.int .i64 (N : Int), .slice (some ⟨fb, 0, none⟩) nn nn, .slice (some ⟨lb, 0, none⟩) N cl, .slice (some ⟨db, 0, none⟩) N cd] 64)
    have hkm : KM N nn w2.heap.size (supS xs ys) (demS xs ys) w (w2.alloc (.cells #[.int .i64 (N : Int), .slice (some ⟨fb, 0, none⟩) nn nn, .slice (some ⟨lb, 0, none⟩) N cl, .slice (some ⟨db, 0, none⟩) N cd] 64)) (N * 0) := by
      have ht0 : ∀ b a, b < N → a < N → tab N (zeros nn) b a = 0 := fun b a hb ha => by rw [tab_at hb ha]; exact zeros_nth0 _ _
      refine ⟨⟨fb, lb, db, nn, cl, cd, _, _, _, (hfm.mono (by omega)).later b3, Bx.made _ _ _ _ _ _, Stl.start HFL.out ht0, fun b hb => ?_, fun a ha => ?_⟩, newFroz _ _ _, hbW.thenB b3, by omega⟩
      · rw [mulL_nth _ _ _ _ hb]; unfold lfS; rw [sm_congr (g := fun _ => 0) (fun a ha => ht0 b a hb ha), sm_zero]; unfold supS; omega
      · rw [mulL_nth _ _ _ _ ha]; unfold duS; rw [sm_congr (g := fun _ => 0) (fun b hb => ht0 b a hb ha), sm_zero]; unfold demS; omega
    have HKM := Lib.hid hkm
    clear hkm b3 hfm b2
    go_wp2_with fail
    generalize w2.alloc (.cells #[.int .i64 (N : Int), .slice (some ⟨fb, 0, none⟩) nn nn, .slice (some ⟨lb, 0, none⟩) N cl, .slice (some ⟨db, 0, none⟩) N cd] 64) = w3 at *
    generalize w2.heap.size = P at *
    go_loopw [7] (fun i wr => ∃ b : Nat, b ≤ N ∧ i = .int .i64 b ∧ KM N nn P (supS xs ys) (demS xs ys) w wr (N * b)) (fun i _ => N - (intOf i).toNat)
    case atStart => exact ⟨0, Nat.zero_le _, rfl, HKM.out⟩
    case round =>
      clear HKM
      obtain ⟨b, hbN, rfl, hkm⟩ := hrel
      obtain ⟨⟨fb, lb, db, cf, cl, cd, Fl, lf, du, hfm, bx, hst, hl, hd⟩, hfz, hbl, hpB⟩ := hkm
      have x0 := bx.c0
      have x1 := bx.c1
      have x2 := bx.c2
      have x3 := bx.c3
      by_cases hlt : b < N
      · have hbz : (b : Int) < (N : Int) := by omega
        have HK := Lib.hid (show KM N nn P (supS xs ys) (demS xs ys) w wr (N * b + 0) from ⟨⟨fb, lb, db, cf, cl, cd, Fl, lf, du, hfm, bx, hst, hl, hd⟩, hfz, hbl, hpB⟩)
        clear hfm bx hst hl hd hfz hbl hpB x1 x2 x3
        go_wp2_with fail
        clear x0
        go_loopw [8] (fun i wr => ∃ a : Nat, a ≤ N ∧ i = .int .i64 a ∧ KM N nn P (supS xs ys) (demS xs ys) w wr (N * b + a)) (fun i _ => N - (intOf i).toNat)
        case atStart => exact ⟨0, Nat.zero_le _, rfl, HK.out⟩
        case round =>
          clear HK
          obtain ⟨a, haN, rfl, hkm⟩ := hrel
          obtain ⟨⟨fb, lb, db, cf, cl, cd, Fl, lf, du, hfm, bx, hst, hl, hd⟩, hfz, hbl, hpB⟩ := hkm
          have x0 := bx.c0
          by_cases hla : a < N
          · have haz : (a : Int) < (N : Int) := by omega
            have n16 := HT.out.n16
            have hbit := andNot_bits ⟨a, by omega⟩ ⟨b, by omega⟩
            simp only at hbit
            cases hs : subB a b
            · rw [hs] at hbit
              have HK := Lib.hid (show KM N nn P (supS xs ys) (demS xs ys) w wr (N * b + (a + 1)) from ⟨⟨fb, lb, db, cf, cl, cd, Fl, lf, du, hfm, bx, hst.shut hlt hla hs, hl, hd⟩, hfz, hbl, hpB⟩)
              clear hfm bx hst hl hd hfz hbl hpB hs
              go_wp2
              exact ⟨⟨a + 1, by omega, by go_num, HK.out⟩, by simp [intOf]; omega⟩
            · rw [hs] at hbit
              have x1 := bx.c1
              have x2 := bx.c2
              have x3 := bx.c3
              have hfn := stl_fn hst HT.out.n1 hfm.ll hfm.dl hl hd (fun x hx => (HT.out.sup.1 x hx).2) (fun x hx => (HT.out.sup.2.1 x hx).2)
              have hmo := l8Most_any w.heap.size N nn fb lb db cf cl cd Fl lf du wr HT.out.n1 n16 hfm hfn b a hlt hla ((can_iff hl hd).2 (hst.can0 hlt hla hs)) (fun n m h1 h2 h3 => (can_iff hl hd).2 (hst.mono hlt hla hs n m h1 h2 ((can_iff hl hd).1 h3)))
              have HMO := Lib.hid hmo
              have HST := Lib.hid (fun (n : Int) (h : Bin N lf du b a n n) => stl_next hlt hla hs (by rw [hfm.fl, hfm.hn]) hfm.ll hfm.dl hst hl hd h)
              have HBX := Lib.hid (And.intro bx (And.intro hfz (And.intro hbl hpB)))
              have z0 := hfz 0
              have z1 := hfz 1
              have z2 := hfz 2
              have z3 := hfz 3
              have hPw := bx.lt
              clear hmo hfn hfm bx hst hl hd hfz hbl hpB hs
              go_wp2_with fail
              refine HMO.out.mono ?_
              rintro e w4 ⟨gb, kb, eb, jf, jl, jd, n, rfl, hbin, hfm, b4⟩
              have hz4 := b4.size
              have hlts := hfm.lts
              obtain ⟨y1, y2, y3⟩ := HST.out n hbin
              obtain ⟨bx, hfz, hbl, hpB⟩ := HBX.out
              have bx4 := bx.later b4
              have hsz4 := hbl.size
              have HK := Lib.hid (show KM N nn P (supS xs ys) (demS xs ys) w ((((w4.setCell ⟨P, 0, none⟩ (.int .i64 (N : Int))).setCell ⟨P, 1, none⟩ (.slice (some ⟨gb, 0, none⟩) nn jf)).setCell ⟨P, 2, none⟩ (.slice (some ⟨kb, 0, none⟩) N jl)).setCell ⟨P, 3, none⟩ (.slice (some ⟨eb, 0, none⟩) N jd)) (N * b + (a + 1)) from
                ⟨⟨gb, kb, eb, jf, jl, jd, _, _, _, (hfm.mono (by omega)).other4 P (by omega) (by omega) (by omega) _ _ _ _, bx4.put4, y1, y2, y3⟩, fun o => by simp only [World.frozen?_setCell]; exact frozKeep b4 hPw (hfz o), below4 (hbl.thenB b4) hpB, hpB⟩)
              replace z0 := frozKeep b4 hPw z0
              replace z1 := frozKeep b4 hPw z1
              replace z2 := frozKeep b4 hPw z2
              replace z3 := frozKeep b4 hPw z3
              replace x0 := bx4.c0
              replace x1 := bx4.c1
              replace x2 := bx4.c2
              replace x3 := bx4.c3
              clear HMO HST HBX hbin hfm b4 hlts y1 y2 y3 bx hfz hbl hpB bx4
              go_wp2
              exact ⟨⟨a + 1, by omega, by go_num, HK.out⟩, by simp [intOf]; omega⟩
          · have haE : N = a := by omega
            have HK := Lib.hid (show KM N nn P (supS xs ys) (demS xs ys) w wr (N * (b + 1)) from ⟨⟨fb, lb, db, cf, cl, cd, Fl, lf, du, hfm, bx, by rw [Nat.mul_succ]; rw [← haE] at hst; exact hst, hl, hd⟩, hfz, hbl, hpB⟩)
            clear hfm bx hst hl hd hfz hbl hpB
            subst haE
            go_wp2
            exact ⟨⟨b + 1, by omega, by go_num, HK.out⟩, by simp [intOf]; omega⟩
      · have hbE : N = b := by omega
        have hst2 : Stl N (supS xs ys) (demS xs ys) (N * N) (tab N Fl) := by rw [← hbE] at hst; exact hst
        have hfi := firstL_is (by rw [hfm.fl, hfm.hn]) HT.out.n1 (hst2.first HT.out.n1)
        have HO := Lib.hid hfm.of
        have HFI := Lib.hid hfi
        have HBL := Lib.hid hbl
        clear hfm bx hst hl hd hfz hbl hpB hst2 hfi
        subst hbE
        go_wp2
        go_ret2
        exact ⟨_, rfl, by rw [hr.out, ← HFI.out]; exact HO.out, HBL.out⟩

end Go.Proofs.Ytjmfjgoehicgcaa
