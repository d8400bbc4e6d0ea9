/- How parts are moved: the reference. -/
import Derived.Test.YtjmfjgoehicgcaaMgJF
import Derived.Test.YtjmfjgoehicgcaaMgIJ
import Derived.Test.YtjmfjgoehicgcaaMgIH
import Derived.Test.YtjmfjgoehicgcaaMgZH
import Derived.Test.YtjmfjgoehicgcaaMZ
import Derived.Test.YtjmfjgoehicgcaaE2
import Derived.Test.YtjmfjgoehicgcaaMgK1
set_option linter.unusedVariables false
set_option linter.unusedSimpArgs false
namespace Go.Proofs.Ytjmfjgoehicgcaa
open Go.RowKit

/-- The first table, as a list. -/
noncomputable def firstL (N : Nat) (sup dem : Nat → Int) : List Int :=
  @dite _ (∃ F, First N sup dem F) (Classical.propDecidable _) (fun h => (List.range (N * N)).map fun k => Classical.choose h (k / N) (k % N)) (fun _ => [])

theorem firstL_is {N : Nat} {sup dem : Nat → Int} {Fl : List Int} (hl : Fl.length = N * N) (hN : 0 < N) (h : First N sup dem (tab N Fl)) : Fl = firstL N sup dem := by
  have he : ∃ F, First N sup dem F := ⟨_, h⟩
  unfold firstL
  rw [dif_pos he]
  refine nth_ext2 _ _ (by simp [hl]) fun i hi => ?_
  rw [hl] at hi
  obtain ⟨i1, i2, i3⟩ := pl_of hN hi
  have e := First.unique h (Classical.choose_spec he) i hi
  rw [tab_at i1 i2, i3] at e
  rw [← e, nth_eq _ i (by simp [hi])]
  simp

noncomputable def mvL (s : Int) (xs : List Int) (t : Int) (ys : List Int) : List Int := if spB s xs t ys = true then firstL xs.length (supS xs ys) (demS xs ys) else []

/-- The reference's state between two places. -/
structure KM (N nn P : Nat) (sup dem : Nat → Int) (w wr : World) (i : Nat) : Prop where
  ex : ∃ (fb lb db cf cl cd : Nat) (Fl lf du : List Int), FM w.heap.size wr N nn fb lb db cf cl cd Fl lf du ∧ Bx wr P (.int .i64 (N : Int)) (.slice (some ⟨fb, 0, none⟩) nn cf) (.slice (some ⟨lb, 0, none⟩) N cl) (.slice (some ⟨db, 0, none⟩) N cd) ∧
    Stl N sup dem i (tab N Fl) ∧ (∀ b, b < N → nth lf b = lfS N sup (tab N Fl) b) ∧ (∀ a, a < N → nth du a = duS N dem (tab N Fl) a)
  fz : ∀ o, wr.frozen? ⟨P, o, none⟩ = false
  bl : Below w.heap.size w wr
  pB : w.heap.size ≤ P

theorem stl_fn {N : Nat} {sup dem : Nat → Int} {i : Nat} {F : Nat → Nat → Int} {lf du : List Int} (h : Stl N sup dem i F) (hN : 0 < N) (hl : lf.length = N) (hd : du.length = N) (h1 : ∀ b, b < N → nth lf b = lfS N sup F b) (h2 : ∀ a, a < N → nth du a = duS N dem F a)
    (hs : ∀ b, b < N → sup b ≤ 1000000000000) (ht : ∀ a, a < N → dem a ≤ 1000000000000) : FN N lf du := by
  obtain ⟨n1, n2, n3, n4⟩ := h.nn hN
  refine ⟨hl, hd, fun b hb => ⟨by rw [h1 b hb]; exact n1 b hb, ?_⟩, fun a ha => ⟨by rw [h2 a ha]; exact n2 a ha, ?_⟩, ?_⟩
  · rw [h1 b hb]; have := hs b hb; have : 0 ≤ sm N (fun a => F b a) := sm_nonneg fun a ha => n4 b a hb ha
    unfold lfS; omega
  · rw [h2 a ha]; have := ht a ha; have : 0 ≤ sm N (fun b => F b a) := sm_nonneg fun b hb => n4 b a hb ha
    unfold duS; omega
  · rw [sm_congr h1, sm_congr h2, n3]

theorem can_iff {N : Nat} {sup dem : Nat → Int} {F : Nat → Nat → Int} {lf du : List Int} {b a : Nat} {n : Int} (h1 : ∀ b, b < N → nth lf b = lfS N sup F b) (h2 : ∀ a, a < N → nth du a = duS N dem F a) :
    CanG N lf du b a n ↔ ∃ G, Flow N (less (lfS N sup F) b n) (less (duS N dem F) a n) G := by
  have e1 : ∀ x, x < N → less (nth lf) b n x = less (lfS N sup F) b n x := fun x hx => by unfold less; rw [h1 x hx]
  have e2 : ∀ x, x < N → less (nth du) a n x = less (duS N dem F) a n x := fun x hx => by unfold less; rw [h2 x hx]
  exact ⟨fun ⟨G, g⟩ => ⟨G, g.cong e1 e2⟩, fun ⟨G, g⟩ => ⟨G, g.cong (fun x hx => (e1 x hx).symm) (fun x hx => (e2 x hx).symm)⟩⟩

/-- One place is settled. -/
theorem stl_next {N : Nat} {sup dem : Nat → Int} {Fl lf du : List Int} {b a : Nat} {n : Int} (hb : b < N) (ha : a < N) (hs : subB a b = true) (hfl : Fl.length = N * N) (hl : lf.length = N) (hd : du.length = N) (h : Stl N sup dem (N * b + a) (tab N Fl)) (h1 : ∀ b, b < N → nth lf b = lfS N sup (tab N Fl) b) (h2 : ∀ a, a < N → nth du a = duS N dem (tab N Fl) a)
    (hbin : Bin N lf du b a n n) : Stl N sup dem (N * b + (a + 1)) (tab N (Fl.set (N * b + a) n)) ∧ (∀ x, x < N → nth (lf.set b (nth lf b - n)) x = lfS N sup (tab N (Fl.set (N * b + a) n)) x) ∧ (∀ x, x < N → nth (du.set a (nth du a - n)) x = duS N dem (tab N (Fl.set (N * b + a) n)) x) := by
  obtain ⟨k1, k2, k3⟩ := h.settle hb ha hs n hbin.l0 ((can_iff h1 h2).1 hbin.can) (fun m m1 m2 m3 hc => hbin.no m m1 (by rw [h1 b hb]; exact m2) (by rw [h2 a ha]; exact m3) ((can_iff h1 h2).2 hc))
  rw [tab_set hfl hb ha, k2, k3]
  refine ⟨k1, fun x hx => ?_, fun x hx => ?_⟩
  · rw [nth_less (by rw [hl]; exact hb)]; unfold less; rw [h1 x hx]
  · rw [nth_less (by rw [hd]; exact ha)]; unfold less; rw [h2 x hx]

set_option maxHeartbeats 8000000 in
set_option maxRecDepth 100000 in
theorem sMoved_any (s t : Int) (p q : Option Addr) (c d : Nat) (xs ys : List Int) (w : World) (hx : Reads w p xs) (hy : Reads w q ys) (hxm : xs.length ≤ 1048576) (hym : ys.length ≤ 1048576) :
    Calls Try.prog 34 #[.agg #[.int .i64 s, .slice p xs.length c], .agg #[.int .i64 t, .slice q ys.length d]] w fun e w' => ∃ v, e = .returned (.tuple #[v, .bool (spB s xs t ys)]) ∧ Own w.heap.size w' v (mvL s xs t ys) ∧ Below w.heap.size w w' := by
  obtain ⟨W, hW, hbW, hsz, c0, c1, c2, c3⟩ := box2 w s t p q xs.length ys.length c d
  have HW := Lib.hid hW
  have HSZ := Lib.hid hsz
  clear hW hsz
  have HB := Lib.hid (sIsSpec_any s t p q c d xs ys W (hx.below hbW) (hy.below hbW) hxm hym)
  have HX := Lib.hid hx
  have HY := Lib.hid hy
  clear hx hy
  cases hb : spB s xs t ys
  · have hr : Hid (mvL s xs t ys = []) := Lib.hid (by rw [mvL, hb]; rfl)
    rw [hb] at HB
    clear hb
    go_enter Try.func34, Try.ntmps34
    go_wp2_with fail
    rw [← HW.out]
    refine HB.out.mono ?_
    rintro e w1 ⟨rfl, b1⟩
    clear c0 c1 c2 c3
    have hs1 := hbW.size
    have HBL := Lib.hid ((hbW.thenB b1).thenB (belowAlloc w1 (.cells #[] 3)))
    have HO := Lib.hid (Own.made w1 w.heap.size (by have := b1.size; omega))
    go_wp2
    go_ret2
    exact ⟨_, rfl, by rw [hr.out]; exact HO.out, HBL.out⟩
  · have hbo : bothB s xs t ys = true := by rw [spB, Bool.and_eq_true] at hb; exact hb.1
    have hfl : ∃ G, Flow xs.length (supS xs ys) (demS xs ys) G := by rw [spB, Bool.and_eq_true] at hb; exact flB_iff.1 hb.2
    have ht := two_of hbo
    have hr : Hid (mvL s xs t ys = firstL xs.length (supS xs ys) (demS xs ys)) := Lib.hid (by rw [mvL, if_pos hb])
    rw [hb] at HB
    have HT := Lib.hid ht
    have HFL := Lib.hid hfl
    clear hb hbo ht hfl
    go_enter Try.func34, Try.ntmps34
    go_wp2_with fail
    rw [← HW.out]
    refine HB.out.mono ?_
    rintro e w1 ⟨rfl, b1⟩
    replace c0 := cellKeep b1 c0
    replace c1 := cellKeep b1 c1
    replace c2 := cellKeep b1 c2
    replace c3 := cellKeep b1 c3
    replace hbW := hbW.thenB b1
    clear b1 HB HW
    have hyl : ys.length = xs.length := HT.out.yl
    have HN := Lib.hid (l8New_any xs.length s t p q c d xs ys w1 (HX.out.below hbW) (HY.out.below hbW) HT.out.n1 HT.out.n16 rfl hyl HT.out.ax HT.out.ay HT.out.sx HT.out.sy)
    rw [hyl] at c3
    clear hyl
    obtain ⟨N, hN⟩ : ∃ N, N = xs.length := ⟨_, rfl⟩
    rw [← hN] at HN HT HFL hr c1 c3 hxm ⊢
    have HNL := Lib.hid hN
    clear hN
    obtain ⟨nn, hnn⟩ : ∃ nn, nn = N * N := ⟨_, rfl⟩
    rw [← hnn] at HN
    have HNN := Lib.hid hnn
    clear hnn
    go_wp2_with fail
    refine HN.out.mono ?_
    rintro e w2 ⟨fb, lb, db, cl, cd, rfl, hfm, b2⟩
    clear HN c0 c1 c2 c3
    have hs1 := hbW.size
    have hs2 := b2.size
    replace hbW := hbW.thenB b2
    have b3 := belowAlloc w2 (.cells #[.int .i64 (N : Int), .slice (some ⟨fb, 0, none⟩) nn nn, .slice (some ⟨lb, 0, none⟩) N cl, .slice (some ⟨db, 0, none⟩) N cd] 64)
    have hkm : KM N nn w2.heap.size (supS xs ys) (demS xs ys) w (w2.alloc (.cells #[.int .i64 (N : Int), .slice (some ⟨fb, 0, none⟩) nn nn, .slice (some ⟨lb, 0, none⟩) N cl, .slice (some ⟨db, 0, none⟩) N cd] 64)) (N * 0) := by
      have ht0 : ∀ b a, b < N → a < N → tab N (zeros nn) b a = 0 := fun b a hb ha => by rw [tab_at hb ha]; exact zeros_nth0 _ _
      refine ⟨⟨fb, lb, db, nn, cl, cd, _, _, _, (hfm.mono (by omega)).later b3, Bx.made _ _ _ _ _ _, Stl.start HFL.out ht0, fun b hb => ?_, fun a ha => ?_⟩, newFroz _ _ _, hbW.thenB b3, by omega⟩
      · rw [mulL_nth _ _ _ _ hb]; unfold lfS; rw [sm_congr (g := fun _ => 0) (fun a ha => ht0 b a hb ha), sm_zero]; unfold supS; omega
      · rw [mulL_nth _ _ _ _ ha]; unfold duS; rw [sm_congr (g := fun _ => 0) (fun b hb => ht0 b a hb ha), sm_zero]; unfold demS; omega
    have HKM := Lib.hid hkm
    clear hkm b3 hfm b2
    go_wp2_with fail
    generalize w2.alloc (.cells #[.int .i64 (N : Int), .slice (some ⟨fb, 0, none⟩) nn nn, .slice (some ⟨lb, 0, none⟩) N cl, .slice (some ⟨db, 0, none⟩) N cd] 64) = w3 at *
    generalize w2.heap.size = P at *
    go_loopw [7] (fun i wr => ∃ b : Nat, b ≤ N ∧ i = .int .i64 b ∧ KM N nn P (supS xs ys) (demS xs ys) w wr (N * b)) (fun i _ => N - (intOf i).toNat)
    case atStart => exact ⟨0, Nat.zero_le _, rfl, HKM.out⟩
    case round =>
      clear HKM
      obtain ⟨b, hbN, rfl, hkm⟩ := hrel
      obtain ⟨⟨fb, lb, db, cf, cl, cd, Fl, lf, du, hfm, bx, hst, hl, hd⟩, hfz, hbl, hpB⟩ := hkm
      have x0 := bx.c0
      have x1 := bx.c1
      have x2 := bx.c2
      have x3 := bx.c3
      by_cases hlt : b < N
      · have hbz : (b : Int) < (N : Int) := by omega
        have HK := Lib.hid (show KM N nn P (supS xs ys) (demS xs ys) w wr (N * b + 0) from ⟨⟨fb, lb, db, cf, cl, cd, Fl, lf, du, hfm, bx, hst, hl, hd⟩, hfz, hbl, hpB⟩)
        clear hfm bx hst hl hd hfz hbl hpB x1 x2 x3
        go_wp2_with fail
        clear x0
        go_loopw [8] (fun i wr => ∃ a : Nat, a ≤ N ∧ i = .int .i64 a ∧ KM N nn P (supS xs ys) (demS xs ys) w wr (N * b + a)) (fun i _ => N - (intOf i).toNat)
        case atStart => exact ⟨0, Nat.zero_le _, rfl, HK.out⟩
        case round =>
          clear HK
          obtain ⟨a, haN, rfl, hkm⟩ := hrel
          obtain ⟨⟨fb, lb, db, cf, cl, cd, Fl, lf, du, hfm, bx, hst, hl, hd⟩, hfz, hbl, hpB⟩ := hkm
          have x0 := bx.c0
          by_cases hla : a < N
          · have haz : (a : Int) < (N : Int) := by omega
            have n16 := HT.out.n16
            have hbit := andNot_bits ⟨a, by omega⟩ ⟨b, by omega⟩
            simp only at hbit
            cases hs : subB a b
            · rw [hs] at hbit
              have HK := Lib.hid (show KM N nn P (supS xs ys) (demS xs ys) w wr (N * b + (a + 1)) from ⟨⟨fb, lb, db, cf, cl, cd, Fl, lf, du, hfm, bx, hst.shut hlt hla hs, hl, hd⟩, hfz, hbl, hpB⟩)
              clear hfm bx hst hl hd hfz hbl hpB hs
              go_wp2
              exact ⟨⟨a + 1, by omega, by go_num, HK.out⟩, by simp [intOf]; omega⟩
            · rw [hs] at hbit
              have x1 := bx.c1
              have x2 := bx.c2
              have x3 := bx.c3
              have hfn := stl_fn hst HT.out.n1 hfm.ll hfm.dl hl hd (fun x hx => (HT.out.sup.1 x hx).2) (fun x hx => (HT.out.sup.2.1 x hx).2)
              have hmo := l8Most_any w.heap.size N nn fb lb db cf cl cd Fl lf du wr HT.out.n1 n16 hfm hfn b a hlt hla ((can_iff hl hd).2 (hst.can0 hlt hla hs)) (fun n m h1 h2 h3 => (can_iff hl hd).2 (hst.mono hlt hla hs n m h1 h2 ((can_iff hl hd).1 h3)))
              have HMO := Lib.hid hmo
              have HST := Lib.hid (fun (n : Int) (h : Bin N lf du b a n n) => stl_next hlt hla hs (by rw [hfm.fl, hfm.hn]) hfm.ll hfm.dl hst hl hd h)
              have HBX := Lib.hid (And.intro bx (And.intro hfz (And.intro hbl hpB)))
              have z0 := hfz 0
              have z1 := hfz 1
              have z2 := hfz 2
              have z3 := hfz 3
              have hPw := bx.lt
              clear hmo hfn hfm bx hst hl hd hfz hbl hpB hs
              go_wp2_with fail
              refine HMO.out.mono ?_
              rintro e w4 ⟨gb, kb, eb, jf, jl, jd, n, rfl, hbin, hfm, b4⟩
              have hz4 := b4.size
              have hlts := hfm.lts
              obtain ⟨y1, y2, y3⟩ := HST.out n hbin
              obtain ⟨bx, hfz, hbl, hpB⟩ := HBX.out
              have bx4 := bx.later b4
              have hsz4 := hbl.size
              have HK := Lib.hid (show KM N nn P (supS xs ys) (demS xs ys) w ((((w4.setCell ⟨P, 0, none⟩ (.int .i64 (N : Int))).setCell ⟨P, 1, none⟩ (.slice (some ⟨gb, 0, none⟩) nn jf)).setCell ⟨P, 2, none⟩ (.slice (some ⟨kb, 0, none⟩) N jl)).setCell ⟨P, 3, none⟩ (.slice (some ⟨eb, 0, none⟩) N jd)) (N * b + (a + 1)) from
                ⟨⟨gb, kb, eb, jf, jl, jd, _, _, _, (hfm.mono (by omega)).other4 P (by omega) (by omega) (by omega) _ _ _ _, bx4.put4, y1, y2, y3⟩, fun o => by simp only [World.frozen?_setCell]; exact frozKeep b4 hPw (hfz o), below4 (hbl.thenB b4) hpB, hpB⟩)
              replace z0 := frozKeep b4 hPw z0
              replace z1 := frozKeep b4 hPw z1
              replace z2 := frozKeep b4 hPw z2
              replace z3 := frozKeep b4 hPw z3
              replace x0 := bx4.c0
              replace x1 := bx4.c1
              replace x2 := bx4.c2
              replace x3 := bx4.c3
              clear HMO HST HBX hbin hfm b4 hlts y1 y2 y3 bx hfz hbl hpB bx4
              go_wp2
              exact ⟨⟨a + 1, by omega, by go_num, HK.out⟩, by simp [intOf]; omega⟩
          · have haE : N = a := by omega
            have HK := Lib.hid (show KM N nn P (supS xs ys) (demS xs ys) w wr (N * (b + 1)) from ⟨⟨fb, lb, db, cf, cl, cd, Fl, lf, du, hfm, bx, by rw [Nat.mul_succ]; rw [← haE] at hst; exact hst, hl, hd⟩, hfz, hbl, hpB⟩)
            clear hfm bx hst hl hd hfz hbl hpB
            subst haE
            go_wp2
            exact ⟨⟨b + 1, by omega, by go_num, HK.out⟩, by simp [intOf]; omega⟩
      · have hbE : N = b := by omega
        have hst2 : Stl N (supS xs ys) (demS xs ys) (N * N) (tab N Fl) := by rw [← hbE] at hst; exact hst
        have hfi := firstL_is (by rw [hfm.fl, hfm.hn]) HT.out.n1 (hst2.first HT.out.n1)
        have HO := Lib.hid hfm.of
        have HFI := Lib.hid hfi
        have HBL := Lib.hid hbl
        clear hfm bx hst hl hd hfz hbl hpB hst2 hfi
        subst hbE
        go_wp2
        go_ret2
        exact ⟨_, rfl, by rw [hr.out, ← HFI.out]; exact HO.out, HBL.out⟩

end Go.Proofs.Ytjmfjgoehicgcaa

/- How parts are moved: the program. -/
set_option linter.unusedVariables false
set_option linter.unusedSimpArgs false
namespace Go.Proofs.Ytjmfjgoehicgcaa
open Go.RowKit

/-- What is fixed when so many places are done. -/
def fxB (N i : Nat) : Nat → Nat → Bool := fun b a => subB a b && bef N i b a
theorem op_fx (N i : Nat) : opB (fxB N i) = opI N i := by funext b a; rfl

theorem fx_same {N i b a : Nat} (ha : a < N) (hi : i = N * b + a) (hs : subB a b = false) : ∀ b' a', b' < N → a' < N → fxB N i b' a' = fxB N (i + 1) b' a' := fun b' a' hb' ha' => by
  unfold fxB bef
  by_cases e : N * b' + a' = i
  · obtain ⟨e1, e2⟩ := tab_inj ha ha' (e.trans hi)
    rw [e1, e2, hs]; rfl
  · rw [show decide (N * b' + a' < i + 1) = decide (N * b' + a' < i) by rw [decide_eq_decide]; omega]
theorem fx_next {N i b a : Nat} (ha : a < N) (hi : i = N * b + a) (hs : subB a b = true) : ∀ b' a', b' < N → a' < N → updX (fxB N i) b a true b' a' = fxB N (i + 1) b' a' := fun b' a' hb' ha' => by
  unfold updX
  by_cases c : b' = b ∧ a' = a
  · obtain ⟨rfl, rfl⟩ := c
    rw [if_pos ⟨rfl, rfl⟩]
    unfold fxB bef
    rw [hs, hi]; simp
  · rw [if_neg c]
    unfold fxB bef
    have e : N * b' + a' ≠ i := fun e => c (by obtain ⟨e1, e2⟩ := tab_inj ha ha' (e.trans hi); exact ⟨e1, e2⟩)
    rw [show decide (N * b' + a' < i + 1) = decide (N * b' + a' < i) by rw [decide_eq_decide]; omega]

/-- The program's state between two places. -/
structure OM (L : Lay) (sup dem : Nat → Int) (B : Nat) (w wr : World) (v : Value) (i : Nat) : Prop where
  ex : ∃ (F : Nat → Nat → Int) (lf du : Nat → Int) (xs : List Int), MV L wr F (fxB L.N i) lf du ∧ Flow L.N sup dem F ∧ Fst L.N sup dem i F ∧ Own B wr v xs ∧ xs.length = i ∧ ∀ k, k < i → nth xs k = F (k / L.N) (k % L.N)
  lt : L.Lt B
  mu : ∀ z, L.Mut z → w.heap.size ≤ z
  wb : w.heap.size ≤ B
  bl : Below w.heap.size w wr
  bs : B ≤ wr.heap.size

theorem nth_snoc (xs : List Int) (y : Int) (k : Nat) : nth (xs ++ [y]) k = if k < xs.length then nth xs k else if k = xs.length then y else 0 := by
  unfold nth
  simp only [List.getD, List.getElem?_append]
  split
  · rfl
  · split
    · rename_i h; subst h; simp
    · rename_i h1 h2; rw [List.getElem?_eq_none (by simp; omega)]; rfl

theorem newCellH (w : World) (x : Value) (t : TypeId) (H : Nat) (hH : w.heap.size = H) : (w.alloc (.cells #[x] t)).cell? ⟨H, 0, none⟩ = some x := by subst hH; exact newCell _ _ _

theorem Flow.cong2 {N : Nat} {sup dem : Nat → Int} {F F' : Nat → Nat → Int} (h : Flow N sup dem F) (e : ∀ b a, b < N → a < N → F' b a = F b a) : Flow N sup dem F' :=
  ⟨fun b a hb ha => by rw [e b a hb ha]; exact h.nn b a hb ha, fun b a hb ha q => by rw [e b a hb ha]; exact h.sub b a hb ha q, fun b hb => by rw [← h.row b hb]; exact sm_congr fun a ha => e b a hb ha, fun a ha => by rw [← h.col a ha]; exact sm_congr fun b hb => e b a hb ha⟩

set_option maxHeartbeats 8000000 in
set_option maxRecDepth 100000 in
theorem iMovedParts_any (s : Int) (p : Option Addr) (c : Nat) (xs : List Int) (t : Int) (q : Option Addr) (d : Nat) (ys : List Int) (w : World) (hx : Reads w p xs) (hy : Reads w q ys) (hxm : xs.length ≤ 1048576) (hym : ys.length ≤ 1048576) :
    Calls Try.prog 35 #[.agg #[.int .i64 s, .slice p xs.length c], .agg #[.int .i64 t, .slice q ys.length d]] w fun e w' => ∃ v, e = .returned (.tuple #[v, .bool (spB s xs t ys)]) ∧ Own w.heap.size w' v (mvL s xs t ys) ∧ Below w.heap.size w w' := by
  obtain ⟨W, hW, hbW, hsz, c0, c1, c2, c3⟩ := box2 w s t p q xs.length ys.length c d
  have HW := Lib.hid hW
  clear hW
  have HB := Lib.hid (ofOneQuestion_any s t p q c d xs ys W (hx.below hbW) (hy.below hbW) hxm hym)
  have HX := Lib.hid hx
  have HY := Lib.hid hy
  clear hx hy
  cases hb : bothB s xs t ys
  · have hr : Hid (spB s xs t ys = false) := Lib.hid (by rw [spB, hb]; rfl)
    have hm : Hid (mvL s xs t ys = []) := Lib.hid (by rw [mvL, hr.out]; rfl)
    rw [hb] at HB
    clear hb
    go_enter Try.func35, Try.ntmps35
    go_wp2_with fail
    rw [← HW.out]
    refine HB.out.mono ?_
    rintro e w1 ⟨rfl, b1⟩
    go_wp2
    go_ret2
    exact ⟨.slice none 0 0, by (first | (rw [hr.out]; done) | (rw [hr.out]; rfl)), by rw [hm.out]; exact Own.nil _ _, hbW.thenB b1⟩
  · have ht := two_of hb
    have hr : Hid (spB s xs t ys = flB xs.length (supS xs ys) (demS xs ys)) := Lib.hid (by rw [spB, hb]; rfl)
    rw [hb] at HB
    have HT := Lib.hid ht
    clear hb ht
    go_enter Try.func35, Try.ntmps35
    go_wp2_with fail
    rw [← HW.out]
    refine HB.out.mono ?_
    rintro e w1 ⟨rfl, b1⟩
    replace c0 := cellKeep b1 c0
    replace c1 := cellKeep b1 c1
    replace c2 := cellKeep b1 c2
    replace c3 := cellKeep b1 c3
    replace hbW := hbW.thenB b1
    clear b1 HB HW
    have hyl : ys.length = xs.length := HT.out.yl
    have HN := Lib.hid (newMoves_any xs.length s t p q c d xs ys w1 (HX.out.below hbW) (HY.out.below hbW) HT.out)
    rw [hyl] at c3
    clear hyl
    go_wp2_with fail
    refine HN.out.mono ?_
    rintro e w2 ⟨b2, ⟨rfl, hno⟩ | ⟨L, F, lf, du, rfl, hLN, hM, hfl, hmu⟩⟩
    · have hf : Hid (spB s xs t ys = false) := Lib.hid (by rw [hr.out]; exact flB_no.2 hno)
      have hm : Hid (mvL s xs t ys = []) := Lib.hid (by rw [mvL, hf.out]; rfl)
      clear hno c0 c1 c2 c3
      go_wp2
      go_ret2
      exact ⟨.slice none 0 0, by (first | (rw [hf.out]; done) | (rw [hf.out]; rfl)), by rw [hm.out]; exact Own.nil _ _, hbW.thenB b2⟩
    · have hf : spB s xs t ys = true := by rw [hr.out]; exact flB_iff.2 ⟨F, by rw [← hLN]; exact (hLN ▸ hfl)⟩
      have hm : Hid (mvL s xs t ys = firstL L.N (supS xs ys) (demS xs ys)) := Lib.hid (by rw [mvL, if_pos hf, hLN])
      have HF := Lib.hid hf
      have HT2 : Hid (∀ x, x < L.N → 0 ≤ supS xs ys x ∧ supS xs ys x ≤ 1000000000000) := Lib.hid (by rw [hLN]; exact HT.out.sup.1)
      rw [← hLN] at hfl
      have hz1 := hbW.size
      have hz2 := b2.size
      have bA := belowAlloc w2 (.cells #[] 3)
      have hom : OM L (supS xs ys) (demS xs ys) w2.heap.size w (w2.alloc (.cells #[] 3)) (.slice (some ⟨w2.heap.size, 0, none⟩) 0 0) (L.N * 0) :=
        ⟨⟨F, lf, du, [], (hM.congX (X' := fxB L.N 0) (fun b a _ _ => by unfold fxB bef; simp)).later bA, hfl, Fst.zero _ _ _ _, Own.made w2 w2.heap.size (Nat.le_refl _), rfl, fun k hk => absurd hk (Nat.not_lt_zero _)⟩, hM.lts, fun z hz => Nat.le_trans hz1 (hmu z hz), by omega, (hbW.thenB b2).thenB bA, by simp⟩
      have HOM := Lib.hid hom
      have c5 := (hM.later bA).c0
      have n16 := hM.ok.n16
      have n1 := hM.ok.n1
      have HLN := Lib.hid hLN
      clear hom hfl hM hmu hf b2 bA c0 c1 c2 c3 HN hLN
      go_wp2_with fail
      obtain ⟨BB, hBB⟩ : ∃ x, x = w2.heap.size := ⟨_, rfl⟩
      rw [← hBB] at HOM
      obtain ⟨v0, hv0⟩ : ∃ x, x = Value.slice (some ⟨w2.heap.size, 0, none⟩) 0 0 := ⟨_, rfl⟩
      rw [show (Value.slice (some ⟨BB, 0, none⟩) 0 0) = v0 by rw [hv0, hBB]] at HOM
      clear c5 hBB
      go_loopw [29, 8] (fun i v wr => ∃ b : Nat, b ≤ L.N ∧ i = .int .i64 b ∧ OM L (supS xs ys) (demS xs ys) BB w wr v (L.N * b)) (fun i _ _ => L.N - (intOf i).toNat)
      case atStart => exact ⟨0, Nat.zero_le _, rfl, by rw [← hv0]; exact HOM.out⟩
      case round =>
        clear HOM hv0
        obtain ⟨b, hbN, rfl, hom⟩ := hrel
        by_cases hlt : b < L.N
        · have hbz : (b : Int) < (L.N : Int) := by omega
          have HO1 := Lib.hid (show OM L (supS xs ys) (demS xs ys) BB w wr _ (L.N * b + 0) from hom)
          obtain ⟨F, lf, du, zs, hM, -⟩ := hom.ex
          have c0 := hM.c0
          clear hM hom
          go_wp2_with fail
          clear c0
          go_loopw [37, 8] (fun i v wr => ∃ a : Nat, a ≤ L.N ∧ i = .int .i64 a ∧ OM L (supS xs ys) (demS xs ys) BB w wr v (L.N * b + a)) (fun i _ _ => L.N - (intOf i).toNat)
          case atStart => exact ⟨0, Nat.zero_le _, rfl, HO1.out⟩
          case round =>
            clear HO1
            obtain ⟨a, haN, rfl, hom⟩ := hrel
            by_cases hla : a < L.N
            · have haz : (a : Int) < (L.N : Int) := by omega
              obtain ⟨⟨F, lf, du, zs, hM, hfl, hfs, hown, hzl, hzn⟩, hLt, hmu, hwb, hbl, hbs⟩ := hom
              have hop := isOpen_any L wr F (fxB L.N (L.N * b + a)) lf du hM b a hlt hla
              have HOP := Lib.hid hop
              have hpl := pl_lt hla hlt
              have hN2 : L.N * L.N ≤ 16 * 16 := Nat.mul_le_mul n16 n16
              have hz8 : zs.length ≤ 1000 := by omega
              cases hs : subB a b
              · rw [show opB (fxB L.N (L.N * b + a)) b a = false from op_sub hs] at HOP
                have c0 := hM.c0
                have c1 := hM.fl b hlt
                have c2 := hM.fr b a hlt hla
                obtain ⟨V, hV⟩ : ∃ x, x = F b a := ⟨_, rfl⟩
                rw [← hV] at c2
                have HNX : Hid (∀ (v' : Value) (wA w9 : World), Own BB w9 v' (zs ++ [V]) → Below wr.heap.size wr wA → Below BB wA w9 → OM L (supS xs ys) (demS xs ys) BB w w9 v' (L.N * b + (a + 1))) := Lib.hid (fun v' wA w9 ho hA h9 => by
                  refine ⟨⟨F, lf, du, zs ++ [V], ((hM.congX (fx_same hla rfl hs)).later hA).same hLt (fun z hz => h9.block z hz), hfl, hfs.shut hlt hla hfl hs, ho, by simp [hzl]; omega, fun k hk => ?_⟩, hLt, hmu, hwb, (hbl.thenB hA).trans (h9.mono hwb), Nat.le_trans (Nat.le_trans hbs hA.size) h9.size⟩
                  rw [nth_snoc, hzl]
                  by_cases e : k < L.N * b + a
                  · rw [if_pos e]; exact hzn k e
                  · rw [if_neg e, if_pos (by omega), show k = L.N * b + a by omega, pl_div hla, pl_mod hla]; exact hV)
                have HOWN := Lib.hid hown
                have HBS := Lib.hid hbs
                obtain ⟨pz, kz, hvz, hrz⟩ := hown.shape
                subst hvz
                clear hM hfl hfs hown hzl hzn hLt hmu hbl hbs hop hV hrz
                go_wp2_with fail
                refine HOP.out.mono ?_
                rintro e w3 ⟨rfl, rfl⟩
                go_wp2_with (at_builtin; refine wpList_append1 _ rfl _ _ (by rfl) BB _ _ (by rfl) (Own.later HOWN.out (belowAlloc _ _)) ⟨wr.heap.size, 0, none⟩ 1 V (by rfl) (newCell _ _ _) (by omega) (by have hq := HBS.out; simp at hq ⊢; omega) ?_)
                intro v' w9 ho9 hb9
                have HOM2 : Hid (OM L (supS xs ys) (demS xs ys) BB w w9 v' (L.N * b + (a + 1))) := Lib.hid (HNX.out v' _ w9 ho9 (belowAlloc _ _) hb9)
                clear HNX ho9 hb9 c0 c1 c2
                go_wp2
                first | exact ⟨⟨a + 1, by omega, by go_num, HOM2.out⟩, by simp [intOf]; omega⟩ | (refine And.intro ?_ (by simp [intOf]; omega); (repeat apply Exists.intro); refine And.intro ?_ rfl; exact ⟨a + 1, by omega, by go_num, HOM2.out⟩)
              · have hoi : opB (fxB L.N (L.N * b + a)) b a = true := by rw [op_fx]; exact opI_iff.2 ⟨hs, Nat.le_refl _⟩
                rw [hoi] at HOP
                have hra := raise_any L wr F (fxB L.N (L.N * b + a)) lf du (supS xs ys) (demS xs ys) hM hfl (fun x hx => (HT2.out x hx).2) b a hlt hla hoi
                have HRA := Lib.hid hra
                have HOWN := Lib.hid hown
                have HBS := Lib.hid hbs
                have c0 := hM.c0
                obtain ⟨pz, kz, hvz, hrz⟩ := hown.shape
                subst hvz
                have HS0 := Lib.hid (And.intro hfl (And.intro hfs (And.intro hzl (And.intro hzn (And.intro hLt (And.intro hmu (And.intro hbl hM.lts)))))))
                clear hM hfl hfs hown hzl hzn hLt hmu hbl hbs hop hra hrz c0
                go_wp2_with fail
                refine HOP.out.mono ?_
                rintro e w3 ⟨rfl, rfl⟩
                go_wp2_with fail
                refine HRA.out.mono ?_
                rintro e w4 ⟨rfl, F', hM4, hE4, hfl4, hoff, hmax⟩
                obtain ⟨hfl, hfs, hzl, hzn, hLt, hmu, hbl, hlw⟩ := HS0.out
                have hws := hbl.size
                have hb4 : Below w.heap.size w w4 := hbl.trans ((hE4.mono hws).below (fun z hz => hmu z hz))
                have ho4 : Own BB w4 _ zs := HOWN.out.ex hE4 (fun z hz hm => by have q1 := (HOWN.out.blockLt z hz).1; have q2 := hLt.mut hm; omega)
                have c1 := hM4.c1
                have c2 := hM4.fx b hlt
                have c3 := hM4.xr b a hlt hla
                have c4 := hM4.zx b a hlt
                have hM5 := (hM4.setX b a hlt hla true).congX (fx_next hla rfl hs)
                have hlx : L.x b < BB := hLt.z b hlt
                have ho5 : Own BB (w4.setCell ⟨L.x b, a, none⟩ (.bool true)) _ zs := ho4.setBelow (a := ⟨L.x b, a, none⟩) hlx _
                have hb5 : Below w.heap.size w (w4.setCell ⟨L.x b, a, none⟩ (.bool true)) := hb4.setCell (p := ⟨L.x b, a, none⟩) (hmu _ (hM4.ok.mx hlt)) _
                have hs5 : BB ≤ (w4.setCell ⟨L.x b, a, none⟩ (.bool true)).heap.size := by have := HBS.out; have := hE4.size; simp; omega
                have hfs5 : Fst L.N (supS xs ys) (demS xs ys) (L.N * b + a + 1) F' := hfs.raised hlt hla hfl hfl4 (fun x y hx hy h => hoff x y hx hy (by rw [op_fx]; exact h)) (fun G g hag => hmax G g (fun x y hx hy h => hag x y hx hy (by rw [op_fx] at h; exact h)))
                have hzn5 : ∀ k, k < L.N * b + a → nth zs k = F' (k / L.N) (k % L.N) := fun k hk => by
                  obtain ⟨k1, k2, k3⟩ := pl_of (show 0 < L.N by omega) (Nat.lt_trans hk hpl)
                  rw [hzn k hk, hoff _ _ k1 k2]
                  rw [op_fx]
                  cases e : opI L.N (L.N * b + a) (k / L.N) (k % L.N)
                  · rfl
                  · have := (opI_iff.1 e).2; omega
                have d0 := hM5.c0
                have d1 := hM5.fl b hlt
                have d2 := hM5.fr b a hlt hla
                obtain ⟨V, hV⟩ : ∃ x, x = F' b a := ⟨_, rfl⟩
                rw [← hV] at d2
                have HNX : Hid (∀ (v' : Value) (wA w9 : World), Own BB w9 v' (zs ++ [V]) → Below (w4.setCell ⟨L.x b, a, none⟩ (.bool true)).heap.size (w4.setCell ⟨L.x b, a, none⟩ (.bool true)) wA → Below BB wA w9 → OM L (supS xs ys) (demS xs ys) BB w w9 v' (L.N * b + (a + 1))) := Lib.hid (fun v' wA w9 ho hA h9 => by
                  refine ⟨⟨F', lf, du, zs ++ [V], (hM5.later hA).same hLt (fun z hz => h9.block z hz), hfl4, hfs5, ho, by simp [hzl]; omega, fun k hk => ?_⟩, hLt, hmu, hwb, (hb5.thenB hA).trans (h9.mono hwb), Nat.le_trans (Nat.le_trans hs5 hA.size) h9.size⟩
                  rw [nth_snoc, hzl]
                  by_cases e : k < L.N * b + a
                  · rw [if_pos e]; exact hzn5 k e
                  · rw [if_neg e, if_pos (by omega), show k = L.N * b + a by omega, pl_div hla, pl_mod hla]; exact hV)
                replace HOWN := Lib.hid ho5
                replace HBS := Lib.hid hs5
                have c0 := hM4.c0
                clear hM4 hE4 hfl4 hoff hmax hfl hfs hzl hzn hLt hmu hbl hlw hws hb4 ho4 hM5 hlx ho5 hb5 hs5 hfs5 hzn5 hV HRA HS0
                go_wp2_with (at_builtin; refine wpList_append1 _ rfl _ _ (by rfl) BB _ _ (by rfl) (Own.later HOWN.out (belowAlloc _ _)) ⟨w4.heap.size, 0, none⟩ 1 V (by rfl) (newCellH _ _ _ _ (by simp)) (by omega) (by have hq := HBS.out; simp at hq ⊢; omega) ?_)
                intro v' w9 ho9 hb9
                have HOM2 : Hid (OM L (supS xs ys) (demS xs ys) BB w w9 v' (L.N * b + (a + 1))) := Lib.hid (HNX.out v' _ w9 ho9 (belowAlloc _ _) hb9)
                clear HNX ho9 hb9 c0 c1 c2 c3 c4 d0 d1 d2
                go_wp2
                first | exact ⟨⟨a + 1, by omega, by go_num, HOM2.out⟩, by simp [intOf]; omega⟩ | (refine And.intro ?_ (by simp [intOf]; omega); (repeat apply Exists.intro); refine And.intro ?_ rfl; exact ⟨a + 1, by omega, by go_num, HOM2.out⟩)
            · have haE : L.N = a := by omega
              have HO2 := Lib.hid (show OM L (supS xs ys) (demS xs ys) BB w wr _ (L.N * (b + 1)) from by rw [Nat.mul_succ]; rw [← haE] at hom; exact hom)
              clear hom
              subst haE
              go_wp2
              first | exact ⟨⟨b + 1, by omega, by go_num, HO2.out⟩, by simp [intOf]; omega⟩ | (refine And.intro ?_ (by simp [intOf]; omega); (repeat apply Exists.intro); refine And.intro ?_ rfl; exact ⟨b + 1, by omega, by go_num, HO2.out⟩)
        · have hbE : L.N = b := by omega
          rw [← hbE] at hom
          obtain ⟨⟨F, lf, du, zs, hM, hfl, hfs, hown, hzl, hzn⟩, hLt, hmu, hwb, hbl, hbs⟩ := hom
          have hfi := hfs.first hfl
          have htb : First L.N (supS xs ys) (demS xs ys) (tab L.N zs) := by
            have e : ∀ b a, b < L.N → a < L.N → tab L.N zs b a = F b a := fun b a hb ha => by
              rw [tab_at hb ha, hzn _ (pl_lt ha hb), pl_div ha, pl_mod ha]
            exact ⟨hfl.cong2 e, fun G g i hi hag => by
              obtain ⟨i1, i2, i3⟩ := pl_of (by omega) hi
              rw [e _ _ i1 i2]
              refine hfi.top G g i hi fun j hj => ?_
              obtain ⟨j1, j2, j3⟩ := pl_of (show 0 < L.N by omega) (Nat.lt_trans hj hi)
              rw [hag j hj, e _ _ j1 j2]⟩
          have hze := firstL_is hzl n1 htb
          have HZ := Lib.hid (And.intro hze (And.intro (hown.mono hwb) hbl))
          clear hM hfl hfs hown hzl hzn hLt hmu hbl hfi htb hze
          go_wp2
          go_ret2
          obtain ⟨z1, z2, z3⟩ := HZ.out
          exact ⟨_, by (first | (rw [HF.out]; done) | (rw [HF.out]; rfl)), by rw [hm.out, ← z1]; exact z2, z3⟩

end Go.Proofs.Ytjmfjgoehicgcaa

/- How parts are moved: both packages, in one form. -/
set_option linter.unusedVariables false
set_option linter.unusedSimpArgs false
namespace Go.Proofs.Ytjmfjgoehicgcaa
open Go.RowKit

theorem mvL_len16 (s : Int) (xs : List Int) (t : Int) (ys : List Int) : (mvL s xs t ys).length ≤ 256 := by
  unfold mvL
  split
  · rename_i h
    have hb : bothB s xs t ys = true := by rw [spB, Bool.and_eq_true] at h; exact h.1
    have h16 := (two_of hb).n16
    have h2 : xs.length * xs.length ≤ 16 * 16 := Nat.mul_le_mul h16 h16
    unfold firstL
    split
    · simp; omega
    · simp
  · simp

theorem mvL_len (s : Int) (xs : List Int) (t : Int) (ys : List Int) : (mvL s xs t ys).length ≤ 1048576 := by have := mvL_len16 s xs t ys; omega

theorem sMovedParts_any (s : Int) (p : Option Addr) (c : Nat) (xs : List Int) (t : Int) (q : Option Addr) (d : Nat) (ys : List Int) (w : World) (hx : Reads w p xs) (hy : Reads w q ys) (hxm : xs.length ≤ 1048576) (hym : ys.length ≤ 1048576) :
    Calls Try.prog 34 #[.agg #[.int .i64 s, .slice p xs.length c], .agg #[.int .i64 t, .slice q ys.length d]] w fun e w' => ∃ v, e = .returned (.tuple #[v, .bool (spB s xs t ys)]) ∧ Own w.heap.size w' v (mvL s xs t ys) ∧ Below w.heap.size w w' := sMoved_any s t p q c d xs ys w hx hy hxm hym

end Go.Proofs.Ytjmfjgoehicgcaa

/- Plain facts: there is a table in whole numbers wherever there is one in fractions. -/
set_option linter.unusedVariables false
set_option linter.unusedSimpArgs false
namespace Go.Proofs.Ytjmfjgoehicgcaa
open Go.RowKit

section
variable {N : Nat} {op : Nat → Nat → Bool} {F : Nat → Nat → Int} {fr : Nat} {E : Nat → Bool}

/-- The inmost round of a search, to its end. -/
theorem imm_end {giv : Nat → Int} {tc : Nat → Nat} {P : Nat → Bool} {b a : Nat} : ∀ (d k : Nat), d + k = N → ∀ (get : Nat → Int) (tg : Nat → Nat) (T : Nat) (Q : List Nat), Imm N op F fr E giv get tg tc T P Q b a k →
    ∃ (get' : Nat → Int) (tg' : Nat → Nat) (T' : Nat) (Q' : List Nat), Inn N op F fr E giv get' tg' tc T' P Q' b (a + 1) ∧ Q'.length + (cntN N get').toNat ≤ Q.length + (cntN N get).toNat := by
  intro d
  induction d with
  | zero => intro k hk get tg T Q h; have : k = N := by omega
            subst this; exact ⟨get, tg, T, Q, h.done, Nat.le_refl _⟩
  | succ d ih =>
    intro k hk get tg T Q h
    by_cases c : k ≠ fr ∧ get k < 0 ∧ op k a = true ∧ 0 < F k a
    · obtain ⟨h1, h2⟩ := h.push (by omega) c.1 c.2.1 c.2.2.1 c.2.2.2
      obtain ⟨g', t', T', Q', r1, r2⟩ := ih (k + 1) (by omega) _ _ _ _ h1
      refine ⟨g', t', T', Q', r1, ?_⟩
      have e1 := cntN_nn N (upv get k a)
      rw [List.length_append, List.length_singleton] at r2
      omega
    · exact ih (k + 1) (by omega) _ _ _ _ (h.skip c)

/-- One giver, to its end, or till an end is found. -/
theorem inn_end {P : Nat → Bool} {b : Nat} : ∀ (d j : Nat), d + j = N → ∀ (giv get : Nat → Int) (tg tc : Nat → Nat) (T : Nat) (Q : List Nat), Inn N op F fr E giv get tg tc T P Q b j →
    (∃ giv get tg tc n, Found N op F fr E giv get tg tc n) ∨ ∃ (giv' get' : Nat → Int) (tg' tc' : Nat → Nat) (T' : Nat) (Q' : List Nat), Ou N op F fr E giv' get' tg' tc' T' (fun x => P x || x == b) Q' ∧ Q'.length + (cntN N get').toNat ≤ Q.length + (cntN N get).toNat := by
  intro d
  induction d with
  | zero => intro j hj giv get tg tc T Q h; have : j = N := by omega
            subst this; exact .inr ⟨_, _, _, _, _, _, h.done, Nat.le_refl _⟩
  | succ d ih =>
    intro j hj giv get tg tc T Q h
    by_cases hg : 0 ≤ giv j
    · exact ih (j + 1) (by omega) _ _ _ _ _ _ (h.skip (.inl hg))
    · cases ho : op b j
      · exact ih (j + 1) (by omega) _ _ _ _ _ _ (h.skip (.inr ho))
      · cases hE : E j
        · obtain ⟨g', t', T', Q', r1, r2⟩ := imm_end N 0 (by omega) _ _ _ _ (h.mark (by omega) (by omega) ho hE)
          rcases ih (j + 1) (by omega) _ _ _ _ _ _ r1 with q | ⟨a1, a2, a3, a4, a5, a6, q1, q2⟩
          · exact .inl q
          · exact .inr ⟨a1, a2, a3, a4, a5, a6, q1, by omega⟩
        · exact .inl ⟨_, _, _, _, _, h.found (by omega) (by omega) ho hE⟩

/-- A search ends. -/
theorem ou_end : ∀ (m : Nat) (P : Nat → Bool) (giv get : Nat → Int) (tg tc : Nat → Nat) (T : Nat) (Q : List Nat), Q.length + (cntN N get).toNat ≤ m → Ou N op F fr E giv get tg tc T P Q →
    (∃ giv get tg tc n, Found N op F fr E giv get tg tc n) ∨ ∃ R S, NoWay N op F fr E R S := by
  intro m
  induction m with
  | zero =>
    intro P giv get tg tc T Q hm h
    have : Q = [] := List.length_eq_zero_iff.1 (by omega)
    subst this
    exact .inr ⟨_, _, h.none⟩
  | succ m ih =>
    intro P giv get tg tc T Q hm h
    cases Q with
    | nil => exact .inr ⟨_, _, h.none⟩
    | cons b Q =>
      rcases inn_end N 0 (by omega) _ _ _ _ _ _ h.pop with q | ⟨a1, a2, a3, a4, a5, a6, q1, q2⟩
      · exact .inl q
      · simp only [List.length_cons] at hm
        exact ih _ _ _ _ _ _ _ (by omega) q1

theorem search (hf : fr < N) : (∃ giv get tg tc n, Found N op F fr E giv get tg tc n) ∨ ∃ R S, NoWay N op F fr E R S :=
  ou_end _ (fun _ => false) (fun _ => -1) (fun _ => -1) _ _ _ [fr] (Nat.le_refl _) (Ou.start hf (fun _ _ => by decide) (fun _ _ => by decide))

/-- So much as can go along a way. -/
theorem most_end {giv get : Nat → Int} {tg tc : Nat → Nat} {root : Nat → Bool} (r : Reached N op F root giv get tg tc) {e : Nat} {m0 : Int} : ∀ (d a : Nat) (m : Int), tc a ≤ d → Most N F root giv get e m0 a m → ∃ m', 1 ≤ m' ∧ m' ≤ m0 ∧ Way F root giv get m' e := by
  intro d
  induction d with
  | zero =>
    intro a m hd h
    cases hr : root (giv a).toNat
    · have := (h.step r hr m (by
        rcases Int.lt_or_le (F (giv a).toNat (get (giv a).toNat).toNat) m with q | q
        · exact .inl ⟨rfl, by
            have w := (h.step r hr (F (giv a).toNat (get (giv a).toNat).toNat) (.inr ⟨rfl, by omega⟩)).2
            omega⟩
        · exact .inl ⟨rfl, q⟩)).2
      omega
    · exact ⟨m, h.lo, h.hi, h.done hr⟩
  | succ d ih =>
    intro a m hd h
    cases hr : root (giv a).toNat
    · rcases Int.lt_or_le (F (giv a).toNat (get (giv a).toNat).toNat) m with q | q
      · obtain ⟨h1, h2⟩ := h.step r hr _ (.inr ⟨rfl, by omega⟩)
        exact ih _ _ (by omega) h1
      · obtain ⟨h1, h2⟩ := h.step r hr m (.inl ⟨rfl, q⟩)
        exact ih _ _ (by omega) h1
    · exact ⟨m, h.lo, h.hi, h.done hr⟩

theorem push_end {giv get : Nat → Int} {tg tc : Nat → Nat} {root : Nat → Bool} (r : Reached N op F root giv get tg tc) {e : Nat} {m : Int} (hm : 0 ≤ m) : ∀ (d a : Nat) (F1 : Nat → Nat → Int), tc a ≤ d → PushSt N op F root giv get tg tc e m a F1 → ∃ b F', root b = true ∧ PushEnd N op F e m b F' := by
  intro d
  induction d with
  | zero =>
    intro a F1 hd h
    cases hr : root (giv a).toNat
    · have := (h.next r hm hr _ _ rfl rfl).2.2.2.2.2.1
      omega
    · exact ⟨_, _, hr, h.add r hm⟩
  | succ d ih =>
    intro a F1 hd h
    cases hr : root (giv a).toNat
    · obtain ⟨-, -, -, -, -, h1, h2⟩ := h.next r hm hr _ _ rfl rfl
      exact ih _ _ (by omega) h2
    · exact ⟨_, _, hr, h.add r hm⟩
end

/-- Either there is a table, or a cut shows that there is none, in whole numbers or else. -/
theorem flow_or_cut {N : Nat} {sup dem : Nat → Int} (hs : sm N sup = sm N dem) : ∀ (d : Nat) (F : Nat → Nat → Int) (left due : Nat → Int), (sm N left).toNat ≤ d → PFlow N sup dem F left due →
    (∃ G, Flow N sup dem G) ∨ ∃ (F : Nat → Nat → Int) (left due : Nat → Int) (R T : Nat → Bool) (b0 : Nat), PFlow N sup dem F left due ∧ b0 < N ∧ R b0 = true ∧ 0 < left b0 ∧ (∀ b a, b < N → a < N → R b = true → subB a b = true → T a = true) ∧ (∀ b a, b < N → a < N → T a = true → 0 < F b a → R b = true) ∧ (∀ a, a < N → T a = true → due a = 0) := by
  intro d
  induction d with
  | zero =>
    intro F left due hd h
    exact .inl ⟨F, h.done hs fun b hb => by have := sm_pick (f := left) h.ln b hb; omega⟩
  | succ d ih =>
    intro F left due hd h
    by_cases hex : ∃ b, b < N ∧ 0 < left b
    · obtain ⟨b0, hb0, hl⟩ := hex
      rcases search (N := N) (op := fun b a => subB a b) (F := F) (fr := b0) (E := fun a => decide (0 < due a)) hb0 with ⟨giv, get, tg, tc, n, hf⟩ | ⟨R, S, hn⟩
      · have hdn : 0 < due n := of_decide_eq_true hf.nE
        obtain ⟨m0, hm0⟩ : ∃ m0, m0 = (if due n < left b0 then due n else left b0) := ⟨_, rfl⟩
        have hm1 : 1 ≤ m0 ∧ m0 ≤ due n ∧ m0 ≤ left b0 := by rw [hm0]; split <;> omega
        obtain ⟨m, k1, k2, k3⟩ := most_end hf.R _ n m0 (Nat.le_refl _) (Most.first hf.nN hf.ng hm1.1)
        obtain ⟨b, F', hb, pe⟩ := push_end hf.R (show 0 ≤ m by omega) _ n F (Nat.le_refl _) (PushSt.first hf.nN hf.ng k3 h.nn)
        have hbe : b = b0 := by simpa using hb
        subst hbe
        have h2 := h.sent (op := fun b a => subB a b) (fun _ _ q => q) pe hf.nN (by omega) (by omega)
        refine ih _ _ _ ?_ h2
        have e1 : sm N (fun k => if k = b then left k - m else left k) = sm N left - m := less_sum (f := left) (n := m) hb0
        have e2 := sm_nonneg (n := N) h2.ln
        rw [e1] at e2 ⊢
        omega
      · refine .inr ⟨F, left, due, R, S, b0, h, hb0, hn.rf, hl, hn.c1, fun b a hb ha h1 h2 => ?_, fun a ha h1 => ?_⟩
        · by_cases e : b = b0
          · rw [e]; exact hn.rf
          · refine hn.c3 b a hb ha h1 e ?_ h2
            cases hsb : subB a b
            · have := h.sub b a hb ha hsb; omega
            · rfl
        · have h2 := of_decide_eq_false (hn.c2 a ha h1)
          have := h.dn a ha
          omega
    · exact .inl ⟨F, h.done hs fun b hb => by
        rcases Int.lt_or_le 0 (left b) with q | q
        · exact absurd ⟨b, hb, q⟩ hex
        · exact q⟩

/-- What goes in fractions goes in whole numbers. -/
theorem flow_whole {N : Nat} {sup dem : Nat → Int} (h1 : ∀ b, b < N → 0 ≤ sup b) (h2 : ∀ a, a < N → 0 ≤ dem a) (c : Int) (hc : 0 < c) (h : ∃ G, Flow N (fun b => c * sup b) (fun a => c * dem a) G) : ∃ G, Flow N sup dem G := by
  have hs : sm N sup = sm N dem := by
    obtain ⟨G, g⟩ := h
    have e1 : sm N (fun b => c * sup b) = sm N (fun b => sm N (fun a => G b a)) := sm_congr fun b hb => (g.row b hb).symm
    have e2 : sm N (fun a => c * dem a) = sm N (fun a => sm N (fun b => G b a)) := sm_congr fun a ha => (g.col a ha).symm
    rw [sm_mul, sm_swap] at e1
    rw [sm_mul] at e2
    exact Int.eq_of_mul_eq_mul_left (by omega) (e1.trans e2.symm)
  have hp : PFlow N sup dem (fun _ _ => 0) sup dem := ⟨fun _ _ _ _ => Int.le_refl _, fun _ _ _ _ _ => rfl, fun b _ => by rw [sm_zero]; omega, fun a _ => by rw [sm_zero]; omega, h1, h2⟩
  rcases flow_or_cut hs _ _ _ _ (Nat.le_refl _) hp with q | ⟨F, left, due, R, T, b0, p, hb0, hR, hl, c1, c2, c3⟩
  · exact q
  · exfalso
    have ps : PFlow N (fun b => c * sup b) (fun a => c * dem a) (fun b a => c * F b a) (fun b => c * left b) (fun a => c * due a) :=
      ⟨fun b a hb ha => Int.mul_nonneg (by omega) (p.nn b a hb ha), fun b a hb ha q => by rw [p.sub b a hb ha q, Int.mul_zero], fun b hb => by rw [sm_mul, ← Int.mul_add, p.row b hb], fun a ha => by rw [sm_mul, ← Int.mul_add, p.col a ha], fun b hb => Int.mul_nonneg (by omega) (p.ln b hb), fun a ha => Int.mul_nonneg (by omega) (p.dn a ha)⟩
    refine cut_none ps R T b0 hb0 hR (Int.mul_pos hc hl) c1 (fun b a hb ha h1 h2 => c2 b a hb ha h1 ?_) (fun a ha h1 => by rw [c3 a ha h1, Int.mul_zero]) h
    have hn := p.nn b a hb ha
    rcases Int.lt_or_le 0 (F b a) with q | q
    · exact q
    · have e : F b a = 0 := by omega
      rw [e, Int.mul_zero] at h2
      omega

end Go.Proofs.Ytjmfjgoehicgcaa

/- Masses that are negated. -/
set_option linter.unusedVariables false
set_option linter.unusedSimpArgs false
namespace Go.Proofs.Ytjmfjgoehicgcaa
open Go.RowKit

theorem nth_rev (xs : List Int) (a : Nat) (ha : a < xs.length) : nth xs.reverse a = nth xs (xs.length - 1 - a) := by
  rw [nth_eq _ _ (by rw [List.length_reverse]; exact ha), nth_eq _ _ (by omega), List.getElem_reverse]

theorem nth_snocA (P : List Int) (z : Int) (a : Nat) : nth (P ++ [z]) a = if a < P.length then nth P a else if a = P.length then z else 0 := by
  by_cases h : a < P.length
  · rw [if_pos h]; simp [nth, List.getD, List.getElem?_append, h]
  · rw [if_neg h]
    by_cases e : a = P.length
    · rw [if_pos e]; subst e; simp [nth, List.getD]
    · rw [if_neg e]; simp [nth, List.getD, List.getElem?_append, h, show a - P.length ≠ 0 by omega]

theorem rev_done {xs P : List Int} (hl : P.length = xs.length) (h : ∀ a, a < xs.length → nth P a = nth xs (xs.length - 1 - a)) : P = xs.reverse :=
  nth_ext2 _ _ (by rw [hl, List.length_reverse]) fun a ha => by rw [h a (by omega), nth_rev _ _ (by omega)]

set_option maxHeartbeats 2000000 in
set_option maxRecDepth 100000 in
theorem negated_any (s : Int) (p : Option Addr) (c : Nat) (xs : List Int) (w : World) (hx : Reads w p xs) (hk : MassOk s xs) :
    Calls Try.prog 64 #[.agg #[.int .i64 s, .slice p xs.length c]] w fun e w' => ∃ v, e = .returned (.agg #[.int .i64 s, v]) ∧ Own w.heap.size w' v xs.reverse ∧ Below w.heap.size w w' := by
  obtain ⟨W, hW, bW, hsz, hM, hR⟩ := boxR w s p xs.length c
  have k1 := hk.s1
  have k4 := hk.s4
  have hl16 := hk.l16
  have HLP := Lib.hid hk.len
  have hl2 : 2 ≤ xs.length := by have := hk.len; have := pow2_bd s k1 k4; omega
  clear hk
  have bA := belowAlloc W (.cells #[.int .i64 s, .slice none 0 0] 27)
  have hM0 := hM.later bA
  have hR0 := hR.later bA
  have hV0 : VarInv (W.alloc (.cells #[.int .i64 s, .slice none 0 0] 27)) (w.heap.size + 2) s (.slice none 0 0) := by rw [← hsz]; exact VarInv.made _ _ _ _
  have b0 := bW.thenB bA
  have HW := Lib.hid hW
  have HSZ := Lib.hid hsz
  have m0 := hM.c0
  have m1 := hM.c1
  clear hW hR bA bW
  have hwx : IntKind.i64.wrap ((xs.length : Int) - 1) = (xs.length : Int) - 1 := IntWalk.i64_in _ (by omega)
  go_enter Try.func64, Try.ntmps64
  go_wp2_with fail
  rw [← HW.out]
  clear m0 m1 hM
  go_loopw [4, 11] (fun _ i wr => ∃ (k : Nat) (P : List Int) (v : Value), k ≤ xs.length ∧ i = .int .i64 k ∧ P.length = k ∧ (∀ a, a < k → nth P a = nth xs (xs.length - 1 - a)) ∧ Own (w.heap.size + 3) wr v P ∧ VarInv wr w.heap.size s (.slice p xs.length c) ∧ VarInv wr (w.heap.size + 1) 0 (.slice none 0 0) ∧ VarInv wr (w.heap.size + 2) s v ∧ Below w.heap.size w wr) (fun _ i _ => xs.length - (intOf i).toNat)
  case atStart => exact ⟨0, [], _, Nat.zero_le _, rfl, rfl, fun a ha => absurd ha (Nat.not_lt_zero _), Own.nil _ _, hM0, hR0, hV0, b0⟩
  case round =>
    clear hM0 hR0 hV0 b0
    obtain ⟨k, P, v, hk, rfl, hPl, hP, ho, iM, iR, iV, hb⟩ := hrel
    have HPL := Lib.hid hPl
    have HP := Lib.hid hP
    have zw := iV.lt
    have m0 := iM.c0
    have m1 := iM.c1
    clear hPl hP
    by_cases hlt : k < xs.length
    · obtain ⟨q, hq⟩ : ∃ q, q = xs.length - 1 - k := ⟨_, rfl⟩
      have hqx : q < xs.length := by omega
      obtain ⟨b, off, hpe, hbl, hc0⟩ := hx q hqx
      subst hpe
      have hc := (hb.cell (p := ⟨b, off + q, none⟩) hbl).trans hc0
      have hq0 : (0 : Int) ≤ (q : Int) := by omega
      have hqi : (q : Int) < (xs.length : Int) := by omega
      have HP2 : Hid (∀ a, a < k + 1 → nth (P ++ [nth xs q]) a = nth xs (xs.length - 1 - a)) := Lib.hid (by
        intro a ha
        rw [nth_snocA, HPL.out]
        by_cases e : a < k
        · rw [if_pos e, HP.out a e]
        · rw [if_neg e, if_pos (by omega), hq, show a = k by omega])
      have HPL2 : Hid ((P ++ [nth xs q]).length = k + 1) := Lib.hid (by simp [HPL.out])
      have HQ := Lib.hid hq
      have r1 := iV.c1
      have r2 := iV.f1
      have hxo := xorPow2 s k k1 k4 (by have := HLP.out; omega)
      have hxq : bits .xor .i64 (pow2 s - 1) (k : Int) = (q : Int) := by rw [hxo]; have := HLP.out; omega
      clear hx hc0 hxo hq
      go_wp2_with fail
      go_region_law (first | (refine step_append1 _ (by rfl) _ _ (by rfl) (w.heap.size + 3) _ _ (by rfl) (ho.later (by exact ((Below.refl _ _).alloc (Nat.le_refl _) _).drew)) ⟨wr.heap.size, 0, none⟩ 1 (nth xs q) (by rfl) (by simp) (by have := HPL.out; omega) (by simp; omega) ?_; intro v1 w1 ho1 hba; obtain ⟨p1, k1', rfl, _hr⟩ := ho1.shape; clear _hr; have iV1 := (iV.later (((Below.refl _ _).alloc (Nat.le_refl _) _).drew)).keep hba (by omega); have q1 := iV1.c1; have q2 := iV1.f1) | (go_simp; go_at_call 85; (with_reducible refine (fullSetR_any s _ k1 k4).mono ?_); rintro e w' ⟨rfl, rfl⟩))
      all_goals go_wp2
      all_goals
        have iW : Below wr.heap.size wr (wr.alloc (.cells #[.int .i64 (nth xs q)] 3)).drew := ((Below.refl _ _).alloc (Nat.le_refl _) _).drew
        have iR1 := (iR.later iW).keep hba (by omega)
        have iM1 := (iM.later iW).keep hba (by omega)
        have bB := (hb.thenB iW).trans (hba.mono (by omega))
        have e1 : (P ++ [nth xs q]).length = P.length + 1 := by simp
        rw [e1] at ho1
        exact ⟨⟨k + 1, P ++ [nth xs q], .slice p1 (P.length + 1) k1', by omega, by go_num, by rw [HPL2.out], HP2.out, ho1.setBelow (by show w.heap.size + 2 < _; omega) _, iM1.other _ (by show w.heap.size + 2 ≠ _; omega) _, iR1.other _ (by show w.heap.size + 2 ≠ _; omega) _, iV1.store _, bB.setCell (by show _ ≤ w.heap.size + 2; omega) _⟩, by first | (simp [intOf]; done) | (simp [intOf]; omega)⟩
    · have hkn : k = xs.length := by omega
      subst hkn
      have hPe : P = xs.reverse := rev_done HPL.out HP.out
      subst hPe
      obtain ⟨p2, c2, rfl, _hr⟩ := ho.shape
      clear hx _hr
      have s0 := iR.c0
      have s1 := iR.c1
      have s2 := iR.f0
      have s3 := iR.f1
      have v0 := iV.c0
      have v1 := iV.c1
      go_wp2
      refine bodyPost_ret (v := .agg #[.int .i64 s, .slice p2 xs.reverse.length c2]) (by simp [results, Try.results64, go_sem, s0, s1, s2, s3]) rfl ⟨_, rfl, ?_, ?_⟩
      · exact ((ho.setBelow (by show w.heap.size + 1 < _; omega) _).setBelow (by show w.heap.size + 1 < _; omega) _).mono (by omega)
      · exact (hb.setCell (by show _ ≤ w.heap.size + 1; omega) _).setCell (by show _ ≤ w.heap.size + 1; omega) _

set_option maxHeartbeats 2000000 in
set_option maxRecDepth 100000 in
theorem l6Negate_any (s : Int) (p : Option Addr) (c : Nat) (xs : List Int) (w : World) (hx : Reads w p xs) (hk : MassOk s xs) :
    Calls Try.prog 67 #[.agg #[.int .i64 s, .slice p xs.length c]] w fun e w' => ∃ v, e = .returned (.agg #[.int .i64 s, v]) ∧ Own w.heap.size w' v xs.reverse ∧ Below w.heap.size w w' := by
  obtain ⟨W, hW, bW, hsz, hM, hR⟩ := boxR w s p xs.length c
  have k1 := hk.s1
  have k4 := hk.s4
  have hl16 := hk.l16
  have HLP := Lib.hid hk.len
  have hl2 : 2 ≤ xs.length := by have := hk.len; have := pow2_bd s k1 k4; omega
  clear hk
  have bA := belowAlloc W (.cells #[.int .i64 s, .slice none 0 0] 27)
  have hM0 := hM.later bA
  have hR0 := hR.later bA
  have hV0 : VarInv (W.alloc (.cells #[.int .i64 s, .slice none 0 0] 27)) (w.heap.size + 2) s (.slice none 0 0) := by rw [← hsz]; exact VarInv.made _ _ _ _
  have b0 := bW.thenB bA
  have HW := Lib.hid hW
  have HSZ := Lib.hid hsz
  have m0 := hM.c0
  have m1 := hM.c1
  clear hW hR bA bW
  have hwx : IntKind.i64.wrap ((xs.length : Int) - 1) = (xs.length : Int) - 1 := IntWalk.i64_in _ (by omega)
  go_enter Try.func67, Try.ntmps67
  go_wp2_with fail
  rw [← HW.out]
  clear m0 m1 hM
  go_loopw [4] (fun i wr => ∃ (j : Nat) (P : List Int) (v : Value), j ≤ xs.length ∧ i = .int .i64 ((j : Int) - 1) ∧ P.length = xs.length - j ∧ (∀ a, a < xs.length - j → nth P a = nth xs (xs.length - 1 - a)) ∧ Own (w.heap.size + 3) wr v P ∧ VarInv wr w.heap.size s (.slice p xs.length c) ∧ VarInv wr (w.heap.size + 1) 0 (.slice none 0 0) ∧ VarInv wr (w.heap.size + 2) s v ∧ Below w.heap.size w wr) (fun i _ => (intOf i + 1).toNat)
  case atStart => exact ⟨xs.length, [], _, Nat.le_refl _, rfl, by simp, fun a ha => by omega, Own.nil _ _, hM0, hR0, hV0, b0⟩
  case round =>
    clear hM0 hR0 hV0 b0
    obtain ⟨j, P, v, hj, rfl, hPl, hP, ho, iM, iR, iV, hb⟩ := hrel
    have HPL := Lib.hid hPl
    have HP := Lib.hid hP
    have zw := iV.lt
    have m0 := iM.c0
    have m1 := iM.c1
    clear hPl hP
    rcases Nat.eq_zero_or_pos j with hj0 | hj0
    rotate_left
    · obtain ⟨q, rfl⟩ : ∃ q, j = q + 1 := ⟨j - 1, by omega⟩
      rw [show ((q + 1 : Nat) : Int) - 1 = (q : Int) by omega]
      obtain ⟨k, hk0⟩ : ∃ k, k = xs.length - (q + 1) := ⟨_, rfl⟩
      have hq : q = xs.length - 1 - k := by omega
      have hlt : k < xs.length := by omega
      have hkq : xs.length - q = k + 1 := by omega
      rw [← hk0] at HPL HP
      have hqx : q < xs.length := by omega
      obtain ⟨b, off, hpe, hbl, hc0⟩ := hx q hqx
      subst hpe
      have hc := (hb.cell (p := ⟨b, off + q, none⟩) hbl).trans hc0
      have hq0 : (0 : Int) ≤ (q : Int) := by omega
      have hqi : (q : Int) < (xs.length : Int) := by omega
      have HP2 : Hid (∀ a, a < k + 1 → nth (P ++ [nth xs q]) a = nth xs (xs.length - 1 - a)) := Lib.hid (by
        intro a ha
        rw [nth_snocA, HPL.out]
        by_cases e : a < k
        · rw [if_pos e, HP.out a e]
        · rw [if_neg e, if_pos (by omega), hq, show a = k by omega])
      have HPL2 : Hid ((P ++ [nth xs q]).length = k + 1) := Lib.hid (by simp [HPL.out])
      have HQ := Lib.hid hq
      have r1 := iV.c1
      have r2 := iV.f1
      clear hx hc0 hq
      go_wp2_with fail
      go_region_law (first | (refine step_append1 _ (by rfl) _ _ (by rfl) (w.heap.size + 3) _ _ (by rfl) (ho.later (by exact ((Below.refl _ _).alloc (Nat.le_refl _) _).drew)) ⟨wr.heap.size, 0, none⟩ 1 (nth xs q) (by rfl) (by simp) (by have := HPL.out; omega) (by simp; omega) ?_; intro v1 w1 ho1 hba; obtain ⟨p1, k1', rfl, _hr⟩ := ho1.shape; clear _hr; have iV1 := (iV.later (((Below.refl _ _).alloc (Nat.le_refl _) _).drew)).keep hba (by omega); have q1 := iV1.c1; have q2 := iV1.f1))
      all_goals go_wp2
      all_goals
        have iW : Below wr.heap.size wr (wr.alloc (.cells #[.int .i64 (nth xs q)] 3)).drew := ((Below.refl _ _).alloc (Nat.le_refl _) _).drew
        have iR1 := (iR.later iW).keep hba (by omega)
        have iM1 := (iM.later iW).keep hba (by omega)
        have bB := (hb.thenB iW).trans (hba.mono (by omega))
        have e1 : (P ++ [nth xs q]).length = P.length + 1 := by simp
        rw [e1] at ho1
        exact ⟨⟨q, P ++ [nth xs q], .slice p1 (P.length + 1) k1', by omega, by go_num, by rw [HPL2.out, hkq], by rw [hkq]; exact HP2.out, ho1.setBelow (by show w.heap.size + 2 < _; omega) _, iM1.other _ (by show w.heap.size + 2 ≠ _; omega) _, iR1.other _ (by show w.heap.size + 2 ≠ _; omega) _, iV1.store _, bB.setCell (by show _ ≤ w.heap.size + 2; omega) _⟩, by first | (simp [intOf]; done) | (simp [intOf]; omega)⟩
    · subst hj0
      simp only [Nat.sub_zero] at HPL HP
      have hPe : P = xs.reverse := rev_done HPL.out HP.out
      subst hPe
      obtain ⟨p2, c2, rfl, _hr⟩ := ho.shape
      clear hx _hr
      have s0 := iR.c0
      have s1 := iR.c1
      have s2 := iR.f0
      have s3 := iR.f1
      have v0 := iV.c0
      have v1 := iV.c1
      go_wp2
      refine bodyPost_ret (v := .agg #[.int .i64 s, .slice p2 xs.reverse.length c2]) (by simp [results, Try.results67, go_sem, s0, s1, s2, s3]) rfl ⟨_, rfl, ?_, ?_⟩
      · exact ((ho.setBelow (by show w.heap.size + 1 < _; omega) _).setBelow (by show w.heap.size + 1 < _; omega) _).mono (by omega)
      · exact (hb.setCell (by show _ ≤ w.heap.size + 1; omega) _).setCell (by show _ ≤ w.heap.size + 1; omega) _

end Go.Proofs.Ytjmfjgoehicgcaa
