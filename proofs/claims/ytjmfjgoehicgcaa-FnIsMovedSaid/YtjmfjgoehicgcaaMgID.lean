/- Parts are sent: the program. -/
import Derived.Test.YtjmfjgoehicgcaaIC
import Derived.Test.YtjmfjgoehicgcaaMgZH
import Derived.Test.YtjmfjgoehicgcaaJD
set_option linter.unusedVariables false
set_option linter.unusedSimpArgs false
namespace Go.Proofs.Ytjmfjgoehicgcaa
open Go.RowKit

/-- What 'send' makes of it. -/
def SendPost (L : Lay) (X : Nat → Nat → Bool) (sup dem lf : Nat → Int) (b : Nat) (w : World) (e : Ending) (w' : World) : Prop :=
  (e = .returned (.bool false) ∧ Below w.heap.size w w' ∧ ¬ ∃ G, Flow L.N sup dem G) ∨
    ∃ (F' : Nat → Nat → Int) (lf' du' : Nat → Int), e = .returned (.bool true) ∧ MV L w' F' X lf' du' ∧ Ex L w.heap.size w w' ∧ PFlow L.N sup dem F' lf' du' ∧ lf' b < lf b ∧ ∀ k, k ≠ b → lf' k = lf k

theorem opB_none {X : Nat → Nat → Bool} (hX : ∀ b a, X b a = false) (b a : Nat) : opB X b a = subB a b := by simp [opB, hX]

theorem noway_none {N : Nat} {sup dem : Nat → Int} {F : Nat → Nat → Int} {lf du : Nat → Int} {X : Nat → Nat → Bool} {b : Nat} {R S : Nat → Bool} (hX : ∀ b a, X b a = false) (h : PFlow N sup dem F lf du) (hb : b < N) (hl : 0 < lf b)
    (n : NoWay N (opB X) F b (fun a => decide (0 < du a)) R S) : ¬ ∃ G, Flow N sup dem G := by
  refine cut_none h R S b hb n.rf hl (fun x y hx hy h1 h2 => n.c1 x y hx hy h1 (by rw [opB_none hX]; exact h2)) (fun x y hx hy h1 h2 => ?_) (fun a ha h1 => ?_)
  · by_cases e : x = b
    · rw [e]; exact n.rf
    · refine n.c3 x y hx hy h1 e ?_ h2
      rw [opB_none hX]
      cases hs : subB y x
      · have := h.sub x y hx hy hs; omega
      · rfl
  · have h2 := of_decide_eq_false (n.c2 a ha h1)
    have := h.dn a ha
    omega

set_option maxHeartbeats 4000000 in
set_option maxRecDepth 100000 in
theorem send_any (L : Lay) (w : World) (F : Nat → Nat → Int) (X : Nat → Nat → Bool) (lf du sup dem : Nat → Int) (h : MV L w F X lf du) (hX : ∀ b a, X b a = false) (hpf : PFlow L.N sup dem F lf du) (hsb : ∀ b, b < L.N → sup b ≤ 1000000000000) (hdb : ∀ b, b < L.N → dem b ≤ 1000000000000) (b : Nat) (hb : b < L.N) (hl : 0 < lf b) :
    Calls Try.prog 96 #[.pointer (some ⟨L.MB, 0, none⟩), .int .i64 b] w (SendPost L X sup dem lf b w) := by
  obtain ⟨W, hW⟩ : ∃ W : World, W = w.alloc (.cells #[.pointer (some ⟨L.MB, 0, none⟩)] 68) := ⟨_, rfl⟩
  have hbW : Below w.heap.size w W := by rw [hW]; exact belowAlloc w _
  have hsz : W.heap.size = w.heap.size + 1 := by rw [hW]; simp
  have q0 : W.cell? ⟨w.heap.size, 0, none⟩ = some (.pointer (some ⟨L.MB, 0, none⟩)) := by rw [hW]; exact newCell _ _ _
  have hM := h.later hbW
  have hway := way_any L W F X lf du hM b hb 125 (fun _ _ => rfl) ⟨w.heap.size, 0, none⟩ (fun a => decide (0 < du a)) (Lib.hid fun a wr ha hbl => sendIn_any L wr F X lf du (hM.later hbl) ⟨w.heap.size, 0, none⟩ (cellKeep hbl q0) a ha)
  have HWAY := Lib.hid hway
  have HW := Lib.hid hW
  have HM := Lib.hid hM
  have HPF := Lib.hid hpf
  have HX := Lib.hid hX
  have HSB := Lib.hid hsb
  have HDB := Lib.hid hdb
  have HL := Lib.hid hl
  have HBW := Lib.hid hbW
  have n16 := h.ok.n16
  have HSZ := Lib.hid hsz
  have hqm : Hid (¬ L.Mut w.heap.size) := Lib.hid (fun hz => by have := h.mutLt hz; omega)
  clear hway hW hM hpf hX hsb hdb hl hbW hsz h
  go_enter Try.func96, Try.ntmps96
  go_wp2_with fail
  rw [← HW.out]
  refine HWAY.out.mono ?_
  rintro e w1 ⟨b1, ⟨rfl, R, S, hno⟩ | ⟨G, T, n, giv, get, tg, tc, rfl, hgl, htl, hog, hot, hfo⟩⟩
  · have HNO := Lib.hid (noway_none HX.out HPF.out hb HL.out hno)
    have HB := Lib.hid (HBW.out.thenB b1)
    clear hno b1 HWAY HW
    go_wp2
    go_ret
    exact .inl ⟨rfl, HB.out, HNO.out⟩
  · have hnz : ((n : Int) < 0) = False := by simp
    have hnN := hfo.nN
    have hdu : 0 < du n := of_decide_eq_true hfo.nE
    have hM1 := HM.out.later b1
    have c2 := hM1.c2
    have c3 := hM1.c3
    have c4 := hM1.lc b hb
    have c5 := hM1.dc n hnN
    replace q0 := cellKeep b1 q0
    have hbz : (b : Int) < (L.N : Int) := by omega
    have hnzz : (n : Int) < (L.N : Int) := by omega
    obtain ⟨LF, hLF⟩ : ∃ x, x = lf b := ⟨_, rfl⟩
    obtain ⟨DU, hDU⟩ : ∃ x, x = du n := ⟨_, rfl⟩
    rw [← hLF] at c4
    rw [← hDU] at c5
    clear HWAY HW
    have hgm : ¬ L.Mut G := fun hz => by have e1 := HM.out.mutLt hz; have := (hog.blockLt G rfl).1; omega
    have htm : ¬ L.Mut T := fun hz => by have e1 := HM.out.mutLt hz; have := (hot.blockLt T rfl).1; omega
    have HGM := Lib.hid (fun x (e : some (⟨G, 0, none⟩ : Addr) = some x) => (by cases e; exact hgm : ¬ L.Mut x.block))
    have HTM := Lib.hid (fun x (e : some (⟨T, 0, none⟩ : Addr) = some x) => (by cases e; exact htm : ¬ L.Mut x.block))
    have hlf := HL.out
    have hlb : lf b ≤ 1000000000000 := by
      have a1 := HPF.out.row b hb
      have a2 := HSB.out b hb
      have a3 : 0 ≤ sm L.N (fun a => F b a) := sm_nonneg fun a ha => HPF.out.nn b a hb ha
      omega
    have hdb : du n ≤ 1000000000000 := by
      have a1 := HPF.out.col n hnN
      have a2 := HDB.out n hnN
      have a3 : 0 ≤ sm L.N (fun x => F x n) := sm_nonneg fun x hx => HPF.out.nn x n hx hnN
      omega
    have HROW : Hid (∀ b, b < L.N → sm L.N (fun a => F b a) ≤ 10000000000000) := Lib.hid (fun b hb => by
      have a1 := HPF.out.row b hb
      have a2 := HSB.out b hb
      have a4 := HPF.out.ln b hb
      omega)
    rw [← hLF] at hlf hlb
    rw [← hDU] at hdu hdb
    have HLF := Lib.hid hLF
    have HDU := Lib.hid hDU
    have HB1 := Lib.hid (HBW.out.thenB b1)
    clear hgm htm hLF hDU b1
    go_wp2_with fail
    by_cases hmin : DU < LF
    · have e1 : (DU < LF) = True := by simp [hmin]
      have e2 : (LF < DU) = False := by simp; omega
      have hm1 : (1 : Int) ≤ DU := by omega
      have hm2 : DU ≤ 10000000000000 := by omega
      have hpu := push_any L w1.drew F X lf du hM1.drew (opB X) b n giv get (some ⟨G, 0, none⟩) (some ⟨T, 0, none⟩) L.N L.N DU tg tc hog.reads hot.reads HGM.out HTM.out hgl htl hfo.R hnN hfo.ng hm1 hm2 HPF.out.nn HROW.out
      rw [hgl, htl] at hpu
      have HPU := Lib.hid hpu
      have HMM : Hid (DU ≤ lf b ∧ DU ≤ du n) := Lib.hid (by rw [← HLF.out, ← HDU.out]; omega)
      clear hpu hm1 hm2 hgl htl hog hot hfo hM1
      go_region_held3 (fun w' => w'.cell? ⟨w.heap.size, 0, none⟩ = some (.pointer (some ⟨L.MB, 0, none⟩)) ∧ w'.cell? ⟨L.MB, 2, none⟩ = some (.slice (some ⟨L.LB, 0, none⟩) L.N L.cL) ∧ w'.cell? ⟨L.MB, 3, none⟩ = some (.slice (some ⟨L.DB, 0, none⟩) L.N L.cD) ∧ w'.cell? ⟨L.LB, b, none⟩ = some (.int .i64 LF) ∧ w'.cell? ⟨L.DB, n, none⟩ = some (.int .i64 DU))
        (exact ⟨q0, c2, c3, c4, c5⟩)
        (first
          | (go_at_call 120; (with_reducible refine HPU.out.mono ?_); rintro e w2 ⟨m, F', rfl, hm1, hm2, hpe, hM2, hE2, hs2⟩; (replace q0 := hE2.cell q0 hqm.out); (replace c2 := hM2.c2); (replace c3 := hM2.c3); (replace c4 := hM2.lc b hb); (replace c5 := hM2.dc n hnN); (rw [← HLF.out] at c4); (rw [← HDU.out] at c5))
          | fail)
      have hML := HM.out.ok.km
      have hLL := HM.out.ok.kl
      have hDL := HM.out.ok.kd
      have hlt1 := HM.out.mutLt HM.out.ok.ml
      have t1 : L.MB ≠ L.LB := fun e => by rw [e] at hML; omega
      have t2 : L.MB ≠ L.DB := fun e => by rw [e] at hML; omega
      have t3 : L.LB ≠ L.DB := fun e => by rw [e] at hLL; omega
      have z0 : ∀ o, w2.frozen? ⟨L.LB, o, none⟩ = false := hM2.zl
      have z1 := hM2.zl b
      have z2 := hM2.zd n
      have hlw : L.LB ≠ w.heap.size := fun e => hqm.out (by rw [← e]; exact HM.out.ok.ml)
      have hM3 := Lib.hid ((hM2.setL b hb (LF - m)).setD n hnN (DU - m))
      have hE3 := Lib.hid (((hE2.setCell ⟨L.LB, b, none⟩ (.inr HM.out.ok.ml) (.int .i64 (LF - m))).setCell ⟨L.DB, n, none⟩ (.inr HM.out.ok.md) (.int .i64 (DU - m))))
      have HSE := Lib.hid (HPF.out.sent (op := opB X) (fun b a h => by simp [opB, h]) hpe hnN (by have := HMM.out.1; omega) (by have := HMM.out.2; omega))
      clear hM2 hE2 hpe HPU HX
      clear hML hLL hDL z0
      go_wp2
      go_ret
      refine .inr ⟨F', _, _, rfl, hM3.out, ?_, ?_, ?_, ?_⟩
      · exact ((Ex.ofBelow HB1.out).drew).trans (hE3.out.mono (by have := HB1.out.size; exact this))
      · have u1 : updV lf b (LF - m) = fun k => if k = b then lf k - m else lf k := by
          funext k; unfold updV; by_cases e : k = b
          · subst e; rw [if_pos rfl, if_pos rfl, HLF.out]
          · rw [if_neg e, if_neg e]
        have u2 : updV du n (DU - m) = fun k => if k = n then du k - m else du k := by
          funext k; unfold updV; by_cases e : k = n
          · subst e; rw [if_pos rfl, if_pos rfl, HDU.out]
          · rw [if_neg e, if_neg e]
        rw [u1, u2]; exact HSE.out
      · show updV lf b (LF - m) b < lf b
        unfold updV; rw [if_pos rfl, ← HLF.out]; omega
      · intro k hk; show updV lf b (LF - m) k = lf k
        unfold updV; rw [if_neg hk]
    · have e1 : (DU < LF) = False := by simp [hmin]
      have hm1 : (1 : Int) ≤ LF := by omega
      have hm2 : LF ≤ 10000000000000 := by omega
      have hpu := push_any L w1.drew F X lf du hM1.drew (opB X) b n giv get (some ⟨G, 0, none⟩) (some ⟨T, 0, none⟩) L.N L.N LF tg tc hog.reads hot.reads HGM.out HTM.out hgl htl hfo.R hnN hfo.ng hm1 hm2 HPF.out.nn HROW.out
      rw [hgl, htl] at hpu
      have HPU := Lib.hid hpu
      have HMM : Hid (LF ≤ lf b ∧ LF ≤ du n) := Lib.hid (by rw [← HLF.out, ← HDU.out]; omega)
      clear hpu hm1 hm2 hgl htl hog hot hfo hM1
      go_region_held3 (fun w' => w'.cell? ⟨w.heap.size, 0, none⟩ = some (.pointer (some ⟨L.MB, 0, none⟩)) ∧ w'.cell? ⟨L.MB, 2, none⟩ = some (.slice (some ⟨L.LB, 0, none⟩) L.N L.cL) ∧ w'.cell? ⟨L.MB, 3, none⟩ = some (.slice (some ⟨L.DB, 0, none⟩) L.N L.cD) ∧ w'.cell? ⟨L.LB, b, none⟩ = some (.int .i64 LF) ∧ w'.cell? ⟨L.DB, n, none⟩ = some (.int .i64 DU))
        (exact ⟨q0, c2, c3, c4, c5⟩)
        (first
          | (go_at_call 120; (with_reducible refine HPU.out.mono ?_); rintro e w2 ⟨m, F', rfl, hm1, hm2, hpe, hM2, hE2, hs2⟩; (replace q0 := hE2.cell q0 hqm.out); (replace c2 := hM2.c2); (replace c3 := hM2.c3); (replace c4 := hM2.lc b hb); (replace c5 := hM2.dc n hnN); (rw [← HLF.out] at c4); (rw [← HDU.out] at c5))
          | fail)
      have hML := HM.out.ok.km
      have hLL := HM.out.ok.kl
      have hDL := HM.out.ok.kd
      have hlt1 := HM.out.mutLt HM.out.ok.ml
      have t1 : L.MB ≠ L.LB := fun e => by rw [e] at hML; omega
      have t2 : L.MB ≠ L.DB := fun e => by rw [e] at hML; omega
      have t3 : L.LB ≠ L.DB := fun e => by rw [e] at hLL; omega
      have z0 : ∀ o, w2.frozen? ⟨L.LB, o, none⟩ = false := hM2.zl
      have z1 := hM2.zl b
      have z2 := hM2.zd n
      have hlw : L.LB ≠ w.heap.size := fun e => hqm.out (by rw [← e]; exact HM.out.ok.ml)
      have hM3 := Lib.hid ((hM2.setL b hb (LF - m)).setD n hnN (DU - m))
      have hE3 := Lib.hid (((hE2.setCell ⟨L.LB, b, none⟩ (.inr HM.out.ok.ml) (.int .i64 (LF - m))).setCell ⟨L.DB, n, none⟩ (.inr HM.out.ok.md) (.int .i64 (DU - m))))
      have HSE := Lib.hid (HPF.out.sent (op := opB X) (fun b a h => by simp [opB, h]) hpe hnN (by have := HMM.out.1; omega) (by have := HMM.out.2; omega))
      clear hM2 hE2 hpe HPU HX
      clear hML hLL hDL z0
      go_wp2
      go_ret
      refine .inr ⟨F', _, _, rfl, hM3.out, ?_, ?_, ?_, ?_⟩
      · exact ((Ex.ofBelow HB1.out).drew).trans (hE3.out.mono (by have := HB1.out.size; exact this))
      · have u1 : updV lf b (LF - m) = fun k => if k = b then lf k - m else lf k := by
          funext k; unfold updV; by_cases e : k = b
          · subst e; rw [if_pos rfl, if_pos rfl, HLF.out]
          · rw [if_neg e, if_neg e]
        have u2 : updV du n (DU - m) = fun k => if k = n then du k - m else du k := by
          funext k; unfold updV; by_cases e : k = n
          · subst e; rw [if_pos rfl, if_pos rfl, HDU.out]
          · rw [if_neg e, if_neg e]
        rw [u1, u2]; exact HSE.out
      · show updV lf b (LF - m) b < lf b
        unfold updV; rw [if_pos rfl, ← HLF.out]; omega
      · intro k hk; show updV lf b (LF - m) k = lf k
        unfold updV; rw [if_neg hk]

end Go.Proofs.Ytjmfjgoehicgcaa

/- The memory in which the program's moves are made. -/
set_option linter.unusedVariables false
set_option linter.unusedSimpArgs false
namespace Go.Proofs.Ytjmfjgoehicgcaa
open Go.RowKit

theorem ownsSet {B : Nat} {e : TypeId} {sz n : Nat} {w : World} {v : Value} {xs : List Value} (h : w.ownsRow B e sz v n xs) (a : Addr) (hne : v.ownBlock ≠ some a.block) (u : Value) : (w.setCell a u).ownsRow B e sz v n xs := by
  refine ⟨h.1, ?_⟩
  rcases h.2 with hn | ⟨g, cap, cur, e, hb, hg, rest⟩
  · exact .inl hn
  · subst e
    exact .inr ⟨g, cap, cur, rfl, hb, by rw [Below.heap_setCell w a u g (fun e2 => hne (by rw [← e2]; rfl))]; exact hg, rest⟩

theorem ownsLater {B : Nat} {e : TypeId} {sz n : Nat} {w w' : World} {v : Value} {xs : List Value} (h : w.ownsRow B e sz v n xs) (hb : Below w.heap.size w w') : w'.ownsRow B e sz v n xs := by
  refine ⟨h.1, ?_⟩
  rcases h.2 with h | ⟨g, cap, cur, a, b, hg, r⟩
  · exact .inl h
  · exact .inr ⟨g, cap, cur, a, b, by rw [hb.block g (Array.getElem?_eq_some_iff.1 hg).1]; exact hg, r⟩

theorem ownsMono {B B' : Nat} {e : TypeId} {sz n : Nat} {w : World} {v : Value} {xs : List Value} (h : w.ownsRow B e sz v n xs) (hB : B' ≤ B) : w.ownsRow B' e sz v n xs := by
  refine ⟨h.1, ?_⟩
  rcases h.2 with h | ⟨g, cap, cur, a, b, r⟩
  · exact .inl h
  · exact .inr ⟨g, cap, cur, a, Nat.le_trans hB b, r⟩

/-- A struct of four slices that grow, and rows of its own; 'kk' tells the blocks apart. -/
structure NV (MB N : Nat) (w wr : World) (ET : Nat → TypeId) (V : Nat → Value) (XS : Nat → List Value) (n : Nat) (RB : Nat → Nat) (RT : Nat → TypeId) (RX : Nat → List Value) (kk : Nat → Nat) : Prop where
  c : ∀ j, j < 4 → wr.cell? ⟨MB, j, none⟩ = some (V j)
  fz : ∀ o, wr.frozen? ⟨MB, o, none⟩ = false
  ow : ∀ j, j < 4 → wr.ownsRow w.heap.size (ET j) 1 (V j) (XS j).length (XS j)
  rw : ∀ i, i < n → wr.ownsRow w.heap.size (RT i) 1 (.slice (some ⟨RB i, 0, none⟩) N N) N (RX i)
  tm : kk MB = 0
  tv : ∀ j, j < 4 → ∀ g, (V j).ownBlock = some g → kk g = 1 + j
  tr : ∀ i, i < n → kk (RB i) = 5 + i
  bl : Below w.heap.size w wr
  mB : w.heap.size ≤ MB

section
variable {MB N : Nat} {w wr wr' : World} {ET : Nat → TypeId} {V : Nat → Value} {XS : Nat → List Value} {n : Nat} {RB : Nat → Nat} {RT : Nat → TypeId} {RX : Nat → List Value} {kk : Nat → Nat}

theorem NV.mlt (h : NV MB N w wr ET V XS n RB RT RX kk) : MB < wr.heap.size := World.block_lt_of_cell? wr _ (h.c 0 (by omega))
theorem NV.vlt (h : NV MB N w wr ET V XS n RB RT RX kk) {j g : Nat} (hj : j < 4) (e : (V j).ownBlock = some g) : w.heap.size ≤ g ∧ g < wr.heap.size := World.ownsRow.lt (h.ow j hj) g e
theorem NV.rlt (h : NV MB N w wr ET V XS n RB RT RX kk) {i : Nat} (hi : i < n) : w.heap.size ≤ RB i ∧ RB i < wr.heap.size := World.ownsRow.lt (h.rw i hi) _ rfl

theorem NV.later (h : NV MB N w wr ET V XS n RB RT RX kk) (hb : Below wr.heap.size wr wr') : NV MB N w wr' ET V XS n RB RT RX kk :=
  ⟨fun j hj => cellKeep hb (h.c j hj), fun o => frozKeep hb h.mlt (h.fz o), fun j hj => ownsLater (h.ow j hj) hb, fun i hi => ownsLater (h.rw i hi) hb, h.tm, h.tv, h.tr, h.bl.thenB hb, h.mB⟩

/-- A row has been made. -/
theorem NV.addRow (h : NV MB N w wr ET V XS n RB RT RX kk) (hb : Below wr.heap.size wr wr') (g : Nat) (t : TypeId) (xs : List Value) (hg : g = wr.heap.size) (ho : wr'.ownsRow w.heap.size t 1 (.slice (some ⟨g, 0, none⟩) N N) N xs) :
    NV MB N w wr' ET V XS (n + 1) (upn RB n g) (fun i => if i = n then t else RT i) (fun i => if i = n then xs else RX i) (upn kk g (5 + n)) := by
  refine ⟨fun j hj => cellKeep hb (h.c j hj), fun o => frozKeep hb h.mlt (h.fz o), fun j hj => ownsLater (h.ow j hj) hb, fun i hi => ?_, ?_, fun j hj z e => ?_, fun i hi => ?_, h.bl.thenB hb, h.mB⟩
  · by_cases e : i = n
    · subst e; rw [upn_same, if_pos rfl, if_pos rfl]; exact ho
    · rw [upn_off _ _ _ _ e, if_neg e, if_neg e]; exact ownsLater (h.rw i (by omega)) hb
  · rw [upn_off _ _ _ _ (by have := h.mlt; omega)]; exact h.tm
  · rw [upn_off _ _ _ _ (by have := (h.vlt hj e).2; omega)]; exact h.tv j hj z e
  · by_cases e : i = n
    · subst e; rw [upn_same, upn_same]
    · rw [upn_off _ _ _ _ e, upn_off _ _ _ _ (by have := (h.rlt (i := i) (by omega)).2; omega)]; exact h.tr i (by omega)

/-- One of the four slices has grown, and been stored. -/
theorem NV.put {w4 : World} {j g m cap : Nat} {xs : List Value} (h : NV MB N w wr ET V XS n RB RT RX kk) (hj : j < 4) (hg : wr.grownBy w4 (V j).ownBlock) (ho : w4.ownsRow w.heap.size (ET j) 1 (.slice (some ⟨g, 0, none⟩) m cap) m xs) (hm : m = xs.length)
    (hl : (V j).ownBlock = some g ∨ g = wr.heap.size) :
    NV MB N w (w4.setCell ⟨MB, j, none⟩ (.slice (some ⟨g, 0, none⟩) m cap)) ET (fun i => if i = j then .slice (some ⟨g, 0, none⟩) m cap else V i) (fun i => if i = j then xs else XS i) n RB RT RX (upn kk g (1 + j)) := by
  have hgv : ∀ i, i < 4 → i ≠ j → (V i).ownBlock ≠ some g := fun i hi hne e => by
    rcases hl with hl | hl
    · have := h.tv i hi g e; have := h.tv j hj g hl; omega
    · have := (h.vlt hi e).2; omega
  have hgr : ∀ i, i < n → RB i ≠ g := fun i hi e => by
    rcases hl with hl | hl
    · have e1 := h.tr i hi; have e2 := h.tv j hj g hl; rw [e] at e1; omega
    · have := (h.rlt hi).2; omega
  have hgm : g ≠ MB := fun e => by
    rcases hl with hl | hl
    · have e1 := h.tm; have e2 := h.tv j hj g hl; rw [e] at e2; omega
    · have := h.mlt; omega
  have hrow : ∀ i, i < 4 → i ≠ j → (V i).ownBlock = none ∨ (V i).ownBlock ≠ (V j).ownBlock := fun i hi hne => by
    cases e : (V i).ownBlock with
    | none => exact .inl rfl
    | some z => exact .inr fun e2 => by have := h.tv i hi z e; have := h.tv j hj z e2.symm; omega
  have hmj : (V j).ownBlock ≠ some MB := fun e => by have e1 := h.tm; have e2 := h.tv j hj MB e; omega
  have hri : ∀ i, i < n → (V j).ownBlock ≠ some (RB i) := fun i hi e => by have e1 := h.tr i hi; have e2 := h.tv j hj _ e; omega
  have hmv : ∀ i, i < 4 → (V i).ownBlock ≠ some MB := fun i hi e => by have e1 := h.tm; have e2 := h.tv i hi MB e; omega
  have hmr : ∀ i, i < n → RB i ≠ MB := fun i hi e => by have e1 := h.tr i hi; have e2 := h.tm; rw [e] at e1; omega
  refine ⟨fun i hi => ?_, fun o => by rw [World.frozen?_setCell]; exact farFroz hg h.mlt (h.fz o) hmj, fun i hi => ?_, fun i hi => ?_, ?_, fun i hi z e => ?_, fun i hi => ?_, ?_, h.mB⟩
  · by_cases e : i = j
    · subst e; rw [if_pos rfl]; exact World.cell?_setCell_same _ _ _ (farCell hg (h.c i hi) hmj)
    · rw [if_neg e]; exact cellOff (farCell hg (h.c i hi) hmj) (fun e2 => e (by injection e2 with _ e3; exact e3.symm))
  · by_cases e : i = j
    · subst e; rw [if_pos rfl, if_pos rfl, ← hm]
      exact ownsSet ho ⟨MB, i, none⟩ (fun e => hgm (by injection e)) _
    · rw [if_neg e, if_neg e]
      exact ownsSet ((h.ow i hi).kept hg (hrow i hi e)) ⟨MB, j, none⟩ (hmv i hi) _
  · exact ownsSet ((h.rw i hi).kept hg (.inr (fun e => hri i hi e.symm))) ⟨MB, j, none⟩ (fun e => hmr i hi (by injection e)) _
  · rw [upn_off _ _ _ _ (fun e => hgm e.symm)]; exact h.tm
  · by_cases e2 : i = j
    · subst e2; rw [if_pos rfl] at e; injection e with e; rw [← e, upn_same]
    · rw [if_neg e2] at e
      rw [upn_off _ _ _ _ (fun e3 => hgv i hi e2 (by rw [← e3]; exact e))]; exact h.tv i hi z e
  · rw [upn_off _ _ _ _ (hgr i hi)]; exact h.tr i hi
  · exact (h.bl.trans (belowRow hg (h.bl.size) fun z e => (h.vlt hj e).1)).setCell (p := ⟨MB, j, none⟩) h.mB _
end

/-- The rows of a table of slices. -/
def rowsV (RB : Nat → Nat) (o N k : Nat) : List Value := (List.range k).map fun i => .slice (some ⟨RB (2 * i + o), 0, none⟩) N N
theorem rowsV_len (RB : Nat → Nat) (o N k : Nat) : (rowsV RB o N k).length = k := by simp [rowsV]
theorem rowsV_succ (RB : Nat → Nat) (o N k : Nat) : rowsV RB o N (k + 1) = rowsV RB o N k ++ [.slice (some ⟨RB (2 * k + o), 0, none⟩) N N] := by simp [rowsV, List.range_succ]
theorem rowsV_at (RB : Nat → Nat) (o N k i : Nat) (hi : i < k) : (rowsV RB o N k)[i]? = some (.slice (some ⟨RB (2 * i + o), 0, none⟩) N N) := by simp [rowsV, hi]
theorem rowsV_cong {RB RB' : Nat → Nat} {o N k : Nat} (h : ∀ i, i < k → RB' (2 * i + o) = RB (2 * i + o)) : rowsV RB' o N k = rowsV RB o N k := by
  unfold rowsV
  refine List.map_congr_left fun i hi => ?_
  rw [h i (List.mem_range.1 hi)]

def falses (N : Nat) : List Value := List.replicate N (.bool false)
def zerosV (N : Nat) : List Value := List.replicate N (.int .i64 0)

theorem Try.infoB : (Try.prog.info? 4).map (fun i => (i.zero, i.size, i.bytes)) = some (some (.bool false), 1, 1) := by kernel_rfl
theorem Try.infoSI : (Try.prog.info? 22).map (fun i => (i.zero, i.size, i.bytes)) = some (some (.slice none 0 0), 1, 24) := by kernel_rfl
theorem Try.infoSB : (Try.prog.info? 90).map (fun i => (i.zero, i.size, i.bytes)) = some (some (.slice none 0 0), 1, 24) := by kernel_rfl

/-- 'make([]bool, n)', and 'make([]int, n)', as functions of worlds. -/
theorem makeFnV (t e : TypeId) (z : Value) (bytes : Nat) (ht : Try.prog.underlying t = some (.slice e)) (hz : (Try.prog.info? e).map (fun i => (i.zero, i.size, i.bytes)) = some (some z, 1, bytes)) (hc : z.cells = #[z]) (hby : bytes ≤ 1000) (n : Nat) (hn : n ≤ 1048576) :
    ∃ f : World → World, ∀ w : World, Sem.run Try.prog (Instr.makeSlice t (.int .i64 (n : Int)) (.int .i64 (n : Int))) w = .ok (.slice (some ⟨w.heap.size, 0, none⟩) n n) (f w) ∧
    (f w).ownsRow w.heap.size e 1 (.slice (some ⟨w.heap.size, 0, none⟩) n n) n (List.replicate n z) ∧ Below w.heap.size w (f w) ∧ w.heap.size < (f w).heap.size := by
  suffices h : ∀ w : World, ∃ w' : World, Sem.run Try.prog (Instr.makeSlice t (.int .i64 (n : Int)) (.int .i64 (n : Int))) w = .ok (.slice (some ⟨w.heap.size, 0, none⟩) n n) w' ∧
      w'.ownsRow w.heap.size e 1 (.slice (some ⟨w.heap.size, 0, none⟩) n n) n (List.replicate n z) ∧ Below w.heap.size w w' ∧ w.heap.size < w'.heap.size by
    exact ⟨fun w => Classical.choose (h w), fun w => Classical.choose_spec (h w)⟩
  intro w
  obtain ⟨i0, hi, hz0, hz1, hz2⟩ := info_parts hz
  obtain ⟨w', hrun, r1, r2⟩ := run_make_full (P := Try.prog) w w.heap.size t e i0 z 1 ht hi hz0 hz1 .i64 .i64 n (by rw [hz2]; have : bytes * n ≤ 1000 * 1048576 := Nat.mul_le_mul hby hn; omega) (by unfold maxLen; omega) (Nat.le_refl _)
  refine ⟨w', hrun, ?_, (Below.refl _ _).grown r2 (Nat.le_refl _) (fun k hk => by cases hk), (World.ownsRow.lt r1 w.heap.size rfl).2⟩
  rw [hc] at r1
  simpa [toList_madeCells_one] using r1

/-- One value is appended, as a step of a region that draws its order. -/
theorem step_append_v {ops : Array Oper} {o : Oper} {a : Act} {K : Act → World → Prop} {Q : Exit → Act → World → Prop} {E : Prop} (w : World) (hgd : o.guard = none) (s x : Operand) (t e : TypeId)
    (ho : o.op = .call { callee := .builtin .append, args := #[s, x], argTypes := #[t, t] }) (z : Value) (bytes : Nat) (ht : Try.prog.underlying t = some (.slice e)) (hz : (Try.prog.info? e).map (fun i => (i.zero, i.size, i.bytes)) = some (some z, 1, bytes)) (hc : z.cells.size = 1) (hby : bytes ≤ 1000)
    (B : Nat) (v : Value) (xs : List Value) (n : Nat) (hn : xs.length = n) (hs : a.eval s = v) (hown : w.ownsRow B e 1 v n xs)
    (ad : Addr) (c : Nat) (u : Value) (hx : a.eval x = .slice (some ad) 1 c) (hu : w.cell? ad = some u) (h1 : u.oneCell' = true) (hlen : n ≤ 1048576) (hB : B ≤ w.heap.size)
    (h : ∀ g cap w', w'.ownsRow B e 1 (.slice (some ⟨g, 0, none⟩) (n + 1) cap) (n + 1) (xs ++ [u]) → w.grownBy w' v.ownBlock → (v.ownBlock = some g ∨ g = w.heap.size) → g < w'.heap.size → K (a.put o.dst (.slice (some ⟨g, 0, none⟩) (n + 1) cap)) w') :
    if Region.wanted o (yielded ops a.tmps) = true then Oper.wp Try.prog o a w K Q else E := by
  obtain ⟨i0, hi, hz0, hz1, hz2⟩ := info_parts hz
  refine step_append_lies w hgd s x t ho B e i0 z 1 bytes ht hi hz0 hz1 hz2 hc (by decide) v n _ hs hown ad 1 c [u] hx rfl ?_ (by simpa using h1) (by decide) (by unfold maxLen; omega) (by have : (n + 1) * bytes ≤ 1048577 * 1000 := Nat.mul_le_mul (by omega) hby; omega) hB _ rfl ?_
  · intro j y hj
    cases j with
    | zero => simp at hj; subst hj; rw [show ad.add 0 = ad by simp [Addr.add]]; exact hu
    | succ j => simp at hj
  · intro g cap w' h1 h2 h3 h4
    exact h g cap w' h1 h2 h3 h4

end Go.Proofs.Ytjmfjgoehicgcaa
