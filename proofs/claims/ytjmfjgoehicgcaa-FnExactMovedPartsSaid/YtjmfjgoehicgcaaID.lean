/- Parts are sent: the program. -/
import Derived.Test.YtjmfjgoehicgcaaIC
import Derived.Test.YtjmfjgoehicgcaaZH
set_option linter.unusedVariables false
set_option linter.unusedSimpArgs false
namespace Go.Proofs.Ytjmfjgoehicgcaa
open Go.RowKit

/-- What 'send' makes of it. -/
def SendPost (L : Lay) (X : Nat → Nat → Bool) (sup dem lf : Nat → Int) (b : Nat) (w : World) (e : Ending) (w' : World) : Prop :=
  (e = .returned (.bool false) ∧ Below w.heap.size w w' ∧ ¬ ∃ G, Flow L.N sup dem G) ∨
    ∃ (F' : Nat → Nat → Int) (lf' du' : Nat → Int), e = .returned (.bool true) ∧ MV L w' F' X lf' du' ∧ Ex L w.heap.size w w' ∧ PFlow L.N sup dem F' lf' du' ∧ lf' b < lf b ∧ ∀ k, k ≠ b → lf' k = lf k

theorem opB_none {X : Nat → Nat → Bool} (hX : ∀ b a, X b a = false) (b a : Nat) : opB X b a = subB a b := by simp [opB, hX]

theorem noway_none {N : Nat} {sup dem : Nat → Int} {F : Nat → Nat → Int} {lf du : Nat → Int} {X : Nat → Nat → Bool} {b : Nat} {R S : Nat → Bool} (hX : ∀ b a, X b a = false) (h : PFlow N sup dem F lf du) (hb : b < N) (hl : 0 < lf b)
    (n : NoWay N (opB X) F b (fun a => decide (0 < du a)) R S) : ¬ ∃ G, Flow N sup dem G := by
  refine cut_none h R S b hb n.rf hl (fun x y hx hy h1 h2 => n.c1 x y hx hy h1 (by rw [opB_none hX]; exact h2)) (fun x y hx hy h1 h2 => ?_) (fun a ha h1 => ?_)
  · by_cases e : x = b
    · rw [e]; exact n.rf
    · refine n.c3 x y hx hy h1 e ?_ h2
      rw [opB_none hX]
      cases hs : subB y x
      · have := h.sub x y hx hy hs; omega
      · rfl
  · have h2 := of_decide_eq_false (n.c2 a ha h1)
    have := h.dn a ha
    omega

set_option maxHeartbeats 4000000 in
set_option maxRecDepth 100000 in
theorem send_any (L : Lay) (w : World) (F : Nat → Nat → Int) (X : Nat → Nat → Bool) (lf du sup dem : Nat → Int) (h : MV L w F X lf du) (hX : ∀ b a, X b a = false) (hpf : PFlow L.N sup dem F lf du) (hsb : ∀ b, b < L.N → sup b ≤ 1000000000000) (hdb : ∀ b, b < L.N → dem b ≤ 1000000000000) (b : Nat) (hb : b < L.N) (hl : 0 < lf b) :
    Calls Try.prog 96 #[.pointer (some ⟨L.MB, 0, none⟩), .int .i64 b] w (SendPost L X sup dem lf b w) := by
  obtain ⟨W, hW⟩ : ∃ W : World, W = w.alloc (.cells #[.pointer (some ⟨L.MB, 0, none⟩)] 68) := ⟨_, rfl⟩
  have hbW : Below w.heap.size w W := by rw [hW]; exact belowAlloc w _
  have hsz : W.heap.size = w.heap.size + 1 := by rw [hW]; simp
  have q0 : W.cell? ⟨w.heap.size, 0, none⟩ = some (.pointer (some ⟨L.MB, 0, none⟩)) := by rw [hW]; exact newCell _ _ _
  have hM := h.later hbW
  have hway := way_any L W F X lf du hM b hb 125 (fun _ _ => rfl) ⟨w.heap.size, 0, none⟩ (fun a => decide (0 < du a)) (Lib.hid fun a wr ha hbl => sendIn_any L wr F X lf du (hM.later hbl) ⟨w.heap.size, 0, none⟩ (cellKeep hbl q0) a ha)
  have HWAY := Lib.hid hway
  have HW := Lib.hid hW
  have HM := Lib.hid hM
  have HPF := Lib.hid hpf
  have HX := Lib.hid hX
  have HSB := Lib.hid hsb
  have HDB := Lib.hid hdb
  have HL := Lib.hid hl
  have HBW := Lib.hid hbW
  have n16 := h.ok.n16
  have HSZ := Lib.hid hsz
  have hqm : Hid (¬ L.Mut w.heap.size) := Lib.hid (fun hz => by have := h.mutLt hz; omega)
  clear hway hW hM hpf hX hsb hdb hl hbW hsz h
  go_enter Try.func96, Try.ntmps96
  go_wp2_with fail
  rw [← HW.out]
  refine HWAY.out.mono ?_
  rintro e w1 ⟨b1, ⟨rfl, R, S, hno⟩ | ⟨G, T, n, giv, get, tg, tc, rfl, hgl, htl, hog, hot, hfo⟩⟩
  · have HNO := Lib.hid (noway_none HX.out HPF.out hb HL.out hno)
    have HB := Lib.hid (HBW.out.thenB b1)
    clear hno b1 HWAY HW
    go_wp2
    go_ret
    exact .inl ⟨rfl, HB.out, HNO.out⟩
  · have hnz : ((n : Int) < 0) = False := by simp
    have hnN := hfo.nN
    have hdu : 0 < du n := of_decide_eq_true hfo.nE
    have hM1 := HM.out.later b1
    have c2 := hM1.c2
    have c3 := hM1.c3
    have c4 := hM1.lc b hb
    have c5 := hM1.dc n hnN
    replace q0 := cellKeep b1 q0
    have hbz : (b : Int) < (L.N : Int) := by omega
    have hnzz : (n : Int) < (L.N : Int) := by omega
    obtain ⟨LF, hLF⟩ : ∃ x, x = lf b := ⟨_, rfl⟩
    obtain ⟨DU, hDU⟩ : ∃ x, x = du n := ⟨_, rfl⟩
    rw [← hLF] at c4
    rw [← hDU] at c5
    clear HWAY HW
    have hgm : ¬ L.Mut G := fun hz => by have e1 := HM.out.mutLt hz; have := (hog.blockLt G rfl).1; omega
    have htm : ¬ L.Mut T := fun hz => by have e1 := HM.out.mutLt hz; have := (hot.blockLt T rfl).1; omega
    have HGM := Lib.hid (fun x (e : some (⟨G, 0, none⟩ : Addr) = some x) => (by cases e; exact hgm : ¬ L.Mut x.block))
    have HTM := Lib.hid (fun x (e : some (⟨T, 0, none⟩ : Addr) = some x) => (by cases e; exact htm : ¬ L.Mut x.block))
    have hlf := HL.out
    have hlb : lf b ≤ 1000000000000 := by
      have a1 := HPF.out.row b hb
      have a2 := HSB.out b hb
      have a3 : 0 ≤ sm L.N (fun a => F b a) := sm_nonneg fun a ha => HPF.out.nn b a hb ha
      omega
    have hdb : du n ≤ 1000000000000 := by
      have a1 := HPF.out.col n hnN
      have a2 := HDB.out n hnN
      have a3 : 0 ≤ sm L.N (fun x => F x n) := sm_nonneg fun x hx => HPF.out.nn x n hx hnN
      omega
    have HROW : Hid (∀ b, b < L.N → sm L.N (fun a => F b a) ≤ 10000000000000) := Lib.hid (fun b hb => by
      have a1 := HPF.out.row b hb
      have a2 := HSB.out b hb
      have a4 := HPF.out.ln b hb
      omega)
    rw [← hLF] at hlf hlb
    rw [← hDU] at hdu hdb
    have HLF := Lib.hid hLF
    have HDU := Lib.hid hDU
    have HB1 := Lib.hid (HBW.out.thenB b1)
    clear hgm htm hLF hDU b1
    go_wp2_with fail
    by_cases hmin : DU < LF
    · have e1 : (DU < LF) = True := by simp [hmin]
      have e2 : (LF < DU) = False := by simp; omega
      have hm1 : (1 : Int) ≤ DU := by omega
      have hm2 : DU ≤ 10000000000000 := by omega
      have hpu := push_any L w1.drew F X lf du hM1.drew (opB X) b n giv get (some ⟨G, 0, none⟩) (some ⟨T, 0, none⟩) L.N L.N DU tg tc hog.reads hot.reads HGM.out HTM.out hgl htl hfo.R hnN hfo.ng hm1 hm2 HPF.out.nn HROW.out
      rw [hgl, htl] at hpu
      have HPU := Lib.hid hpu
      have HMM : Hid (DU ≤ lf b ∧ DU ≤ du n) := Lib.hid (by rw [← HLF.out, ← HDU.out]; omega)
      clear hpu hm1 hm2 hgl htl hog hot hfo hM1
      go_region_held3 (fun w' => w'.cell? ⟨w.heap.size, 0, none⟩ = some (.pointer (some ⟨L.MB, 0, none⟩)) ∧ w'.cell? ⟨L.MB, 2, none⟩ = some (.slice (some ⟨L.LB, 0, none⟩) L.N L.cL) ∧ w'.cell? ⟨L.MB, 3, none⟩ = some (.slice (some ⟨L.DB, 0, none⟩) L.N L.cD) ∧ w'.cell? ⟨L.LB, b, none⟩ = some (.int .i64 LF) ∧ w'.cell? ⟨L.DB, n, none⟩ = some (.int .i64 DU))
        (exact ⟨q0, c2, c3, c4, c5⟩)
        (first
          | (go_at_call 120; (with_reducible refine HPU.out.mono ?_); rintro e w2 ⟨m, F', rfl, hm1, hm2, hpe, hM2, hE2, hs2⟩; (replace q0 := hE2.cell q0 hqm.out); (replace c2 := hM2.c2); (replace c3 := hM2.c3); (replace c4 := hM2.lc b hb); (replace c5 := hM2.dc n hnN); (rw [← HLF.out] at c4); (rw [← HDU.out] at c5))
          | fail)
      have hML := HM.out.ok.km
      have hLL := HM.out.ok.kl
      have hDL := HM.out.ok.kd
      have hlt1 := HM.out.mutLt HM.out.ok.ml
      have t1 : L.MB ≠ L.LB := fun e => by rw [e] at hML; omega
      have t2 : L.MB ≠ L.DB := fun e => by rw [e] at hML; omega
      have t3 : L.LB ≠ L.DB := fun e => by rw [e] at hLL; omega
      have z0 : ∀ o, w2.frozen? ⟨L.LB, o, none⟩ = false := hM2.zl
      have z1 := hM2.zl b
      have z2 := hM2.zd n
      have hlw : L.LB ≠ w.heap.size := fun e => hqm.out (by rw [← e]; exact HM.out.ok.ml)
      have hM3 := Lib.hid ((hM2.setL b hb (LF - m)).setD n hnN (DU - m))
      have hE3 := Lib.hid (((hE2.setCell ⟨L.LB, b, none⟩ (.inr HM.out.ok.ml) (.int .i64 (LF - m))).setCell ⟨L.DB, n, none⟩ (.inr HM.out.ok.md) (.int .i64 (DU - m))))
      have HSE := Lib.hid (HPF.out.sent (op := opB X) (fun b a h => by simp [opB, h]) hpe hnN (by have := HMM.out.1; omega) (by have := HMM.out.2; omega))
      clear hM2 hE2 hpe HPU HX
      clear hML hLL hDL z0
      go_wp2
      go_ret
      refine .inr ⟨F', _, _, rfl, hM3.out, ?_, ?_, ?_, ?_⟩
      · exact ((Ex.ofBelow HB1.out).drew).trans (hE3.out.mono (by have := HB1.out.size; exact this))
      · have u1 : updV lf b (LF - m) = fun k => if k = b then lf k - m else lf k := by
          funext k; unfold updV; by_cases e : k = b
          · subst e; rw [if_pos rfl, if_pos rfl, HLF.out]
          · rw [if_neg e, if_neg e]
        have u2 : updV du n (DU - m) = fun k => if k = n then du k - m else du k := by
          funext k; unfold updV; by_cases e : k = n
          · subst e; rw [if_pos rfl, if_pos rfl, HDU.out]
          · rw [if_neg e, if_neg e]
        rw [u1, u2]; exact HSE.out
      · show updV lf b (LF - m) b < lf b
        unfold updV; rw [if_pos rfl, ← HLF.out]; omega
      · intro k hk; show updV lf b (LF - m) k = lf k
        unfold updV; rw [if_neg hk]
    · have e1 : (DU < LF) = False := by simp [hmin]
      have hm1 : (1 : Int) ≤ LF := by omega
      have hm2 : LF ≤ 10000000000000 := by omega
      have hpu := push_any L w1.drew F X lf du hM1.drew (opB X) b n giv get (some ⟨G, 0, none⟩) (some ⟨T, 0, none⟩) L.N L.N LF tg tc hog.reads hot.reads HGM.out HTM.out hgl htl hfo.R hnN hfo.ng hm1 hm2 HPF.out.nn HROW.out
      rw [hgl, htl] at hpu
      have HPU := Lib.hid hpu
      have HMM : Hid (LF ≤ lf b ∧ LF ≤ du n) := Lib.hid (by rw [← HLF.out, ← HDU.out]; omega)
      clear hpu hm1 hm2 hgl htl hog hot hfo hM1
      go_region_held3 (fun w' => w'.cell? ⟨w.heap.size, 0, none⟩ = some (.pointer (some ⟨L.MB, 0, none⟩)) ∧ w'.cell? ⟨L.MB, 2, none⟩ = some (.slice (some ⟨L.LB, 0, none⟩) L.N L.cL) ∧ w'.cell? ⟨L.MB, 3, none⟩ = some (.slice (some ⟨L.DB, 0, none⟩) L.N L.cD) ∧ w'.cell? ⟨L.LB, b, none⟩ = some (.int .i64 LF) ∧ w'.cell? ⟨L.DB, n, none⟩ = some (.int .i64 DU))
        (exact ⟨q0, c2, c3, c4, c5⟩)
        (first
          | (go_at_call 120; (with_reducible refine HPU.out.mono ?_); rintro e w2 ⟨m, F', rfl, hm1, hm2, hpe, hM2, hE2, hs2⟩; (replace q0 := hE2.cell q0 hqm.out); (replace c2 := hM2.c2); (replace c3 := hM2.c3); (replace c4 := hM2.lc b hb); (replace c5 := hM2.dc n hnN); (rw [← HLF.out] at c4); (rw [← HDU.out] at c5))
          | fail)
      have hML := HM.out.ok.km
      have hLL := HM.out.ok.kl
      have hDL := HM.out.ok.kd
      have hlt1 := HM.out.mutLt HM.out.ok.ml
      have t1 : L.MB ≠ L.LB := fun e => by rw [e] at hML; omega
      have t2 : L.MB ≠ L.DB := fun e => by rw [e] at hML; omega
      have t3 : L.LB ≠ L.DB := fun e => by rw [e] at hLL; omega
      have z0 : ∀ o, w2.frozen? ⟨L.LB, o, none⟩ = false := hM2.zl
      have z1 := hM2.zl b
      have z2 := hM2.zd n
      have hlw : L.LB ≠ w.heap.size := fun e => hqm.out (by rw [← e]; exact HM.out.ok.ml)
      have hM3 := Lib.hid ((hM2.setL b hb (LF - m)).setD n hnN (DU - m))
      have hE3 := Lib.hid (((hE2.setCell ⟨L.LB, b, none⟩ (.inr HM.out.ok.ml) (.int .i64 (LF - m))).setCell ⟨L.DB, n, none⟩ (.inr HM.out.ok.md) (.int .i64 (DU - m))))
      have HSE := Lib.hid (HPF.out.sent (op := opB X) (fun b a h => by simp [opB, h]) hpe hnN (by have := HMM.out.1; omega) (by have := HMM.out.2; omega))
      clear hM2 hE2 hpe HPU HX
      clear hML hLL hDL z0
      go_wp2
      go_ret
      refine .inr ⟨F', _, _, rfl, hM3.out, ?_, ?_, ?_, ?_⟩
      · exact ((Ex.ofBelow HB1.out).drew).trans (hE3.out.mono (by have := HB1.out.size; exact this))
      · have u1 : updV lf b (LF - m) = fun k => if k = b then lf k - m else lf k := by
          funext k; unfold updV; by_cases e : k = b
          · subst e; rw [if_pos rfl, if_pos rfl, HLF.out]
          · rw [if_neg e, if_neg e]
        have u2 : updV du n (DU - m) = fun k => if k = n then du k - m else du k := by
          funext k; unfold updV; by_cases e : k = n
          · subst e; rw [if_pos rfl, if_pos rfl, HDU.out]
          · rw [if_neg e, if_neg e]
        rw [u1, u2]; exact HSE.out
      · show updV lf b (LF - m) b < lf b
        unfold updV; rw [if_pos rfl, ← HLF.out]; omega
      · intro k hk; show updV lf b (LF - m) k = lf k
        unfold updV; rw [if_neg hk]

end Go.Proofs.Ytjmfjgoehicgcaa
