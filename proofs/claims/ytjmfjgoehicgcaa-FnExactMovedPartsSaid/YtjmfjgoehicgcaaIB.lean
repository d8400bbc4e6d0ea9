/- Parts are pushed along a way: the program. -/
import Derived.Test.YtjmfjgoehicgcaaIA
import Derived.Test.YtjmfjgoehicgcaaZB
set_option linter.unusedVariables false
set_option linter.unusedSimpArgs false
namespace Go.Proofs.Ytjmfjgoehicgcaa
open Go.RowKit

theorem MV.setF2 {L : Lay} {w : World} {F : Nat → Nat → Int} {X : Nat → Nat → Bool} {lf du : Nat → Int} (h : MV L w F X lf du) (b a : Nat) (hb : b < L.N) (ha : a < L.N) (v : Int) : MV L (w.setCell ⟨L.r b, a, none⟩ (.int .i64 v)) (upd F b a v) X lf du := h.setF b a hb ha v

def atB (fr : Nat) : Nat → Bool := fun b => b == fr

/-- What 'push' makes of the table. -/
def Pushed (L : Lay) (op : Nat → Nat → Bool) (F : Nat → Nat → Int) (X : Nat → Nat → Bool) (lf du : Nat → Int) (fr en : Nat) (m0 : Int) (w : World) (e : Ending) (w' : World) : Prop :=
  ∃ (m : Int) (F' : Nat → Nat → Int), e = .returned (.int .i64 m) ∧ 1 ≤ m ∧ m ≤ m0 ∧ PushEnd L.N op F en m fr F' ∧ MV L w' F' X lf du ∧ Ex L w.heap.size w w' ∧ w'.heap.size = w.heap.size

set_option maxHeartbeats 4000000 in
theorem push_any (L : Lay) (w : World) (F : Nat → Nat → Int) (X : Nat → Nat → Bool) (lf du : Nat → Int) (h : MV L w F X lf du) (op : Nat → Nat → Bool) (fr en : Nat) (giv get : List Int) (pg pt : Option Addr) (cg ct : Nat) (m0 : Int) (tg tc : Nat → Nat)
    (hg : Reads w pg giv) (ht : Reads w pt get) (hgm : ∀ x, pg = some x → ¬ L.Mut x.block) (htm : ∀ x, pt = some x → ¬ L.Mut x.block) (hgl : giv.length = L.N) (htl : get.length = L.N)
    (R : Reached L.N op F (atB fr) (nth giv) (nth get) tg tc) (hen : en < L.N) (hrn : 0 ≤ nth giv en) (hm1 : 1 ≤ m0) (hm2 : m0 ≤ 10000000000000) (hF : ∀ b a, b < L.N → a < L.N → 0 ≤ F b a) (hB : ∀ b, b < L.N → sm L.N (fun a => F b a) ≤ 10000000000000) :
    Calls Try.prog 120 #[.pointer (some ⟨L.MB, 0, none⟩), .int .i64 fr, .int .i64 en, .slice pg giv.length cg, .slice pt get.length ct, .int .i64 m0] w (Pushed L op F X lf du fr en m0 w) := by
  have n16 := h.ok.n16
  have HR := Lib.hid R
  have HF := Lib.hid hF
  have HB := Lib.hid hB
  have HG := Lib.hid hg
  have HT := Lib.hid ht
  have HGM := Lib.hid hgm
  have HTM := Lib.hid htm
  have HGL := Lib.hid hgl
  have HTL := Lib.hid htl
  have HM := Lib.hid h
  clear R hF hB hg ht hgm htm hgl htl h
  go_enter Try.func120, Try.ntmps120
  go_wp2
  go_loopw [13, 5] (fun a m wr => ∃ (an : Nat) (mi : Int) (nn : Nat), a = .int .i64 an ∧ m = .int .i64 mi ∧ Most L.N F (atB fr) (nth giv) (nth get) en m0 an mi ∧ wr = w.drewN nn) (fun a _ _ => tc (intOf a).toNat)
  case atStart => exact ⟨en, m0, 0, rfl, rfl, Most.first hen hrn hm1, rfl⟩
  case round =>
    obtain ⟨an, mi, nn, rfl, rfl, hmo, rfl⟩ := hrel
    obtain ⟨g1, g2, g3, g4⟩ := HR.out.cg an hmo.an hmo.ar
    obtain ⟨gb, hgb⟩ := Int.eq_ofNat_of_zero_le hmo.ar
    have hgbN : gb < L.N := by rw [hgb] at g1; omega
    have han := hmo.an
    obtain ⟨b1, o1, rfl, hb1, cg1⟩ := HG.out an (by rw [HGL.out]; exact han)
    rw [hgb] at cg1
    have q1 : (an : Int) < (giv.length : Int) := by rw [HGL.out]; omega
    have HGB := Lib.hid hgb
    have HMO := Lib.hid hmo
    clear g1 g2 g3 hgb hmo
    by_cases hr : gb = fr
    · have hne : ((gb : Int) != (fr : Int)) = false := by simp [hr]
      have hw := HMO.out.done (by rw [HGB.out]; simp [atB, hr])
      have hlo := HMO.out.lo
      have hhi := HMO.out.hi
      have HW := Lib.hid hw
      clear hw hr
      go_wp2
      go_loopw [15] (fun a wr => ∃ (am : Nat) (F1 : Nat → Nat → Int), a = .int .i64 am ∧ PushSt L.N op F (atB fr) (nth giv) (nth get) tg tc en mi am F1 ∧ MV L wr F1 X lf du ∧ Ex L w.heap.size w wr ∧ wr.heap.size = w.heap.size) (fun a _ => tc (intOf a).toNat)
      case atStart => exact ⟨en, F, rfl, PushSt.first hen hrn HW.out HF.out, HM.out.drewN nn, (Ex.refl L _ w).drewN nn, rfl⟩
      case round =>
        clear cg1 hne q1 HGB HMO g4 han hgbN hb1
        obtain ⟨am, F1, rfl, hps, M, hE, hsz⟩ := hrel
        obtain ⟨g1, g2, g3, g4⟩ := HR.out.cg am hps.an hps.ar
        obtain ⟨gb, hgb⟩ := Int.eq_ofNat_of_zero_le hps.ar
        have hgbN : gb < L.N := by rw [hgb] at g1; omega
        have ham := hps.an
        obtain ⟨b3, o3, hpe, hb3, cg3⟩ := (HG.out.ex hE HGM.out) am (by rw [HGL.out]; exact ham)
        rw [hgb] at cg3
        cases hpe
        have q1 : (am : Int) < (giv.length : Int) := by rw [HGL.out]; omega
        have q2 : (gb : Int) < (L.N : Int) := by omega
        have q3 : (am : Int) < (L.N : Int) := by omega
        have c0 := M.c0
        have c1 := M.fl gb hgbN
        have c2 := M.fr gb am hgbN ham
        have c3 := M.zr gb am hgbN
        obtain ⟨V, hV⟩ : ∃ V, V = F1 gb am := ⟨_, rfl⟩
        have v0 : 0 ≤ V := by rw [hV]; exact hps.nn gb am hgbN ham
        have v1 : V ≤ 10000000000000 := by
          have a1 := sm_pick (f := fun y => F1 gb y) (fun k hk => hps.nn gb k hgbN hk) am ham
          have a2 := hps.row gb hgbN
          have a3 := HB.out gb hgbN
          rw [hV]; omega
        have M2 := M.setF2 gb am hgbN ham (V + mi)
        have hE2 := hE.setCell ⟨L.r gb, am, none⟩ (.inr (M.ok.mr hgbN)) (.int .i64 (V + mi))
        have hsz2 : (wr.setCell ⟨L.r gb, am, none⟩ (.int .i64 (V + mi))).heap.size = w.heap.size := by simp [hsz]
        have hPS := Lib.hid hps
        have HGB := Lib.hid hgb
        rw [← hV] at c2
        have HV := Lib.hid hV
        have HP := Lib.hid (And.intro M2 (And.intro hE2 hsz2))
        clear g1 g2 g3 hgb hps M hE hV M2 hE2 hsz2 hsz
        by_cases hr : gb = fr
        · have hq : ((gb : Int) == (fr : Int)) = true := by simp [hr]
          have hend := hPS.out.add HR.out (by omega)
          rw [HGB.out, Int.toNat_natCast, ← HV.out] at hend
          have hend2 : PushEnd L.N op F en mi fr (upd F1 gb am (V + mi)) := by rw [← hr]; exact hend
          have HE := Lib.hid hend2
          clear hend hend2 hPS HV HGB hr
          go_wp2
          go_ret
          obtain ⟨M2, hE2, hsz2⟩ := HP.out
          exact ⟨mi, _, rfl, hlo, hhi, HE.out, M2, hE2, hsz2⟩
        · have hq : ((gb : Int) == (fr : Int)) = false := by simp; omega
          have hrt : atB fr (nth giv am).toNat = false := by rw [HGB.out]; simp [atB]; omega
          have g5 := g4 hrt
          rw [HGB.out, Int.toNat_natCast] at g5
          obtain ⟨gc, hgc⟩ := Int.eq_ofNat_of_zero_le g5
          obtain ⟨n1, n2, n3, n4, n5, n6, n7⟩ := hPS.out.next HR.out (by omega) hrt gb gc (by rw [HGB.out]; rfl) (by rw [HGB.out, Int.toNat_natCast, hgc]; rfl)
          rw [← HV.out] at n4 n7
          have f1 : F gb gc ≤ 10000000000000 := by
            have a1 := sm_pick (f := fun y => F gb y) (fun k hk => HF.out gb k hgbN hk) gc n1
            have a3 := HB.out gb hgbN
            omega
          obtain ⟨M2, hE2, hsz2⟩ := HP.out
          obtain ⟨b2, o2, hpe, hb2, cg2⟩ := (HT.out.ex hE2 HTM.out) gb (by rw [HTL.out]; exact hgbN)
          rw [hgc] at cg2
          subst hpe
          have d0 := M2.c0
          have d1 := M2.fl gb hgbN
          have d2 := M2.fr gb gc hgbN n1
          have d3 := M2.zr gb gc hgbN
          rw [n4] at d2
          have q4 : (gb : Int) < (get.length : Int) := by rw [HTL.out]; omega
          have q5 : (gc : Int) < (L.N : Int) := by omega
          have HP3 := Lib.hid (And.intro M2 (And.intro hE2 hsz2))
          rw [n4] at n7
          have HN := Lib.hid n7
          have hn4 := Lib.hid n4
          have HGC := Lib.hid hgc
          clear n7 n4 HP M2 hE2 hsz2 hgc g4 g5 hrt hPS HV n2 n3 hr
          go_wp2_with fail
          clear c0 c1 c2 c3 cg3
          go_region
          obtain ⟨M2, hE2, hsz2⟩ := HP3.out
          have M3 := (M2.setF2 gb gc hgbN n1 (F gb gc - mi)).drew
          have hE3 := (hE2.setCell ⟨L.r gb, gc, none⟩ (.inr (M2.ok.mr hgbN)) (.int .i64 (F gb gc - mi))).drew
          have hsz3 : ((wr.setCell ⟨L.r gb, am, none⟩ (.int .i64 (V + mi))).setCell ⟨L.r gb, gc, none⟩ (.int .i64 (F gb gc - mi))).drew.heap.size = w.heap.size := by show ((wr.setCell ⟨L.r gb, am, none⟩ (.int .i64 (V + mi))).setCell ⟨L.r gb, gc, none⟩ (.int .i64 (F gb gc - mi))).heap.size = _; simp at hsz2 ⊢; exact hsz2
          have HX := Lib.hid (And.intro M3 (And.intro hE3 hsz3))
          have e1 := (HG.out.ex hE3 HGM.out) am (by rw [HGL.out]; exact ham)
          have e2 := (HT.out.ex hE3 HTM.out) gb (by rw [HTL.out]; exact hgbN)
          clear M2 hE2 hsz2 M3 hE3 hsz3 d0 d1 d2 d3 hb2 cg2 HP3
          generalize ((wr.setCell ⟨L.r gb, am, none⟩ (.int .i64 (V + mi))).setCell ⟨L.r gb, gc, none⟩ (.int .i64 (F gb gc - mi))).drew = w3 at *
          obtain ⟨b5, o5, hp5, hb5, cg5⟩ := e1
          cases hp5
          obtain ⟨b6, o6, hp6, hb6, cg6⟩ := e2
          cases hp6
          rw [HGB.out] at cg5
          rw [HGC.out] at cg6
          go_wp2
          obtain ⟨M3, hE3, hsz3⟩ := HX.out
          exact ⟨⟨gc, _, rfl, HN.out, M3, hE3, hsz3⟩, by simpa [intOf] using n6⟩
    · have hne : ((gb : Int) != (fr : Int)) = true := by simp; omega
      have hrt : atB fr (nth giv an).toNat = false := by rw [HGB.out]; simp [atB]; omega
      have g5 := g4 hrt
      rw [HGB.out, Int.toNat_natCast] at g5
      obtain ⟨k1, k2, k3, k4, k5⟩ := HR.out.cb gb hgbN (by simp [atB]; omega) g5
      obtain ⟨gc, hgc⟩ := Int.eq_ofNat_of_zero_le g5
      have hgcN : gc < L.N := by rw [hgc] at k1; omega
      obtain ⟨b2, o2, rfl, hb2, cg2⟩ := HT.out gb (by rw [HTL.out]; exact hgbN)
      rw [hgc] at cg2
      have q2 : (gb : Int) < (get.length : Int) := by rw [HTL.out]; omega
      have c0 := HM.out.c0
      have c1 := HM.out.fl gb hgbN
      have c2 := HM.out.fr gb gc hgbN hgcN
      have q3 : (gb : Int) < (L.N : Int) := by omega
      have q4 : (gc : Int) < (L.N : Int) := by omega
      have hst := HMO.out.step HR.out hrt
      rw [HGB.out, Int.toNat_natCast, hgc, Int.toNat_natCast] at hst
      obtain ⟨V, hV⟩ : ∃ V, V = F gb gc := ⟨_, rfl⟩
      rw [← hV] at c2 hst
      have HST := Lib.hid hst
      have hlo := HMO.out.lo
      clear k1 k2 k3 k4 k5 g4 g5 hgc hst hr hrt hV HMO
      by_cases hmin : V < mi
      · have e1 : (V < mi) = True := by simp [hmin]
        have e2 : (mi < V) = False := by simp; omega
        go_wp2
        go_quiet (fail)
        go_wp2
        exact ⟨⟨gc, V, nn + nq, rfl, rfl, (HST.out V (.inr ⟨rfl, by omega⟩)).1, rfl⟩, by simpa [intOf] using (HST.out V (.inr ⟨rfl, by omega⟩)).2⟩
      · have e1 : (V < mi) = False := by simp [hmin]
        go_wp2
        go_quiet (fail)
        go_wp2
        exact ⟨⟨gc, mi, nn + nq, rfl, rfl, (HST.out mi (.inl ⟨rfl, by omega⟩)).1, rfl⟩, by simpa [intOf] using (HST.out mi (.inl ⟨rfl, by omega⟩)).2⟩

end Go.Proofs.Ytjmfjgoehicgcaa
