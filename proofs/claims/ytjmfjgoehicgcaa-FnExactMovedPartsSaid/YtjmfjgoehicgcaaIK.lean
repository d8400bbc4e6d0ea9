/- A gift is made as great as it can be: the program. -/
import Derived.Test.YtjmfjgoehicgcaaIJ
set_option linter.unusedVariables false
set_option linter.unusedSimpArgs false
namespace Go.Proofs.Ytjmfjgoehicgcaa
open Go.RowKit

/-- What 'raise' makes of a table. -/
def RaisePost (L : Lay) (X : Nat → Nat → Bool) (lf du sup dem : Nat → Int) (F : Nat → Nat → Int) (b0 a0 : Nat) (w : World) (e : Ending) (w' : World) : Prop :=
  e = .returned (.tuple #[]) ∧ ∃ F' : Nat → Nat → Int, MV L w' F' X lf du ∧ Ex L w.heap.size w w' ∧ Flow L.N sup dem F' ∧ (∀ x y, x < L.N → y < L.N → opB X x y = false → F' x y = F x y) ∧
    ∀ G, Flow L.N sup dem G → (∀ x y, x < L.N → y < L.N → opB X x y = false → G x y = F' x y) → G b0 a0 ≤ F' b0 a0

theorem sub_op {X : Nat → Nat → Bool} {b a : Nat} (h : opB X b a = true) : subB a b = true := by
  simp only [opB, Bool.and_eq_true] at h; exact h.1
theorem op_sub {X : Nat → Nat → Bool} {b a : Nat} (h : subB a b = false) : opB X b a = false := by simp [opB, h]
theorem opX_of {op : Nat → Nat → Bool} {b0 a0 b a : Nat} (h : op b a = false) : opX op b0 a0 b a = false := by simp [opX, h]
theorem opX_col {op : Nat → Nat → Bool} {b0 a0 b : Nat} : opX op b0 a0 b a0 = false := by simp [opX]
theorem opX_row {op : Nat → Nat → Bool} {b0 a0 a : Nat} : opX op b0 a0 b0 a = false := by simp [opX]

theorem Flow.le {N : Nat} {sup dem : Nat → Int} {F : Nat → Nat → Int} (h : Flow N sup dem F) {b a : Nat} (hb : b < N) (ha : a < N) : 0 ≤ F b a ∧ F b a ≤ sup b := by
  have := sm_pick (f := fun y => F b y) (fun k hk => h.nn b k hb hk) a ha
  rw [h.row b hb] at this
  exact ⟨h.nn b a hb ha, this⟩

/-- Behind a push that goes round. -/
theorem round_done {N : Nat} {sup dem : Nat → Int} {F F' : Nat → Nat → Int} {X : Nat → Nat → Bool} {b0 a0 g e : Nat} {m : Int} (h : Flow N sup dem F) (hb0 : b0 < N) (ha0 : a0 < N) (hgN : g < N) (he : e < N) (ho : opB X b0 a0 = true) (hg : g ≠ b0) (hgo : opB X g a0 = true) (hea : e ≠ a0) (heo : opB X b0 e = true)
    (p : PushEnd N (opX (opB X) b0 a0) F e m g F') (hm : 1 ≤ m) (m1 : m ≤ F g a0) (m2 : m ≤ F b0 e) :
    F' g a0 = F g a0 ∧ upd F' g a0 (F g a0 - m) b0 e = F b0 e ∧ upd (upd F' g a0 (F g a0 - m)) b0 e (F b0 e - m) b0 a0 = F b0 a0 ∧ Flow N sup dem (upd (upd (upd F' g a0 (F g a0 - m)) b0 e (F b0 e - m)) b0 a0 (F b0 a0 + m)) ∧
      (∀ x y, x < N → y < N → opB X x y = false → upd (upd (upd F' g a0 (F g a0 - m)) b0 e (F b0 e - m)) b0 a0 (F b0 a0 + m) x y = F x y) ∧ upd (upd (upd F' g a0 (F g a0 - m)) b0 e (F b0 e - m)) b0 a0 (F b0 a0 + m) b0 a0 = F b0 a0 + m := by
  obtain ⟨q1, q2, q3, q4⟩ := h.raised (op := opX (opB X) b0 a0) (fun b a hs => opX_of (op_sub hs)) p b0 a0 hb0 ha0 he hg hea opX_col opX_row opX_row (sub_op hgo) (sub_op heo) (sub_op ho) (by omega) m1 m2
  rw [q1, q2, q3] at q4
  refine ⟨q1, ?_, ?_, q4, fun x y hx hy hxy => ?_, upd_same _ _ _ _⟩
  · rw [upd_off _ _ _ _ _ _ (fun z => hg z.1.symm), q2]
  · rw [upd_off _ _ _ _ _ _ (fun z => hea z.2.symm), upd_off _ _ _ _ _ _ (fun z => hg z.1.symm), q3]
  · have n1 : ¬ (x = b0 ∧ y = a0) := fun z => by rw [z.1, z.2, ho] at hxy; cases hxy
    have n2 : ¬ (x = b0 ∧ y = e) := fun z => by rw [z.1, z.2, heo] at hxy; cases hxy
    have n3 : ¬ (x = g ∧ y = a0) := fun z => by rw [z.1, z.2, hgo] at hxy; cases hxy
    rw [upd_off _ _ _ _ _ _ n1, upd_off _ _ _ _ _ _ n2, upd_off _ _ _ _ _ _ n3]
    exact p.off x y hx hy (opX_of hxy)

/-- The memory of raising. -/
structure RS (L : Lay) (X : Nat → Nat → Bool) (lf du sup dem : Nat → Int) (F0 : Nat → Nat → Int) (b0 a0 : Nat) (w wr : World) (F : Nat → Nat → Int) : Prop where
  mv : MV L wr F X lf du
  lt : L.Lt w.heap.size
  fl : Flow L.N sup dem F
  off : ∀ x y, x < L.N → y < L.N → opB X x y = false → F x y = F0 x y
  ex : Ex L w.heap.size w wr
  cv : wr.cell? ⟨w.heap.size, 0, none⟩ = some (.pointer (some ⟨L.MB, 0, none⟩))
  cb : wr.cell? ⟨w.heap.size + 1, 0, none⟩ = some (.int .i64 b0)
  ca : wr.cell? ⟨w.heap.size + 1 + 1, 0, none⟩ = some (.int .i64 a0)

section
variable {L : Lay} {X : Nat → Nat → Bool} {lf du sup dem : Nat → Int} {F0 : Nat → Nat → Int} {b0 a0 : Nat} {w wr wr' : World} {F F' : Nat → Nat → Int}
theorem RS.step (h : RS L X lf du sup dem F0 b0 a0 w wr F) (hm : MV L wr' F' X lf du) (hex : Ex L wr.heap.size wr wr') (hf : Flow L.N sup dem F') (ho : ∀ x y, x < L.N → y < L.N → opB X x y = false → F' x y = F0 x y) : RS L X lf du sup dem F0 b0 a0 w wr' F' := by
  have nm : ∀ z, w.heap.size ≤ z → ¬ L.Mut z := fun z hz hm => by have := h.lt.mut hm; omega
  exact ⟨hm, h.lt, hf, ho, h.ex.trans (hex.mono h.ex.size), hex.cell h.cv (nm _ (Nat.le_refl _)), hex.cell h.cb (nm _ (by omega)), hex.cell h.ca (nm _ (by omega))⟩
theorem RS.same (h : RS L X lf du sup dem F0 b0 a0 w wr F) (hm : MV L wr' F X lf du) (hex : Ex L wr.heap.size wr wr') : RS L X lf du sup dem F0 b0 a0 w wr' F := h.step hm hex h.fl h.off
theorem RS.drewN (h : RS L X lf du sup dem F0 b0 a0 w wr F) (n : Nat) : RS L X lf du sup dem F0 b0 a0 w (wr.drewN n) F := h.same (h.mv.drewN n) ((Ex.refl _ _ _).drewN n)
end

theorem hE6T {L : Lay} {a b d : World} {z : Nat} (h : Ex L a.heap.size a b) (k : Ex L (b.drewN z).heap.size (b.drewN z) d) : Ex L a.heap.size a d := (h.drewN z).trans (k.mono h.size)

set_option maxHeartbeats 8000000 in
set_option maxRecDepth 100000 in
theorem raise_any (L : Lay) (w : World) (F0 : Nat → Nat → Int) (X : Nat → Nat → Bool) (lf du sup dem : Nat → Int) (h : MV L w F0 X lf du) (hfl : Flow L.N sup dem F0) (hsb : ∀ b, b < L.N → sup b ≤ 1000000000000) (b0 a0 : Nat) (hb0 : b0 < L.N) (ha0 : a0 < L.N) (ho : opB X b0 a0 = true) :
    Calls Try.prog 88 #[.pointer (some ⟨L.MB, 0, none⟩), .int .i64 b0, .int .i64 a0] w (RaisePost L X lf du sup dem F0 b0 a0 w) := by
  obtain ⟨W, hW⟩ : ∃ W : World, W = ((w.alloc (.cells #[.pointer (some ⟨L.MB, 0, none⟩)] 68)).alloc (.cells #[.int .i64 (b0 : Int)] 3)).alloc (.cells #[.int .i64 (a0 : Int)] 3) := ⟨_, rfl⟩
  have hrs : RS L X lf du sup dem F0 b0 a0 w W F0 := by
    have e1 := belowAlloc w (.cells #[.pointer (some ⟨L.MB, 0, none⟩)] 68)
    have e2 := belowAlloc (w.alloc (.cells #[.pointer (some ⟨L.MB, 0, none⟩)] 68)) (.cells #[.int .i64 (b0 : Int)] 3)
    have e3 := belowAlloc ((w.alloc (.cells #[.pointer (some ⟨L.MB, 0, none⟩)] 68)).alloc (.cells #[.int .i64 (b0 : Int)] 3)) (.cells #[.int .i64 (a0 : Int)] 3)
    have c1 := newCell w (.pointer (some ⟨L.MB, 0, none⟩)) 68
    have c2 := newCell (w.alloc (.cells #[.pointer (some ⟨L.MB, 0, none⟩)] 68)) (.int .i64 (b0 : Int)) 3
    have c3 := newCell ((w.alloc (.cells #[.pointer (some ⟨L.MB, 0, none⟩)] 68)).alloc (.cells #[.int .i64 (b0 : Int)] 3)) (.int .i64 (a0 : Int)) 3
    simp only [allocSz] at c2 c3
    rw [hW]
    exact ⟨((h.later e1).later e2).later e3, h.lts, hfl, fun _ _ _ _ _ => rfl, Ex.ofBelow ((e1.thenB e2).thenB e3), cellKeep (e2.thenB e3) c1, cellKeep e3 c2, c3⟩
  have n16 := h.ok.n16
  have n1 := h.ok.n1
  have HRS := Lib.hid hrs
  have HW := Lib.hid hW
  have HSB := Lib.hid hsb
  have HO := Lib.hid ho
  have hb0z : (b0 : Int) < (L.N : Int) := by omega
  have ha0z : (a0 : Int) < (L.N : Int) := by omega
  clear h hfl hsb ho hrs hW
  go_enter Try.func88, Try.ntmps88
  go_wp2_with fail
  rw [← HW.out]
  clear HW
  go_loopg [14] ((sup b0 - F0 b0 a0).toNat + 1) (fun gm i wr => ∃ F, RS L X lf du sup dem F0 b0 a0 w wr F ∧ (sup b0 - F b0 a0).toNat + 1 ≤ gm)
  case atStart => exact ⟨F0, HRS.out, Nat.le_refl _⟩
  case round =>
    clear HRS
    obtain ⟨F, hrs, hgm⟩ := hrel
    have HGMS := Lib.hid hgm
    have HRS := Lib.hid hrs
    have cv := hrs.cv
    have c0 := hrs.mv.c0
    clear hgm hrs
    go_wp2_with fail
    clear cv c0
    go_loopw [19, 6, 7, 8, 9, 10] (fun i s6 s7 s8 s9 s10 wr => ∃ k : Nat, k ≤ L.N ∧ i = .int .i64 k ∧ s6 = .int .i64 (-1) ∧ s7 = .int .i64 0 ∧ s8 = .slice none 0 0 ∧ s9 = .slice none 0 0 ∧ s10 = .int .i64 (-1) ∧ RS L X lf du sup dem F0 b0 a0 w wr F ∧
      ∀ b2, b2 < k → b2 ≠ b0 → opB X b2 a0 = true → 0 < F b2 a0 → ∃ R S, NoWay L.N (opX (opB X) b0 a0) F b2 (endX (opB X) F b0 a0) R S) (fun i _ _ _ _ _ _ => L.N - (intOf i).toNat)
    case atStart => exact ⟨0, Nat.zero_le _, rfl, rfl, rfl, rfl, rfl, rfl, HRS.out, fun b2 h => absurd h (Nat.not_lt_zero _)⟩
    case round =>
      clear HRS
      obtain ⟨k, hk, rfl, rfl, rfl, rfl, rfl, rfl, hrs, hno⟩ := hrel
      have HRS := Lib.hid hrs
      have HNO := Lib.hid hno
      clear hno
      by_cases hkN : k < L.N
      · have hkz : (k : Int) < (L.N : Int) := by omega
        have cv := hrs.cv
        have cb := hrs.cb
        have ca := hrs.ca
        clear hrs
        by_cases hkb : k = b0
        · have hq : ((k : Int) == (b0 : Int)) = decide (0 = 0) := by simp [hkb]
          have HNX : Hid (∀ b2, b2 < k + 1 → b2 ≠ b0 → opB X b2 a0 = true → 0 < F b2 a0 → ∃ R S, NoWay L.N (opX (opB X) b0 a0) F b2 (endX (opB X) F b0 a0) R S) := Lib.hid (fun b2 h1 h2 h3 h4 =>  HNO.out b2 (by omega) h2 h3 h4)
          clear hkb
          go_wp2_with fail
          go_quiet (fail)
          all_goals go_wp2
          all_goals exact ⟨⟨k + 1, by omega, by go_num, rfl, rfl, rfl, rfl, rfl, HRS.out.drewN _, HNX.out⟩, by simp [intOf]; omega⟩
        · have hq : ((k : Int) == (b0 : Int)) = decide (0 = 1) := by simp; omega
          have HOP := Lib.hid (fun z => isOpen_any L (wr.drewN z) F X lf du (HRS.out.mv.drewN z) k a0 hkN ha0)
          cases hok : opB X k a0
          · rw [hok] at HOP
            have HNX : Hid (∀ b2, b2 < k + 1 → b2 ≠ b0 → opB X b2 a0 = true → 0 < F b2 a0 → ∃ R S, NoWay L.N (opX (opB X) b0 a0) F b2 (endX (opB X) F b0 a0) R S) := Lib.hid (fun b2 h1 h2 h3 h4 =>  by
              by_cases e : b2 = k
              · rw [e, hok] at h3; cases h3
              · exact HNO.out b2 (by omega) h2 h3 h4)
            clear hok
            go_wp2_with fail
            go_quiet ((go_at_call 87; exact Calls.quiet_of_same ((HOP.out _).mono fun _ _ h => ⟨h.1, h.2.symm⟩)))
            all_goals go_wp2
            all_goals exact ⟨⟨k + 1, by omega, by go_num, rfl, rfl, rfl, rfl, rfl, HRS.out.drewN _, HNX.out⟩, by simp [intOf]; omega⟩
          · rw [hok] at HOP
            have HOK := Lib.hid hok
            have c0 := HRS.out.mv.c0
            have c1 := HRS.out.mv.fl k hkN
            have c2 := HRS.out.mv.fr k a0 hkN ha0
            obtain ⟨V, hV⟩ : ∃ x, x = F k a0 := ⟨_, rfl⟩
            have hVb := HRS.out.fl.le hkN ha0
            have hsk := HSB.out k hkN
            rw [← hV] at c2 hVb
            have HV := Lib.hid hV
            clear hV hok
            rcases (show V = 0 ∨ 0 < V by omega) with rfl | hVp
            · have HNX : Hid (∀ b2, b2 < k + 1 → b2 ≠ b0 → opB X b2 a0 = true → 0 < F b2 a0 → ∃ R S, NoWay L.N (opX (opB X) b0 a0) F b2 (endX (opB X) F b0 a0) R S) := Lib.hid (fun b2 h1 h2 h3 h4 =>  by
                by_cases e : b2 = k
                · rw [e, ← HV.out] at h4; exact absurd h4 (by decide)
                · exact HNO.out b2 (by omega) h2 h3 h4)
              go_wp2_with fail
              go_quiet ((go_at_call 87; exact Calls.quiet_of_same ((HOP.out _).mono fun _ _ h => ⟨h.1, h.2.symm⟩)))
              all_goals go_wp2
              all_goals exact ⟨⟨k + 1, by omega, by go_num, rfl, rfl, rfl, rfl, rfl, HRS.out.drewN _, HNX.out⟩, by simp [intOf]; omega⟩
            · have hq2 : (V == 0) = false := by simp; omega
              have HWA := Lib.hid (fun z => wayAround_any L (wr.drewN z) F X lf du (HRS.out.mv.drewN z) k b0 a0 hkN hb0 ha0 (w.heap.size + 1 + 1) w.heap.size (w.heap.size + 1) (HRS.out.drewN z).ca (HRS.out.drewN z).cv (HRS.out.drewN z).cb)
              go_wp2_with fail
              go_quiet ((go_at_call 87; exact Calls.quiet_of_same ((HOP.out _).mono fun _ _ h => ⟨h.1, h.2.symm⟩)))
              revert nq
              intro n0
              clear c0 c1 c2
              go_wp2_with fail
              refine (HWA.out _).mono ?_
              rintro e w2 ⟨hM2, hE2, ⟨rfl, hnw⟩ | ⟨G, T, n, giv, get, tg, tc, rfl, l1, l2, o1, o2, gw, tw, hfo⟩⟩
              · have HNX : Hid (∀ b2, b2 < k + 1 → b2 ≠ b0 → opB X b2 a0 = true → 0 < F b2 a0 → ∃ R S, NoWay L.N (opX (opB X) b0 a0) F b2 (endX (opB X) F b0 a0) R S) := Lib.hid (fun b2 h1 h2 h3 h4 =>  by
                  by_cases e : b2 = k
                  · rw [e]; exact hnw
                  · exact HNO.out b2 (by omega) h2 h3 h4)
                have HR2 := Lib.hid ((HRS.out.drewN n0).same hM2 hE2)
                clear hM2 hE2 hnw HWA cv cb ca
                go_wp2
                exact ⟨⟨k + 1, by omega, by go_num, rfl, rfl, rfl, rfl, rfl, HR2.out, HNX.out⟩, by simp [intOf]; omega⟩
              · have hR2 := (HRS.out.drewN n0).same hM2 hE2
                replace cv := hR2.cv
                replace cb := hR2.cb
                replace ca := hR2.ca
                have c0 := hM2.c0
                have c1 := hM2.fl k hkN
                have c2 := hM2.fr k a0 hkN ha0
                have c3 := hM2.fl b0 hb0
                have hnN := hfo.nN
                have hnz : (n : Int) < (L.N : Int) := by omega
                have c4 := hM2.fr b0 n hb0 hnN
                have hE := endX_iff.1 hfo.nE
                obtain ⟨V2, hV2⟩ : ∃ x, x = F b0 n := ⟨_, rfl⟩
                have hV2b := HRS.out.fl.le hb0 hnN
                have hV2p := hE.2.2
                have hsb0 := HSB.out b0 hb0
                rw [← HV.out] at c2
                rw [← hV2] at c4 hV2b hV2p
                have hws := HRS.out.ex.size
                have HM2 := Lib.hid hM2
                have HE2 := Lib.hid hE2
                have HEN := Lib.hid hE
                have HV2 := Lib.hid hV2
                have HFO := Lib.hid hfo
                have HGL := Lib.hid (And.intro l1 l2)
                have HRD := Lib.hid (And.intro o1 o2)
                have HROW : Hid (∀ b, b < L.N → sm L.N (fun a => F b a) ≤ 10000000000000) := Lib.hid (fun b hb => by rw [HRS.out.fl.row b hb]; have := HSB.out b hb; omega)
                have HGM : Hid ((∀ x, some (⟨G, 0, none⟩ : Addr) = some x → ¬ L.Mut x.block) ∧ (∀ x, some (⟨T, 0, none⟩ : Addr) = some x → ¬ L.Mut x.block)) := Lib.hid
                  ⟨fun x e => by cases e; exact fun hz => by have q1 : G < w.heap.size := HRS.out.lt.mut hz; have q2 : wr.heap.size ≤ G := gw; omega, fun x e => by cases e; exact fun hz => by have q1 : T < w.heap.size := HRS.out.lt.mut hz; have q2 : wr.heap.size ≤ T := tw; omega⟩
                have hHG := HGM
                clear hM2 hE2 hE hV2 hfo l1 l2 o1 o2 gw tw hR2 HWA hws
                go_wp2_with fail
                by_cases hmin : V2 < V
                · have e1 : (V2 < V) = True := by simp [hmin]
                  have e2 : (V < V2) = False := by simp; omega
                  have hm1 : (1 : Int) ≤ V2 := by omega
                  have hm2 : V2 ≤ 10000000000000 := by omega
                  have hpu := fun z => push_any L (w2.drewN z) F X lf du (HM2.out.drewN z) (opX (opB X) b0 a0) k n giv get (some ⟨G, 0, none⟩) (some ⟨T, 0, none⟩) L.N L.N V2 tg tc HRD.out.1 HRD.out.2 hHG.out.1 hHG.out.2 HGL.out.1 HGL.out.2 HFO.out.R HFO.out.nN HFO.out.ng hm1 hm2 HRS.out.fl.nn HROW.out
                  rw [HGL.out.1, HGL.out.2] at hpu
                  have HPU := Lib.hid hpu
                  have HMM : Hid (V2 ≤ F k a0 ∧ V2 ≤ F b0 n) := Lib.hid (by rw [← HV.out, ← HV2.out]; omega)
                  clear hpu hm1 hm2
                  go_quiet (fail)
                  go_wp2_with fail
                  refine (HPU.out _).mono ?_
                  rintro e w3 ⟨m, F', rfl, hm1, hm2, hpe, hM3, hE3, hs3⟩
                  obtain ⟨y1, y2, y3, y4, y5, y6⟩ := round_done HRS.out.fl hb0 ha0 hkN HFO.out.nN HO.out hkb HOK.out HEN.out.1 HEN.out.2.1 hpe hm1 (Int.le_trans hm2 HMM.out.1) (Int.le_trans hm2 HMM.out.2)
                  rw [← HV.out] at y1 y2 y3 y4 y5 y6
                  rw [← HV2.out] at y2 y3 y4 y5 y6
                  have nm : ∀ z, w.heap.size ≤ z → ¬ L.Mut z := fun z hz hm => by have := HRS.out.lt.mut hm; omega
                  replace cv := hE3.cell cv (nm _ (Nat.le_refl _))
                  replace cb := hE3.cell cb (nm _ (by omega))
                  replace ca := hE3.cell ca (nm _ (by omega))
                  have hrk := HRS.out.lt.r k hkN
                  have hrb := HRS.out.lt.r b0 hb0
                  obtain ⟨V3, hV3⟩ : ∃ x, x = F b0 a0 := ⟨_, rfl⟩
                  rw [← hV3] at y3 y4 y5 y6
                  have hV3b := HRS.out.fl.le hb0 ha0
                  have hsb0 := HSB.out b0 hb0
                  rw [← hV3] at hV3b
                  have HV3 := Lib.hid hV3
                  have HY := Lib.hid (And.intro y4 (And.intro y5 y6))
                  have hE3' := Lib.hid hE3
                  have HY2 := Lib.hid y2
                  have HY3 := Lib.hid y3
                  have c0 := hM3.c0
                  have c1 := hM3.fl k hkN
                  have c2 := hM3.fr k a0 hkN ha0
                  have c3 := hM3.zr k a0 hkN
                  rw [y1] at c2
                  have HM3 := Lib.hid hM3
                  have hmz : m ≤ V ∧ m ≤ V2 := ⟨by have := HMM.out.1; have := HV.out; omega, by have := HMM.out.2; have := HV2.out; omega⟩
                  clear y1 y2 y3 y4 y5 y6 nm hV3 hpe hM3 hE3 hs3 hm2 HPU e1 e2
                  go_wp2_with fail
                  go_region
                  have hM4 := (HM3.out.setF2 k a0 hkN ha0 (V - m)).drew
                  have q1 := cellDrew (cellOf (u := .int .i64 (V - m)) cv (show (⟨L.r k, a0, none⟩ : Addr).block ≠ w.heap.size by show L.r k ≠ _; omega))
                  have q2 := cellDrew (cellOf (u := .int .i64 (V - m)) cb (show (⟨L.r k, a0, none⟩ : Addr).block ≠ w.heap.size + 1 by show L.r k ≠ _; omega))
                  have q3 := cellDrew (cellOf (u := .int .i64 (V - m)) ca (show (⟨L.r k, a0, none⟩ : Addr).block ≠ w.heap.size + 1 + 1 by show L.r k ≠ _; omega))
                  have hE4 := Lib.hid (hE3'.out.setCell ⟨L.r k, a0, none⟩ (.inr (HM3.out.ok.mr hkN)) (.int .i64 (V - m))).drew
                  clear cv cb ca c0 c1 c2 c3
                  generalize (w3.setCell ⟨L.r k, a0, none⟩ (.int .i64 (V - m))).drew = w4 at *
                  have c0 := hM4.c0
                  have c1 := hM4.fl b0 hb0
                  have c2 := hM4.fr b0 n hb0 HFO.out.nN
                  have c3 := hM4.zr b0 n hb0
                  rw [HY2.out] at c2
                  have HM4 := Lib.hid hM4
                  clear hM4
                  go_wp2_with fail
                  go_region
                  have hM5 := (HM4.out.setF2 b0 n hb0 HFO.out.nN (V2 - m)).drew
                  have cv := cellDrew (cellOf (u := .int .i64 (V2 - m)) q1 (show (⟨L.r b0, n, none⟩ : Addr).block ≠ w.heap.size by show L.r b0 ≠ _; omega))
                  have cb := cellDrew (cellOf (u := .int .i64 (V2 - m)) q2 (show (⟨L.r b0, n, none⟩ : Addr).block ≠ w.heap.size + 1 by show L.r b0 ≠ _; omega))
                  have ca := cellDrew (cellOf (u := .int .i64 (V2 - m)) q3 (show (⟨L.r b0, n, none⟩ : Addr).block ≠ w.heap.size + 1 + 1 by show L.r b0 ≠ _; omega))
                  have hE5 := Lib.hid (hE4.out.setCell ⟨L.r b0, n, none⟩ (.inr (HM4.out.ok.mr hb0)) (.int .i64 (V2 - m))).drew
                  clear q1 q2 q3 c0 c1 c2 c3
                  generalize (w4.setCell ⟨L.r b0, n, none⟩ (.int .i64 (V2 - m))).drew = w5 at *
                  have c0 := hM5.c0
                  have c1 := hM5.fl b0 hb0
                  have c2 := hM5.fr b0 a0 hb0 ha0
                  have c3 := hM5.zr b0 a0 hb0
                  rw [HY3.out] at c2
                  have HM5 := Lib.hid hM5
                  clear hM5
                  go_wp2_with fail
                  go_region
                  have hM6 := (HM5.out.setF2 b0 a0 hb0 ha0 (V3 + m)).drew
                  have hE6 := (hE5.out.setCell ⟨L.r b0, a0, none⟩ (.inr (HM5.out.ok.mr hb0)) (.int .i64 (V3 + m))).drew
                  obtain ⟨y4, y5, y6⟩ := HY.out
                  have HRS6 := Lib.hid ((HRS.out.drewN n0).step hM6 (hE6T HE2.out hE6) y4 (fun x y hx hy hxy => by rw [y5 x y hx hy hxy]; exact HRS.out.off x y hx hy hxy))
                  have HME := Lib.hid y6
                  clear y4 y5 y6 hM6 hE6 cv cb ca c0 c1 c2 c3
                  go_wp2
                  go_roundg ((sup b0 - (V3 + m)).toNat + 1)
                  case measure =>
                    have z1 := HGMS.out
                    have z2 := HV3.out
                    have z3 := (HRS6.out.fl.le hb0 ha0).2
                    rw [HME.out] at z3
                    omega
                  case rel => exact ⟨_, HRS6.out, by rw [HME.out]; exact Nat.le_refl _⟩
                · have e1 : (V2 < V) = False := by simp [hmin]
                  have hm1 : (1 : Int) ≤ V := by omega
                  have hm2 : V ≤ 10000000000000 := by omega
                  have hpu := fun z => push_any L (w2.drewN z) F X lf du (HM2.out.drewN z) (opX (opB X) b0 a0) k n giv get (some ⟨G, 0, none⟩) (some ⟨T, 0, none⟩) L.N L.N V tg tc HRD.out.1 HRD.out.2 hHG.out.1 hHG.out.2 HGL.out.1 HGL.out.2 HFO.out.R HFO.out.nN HFO.out.ng hm1 hm2 HRS.out.fl.nn HROW.out
                  rw [HGL.out.1, HGL.out.2] at hpu
                  have HPU := Lib.hid hpu
                  have HMM : Hid (V ≤ F k a0 ∧ V ≤ F b0 n) := Lib.hid (by rw [← HV.out, ← HV2.out]; omega)
                  clear hpu hm1 hm2
                  go_quiet (fail)
                  go_wp2_with fail
                  refine (HPU.out _).mono ?_
                  rintro e w3 ⟨m, F', rfl, hm1, hm2, hpe, hM3, hE3, hs3⟩
                  obtain ⟨y1, y2, y3, y4, y5, y6⟩ := round_done HRS.out.fl hb0 ha0 hkN HFO.out.nN HO.out hkb HOK.out HEN.out.1 HEN.out.2.1 hpe hm1 (Int.le_trans hm2 HMM.out.1) (Int.le_trans hm2 HMM.out.2)
                  rw [← HV.out] at y1 y2 y3 y4 y5 y6
                  rw [← HV2.out] at y2 y3 y4 y5 y6
                  have nm : ∀ z, w.heap.size ≤ z → ¬ L.Mut z := fun z hz hm => by have := HRS.out.lt.mut hm; omega
                  replace cv := hE3.cell cv (nm _ (Nat.le_refl _))
                  replace cb := hE3.cell cb (nm _ (by omega))
                  replace ca := hE3.cell ca (nm _ (by omega))
                  have hrk := HRS.out.lt.r k hkN
                  have hrb := HRS.out.lt.r b0 hb0
                  obtain ⟨V3, hV3⟩ : ∃ x, x = F b0 a0 := ⟨_, rfl⟩
                  rw [← hV3] at y3 y4 y5 y6
                  have hV3b := HRS.out.fl.le hb0 ha0
                  have hsb0 := HSB.out b0 hb0
                  rw [← hV3] at hV3b
                  have HV3 := Lib.hid hV3
                  have HY := Lib.hid (And.intro y4 (And.intro y5 y6))
                  have hE3' := Lib.hid hE3
                  have HY2 := Lib.hid y2
                  have HY3 := Lib.hid y3
                  have c0 := hM3.c0
                  have c1 := hM3.fl k hkN
                  have c2 := hM3.fr k a0 hkN ha0
                  have c3 := hM3.zr k a0 hkN
                  rw [y1] at c2
                  have HM3 := Lib.hid hM3
                  have hmz : m ≤ V ∧ m ≤ V2 := ⟨by have := HMM.out.1; have := HV.out; omega, by have := HMM.out.2; have := HV2.out; omega⟩
                  clear y1 y2 y3 y4 y5 y6 nm hV3 hpe hM3 hE3 hs3 hm2 HPU e1
                  go_wp2_with fail
                  go_region
                  have hM4 := (HM3.out.setF2 k a0 hkN ha0 (V - m)).drew
                  have q1 := cellDrew (cellOf (u := .int .i64 (V - m)) cv (show (⟨L.r k, a0, none⟩ : Addr).block ≠ w.heap.size by show L.r k ≠ _; omega))
                  have q2 := cellDrew (cellOf (u := .int .i64 (V - m)) cb (show (⟨L.r k, a0, none⟩ : Addr).block ≠ w.heap.size + 1 by show L.r k ≠ _; omega))
                  have q3 := cellDrew (cellOf (u := .int .i64 (V - m)) ca (show (⟨L.r k, a0, none⟩ : Addr).block ≠ w.heap.size + 1 + 1 by show L.r k ≠ _; omega))
                  have hE4 := Lib.hid (hE3'.out.setCell ⟨L.r k, a0, none⟩ (.inr (HM3.out.ok.mr hkN)) (.int .i64 (V - m))).drew
                  clear cv cb ca c0 c1 c2 c3
                  generalize (w3.setCell ⟨L.r k, a0, none⟩ (.int .i64 (V - m))).drew = w4 at *
                  have c0 := hM4.c0
                  have c1 := hM4.fl b0 hb0
                  have c2 := hM4.fr b0 n hb0 HFO.out.nN
                  have c3 := hM4.zr b0 n hb0
                  rw [HY2.out] at c2
                  have HM4 := Lib.hid hM4
                  clear hM4
                  go_wp2_with fail
                  go_region
                  have hM5 := (HM4.out.setF2 b0 n hb0 HFO.out.nN (V2 - m)).drew
                  have cv := cellDrew (cellOf (u := .int .i64 (V2 - m)) q1 (show (⟨L.r b0, n, none⟩ : Addr).block ≠ w.heap.size by show L.r b0 ≠ _; omega))
                  have cb := cellDrew (cellOf (u := .int .i64 (V2 - m)) q2 (show (⟨L.r b0, n, none⟩ : Addr).block ≠ w.heap.size + 1 by show L.r b0 ≠ _; omega))
                  have ca := cellDrew (cellOf (u := .int .i64 (V2 - m)) q3 (show (⟨L.r b0, n, none⟩ : Addr).block ≠ w.heap.size + 1 + 1 by show L.r b0 ≠ _; omega))
                  have hE5 := Lib.hid (hE4.out.setCell ⟨L.r b0, n, none⟩ (.inr (HM4.out.ok.mr hb0)) (.int .i64 (V2 - m))).drew
                  clear q1 q2 q3 c0 c1 c2 c3
                  generalize (w4.setCell ⟨L.r b0, n, none⟩ (.int .i64 (V2 - m))).drew = w5 at *
                  have c0 := hM5.c0
                  have c1 := hM5.fl b0 hb0
                  have c2 := hM5.fr b0 a0 hb0 ha0
                  have c3 := hM5.zr b0 a0 hb0
                  rw [HY3.out] at c2
                  have HM5 := Lib.hid hM5
                  clear hM5
                  go_wp2_with fail
                  go_region
                  have hM6 := (HM5.out.setF2 b0 a0 hb0 ha0 (V3 + m)).drew
                  have hE6 := (hE5.out.setCell ⟨L.r b0, a0, none⟩ (.inr (HM5.out.ok.mr hb0)) (.int .i64 (V3 + m))).drew
                  obtain ⟨y4, y5, y6⟩ := HY.out
                  have HRS6 := Lib.hid ((HRS.out.drewN n0).step hM6 (hE6T HE2.out hE6) y4 (fun x y hx hy hxy => by rw [y5 x y hx hy hxy]; exact HRS.out.off x y hx hy hxy))
                  have HME := Lib.hid y6
                  clear y4 y5 y6 hM6 hE6 cv cb ca c0 c1 c2 c3
                  go_wp2
                  go_roundg ((sup b0 - (V3 + m)).toNat + 1)
                  case measure =>
                    have z1 := HGMS.out
                    have z2 := HV3.out
                    have z3 := (HRS6.out.fl.le hb0 ha0).2
                    rw [HME.out] at z3
                    omega
                  case rel => exact ⟨_, HRS6.out, by rw [HME.out]; exact Nat.le_refl _⟩
      · have hkE : k = L.N := by omega
        subst hkE
        have HDN : Hid (∀ G, Flow L.N sup dem G → (∀ x y, x < L.N → y < L.N → opB X x y = false → G x y = F x y) → G b0 a0 ≤ F b0 a0) := Lib.hid (fun G g hag => raise_done HRS.out.fl g (opB X) (fun b a hb ha hop => hag b a hb ha hop) b0 a0 hb0 ha0 (fun b2 h1 h2 h3 h4 => HNO.out b2 h1 h2 h3 h4))
        clear hrs
        go_wp2
        refine bodyPost_ret (results_none rfl _ _ _) rfl ⟨rfl, F, HRS.out.mv, HRS.out.ex, HRS.out.fl, HRS.out.off, HDN.out⟩

end Go.Proofs.Ytjmfjgoehicgcaa
