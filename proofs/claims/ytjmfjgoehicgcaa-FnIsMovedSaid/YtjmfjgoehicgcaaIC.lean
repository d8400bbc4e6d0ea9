/- A way is looked for: the program. -/
import Derived.Test.YtjmfjgoehicgcaaMgIA
import Derived.Test.YtjmfjgoehicgcaaMgZF
import Derived.Test.YtjmfjgoehicgcaaMgDD
set_option linter.unusedVariables false
set_option linter.unusedSimpArgs false
namespace Go.Proofs.Ytjmfjgoehicgcaa
open Go.RowKit

theorem nth_setv (xs : List Int) (k : Nat) (y : Int) (hk : k < xs.length) : nth (xs.set k y) = upv (nth xs) k y := by
  funext x
  by_cases e : x = k
  · subst e; rw [upv_same, nth_eq _ _ (by rw [List.length_set]; exact hk), List.getElem_set_self]
  · rw [upv_off _ _ _ _ e]; simp only [nth, List.getD, List.getElem?_set_ne (fun q => e q.symm)]

/-- 's[1:]': one equation for every world. -/
theorem run_tail (g off n cap : Nat) (h : n + 1 ≤ cap) : ∃ off2, (off2 = off + 1 ∨ cap = 1) ∧
    (∀ W : World, Sem.run Try.prog (Instr.sliceAt 22 (.slice (some ⟨g, off, none⟩) (n + 1) cap) (some (.int .i64 1)) none none) W = .ok (.slice (some ⟨g, off2, none⟩) n (cap - 1)) W) ∧
    (∀ W : World, Sem.run Try.prog (Instr.slice 22 (.slice (some ⟨g, off, none⟩) (n + 1) cap) (some (.int .i64 1)) none none) W = .ok (.slice (some ⟨g, off2, none⟩) n (cap - 1)) W) := by
  obtain ⟨i0, hi, hz0, hz1, hz2⟩ := info_parts Try.info3
  have hS : ∀ W : World, Sem.run Try.prog (sizeOf 3) W = .ok 1 W := fun W => by simp [sizeOf, typeInfo, hi, hz1]
  have h1 : ¬ ((n : Int) + 1 < 1) := by omega
  by_cases hc : cap = 1
  · subst hc
    have hn : n = 0 := by omega
    subst hn
    refine ⟨off, .inr rfl, fun W => ?_, fun W => ?_⟩
    · simp [Instr.sliceAt, Instr.slice, Instr.sliceBounds, Instr.sliceBound, asIntOf, run_underlying Try.underlying22, hS]
    · simp [Instr.slice, Instr.sliceBounds, Instr.sliceBound, asIntOf, run_underlying Try.underlying22, hS]
  · have hc1 : ¬ cap = 1 := hc
    have hn1 : (1 : Int) ≤ (n : Int) + 1 := by omega
    refine ⟨off + 1, .inl rfl, fun W => ?_, fun W => ?_⟩
    · simp [Instr.sliceAt, Instr.slice, Instr.sliceBounds, Instr.sliceBound, asIntOf, run_underlying Try.underlying22, hS, hc, hn1, Addr.add]
    · simp [Instr.slice, Instr.sliceBounds, Instr.sliceBound, asIntOf, run_underlying Try.underlying22, hS, hc, hn1, Addr.add]

theorem cntN_le (N : Nat) (get : Nat → Int) : cntN N get ≤ N := by
  have h : cntN N get ≤ sm N (fun _ => 1) := sm_le fun k _ => by split <;> omega
  have e : ∀ m : Nat, sm m (fun _ => (1 : Int)) = m := fun m => by
    induction m with
    | zero => rfl
    | succ m ih => rw [sm, ih]; omega
  rw [e] at h; exact h

def qv (Q : List Nat) : List Value := Q.map fun (b : Nat) => Value.int .i64 (b : Int)
theorem qv_len (Q : List Nat) : (qv Q).length = Q.length := by simp [qv]

/-- The memory of a search. -/
structure WM (N : Nat) (w wr : World) (G T qb off cap : Nat) (giv get : List Int) (Q : List Nat) : Prop where
  gl : giv.length = N
  tl : get.length = N
  og : Own w.heap.size wr (.slice (some ⟨G, 0, none⟩) N N) giv
  ot : Own w.heap.size wr (.slice (some ⟨T, 0, none⟩) N N) get
  ne : G ≠ T
  q : QO wr off cap (qv Q) qb
  qg : qb ≠ G
  qt : qb ≠ T
  ql : w.heap.size ≤ qb
  bl : Below w.heap.size w wr

theorem WM.later {N : Nat} {w wr wr' : World} {G T qb off cap : Nat} {giv get : List Int} {Q : List Nat} (h : WM N w wr G T qb off cap giv get Q) (hb : Below wr.heap.size wr wr') : WM N w wr' G T qb off cap giv get Q :=
  ⟨h.gl, h.tl, h.og.later hb, h.ot.later hb, h.ne, h.q.later (hb.block qb h.q.lt) hb.size, h.qg, h.qt, h.ql, h.bl.thenB hb⟩

theorem WM.setG {N : Nat} {w wr : World} {G T qb off cap : Nat} {giv get : List Int} {Q : List Nat} (h : WM N w wr G T qb off cap giv get Q) (k : Nat) (y : Int) : WM N w (wr.setCell ⟨G, k, none⟩ (.int .i64 y)) G T qb off cap (giv.set k y) get Q := by
  have hG := (h.og.blockLt G rfl).1
  exact ⟨by rw [List.length_set]; exact h.gl, h.tl, h.og.storedAt h.gl k y, h.ot.setOther ⟨G, k, none⟩ h.ne _, h.ne, h.q.other _ (fun e => h.qg e.symm) _, h.qg, h.qt, h.ql, h.bl.setCell hG _⟩

theorem WM.setT {N : Nat} {w wr : World} {G T qb off cap : Nat} {giv get : List Int} {Q : List Nat} (h : WM N w wr G T qb off cap giv get Q) (k : Nat) (y : Int) : WM N w (wr.setCell ⟨T, k, none⟩ (.int .i64 y)) G T qb off cap giv (get.set k y) Q := by
  have hT := (h.ot.blockLt T rfl).1
  exact ⟨h.gl, by rw [List.length_set]; exact h.tl, h.og.setOther ⟨T, k, none⟩ h.ne.symm _, h.ot.storedAt h.tl k y, h.ne, h.q.other _ (fun e => h.qt e.symm) _, h.qg, h.qt, h.ql, h.bl.setCell hT _⟩

theorem WM.pop {N : Nat} {w wr : World} {G T qb off cap off2 b : Nat} {giv get : List Int} {Q : List Nat} (h : WM N w wr G T qb off cap giv get (b :: Q)) (ho : off2 = off + 1 ∨ cap = 1) : WM N w wr G T qb off2 (cap - 1) giv get Q := by
  refine ⟨h.gl, h.tl, h.og, h.ot, h.ne, ?_, h.qg, h.qt, h.ql, h.bl⟩
  rcases ho with rfl | rfl
  · exact h.q.tail
  · have hl := h.q.le
    simp [qv] at hl
    subst hl
    exact h.q.empty off2

/-- The queue has grown, by an append. -/
theorem WM.grow {N : Nat} {w wr wr' : World} {G T qb off cap : Nat} {giv get : List Int} {Q : List Nat} (h : WM N w wr G T qb off cap giv get Q) (b : Nat) (v' : Value) (k : Qn wr wr' (some qb) v' (qv Q ++ [.int .i64 (b : Int)])) :
    ∃ qb' off' cap', v' = .slice (some ⟨qb', off', none⟩) (Q ++ [b]).length cap' ∧ WM N w wr' G T qb' off' cap' giv get (Q ++ [b]) := by
  obtain ⟨g', off', cap', hv, hq, hg⟩ := k.at'
  have e : qv Q ++ [.int .i64 (b : Int)] = qv (Q ++ [b]) := by simp [qv]
  rw [e] at hv hq
  have hG := h.og.blockLt G rfl
  have hT := h.ot.blockLt T rfl
  have og : Own w.heap.size wr' (.slice (some ⟨G, 0, none⟩) N N) giv := by
    refine ⟨h.og.1, ?_⟩
    rcases h.og.2 with hn | ⟨g, cap, cur, e, hb, hgg, rest⟩
    · exact .inl hn
    · refine .inr ⟨g, cap, cur, e, hb, ?_, rest⟩
      cases e
      rw [k.block G hG.2 (fun q => h.qg (by injection q))]; exact hgg
  have ot : Own w.heap.size wr' (.slice (some ⟨T, 0, none⟩) N N) get := by
    refine ⟨h.ot.1, ?_⟩
    rcases h.ot.2 with hn | ⟨g, cap, cur, e, hb, hgg, rest⟩
    · exact .inl hn
    · refine .inr ⟨g, cap, cur, e, hb, ?_, rest⟩
      cases e
      rw [k.block T hT.2 (fun q => h.qt (by injection q))]; exact hgg
  have hbl : Below w.heap.size w wr' := ⟨k.os.trans h.bl.os, k.tape.trans h.bl.tape, k.output.trans h.bl.output, Nat.le_trans h.bl.size k.size, fun i hi => (k.block i (Nat.lt_of_lt_of_le hi h.bl.size) (fun q => by have := h.ql; injection q with q; omega)).trans (h.bl.block i hi)⟩
  have hs := h.bl.size
  have hql := h.ql
  have hqg := h.qg
  have hqt := h.qt
  refine ⟨g', off', cap', by rw [hv, qv_len], ⟨h.gl, h.tl, og, ot, h.ne, hq, ?_, ?_, ?_, hbl⟩⟩
  · rcases hg with hg | hg
    · injection hg with hg; omega
    · omega
  · rcases hg with hg | hg
    · injection hg with hg; omega
    · omega
  · rcases hg with hg | hg
    · injection hg with hg; omega
    · omega

/-- What a search gives. -/
def WayPost (N : Nat) (op : Nat → Nat → Bool) (F : Nat → Nat → Int) (fr : Nat) (E : Nat → Bool) (w : World) (e : Ending) (w' : World) : Prop :=
  Below w.heap.size w w' ∧ ((e = .returned (.tuple #[.slice none 0 0, .slice none 0 0, .int .i64 (-1)]) ∧ ∃ R S, NoWay N op F fr E R S) ∨
    ∃ (G T n : Nat) (giv get : List Int) (tg tc : Nat → Nat), e = .returned (.tuple #[.slice (some ⟨G, 0, none⟩) N N, .slice (some ⟨T, 0, none⟩) N N, .int .i64 n]) ∧ giv.length = N ∧ get.length = N ∧
      Own w.heap.size w' (.slice (some ⟨G, 0, none⟩) N N) giv ∧ Own w.heap.size w' (.slice (some ⟨T, 0, none⟩) N N) get ∧ Found N op F fr E (nth giv) (nth get) tg tc n)

set_option maxHeartbeats 16000000 in
set_option maxRecDepth 100000 in
theorem way_any (L : Lay) (w : World) (F : Nat → Nat → Int) (X : Nat → Nat → Bool) (lf du : Nat → Int) (h : MV L w F X lf du) (fr : Nat) (hf : fr < L.N) (fid : FuncId) (hfid : ∀ (args : Array Value) (W : World), Sem.run Try.prog (callFunc fid args) W = .ok (.enter fid args) W) (q : Addr) (E : Nat → Bool)
    (hcl : Hid (∀ (a : Nat) (wr : World), a < L.N → Below w.heap.size w wr → Calls Try.prog fid #[.int .i64 a, .pointer (some q)] wr fun e w' => e = .returned (.bool (E a)) ∧ wr = w')) :
    Calls Try.prog 124 #[.pointer (some ⟨L.MB, 0, none⟩), .int .i64 fr, .func (Fn.func fid) #[] #[.pointer (some q)]] w (WayPost L.N (opB X) F fr E w) := by
  have n16 := h.ok.n16
  have n1 := h.ok.n1
  have HM := Lib.hid h
  have c0 := h.c0
  obtain ⟨mf, hmf⟩ := makeFn L.N (by omega)
  have hrun := fun w => (hmf w).1
  have HMF := Lib.hid hmf
  have hfz : (fr : Int) < (L.N : Int) := by omega
  have cA : (mf w.drew).cell? ⟨L.MB, 0, none⟩ = some (.slice (some ⟨L.FB, 0, none⟩) L.N L.cF) := cellKeep (undrew (hmf w.drew).2.2.1) c0
  clear hmf h
  go_enter Try.func124, Try.ntmps124
  go_wp2_with fail
  go_region
  · skip
    clear c0 cA
    obtain ⟨-, hoA, hbA, hlA⟩ := HMF.out w.drew
    obtain ⟨-, hoB, hbB, hlB⟩ := HMF.out (mf w.drew)
    replace hbA := undrew hbA
    replace hoA := (hoA w.heap.size (Nat.le_refl _)).later hbB
    replace hlA : w.heap.size < (mf w.drew).heap.size := hlA
    replace hoB := hoB w.heap.size (Nat.le_of_lt hlA)
    have bW := hbA.thenB hbB
    clear HMF hrun hbA hbB
    generalize mf w.drew = wA at *
    generalize mf wA = wB at *
    obtain ⟨G, hG⟩ : ∃ G : Nat, G = w.heap.size := ⟨_, rfl⟩
    obtain ⟨T, hT⟩ : ∃ T : Nat, T = wA.heap.size := ⟨_, rfl⟩
    have hoG : Own w.heap.size wB (.slice (some ⟨G, 0, none⟩) L.N L.N) (zeros L.N) := by rw [hG]; first | exact hoA | exact hoB
    have hoT : Own w.heap.size wB (.slice (some ⟨T, 0, none⟩) L.N L.N) (zeros L.N) := by rw [hT]; first | exact hoA | exact hoB
    have hGT : G ≠ T := by omega
    rw [← hG, ← hT]
    clear hoA hoB hG hT hlA hlB
    go_wp2_with fail
    go_loopw [30] (fun i wr => ∃ (k : Nat) (giv get : List Int), k ≤ L.N ∧ i = .int .i64 k ∧ giv.length = L.N ∧ get.length = L.N ∧ (∀ x, x < k → nth giv x = -1 ∧ nth get x = -1) ∧ Own w.heap.size wr (.slice (some ⟨G, 0, none⟩) L.N L.N) giv ∧ Own w.heap.size wr (.slice (some ⟨T, 0, none⟩) L.N L.N) get ∧ Below w.heap.size w wr) (fun i _ => L.N - (intOf i).toNat)
    case atStart => exact ⟨0, zeros L.N, zeros L.N, Nat.zero_le _, rfl, zeros_len _, zeros_len _, fun x hx => absurd hx (Nat.not_lt_zero _), hoG, hoT, bW⟩
    case round =>
      clear hoG hoT bW
      obtain ⟨k, giv, get, hk, rfl, hgl, htl, hal, og, ot, bl⟩ := hrel
      have HGL := Lib.hid hgl
      have HTL := Lib.hid htl
      have HAL := Lib.hid hal
      clear hal
      by_cases hlt : k < L.N
      · obtain ⟨q1, q2⟩ := og.cellAt hgl k hlt
        have og2 := og.storedAt hgl k (-1)
        have ot2 := ot.setOther ⟨G, k, none⟩ hGT (.int .i64 (-1))
        obtain ⟨q3, q4⟩ := ot2.cellAt htl k hlt
        have ot3 := ot2.storedAt htl k (-1)
        have og3 := og2.setOther ⟨T, k, none⟩ hGT.symm (.int .i64 (-1))
        have bl3 := (bl.setCell (p := ⟨G, k, none⟩) (og.blockLt G rfl).1 (.int .i64 (-1))).setCell (p := ⟨T, k, none⟩) (ot.blockLt T rfl).1 (.int .i64 (-1))
        have hk2 : (k : Int) < (L.N : Int) := by omega
        have HX := Lib.hid (And.intro og3 (And.intro ot3 bl3))
        clear og ot bl og2 ot2 og3 ot3 bl3 hgl htl
        go_wp2
        obtain ⟨og3, ot3, bl3⟩ := HX.out
        exact ⟨⟨k + 1, giv.set k (-1), get.set k (-1), by omega, by go_num, by rw [List.length_set]; exact HGL.out, by rw [List.length_set]; exact HTL.out, fun x hx => by
          rw [nth_setv _ _ _ (by rw [HGL.out]; exact hlt), nth_setv _ _ _ (by rw [HTL.out]; exact hlt)]
          by_cases e : x = k
          · subst e; exact ⟨upv_same _ _ _, upv_same _ _ _⟩
          · rw [upv_off _ _ _ _ e, upv_off _ _ _ _ e]; exact HAL.out x (by omega), og3, ot3, bl3⟩, by simp [intOf]; omega⟩
      · have hkN : k = L.N := by omega
        subst hkN
        have b1 := belowAlloc wr (.cells #[.int .i64 (fr : Int)] 3)
        have hq0 : QO (wr.alloc (.cells #[.int .i64 (fr : Int)] 3)) 0 1 (qv [fr]) wr.heap.size := by
          refine ⟨by simp [qv], by unfold maxLen; omega, by simp, fun j u hj => ?_, fun j hj => ?_⟩
          · cases j with
            | zero => simp [qv] at hj; subst hj; exact newCell _ _ _
            | succ j => simp [qv] at hj
          · obtain rfl : j = 0 := by omega
            exact ⟨by rw [newCell]; rfl, newFroz _ _ _ _⟩
        have hG := og.blockLt G rfl
        have hT := ot.blockLt T rfl
        have hwm : WM L.N w (wr.alloc (.cells #[.int .i64 (fr : Int)] 3)) G T wr.heap.size 0 1 giv get [fr] := ⟨hgl, htl, og.later b1, ot.later b1, hGT, hq0, by omega, by omega, bl.size, bl.thenB b1⟩
        have hou : Ou L.N (opB X) F fr E (nth giv) (nth get) (fun _ => 0) (fun _ => 0) 1 (fun _ => false) [fr] := Ou.start hf (fun a ha => by rw [(HAL.out a ha).1]; omega) (fun a ha => by rw [(HAL.out a ha).2]; omega)
        have HWM := Lib.hid (And.intro hwm hou)
        obtain ⟨qb0, hqb0⟩ : ∃ x, x = wr.heap.size := ⟨_, rfl⟩
        clear og ot bl hq0 hwm hou b1 hG hT hgl htl
        go_wp2
        rw [← hqb0] at HWM ⊢
        clear hqb0
        generalize wr.alloc (.cells #[.int .i64 (fr : Int)] 3) = wC at *
        go_loopg [12] (1 + (cntN L.N (nth get)).toNat) (fun gm qs wr => gm ≤ 100 ∧ ∃ (giv get : List Int) (tg tc : Nat → Nat) (tt : Nat) (P : Nat → Bool) (Q : List Nat) (qb off cap : Nat), qs = .slice (some ⟨qb, off, none⟩) Q.length cap ∧ WM L.N w wr G T qb off cap giv get Q ∧ Ou L.N (opB X) F fr E (nth giv) (nth get) tg tc tt P Q ∧ Q.length + (cntN L.N (nth get)).toNat ≤ gm)
        case atStart => exact ⟨by have := cntN_le L.N (nth get); omega, giv, get, _, _, _, _, [fr], qb0, 0, 1, rfl, HWM.out.1, HWM.out.2, by simp⟩
        case round =>
          clear HWM HGL HTL HAL
          obtain ⟨hgk, giv, get, tg, tc, tt, P, Q, qb, off, cap, rfl, hwm, hou, hgm⟩ := hrel
          have HGK := Lib.hid hgk
          clear hgk
          cases Q with
          | nil =>
            have hno := hou.none
            have hbl := hwm.bl
            have HX := Lib.hid (And.intro hno hbl)
            clear hno hbl hwm hou
            go_wp2
            go_ret3
            exact ⟨HX.out.2, .inl ⟨rfl, _, _, HX.out.1⟩⟩
          | cons b Q =>
            have hin := hou.pop
            have hcap : Q.length + 1 ≤ cap := by have := hwm.q.le; simp [qv] at this; exact this
            have hmx := hwm.q.mx
            obtain ⟨off2, ho2, ht1, ht2⟩ := run_tail qb off Q.length cap hcap
            have hwm2 := hwm.pop ho2
            have hb0 := hwm.q.hold 0 (.int .i64 (b : Int)) rfl
            rw [Nat.add_zero] at hb0
            have ht3 := ht1
            rw [← List.length_cons (a := b)] at ht3
            have hm2 := HM.out.later hwm.bl
            have c0 := hm2.c0
            have hbN := hin.bn
            have HX := Lib.hid (And.intro hwm2 hin)
            have HGM := Lib.hid hgm
            have hbz : (b : Int) < (L.N : Int) := by omega
            have hql : (0 : Int) < ((Q.length : Int) + 1) := by omega
            have hq1 : (1 : Int) ≤ ((Q.length : Int) + 1) := by omega
            unfold maxLen at hmx
            clear hou hwm hwm2 hin hm2 hgm ho2
            go_wp2_with fail
            obtain ⟨wo, rfl⟩ : ∃ wo : World, wo = wr := ⟨_, rfl⟩
            go_loopw [12, 55] (fun qs i wr => ∃ (j : Nat) (giv get : List Int) (tg tc : Nat → Nat) (tt : Nat) (Q : List Nat) (qb off cap : Nat), j ≤ L.N ∧ i = .int .i64 j ∧ qs = .slice (some ⟨qb, off, none⟩) Q.length cap ∧ WM L.N w wr G T qb off cap giv get Q ∧ Inn L.N (opB X) F fr E (nth giv) (nth get) tg tc tt P Q b j ∧ Q.length + (cntN L.N (nth get)).toNat + 1 ≤ gk) (fun _ i _ => L.N - (intOf i).toNat)
            case atStart => exact ⟨0, giv, get, tg, tc, tt, Q, qb, off2, cap - 1, Nat.zero_le _, rfl, rfl, HX.out.1, HX.out.2, by have := HGM.out; simp at this; omega⟩
            case round =>
              clear HX HGM ht1 ht2 ht3 hb0 c0 hql hq1 hcap hmx
              obtain ⟨j, giv, get, tg, tc, tt, Q, qb, off, cap, hj, rfl, rfl, hwm, hin, hgm⟩ := hrel
              by_cases hjN : j < L.N
              rotate_left
              · have hjE : j = L.N := by omega
                subst hjE
                have hou := Lib.hid hin.done
                have HW := Lib.hid hwm
                clear hin hwm
                go_wp2
                go_roundg (Q.length + (cntN L.N (nth get)).toNat)
                case measure => omega
                case rel => exact ⟨by have := HGK.out; omega, giv, get, tg, tc, tt, _, Q, qb, off, cap, rfl, HW.out, hou.out, Nat.le_refl _⟩
              · have hm2 := HM.out.later hwm.bl
                have hop := isOpen_any L wr F X lf du hm2 b j hbN hjN
                have c0 := hm2.c0
                obtain ⟨q1, q2⟩ := hwm.og.cellAt hwm.gl j hjN
                obtain ⟨V, hV⟩ : ∃ V, V = nth giv j := ⟨_, rfl⟩
                rw [← hV] at q1
                have HV := Lib.hid hV
                have HW := Lib.hid hwm
                have HI := Lib.hid hin
                have HOP := Lib.hid hop
                have HGM := Lib.hid hgm
                have hjz : (j : Int) < (L.N : Int) := by omega
                clear hm2 hV hwm hin hop hgm
                by_cases hv : 0 ≤ V
                · have hsk := Lib.hid (HI.out.skip (.inl (by rw [← HV.out]; exact hv)))
                  go_wp2
                  first | exact ⟨⟨j + 1, giv, get, tg, tc, tt, Q, qb, off, cap, by omega, by go_num, rfl, HW.out, hsk.out, HGM.out⟩, by simp [intOf]; omega⟩ | (refine And.intro ?_ (by simp [intOf]; omega); (repeat apply Exists.intro); refine And.intro ?_ rfl; exact ⟨j + 1, giv, get, tg, tc, tt, Q, qb, off, cap, by omega, by go_num, rfl, HW.out, hsk.out, HGM.out⟩)
                · cases ho : opB X b j
                  · have hsk := Lib.hid (HI.out.skip (.inr ho))
                    have HO := Lib.hid ho
                    clear ho
                    go_wp2_with fail
                    refine HOP.out.mono ?_
                    rintro e w' ⟨rfl, rfl⟩
                    rw [HO.out]
                    go_wp2
                    first | exact ⟨⟨j + 1, giv, get, tg, tc, tt, Q, qb, off, cap, by omega, by go_num, rfl, HW.out, hsk.out, HGM.out⟩, by simp [intOf]; omega⟩ | (refine And.intro ?_ (by simp [intOf]; omega); (repeat apply Exists.intro); refine And.intro ?_ rfl; exact ⟨j + 1, giv, get, tg, tc, tt, Q, qb, off, cap, by omega, by go_num, rfl, HW.out, hsk.out, HGM.out⟩)
                  · have HO := Lib.hid ho
                    have hv2 : V < 0 := by omega
                    have hg2 := HW.out.setG j (b : Int)
                    have hcE := hcl.out j (wr.setCell ⟨G, j, none⟩ (.int .i64 (b : Int))) hjN hg2.bl
                    have hnv : nth (giv.set j (b : Int)) = upv (nth giv) j b := nth_setv _ _ _ (by rw [HW.out.gl]; exact hjN)
                    have HG2 := Lib.hid hg2
                    have HCE := Lib.hid hcE
                    have HNV := Lib.hid hnv
                    clear ho hg2 hcE hnv
                    go_wp2_with fail
                    refine HOP.out.mono ?_
                    rintro e w' ⟨rfl, rfl⟩
                    rw [HO.out]
                    go_wp2_with fail
                    refine HCE.out.mono ?_
                    rintro e w' ⟨rfl, rfl⟩
                    cases hE : E j
                    rotate_left
                    · have hfo := Lib.hid (HI.out.found hjN (by rw [← HV.out]; exact hv2) HO.out hE)
                      clear hE
                      go_wp2
                      go_ret3
                      refine ⟨HG2.out.bl, .inr ⟨G, T, j, giv.set j (b : Int), get, tg, upn tc j tt, rfl, HG2.out.gl, HG2.out.tl, HG2.out.og, HG2.out.ot, ?_⟩⟩
                      rw [HNV.out]; exact hfo.out
                    · obtain ⟨TT0, hTT0⟩ : ∃ x, x = tt := ⟨_, rfl⟩
                      have him := Lib.hid (HI.out.mark hjN (by rw [← HV.out]; exact hv2) HO.out hE)
                      clear hE q1 q2 c0
                      have hm3 := HM.out.later HG2.out.bl
                      have c0 := hm3.c0
                      clear hm3
                      obtain ⟨giv2, hg2e⟩ : ∃ g2, g2 = giv.set j (b : Int) := ⟨_, rfl⟩
                      rw [← hg2e] at HG2 HNV
                      rw [← HNV.out] at him
                      have HT0 := Lib.hid hTT0
                      clear hTT0
                      clear hg2e HNV
                      obtain ⟨wG, hwG⟩ : ∃ x, x = wr.setCell ⟨G, j, none⟩ (.int .i64 (b : Int)) := ⟨_, rfl⟩
                      rw [← hwG] at HG2 c0 ⊢
                      clear hwG HCE HOP HW HI
                      go_wp2_with fail
                      clear c0
                      go_loopw [12, 85] (fun qs i wr => ∃ (k : Nat) (get : List Int) (tg : Nat → Nat) (tt : Nat) (Q : List Nat) (qb off cap : Nat), k ≤ L.N ∧ i = .int .i64 k ∧ qs = .slice (some ⟨qb, off, none⟩) Q.length cap ∧ WM L.N w wr G T qb off cap giv2 get Q ∧ Imm L.N (opB X) F fr E (nth giv2) (nth get) tg (upn tc j TT0) tt P Q b j k ∧ Q.length + (cntN L.N (nth get)).toNat + 1 ≤ gk) (fun _ i _ => L.N - (intOf i).toNat)
                      case atStart => exact ⟨0, get, tg, tt + 1, Q, qb, off, cap, Nat.zero_le _, rfl, rfl, HG2.out, by rw [HT0.out]; exact him.out, HGM.out⟩
                      case round =>
                        clear HG2 him HGM
                        obtain ⟨k, get, tg, tt, Q, qb, off, cap, hk, rfl, rfl, hwm, him, hgm⟩ := hrel
                        by_cases hkN : k < L.N
                        rotate_left
                        · have hkE : k = L.N := by omega
                          subst hkE
                          have hin := Lib.hid him.done
                          have HW := Lib.hid hwm
                          have HGM := Lib.hid hgm
                          clear him hwm hgm
                          go_wp2
                          first | exact ⟨⟨j + 1, giv2, get, tg, _, tt, Q, qb, off, cap, by omega, by go_num, rfl, HW.out, hin.out, HGM.out⟩, by simp [intOf]; omega⟩ | (refine And.intro ?_ (by simp [intOf]; omega); (repeat apply Exists.intro); refine And.intro ?_ rfl; exact ⟨j + 1, giv2, get, tg, _, tt, Q, qb, off, cap, by omega, by go_num, rfl, HW.out, hin.out, HGM.out⟩)
                        · have hm2 := HM.out.later hwm.bl
                          have hop := isOpen_any L wr F X lf du hm2 k j hkN hjN
                          have c0 := hm2.c0
                          have c1 := hm2.fl k hkN
                          have c2 := hm2.fr k j hkN hjN
                          obtain ⟨q1, q2⟩ := hwm.ot.cellAt hwm.tl k hkN
                          obtain ⟨V2, hV2⟩ : ∃ V, V = nth get k := ⟨_, rfl⟩
                          obtain ⟨V3, hV3⟩ : ∃ V, V = F k j := ⟨_, rfl⟩
                          rw [← hV2] at q1
                          rw [← hV3] at c2
                          have HV2 := Lib.hid hV2
                          have HV3 := Lib.hid hV3
                          have HW := Lib.hid hwm
                          have HI := Lib.hid him
                          have HOP := Lib.hid hop
                          have HGM := Lib.hid hgm
                          have hkz : (k : Int) < (L.N : Int) := by omega
                          clear hm2 hV2 hV3 hwm him hop hgm
                          by_cases h1 : k = fr
                          · have hsk := Lib.hid (HI.out.skip (fun x => x.1 h1))
                            have hne : ((k : Int) != (fr : Int)) = false := by simp [h1]
                            clear h1
                            go_wp2
                            first | exact ⟨⟨k + 1, get, tg, tt, Q, qb, off, cap, by omega, by go_num, rfl, HW.out, hsk.out, HGM.out⟩, by simp [intOf]; omega⟩ | (refine And.intro ?_ (by simp [intOf]; omega); (repeat apply Exists.intro); refine And.intro ?_ rfl; exact ⟨k + 1, get, tg, tt, Q, qb, off, cap, by omega, by go_num, rfl, HW.out, hsk.out, HGM.out⟩)
                          · have hne : ((k : Int) != (fr : Int)) = true := by simp; omega
                            have H1 := Lib.hid h1
                            clear h1
                            by_cases h2 : V2 < 0
                            rotate_left
                            · have hsk := Lib.hid (HI.out.skip (fun x => h2 (by rw [HV2.out]; exact x.2.1)))
                              go_wp2
                              first | exact ⟨⟨k + 1, get, tg, tt, Q, qb, off, cap, by omega, by go_num, rfl, HW.out, hsk.out, HGM.out⟩, by simp [intOf]; omega⟩ | (refine And.intro ?_ (by simp [intOf]; omega); (repeat apply Exists.intro); refine And.intro ?_ rfl; exact ⟨k + 1, get, tg, tt, Q, qb, off, cap, by omega, by go_num, rfl, HW.out, hsk.out, HGM.out⟩)
                            · cases ho : opB X k j
                              · have hsk := Lib.hid (HI.out.skip (fun x => by rw [ho] at x; exact absurd x.2.2.1 (by simp)))
                                have HO := Lib.hid ho
                                clear ho
                                go_wp2_with fail
                                refine HOP.out.mono ?_
                                rintro e w' ⟨rfl, rfl⟩
                                rw [HO.out]
                                go_wp2
                                first | exact ⟨⟨k + 1, get, tg, tt, Q, qb, off, cap, by omega, by go_num, rfl, HW.out, hsk.out, HGM.out⟩, by simp [intOf]; omega⟩ | (refine And.intro ?_ (by simp [intOf]; omega); (repeat apply Exists.intro); refine And.intro ?_ rfl; exact ⟨k + 1, get, tg, tt, Q, qb, off, cap, by omega, by go_num, rfl, HW.out, hsk.out, HGM.out⟩)
                              · have HO := Lib.hid ho
                                clear ho
                                by_cases h4 : 0 < V3
                                rotate_left
                                · have hsk := Lib.hid (HI.out.skip (fun x => h4 (by rw [HV3.out]; exact x.2.2.2)))
                                  go_wp2_with fail
                                  refine HOP.out.mono ?_
                                  rintro e w' ⟨rfl, rfl⟩
                                  rw [HO.out]
                                  go_wp2
                                  first | exact ⟨⟨k + 1, get, tg, tt, Q, qb, off, cap, by omega, by go_num, rfl, HW.out, hsk.out, HGM.out⟩, by simp [intOf]; omega⟩ | (refine And.intro ?_ (by simp [intOf]; omega); (repeat apply Exists.intro); refine And.intro ?_ rfl; exact ⟨k + 1, get, tg, tt, Q, qb, off, cap, by omega, by go_num, rfl, HW.out, hsk.out, HGM.out⟩)
                                · have hpu := HI.out.push hkN H1.out (by rw [← HV2.out]; exact h2) HO.out (by rw [← HV3.out]; exact h4)
                                  have hnv : nth (get.set k (j : Int)) = upv (nth get) k j := nth_setv _ _ _ (by rw [HW.out.tl]; exact hkN)
                                  rw [← hnv] at hpu
                                  have hw2 := HW.out.setT k (j : Int)
                                  have hb := belowAlloc (wr.setCell ⟨T, k, none⟩ (.int .i64 (j : Int))) (.cells #[.int .i64 (k : Int)] 3)
                                  have hw3 := hw2.later hb
                                  have hqv : Qv ((wr.setCell ⟨T, k, none⟩ (.int .i64 (j : Int))).alloc (.cells #[.int .i64 (k : Int)] 3)) (.slice (some ⟨qb, off, none⟩) Q.length cap) (qv Q) (some qb) := .inr ⟨qb, off, cap, rfl, by rw [qv_len], hw3.q⟩
                                  have hcu := newCell (wr.setCell ⟨T, k, none⟩ (.int .i64 (j : Int))) (.int .i64 (k : Int)) 3
                                  have hlen : Q.length ≤ 100000 := by have := HW.out.q.le; have := HW.out.q.mx; have := HGM.out; have := HGK.out; omega
                                  have hsz : (wr.setCell ⟨T, k, none⟩ (.int .i64 (j : Int))).heap.size = wr.heap.size := by simp
                                  have HPU := Lib.hid hpu
                                  have HW3 := Lib.hid hw3
                                  have HQV := Lib.hid hqv
                                  have HCU := Lib.hid hcu
                                  have HLE := Lib.hid hlen
                                  have HSZ := Lib.hid hsz
                                  obtain ⟨i0, hi, hz0, hz1, hz2⟩ := info_parts Try.info3
                                  have HII := Lib.hid (And.intro hi (And.intro hz0 (And.intro hz1 hz2)))
                                  clear hpu hnv hw2 hb hw3 hqv hcu hlen hsz hi hz0 hz1 hz2
                                  go_wp2_with fail
                                  refine HOP.out.mono ?_
                                  rintro e w' ⟨rfl, rfl⟩
                                  rw [HO.out]
                                  go_wp2_with (at_builtin; refine wpList_append_q _ rfl _ _ 22 rfl 3 i0 (.int .i64 0) 8 Try.underlying22 HII.out.1 HII.out.2.1 HII.out.2.2.1 HII.out.2.2.2 rfl _ (qv Q) (some qb) rfl HQV.out ⟨wr.heap.size, 0, none⟩ 1 (.int .i64 (k : Int)) rfl (by rw [← HSZ.out]; exact HCU.out) rfl (by rw [qv_len]; have := HLE.out; omega) (by decide) ?_)
                                  intro v' w9 hqn
                                  obtain ⟨qb2, off2, cap2, rfl, hw9⟩ := HW3.out.grow k v' hqn
                                  have HW9 := Lib.hid hw9
                                  clear hqn hw9 HW3 HQV HCU HII q1 q2 c0 c1 c2
                                  go_wp2
                                  first | exact ⟨⟨k + 1, get.set k (j : Int), _, _, Q ++ [k], qb2, off2, cap2, by omega, by go_num, rfl, HW9.out, HPU.out.1, by have e1 := HPU.out.2; have e2 := HGM.out; have e3 := cntN_nn L.N (nth get); have e4 := cntN_nn L.N (nth (get.set k (j : Int))); simp only [List.length_append, List.length_singleton]; omega⟩, by simp [intOf]; omega⟩ | (refine And.intro ?_ (by simp [intOf]; omega); (repeat apply Exists.intro); refine And.intro ?_ rfl; exact ⟨k + 1, get.set k (j : Int), _, _, Q ++ [k], qb2, off2, cap2, by omega, by go_num, rfl, HW9.out, HPU.out.1, by have e1 := HPU.out.2; have e2 := HGM.out; have e3 := cntN_nn L.N (nth get); have e4 := cntN_nn L.N (nth (get.set k (j : Int))); simp only [List.length_append, List.length_singleton]; omega⟩)
  · skip
    clear c0 cA
    obtain ⟨-, hoA, hbA, hlA⟩ := HMF.out w.drew
    obtain ⟨-, hoB, hbB, hlB⟩ := HMF.out (mf w.drew)
    replace hbA := undrew hbA
    replace hoA := (hoA w.heap.size (Nat.le_refl _)).later hbB
    replace hlA : w.heap.size < (mf w.drew).heap.size := hlA
    replace hoB := hoB w.heap.size (Nat.le_of_lt hlA)
    have bW := hbA.thenB hbB
    clear HMF hrun hbA hbB
    generalize mf w.drew = wA at *
    generalize mf wA = wB at *
    obtain ⟨G, hG⟩ : ∃ G : Nat, G = wA.heap.size := ⟨_, rfl⟩
    obtain ⟨T, hT⟩ : ∃ T : Nat, T = w.heap.size := ⟨_, rfl⟩
    have hoG : Own w.heap.size wB (.slice (some ⟨G, 0, none⟩) L.N L.N) (zeros L.N) := by rw [hG]; first | exact hoA | exact hoB
    have hoT : Own w.heap.size wB (.slice (some ⟨T, 0, none⟩) L.N L.N) (zeros L.N) := by rw [hT]; first | exact hoA | exact hoB
    have hGT : G ≠ T := by omega
    rw [← hG, ← hT]
    clear hoA hoB hG hT hlA hlB
    go_wp2_with fail
    go_loopw [30] (fun i wr => ∃ (k : Nat) (giv get : List Int), k ≤ L.N ∧ i = .int .i64 k ∧ giv.length = L.N ∧ get.length = L.N ∧ (∀ x, x < k → nth giv x = -1 ∧ nth get x = -1) ∧ Own w.heap.size wr (.slice (some ⟨G, 0, none⟩) L.N L.N) giv ∧ Own w.heap.size wr (.slice (some ⟨T, 0, none⟩) L.N L.N) get ∧ Below w.heap.size w wr) (fun i _ => L.N - (intOf i).toNat)
    case atStart => exact ⟨0, zeros L.N, zeros L.N, Nat.zero_le _, rfl, zeros_len _, zeros_len _, fun x hx => absurd hx (Nat.not_lt_zero _), hoG, hoT, bW⟩
    case round =>
      clear hoG hoT bW
      obtain ⟨k, giv, get, hk, rfl, hgl, htl, hal, og, ot, bl⟩ := hrel
      have HGL := Lib.hid hgl
      have HTL := Lib.hid htl
      have HAL := Lib.hid hal
      clear hal
      by_cases hlt : k < L.N
      · obtain ⟨q1, q2⟩ := og.cellAt hgl k hlt
        have og2 := og.storedAt hgl k (-1)
        have ot2 := ot.setOther ⟨G, k, none⟩ hGT (.int .i64 (-1))
        obtain ⟨q3, q4⟩ := ot2.cellAt htl k hlt
        have ot3 := ot2.storedAt htl k (-1)
        have og3 := og2.setOther ⟨T, k, none⟩ hGT.symm (.int .i64 (-1))
        have bl3 := (bl.setCell (p := ⟨G, k, none⟩) (og.blockLt G rfl).1 (.int .i64 (-1))).setCell (p := ⟨T, k, none⟩) (ot.blockLt T rfl).1 (.int .i64 (-1))
        have hk2 : (k : Int) < (L.N : Int) := by omega
        have HX := Lib.hid (And.intro og3 (And.intro ot3 bl3))
        clear og ot bl og2 ot2 og3 ot3 bl3 hgl htl
        go_wp2
        obtain ⟨og3, ot3, bl3⟩ := HX.out
        exact ⟨⟨k + 1, giv.set k (-1), get.set k (-1), by omega, by go_num, by rw [List.length_set]; exact HGL.out, by rw [List.length_set]; exact HTL.out, fun x hx => by
          rw [nth_setv _ _ _ (by rw [HGL.out]; exact hlt), nth_setv _ _ _ (by rw [HTL.out]; exact hlt)]
          by_cases e : x = k
          · subst e; exact ⟨upv_same _ _ _, upv_same _ _ _⟩
          · rw [upv_off _ _ _ _ e, upv_off _ _ _ _ e]; exact HAL.out x (by omega), og3, ot3, bl3⟩, by simp [intOf]; omega⟩
      · have hkN : k = L.N := by omega
        subst hkN
        have b1 := belowAlloc wr (.cells #[.int .i64 (fr : Int)] 3)
        have hq0 : QO (wr.alloc (.cells #[.int .i64 (fr : Int)] 3)) 0 1 (qv [fr]) wr.heap.size := by
          refine ⟨by simp [qv], by unfold maxLen; omega, by simp, fun j u hj => ?_, fun j hj => ?_⟩
          · cases j with
            | zero => simp [qv] at hj; subst hj; exact newCell _ _ _
            | succ j => simp [qv] at hj
          · obtain rfl : j = 0 := by omega
            exact ⟨by rw [newCell]; rfl, newFroz _ _ _ _⟩
        have hG := og.blockLt G rfl
        have hT := ot.blockLt T rfl
        have hwm : WM L.N w (wr.alloc (.cells #[.int .i64 (fr : Int)] 3)) G T wr.heap.size 0 1 giv get [fr] := ⟨hgl, htl, og.later b1, ot.later b1, hGT, hq0, by omega, by omega, bl.size, bl.thenB b1⟩
        have hou : Ou L.N (opB X) F fr E (nth giv) (nth get) (fun _ => 0) (fun _ => 0) 1 (fun _ => false) [fr] := Ou.start hf (fun a ha => by rw [(HAL.out a ha).1]; omega) (fun a ha => by rw [(HAL.out a ha).2]; omega)
        have HWM := Lib.hid (And.intro hwm hou)
        obtain ⟨qb0, hqb0⟩ : ∃ x, x = wr.heap.size := ⟨_, rfl⟩
        clear og ot bl hq0 hwm hou b1 hG hT hgl htl
        go_wp2
        rw [← hqb0] at HWM ⊢
        clear hqb0
        generalize wr.alloc (.cells #[.int .i64 (fr : Int)] 3) = wC at *
        go_loopg [12] (1 + (cntN L.N (nth get)).toNat) (fun gm qs wr => gm ≤ 100 ∧ ∃ (giv get : List Int) (tg tc : Nat → Nat) (tt : Nat) (P : Nat → Bool) (Q : List Nat) (qb off cap : Nat), qs = .slice (some ⟨qb, off, none⟩) Q.length cap ∧ WM L.N w wr G T qb off cap giv get Q ∧ Ou L.N (opB X) F fr E (nth giv) (nth get) tg tc tt P Q ∧ Q.length + (cntN L.N (nth get)).toNat ≤ gm)
        case atStart => exact ⟨by have := cntN_le L.N (nth get); omega, giv, get, _, _, _, _, [fr], qb0, 0, 1, rfl, HWM.out.1, HWM.out.2, by simp⟩
        case round =>
          clear HWM HGL HTL HAL
          obtain ⟨hgk, giv, get, tg, tc, tt, P, Q, qb, off, cap, rfl, hwm, hou, hgm⟩ := hrel
          have HGK := Lib.hid hgk
          clear hgk
          cases Q with
          | nil =>
            have hno := hou.none
            have hbl := hwm.bl
            have HX := Lib.hid (And.intro hno hbl)
            clear hno hbl hwm hou
            go_wp2
            go_ret3
            exact ⟨HX.out.2, .inl ⟨rfl, _, _, HX.out.1⟩⟩
          | cons b Q =>
            have hin := hou.pop
            have hcap : Q.length + 1 ≤ cap := by have := hwm.q.le; simp [qv] at this; exact this
            have hmx := hwm.q.mx
            obtain ⟨off2, ho2, ht1, ht2⟩ := run_tail qb off Q.length cap hcap
            have hwm2 := hwm.pop ho2
            have hb0 := hwm.q.hold 0 (.int .i64 (b : Int)) rfl
            rw [Nat.add_zero] at hb0
            have ht3 := ht1
            rw [← List.length_cons (a := b)] at ht3
            have hm2 := HM.out.later hwm.bl
            have c0 := hm2.c0
            have hbN := hin.bn
            have HX := Lib.hid (And.intro hwm2 hin)
            have HGM := Lib.hid hgm
            have hbz : (b : Int) < (L.N : Int) := by omega
            have hql : (0 : Int) < ((Q.length : Int) + 1) := by omega
            have hq1 : (1 : Int) ≤ ((Q.length : Int) + 1) := by omega
            unfold maxLen at hmx
            clear hou hwm hwm2 hin hm2 hgm ho2
            go_wp2_with fail
            obtain ⟨wo, rfl⟩ : ∃ wo : World, wo = wr := ⟨_, rfl⟩
            go_loopw [12, 55] (fun qs i wr => ∃ (j : Nat) (giv get : List Int) (tg tc : Nat → Nat) (tt : Nat) (Q : List Nat) (qb off cap : Nat), j ≤ L.N ∧ i = .int .i64 j ∧ qs = .slice (some ⟨qb, off, none⟩) Q.length cap ∧ WM L.N w wr G T qb off cap giv get Q ∧ Inn L.N (opB X) F fr E (nth giv) (nth get) tg tc tt P Q b j ∧ Q.length + (cntN L.N (nth get)).toNat + 1 ≤ gk) (fun _ i _ => L.N - (intOf i).toNat)
            case atStart => exact ⟨0, giv, get, tg, tc, tt, Q, qb, off2, cap - 1, Nat.zero_le _, rfl, rfl, HX.out.1, HX.out.2, by have := HGM.out; simp at this; omega⟩
            case round =>
              clear HX HGM ht1 ht2 ht3 hb0 c0 hql hq1 hcap hmx
              obtain ⟨j, giv, get, tg, tc, tt, Q, qb, off, cap, hj, rfl, rfl, hwm, hin, hgm⟩ := hrel
              by_cases hjN : j < L.N
              rotate_left
              · have hjE : j = L.N := by omega
                subst hjE
                have hou := Lib.hid hin.done
                have HW := Lib.hid hwm
                clear hin hwm
                go_wp2
                go_roundg (Q.length + (cntN L.N (nth get)).toNat)
                case measure => omega
                case rel => exact ⟨by have := HGK.out; omega, giv, get, tg, tc, tt, _, Q, qb, off, cap, rfl, HW.out, hou.out, Nat.le_refl _⟩
              · have hm2 := HM.out.later hwm.bl
                have hop := isOpen_any L wr F X lf du hm2 b j hbN hjN
                have c0 := hm2.c0
                obtain ⟨q1, q2⟩ := hwm.og.cellAt hwm.gl j hjN
                obtain ⟨V, hV⟩ : ∃ V, V = nth giv j := ⟨_, rfl⟩
                rw [← hV] at q1
                have HV := Lib.hid hV
                have HW := Lib.hid hwm
                have HI := Lib.hid hin
                have HOP := Lib.hid hop
                have HGM := Lib.hid hgm
                have hjz : (j : Int) < (L.N : Int) := by omega
                clear hm2 hV hwm hin hop hgm
                by_cases hv : 0 ≤ V
                · have hsk := Lib.hid (HI.out.skip (.inl (by rw [← HV.out]; exact hv)))
                  go_wp2
                  first | exact ⟨⟨j + 1, giv, get, tg, tc, tt, Q, qb, off, cap, by omega, by go_num, rfl, HW.out, hsk.out, HGM.out⟩, by simp [intOf]; omega⟩ | (refine And.intro ?_ (by simp [intOf]; omega); (repeat apply Exists.intro); refine And.intro ?_ rfl; exact ⟨j + 1, giv, get, tg, tc, tt, Q, qb, off, cap, by omega, by go_num, rfl, HW.out, hsk.out, HGM.out⟩)
                · cases ho : opB X b j
                  · have hsk := Lib.hid (HI.out.skip (.inr ho))
                    have HO := Lib.hid ho
                    clear ho
                    go_wp2_with fail
                    refine HOP.out.mono ?_
                    rintro e w' ⟨rfl, rfl⟩
                    rw [HO.out]
                    go_wp2
                    first | exact ⟨⟨j + 1, giv, get, tg, tc, tt, Q, qb, off, cap, by omega, by go_num, rfl, HW.out, hsk.out, HGM.out⟩, by simp [intOf]; omega⟩ | (refine And.intro ?_ (by simp [intOf]; omega); (repeat apply Exists.intro); refine And.intro ?_ rfl; exact ⟨j + 1, giv, get, tg, tc, tt, Q, qb, off, cap, by omega, by go_num, rfl, HW.out, hsk.out, HGM.out⟩)
                  · have HO := Lib.hid ho
                    have hv2 : V < 0 := by omega
                    have hg2 := HW.out.setG j (b : Int)
                    have hcE := hcl.out j (wr.setCell ⟨G, j, none⟩ (.int .i64 (b : Int))) hjN hg2.bl
                    have hnv : nth (giv.set j (b : Int)) = upv (nth giv) j b := nth_setv _ _ _ (by rw [HW.out.gl]; exact hjN)
                    have HG2 := Lib.hid hg2
                    have HCE := Lib.hid hcE
                    have HNV := Lib.hid hnv
                    clear ho hg2 hcE hnv
                    go_wp2_with fail
                    refine HOP.out.mono ?_
                    rintro e w' ⟨rfl, rfl⟩
                    rw [HO.out]
                    go_wp2_with fail
                    refine HCE.out.mono ?_
                    rintro e w' ⟨rfl, rfl⟩
                    cases hE : E j
                    rotate_left
                    · have hfo := Lib.hid (HI.out.found hjN (by rw [← HV.out]; exact hv2) HO.out hE)
                      clear hE
                      go_wp2
                      go_ret3
                      refine ⟨HG2.out.bl, .inr ⟨G, T, j, giv.set j (b : Int), get, tg, upn tc j tt, rfl, HG2.out.gl, HG2.out.tl, HG2.out.og, HG2.out.ot, ?_⟩⟩
                      rw [HNV.out]; exact hfo.out
                    · obtain ⟨TT0, hTT0⟩ : ∃ x, x = tt := ⟨_, rfl⟩
                      have him := Lib.hid (HI.out.mark hjN (by rw [← HV.out]; exact hv2) HO.out hE)
                      clear hE q1 q2 c0
                      have hm3 := HM.out.later HG2.out.bl
                      have c0 := hm3.c0
                      clear hm3
                      obtain ⟨giv2, hg2e⟩ : ∃ g2, g2 = giv.set j (b : Int) := ⟨_, rfl⟩
                      rw [← hg2e] at HG2 HNV
                      rw [← HNV.out] at him
                      have HT0 := Lib.hid hTT0
                      clear hTT0
                      clear hg2e HNV
                      obtain ⟨wG, hwG⟩ : ∃ x, x = wr.setCell ⟨G, j, none⟩ (.int .i64 (b : Int)) := ⟨_, rfl⟩
                      rw [← hwG] at HG2 c0 ⊢
                      clear hwG HCE HOP HW HI
                      go_wp2_with fail
                      clear c0
                      go_loopw [12, 85] (fun qs i wr => ∃ (k : Nat) (get : List Int) (tg : Nat → Nat) (tt : Nat) (Q : List Nat) (qb off cap : Nat), k ≤ L.N ∧ i = .int .i64 k ∧ qs = .slice (some ⟨qb, off, none⟩) Q.length cap ∧ WM L.N w wr G T qb off cap giv2 get Q ∧ Imm L.N (opB X) F fr E (nth giv2) (nth get) tg (upn tc j TT0) tt P Q b j k ∧ Q.length + (cntN L.N (nth get)).toNat + 1 ≤ gk) (fun _ i _ => L.N - (intOf i).toNat)
                      case atStart => exact ⟨0, get, tg, tt + 1, Q, qb, off, cap, Nat.zero_le _, rfl, rfl, HG2.out, by rw [HT0.out]; exact him.out, HGM.out⟩
                      case round =>
                        clear HG2 him HGM
                        obtain ⟨k, get, tg, tt, Q, qb, off, cap, hk, rfl, rfl, hwm, him, hgm⟩ := hrel
                        by_cases hkN : k < L.N
                        rotate_left
                        · have hkE : k = L.N := by omega
                          subst hkE
                          have hin := Lib.hid him.done
                          have HW := Lib.hid hwm
                          have HGM := Lib.hid hgm
                          clear him hwm hgm
                          go_wp2
                          first | exact ⟨⟨j + 1, giv2, get, tg, _, tt, Q, qb, off, cap, by omega, by go_num, rfl, HW.out, hin.out, HGM.out⟩, by simp [intOf]; omega⟩ | (refine And.intro ?_ (by simp [intOf]; omega); (repeat apply Exists.intro); refine And.intro ?_ rfl; exact ⟨j + 1, giv2, get, tg, _, tt, Q, qb, off, cap, by omega, by go_num, rfl, HW.out, hin.out, HGM.out⟩)
                        · have hm2 := HM.out.later hwm.bl
                          have hop := isOpen_any L wr F X lf du hm2 k j hkN hjN
                          have c0 := hm2.c0
                          have c1 := hm2.fl k hkN
                          have c2 := hm2.fr k j hkN hjN
                          obtain ⟨q1, q2⟩ := hwm.ot.cellAt hwm.tl k hkN
                          obtain ⟨V2, hV2⟩ : ∃ V, V = nth get k := ⟨_, rfl⟩
                          obtain ⟨V3, hV3⟩ : ∃ V, V = F k j := ⟨_, rfl⟩
                          rw [← hV2] at q1
                          rw [← hV3] at c2
                          have HV2 := Lib.hid hV2
                          have HV3 := Lib.hid hV3
                          have HW := Lib.hid hwm
                          have HI := Lib.hid him
                          have HOP := Lib.hid hop
                          have HGM := Lib.hid hgm
                          have hkz : (k : Int) < (L.N : Int) := by omega
                          clear hm2 hV2 hV3 hwm him hop hgm
                          by_cases h1 : k = fr
                          · have hsk := Lib.hid (HI.out.skip (fun x => x.1 h1))
                            have hne : ((k : Int) != (fr : Int)) = false := by simp [h1]
                            clear h1
                            go_wp2
                            first | exact ⟨⟨k + 1, get, tg, tt, Q, qb, off, cap, by omega, by go_num, rfl, HW.out, hsk.out, HGM.out⟩, by simp [intOf]; omega⟩ | (refine And.intro ?_ (by simp [intOf]; omega); (repeat apply Exists.intro); refine And.intro ?_ rfl; exact ⟨k + 1, get, tg, tt, Q, qb, off, cap, by omega, by go_num, rfl, HW.out, hsk.out, HGM.out⟩)
                          · have hne : ((k : Int) != (fr : Int)) = true := by simp; omega
                            have H1 := Lib.hid h1
                            clear h1
                            by_cases h2 : V2 < 0
                            rotate_left
                            · have hsk := Lib.hid (HI.out.skip (fun x => h2 (by rw [HV2.out]; exact x.2.1)))
                              go_wp2
                              first | exact ⟨⟨k + 1, get, tg, tt, Q, qb, off, cap, by omega, by go_num, rfl, HW.out, hsk.out, HGM.out⟩, by simp [intOf]; omega⟩ | (refine And.intro ?_ (by simp [intOf]; omega); (repeat apply Exists.intro); refine And.intro ?_ rfl; exact ⟨k + 1, get, tg, tt, Q, qb, off, cap, by omega, by go_num, rfl, HW.out, hsk.out, HGM.out⟩)
                            · cases ho : opB X k j
                              · have hsk := Lib.hid (HI.out.skip (fun x => by rw [ho] at x; exact absurd x.2.2.1 (by simp)))
                                have HO := Lib.hid ho
                                clear ho
                                go_wp2_with fail
                                refine HOP.out.mono ?_
                                rintro e w' ⟨rfl, rfl⟩
                                rw [HO.out]
                                go_wp2
                                first | exact ⟨⟨k + 1, get, tg, tt, Q, qb, off, cap, by omega, by go_num, rfl, HW.out, hsk.out, HGM.out⟩, by simp [intOf]; omega⟩ | (refine And.intro ?_ (by simp [intOf]; omega); (repeat apply Exists.intro); refine And.intro ?_ rfl; exact ⟨k + 1, get, tg, tt, Q, qb, off, cap, by omega, by go_num, rfl, HW.out, hsk.out, HGM.out⟩)
                              · have HO := Lib.hid ho
                                clear ho
                                by_cases h4 : 0 < V3
                                rotate_left
                                · have hsk := Lib.hid (HI.out.skip (fun x => h4 (by rw [HV3.out]; exact x.2.2.2)))
                                  go_wp2_with fail
                                  refine HOP.out.mono ?_
                                  rintro e w' ⟨rfl, rfl⟩
                                  rw [HO.out]
                                  go_wp2
                                  first | exact ⟨⟨k + 1, get, tg, tt, Q, qb, off, cap, by omega, by go_num, rfl, HW.out, hsk.out, HGM.out⟩, by simp [intOf]; omega⟩ | (refine And.intro ?_ (by simp [intOf]; omega); (repeat apply Exists.intro); refine And.intro ?_ rfl; exact ⟨k + 1, get, tg, tt, Q, qb, off, cap, by omega, by go_num, rfl, HW.out, hsk.out, HGM.out⟩)
                                · have hpu := HI.out.push hkN H1.out (by rw [← HV2.out]; exact h2) HO.out (by rw [← HV3.out]; exact h4)
                                  have hnv : nth (get.set k (j : Int)) = upv (nth get) k j := nth_setv _ _ _ (by rw [HW.out.tl]; exact hkN)
                                  rw [← hnv] at hpu
                                  have hw2 := HW.out.setT k (j : Int)
                                  have hb := belowAlloc (wr.setCell ⟨T, k, none⟩ (.int .i64 (j : Int))) (.cells #[.int .i64 (k : Int)] 3)
                                  have hw3 := hw2.later hb
                                  have hqv : Qv ((wr.setCell ⟨T, k, none⟩ (.int .i64 (j : Int))).alloc (.cells #[.int .i64 (k : Int)] 3)) (.slice (some ⟨qb, off, none⟩) Q.length cap) (qv Q) (some qb) := .inr ⟨qb, off, cap, rfl, by rw [qv_len], hw3.q⟩
                                  have hcu := newCell (wr.setCell ⟨T, k, none⟩ (.int .i64 (j : Int))) (.int .i64 (k : Int)) 3
                                  have hlen : Q.length ≤ 100000 := by have := HW.out.q.le; have := HW.out.q.mx; have := HGM.out; have := HGK.out; omega
                                  have hsz : (wr.setCell ⟨T, k, none⟩ (.int .i64 (j : Int))).heap.size = wr.heap.size := by simp
                                  have HPU := Lib.hid hpu
                                  have HW3 := Lib.hid hw3
                                  have HQV := Lib.hid hqv
                                  have HCU := Lib.hid hcu
                                  have HLE := Lib.hid hlen
                                  have HSZ := Lib.hid hsz
                                  obtain ⟨i0, hi, hz0, hz1, hz2⟩ := info_parts Try.info3
                                  have HII := Lib.hid (And.intro hi (And.intro hz0 (And.intro hz1 hz2)))
                                  clear hpu hnv hw2 hb hw3 hqv hcu hlen hsz hi hz0 hz1 hz2
                                  go_wp2_with fail
                                  refine HOP.out.mono ?_
                                  rintro e w' ⟨rfl, rfl⟩
                                  rw [HO.out]
                                  go_wp2_with (at_builtin; refine wpList_append_q _ rfl _ _ 22 rfl 3 i0 (.int .i64 0) 8 Try.underlying22 HII.out.1 HII.out.2.1 HII.out.2.2.1 HII.out.2.2.2 rfl _ (qv Q) (some qb) rfl HQV.out ⟨wr.heap.size, 0, none⟩ 1 (.int .i64 (k : Int)) rfl (by rw [← HSZ.out]; exact HCU.out) rfl (by rw [qv_len]; have := HLE.out; omega) (by decide) ?_)
                                  intro v' w9 hqn
                                  obtain ⟨qb2, off2, cap2, rfl, hw9⟩ := HW3.out.grow k v' hqn
                                  have HW9 := Lib.hid hw9
                                  clear hqn hw9 HW3 HQV HCU HII q1 q2 c0 c1 c2
                                  go_wp2
                                  first | exact ⟨⟨k + 1, get.set k (j : Int), _, _, Q ++ [k], qb2, off2, cap2, by omega, by go_num, rfl, HW9.out, HPU.out.1, by have e1 := HPU.out.2; have e2 := HGM.out; have e3 := cntN_nn L.N (nth get); have e4 := cntN_nn L.N (nth (get.set k (j : Int))); simp only [List.length_append, List.length_singleton]; omega⟩, by simp [intOf]; omega⟩ | (refine And.intro ?_ (by simp [intOf]; omega); (repeat apply Exists.intro); refine And.intro ?_ rfl; exact ⟨k + 1, get.set k (j : Int), _, _, Q ++ [k], qb2, off2, cap2, by omega, by go_num, rfl, HW9.out, HPU.out.1, by have e1 := HPU.out.2; have e2 := HGM.out; have e3 := cntN_nn L.N (nth get); have e4 := cntN_nn L.N (nth (get.set k (j : Int))); simp only [List.length_append, List.length_singleton]; omega⟩)

end Go.Proofs.Ytjmfjgoehicgcaa
