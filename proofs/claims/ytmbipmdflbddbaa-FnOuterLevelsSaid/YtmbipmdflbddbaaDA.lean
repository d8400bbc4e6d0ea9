/- Orders that are drawn, chances that are drawn. -/
import Derived.Test.YtmbipmdflbddbaaD7
import Derived.Test.YtmbipmdflbddbaaN1
import Derived.Test.YtmbipmdflbddbaaT2
import Derived.Test.YtmbipmdflbddbaaV7
set_option linter.unusedVariables false
set_option linter.unusedSimpArgs false
namespace Go.Proofs.Ytmbipmdflbddbaa
open Go.RowKit

/-- Appending a whole slice, as a step of a region that draws its order. -/
theorem step_appendAll {ops : Array Oper} {o : Oper} {a : Act} {K : Act → World → Prop} {Q : Exit → Act → World → Prop} {E : Prop} (w : World) (hgd : o.guard = none) (s x : Operand)
    (ho : o.op = .call { callee := .builtin .append, args := #[s, x], argTypes := #[22, 22] }) (B : Nat) (v : Value) (xs ps : List Int) (hs : a.eval s = v) (hown : Own B w v xs)
    (b off n c : Nat) (hn : ps.length = n) (hx : a.eval x = .slice (some ⟨b, off, none⟩) n c) (hr : Reads w (some ⟨b, off, none⟩) ps) (hlen : xs.length + n ≤ 1048576) (hB : B ≤ w.heap.size)
    (h : ∀ v' w', Own B w' v' (xs ++ ps) → w.grownBy w' v.ownBlock → Below B w w' → K (a.put o.dst v') w') : if Region.wanted o (yielded ops a.tmps) = true then Oper.wp Try.prog o a w K Q else E := by
  subst hn
  obtain ⟨i0, hi, hz0, hz1, hz2⟩ := info_parts Try.info3
  rw [if_pos (by simp [Region.wanted, hgd])]
  refine wp_append_own w s x 22 ho B 3 i0 (.int .i64 0) 1 8 Try.underlying22 hi hz0 hz1 hz2 rfl (by decide) v xs.length _ hs hown ⟨b, off, none⟩ ps.length c (ps.map (Value.int .i64)) hx (by simp) ?_ (by simp [Value.oneCell']) (by unfold maxLen; omega) (by omega) hB ?_
  · intro j u hj
    rw [List.getElem?_map] at hj
    obtain ⟨y, hy, rfl⟩ := Option.map_eq_some_iff.mp hj
    obtain ⟨hlt, he⟩ := List.getElem?_eq_some_iff.mp hy
    obtain ⟨b', off', e, _, hc⟩ := hr j hlt
    cases e
    rw [nth_eq _ _ hlt, he] at hc
    cases j with
    | zero => simpa [Addr.add] using hc
    | succ j => simpa [Addr.add] using hc
  · intro v' w' h1 h2 _
    refine h v' w' ?_ h2 ((Below.refl _ _).grown h2 hB (fun k hk => (World.ownsRow.lt hown k hk).1))
    unfold Own; simpa using h1

theorem reads_one {w : World} {b : Nat} {x : Int} (h : w.cell? ⟨b, 0, none⟩ = some (.int .i64 x)) : Reads w (some ⟨b, 0, none⟩) [x] := by
  intro k hk
  obtain rfl : k = 0 := by simpa using hk
  exact ⟨b, 0, rfl, World.block_lt_of_cell? _ _ h, h⟩

theorem ReadsK.drop {q : IntKind} {w : World} {b o : Nat} {xs : List Int} (h : ReadsK q w (some ⟨b, o, none⟩) xs) (n : Nat) : ReadsK q w (some ⟨b, o + n, none⟩) (xs.drop n) := by
  intro k hk
  rw [List.length_drop] at hk
  obtain ⟨b', o', e, hlt, hc⟩ := h (n + k) (by omega)
  cases e
  refine ⟨b, o + n, rfl, hlt, ?_⟩
  rw [Nat.add_assoc, hc, nth_eq _ _ (by omega), nth_eq _ _ (by rw [List.length_drop]; omega), List.getElem_drop]

set_option maxHeartbeats 4000000 in
theorem l1Order_any (R P s : Nat) (w : World) (h : Rdr R P w) (hP : P ≤ 90000) (h4 : s ≤ 5) :
    Calls Try.prog 61 #[.pointer (some ⟨R, 0, none⟩), .int .i64 (s : Int)] w (LvDrawn R (P + 8) 8 w) := by
  have hRlt := h.lt
  go_enter Try.func61, Try.ntmps61
  go_wp2
  go_loopw [5, 6] (fun v i wr => ∃ (k g c : Nat) (xs : List Int), k ≤ s ∧ i = .int .i64 (k : Int) ∧ v = .slice (some ⟨g, 0, none⟩) k c ∧ Own w.heap.size wr (.slice (some ⟨g, 0, none⟩) k c) xs ∧ xs.length = k ∧ k ≤ c ∧ Rdr R (P + k) wr ∧ Dr w.heap.size R w wr) (fun _ i _ => s - (intOf i).toNat)
  case atStart => exact ⟨0, w.heap.size, 0, [], Nat.zero_le _, rfl, rfl, Own.made w _ (Nat.le_refl _), rfl, Nat.le_refl _, h.later (belowAlloc _ _), Dr.ofBelow (belowAlloc _ _)⟩
  case round =>
    obtain ⟨k, g, c, xs, hk, rfl, rfl, ho, hl, hkc, hR, hD⟩ := hrel
    have hsz := hD.size
    by_cases hlt : k < s
    · go_wp2_with fail
      refine (pick_any R (P + k) ((k : Int) + 1) wr hR (by omega) (by omega) (by omega)).mono ?_
      rintro e w1 ⟨x, rfl, hx, hR1, hD1⟩
      have ho1 := ho.dr hD1 hRlt
      have hs1 := hD1.size
      have hD2 := hD.then hsz hD1
      clear hR hD1 ho hD h
      have hxk : x ≤ k := by omega
      have hxk2 : (x : Int) ≤ (k : Int) := by omega
      have hx0 : (0 : Int) ≤ (x : Int) := by omega
      go_wp2_with fail
      have hxc : x ≤ c := by omega
      have HD2 := Lib.hid hD2
      have HR1 := Lib.hid hR1
      have hgw : g < w1.heap.size := by
        by_cases hz : 0 < xs.length
        · obtain ⟨_, _, e1, h1, _⟩ := ho1.reads 0 hz
          cases e1; exact h1
        · exact (ho1.blockLt g rfl).2
      obtain ⟨o2, ho2, hdr⟩ : ∃ o2 : Nat, o2 = (if c = x then 0 else x) ∧ Reads w1 (some ⟨g, o2, none⟩) (xs.drop x) := by
        by_cases hcx : c = x
        · refine ⟨_, rfl, ?_⟩
          rw [List.drop_eq_nil_of_le (by omega)]; exact ReadsK.nil _ _ _
        · refine ⟨_, rfl, ?_⟩
          rw [if_neg hcx]
          have := ho1.reads.drop x
          rw [Nat.zero_add] at this; exact this
      have htk := ho1.reads.take x
      have htl : (xs.take x).length = x := by simp; omega
      have hdl : (xs.drop x).length = k - x := by simp; omega
      have HL := Lib.hid (And.intro htl hdl)
      have HTK := Lib.hid htk
      have HDR := Lib.hid hdr
      clear htl hdl htk hdr hD2 hR1 ho1
      have hOA : Own w1.heap.size ((w1.alloc (.cells #[.int .i64 (k : Int)] 3)).alloc (.cells #[] 3)) (.slice (some ⟨w1.heap.size + 1, 0, none⟩) 0 0) [] := by
        have h := Own.made (w1.alloc (.cells #[.int .i64 (k : Int)] 3)) w1.heap.size (by simp)
        rw [show (w1.alloc (.cells #[.int .i64 (k : Int)] 3)).heap.size = w1.heap.size + 1 by simp] at h
        exact h
      have HOA := Lib.hid hOA
      clear hOA
      by_cases hcx : c = x
      · rw [if_pos hcx] at ho2
        subst ho2
        go_region_law (first
          | (refine step_appendAll _ (by rfl) _ _ (by rfl) w1.heap.size _ [] (xs.take x) (by rfl) (Own.made w1 w1.heap.size (Nat.le_refl _)).drew g 0 x _ HL.out.1 (by rfl) ((HTK.out.below (belowAlloc _ _)).drew) (by simp; omega) (by simp; try omega) ?_; intro v2 w2 o2 gr2 b2; (have bb2 : Below w1.heap.size w1 w2 := (belowAlloc w1 _).drew.trans b2))
          | (refine step_appendAll _ (by rfl) _ _ (by rfl) w1.heap.size _ [] (xs.take x) (by rfl) ((Own.made w1 w1.heap.size (Nat.le_refl _)).later (belowAlloc _ _)).drew g 0 x _ HL.out.1 (by rfl) (((HTK.out.below (belowAlloc _ _)).below (belowAlloc _ _)).drew) (by simp; omega) (by simp; try omega) ?_; intro v2 w2 o2 gr2 b2; (have hC2 := cellGrown gr2 (cellDrew (newCell (w1.alloc (.cells #[] 3)) (.int .i64 (k : Int)) 3)) (fun q hq => by cases hq; simp)); (rw [show (w1.alloc (.cells #[] 3)).heap.size = w1.heap.size + 1 by simp] at hC2); (have bb2 : Below w1.heap.size w1 w2 := ((belowAlloc w1 _).thenB (belowAlloc _ _)).drew.trans b2))
          | (refine step_appendAll _ (by rfl) _ _ (by rfl) w1.heap.size _ [] (xs.take x) (by rfl) HOA.out.drew g 0 x _ HL.out.1 (by rfl) (((HTK.out.below (belowAlloc _ _)).below (belowAlloc _ _)).drew) (by simp; omega) (by simp; try omega) ?_; intro v2 w2 o2 gr2 b2; (have hC2 := cellGrown gr2 (cellDrew (cellKeep (belowAlloc _ (.cells #[] 3)) (newCell w1 (.int .i64 (k : Int)) 3))) (fun q hq => by cases hq; simp)); (have bb2 : Below w1.heap.size w1 w2 := ((belowAlloc w1 _).thenB (belowAlloc _ _)).drew.trans b2))
          | (refine step_appendAll _ (by rfl) _ _ (by rfl) w1.heap.size _ _ [(k : Int)] (by rfl) o2 _ 0 1 1 rfl (by rfl) (reads_one hC2) (by simp; omega) (by have := bb2.size; first | omega | (simp; omega)) ?_; intro v3 w3 o3 gr3 b3; (have bb3 := bb2.trans b3))
          | (refine step_appendAll _ (by rfl) _ _ (by rfl) w1.heap.size _ _ [(k : Int)] (by rfl) (o2.later (belowAlloc _ _)) _ 0 1 1 rfl (by rfl) (reads_one (newCell w2 (.int .i64 (k : Int)) 3)) (by simp; omega) (by have := bb2.size; first | omega | (simp; omega)) ?_; intro v3 w3 o3 gr3 b3; (have bb3 := (bb2.trans ((belowAlloc w2 _).mono bb2.size)).trans b3))
          | (refine step_appendAll _ (by rfl) _ _ (by rfl) w1.heap.size _ _ (xs.drop x) (by rfl) o3 g 0 (k - x) _ HL.out.2 (by rfl) (HDR.out.below bb3) (by simp; omega) (by have := bb3.size; omega) ?_; intro v4 w4 o4 gr4 b4))
        all_goals
          have bb4 := bb3.trans b4
          have hlen : ((([] ++ xs.take x) ++ [(k : Int)]) ++ xs.drop x).length = k + 1 := by simp; omega
          obtain ⟨g', c', rfl, hg1, hg2, hg3⟩ := o4.formC (by omega)
          rw [hlen] at o4 hg3 ⊢
          have HO4 := Lib.hid o4
          have HB4 := Lib.hid bb4
          clear o4 bb4 bb3 b4 b3 b2 gr2 gr3 gr4
        all_goals go_wp2
        all_goals exact ⟨⟨k + 1, g', c', _, by omega, by go_num, rfl, HO4.out.mono (by omega), hlen, hg3, (HR1.out.kept HB4.out (by have := HR1.out.lt; omega)).more (by omega), HD2.out.trans (Dr.ofBelow (HB4.out.mono (by omega)))⟩, by simp [intOf]; omega⟩
      · rw [if_neg hcx] at ho2
        replace ho2 := ho2.symm
        subst ho2
        go_region_law (first
          | (refine step_appendAll _ (by rfl) _ _ (by rfl) w1.heap.size _ [] (xs.take x) (by rfl) (Own.made w1 w1.heap.size (Nat.le_refl _)).drew g 0 x _ HL.out.1 (by rfl) ((HTK.out.below (belowAlloc _ _)).drew) (by simp; omega) (by simp; try omega) ?_; intro v2 w2 o2 gr2 b2; (have bb2 : Below w1.heap.size w1 w2 := (belowAlloc w1 _).drew.trans b2))
          | (refine step_appendAll _ (by rfl) _ _ (by rfl) w1.heap.size _ [] (xs.take x) (by rfl) ((Own.made w1 w1.heap.size (Nat.le_refl _)).later (belowAlloc _ _)).drew g 0 x _ HL.out.1 (by rfl) (((HTK.out.below (belowAlloc _ _)).below (belowAlloc _ _)).drew) (by simp; omega) (by simp; try omega) ?_; intro v2 w2 o2 gr2 b2; (have hC2 := cellGrown gr2 (cellDrew (newCell (w1.alloc (.cells #[] 3)) (.int .i64 (k : Int)) 3)) (fun q hq => by cases hq; simp)); (rw [show (w1.alloc (.cells #[] 3)).heap.size = w1.heap.size + 1 by simp] at hC2); (have bb2 : Below w1.heap.size w1 w2 := ((belowAlloc w1 _).thenB (belowAlloc _ _)).drew.trans b2))
          | (refine step_appendAll _ (by rfl) _ _ (by rfl) w1.heap.size _ [] (xs.take x) (by rfl) HOA.out.drew g 0 x _ HL.out.1 (by rfl) (((HTK.out.below (belowAlloc _ _)).below (belowAlloc _ _)).drew) (by simp; omega) (by simp; try omega) ?_; intro v2 w2 o2 gr2 b2; (have hC2 := cellGrown gr2 (cellDrew (cellKeep (belowAlloc _ (.cells #[] 3)) (newCell w1 (.int .i64 (k : Int)) 3))) (fun q hq => by cases hq; simp)); (have bb2 : Below w1.heap.size w1 w2 := ((belowAlloc w1 _).thenB (belowAlloc _ _)).drew.trans b2))
          | (refine step_appendAll _ (by rfl) _ _ (by rfl) w1.heap.size _ _ [(k : Int)] (by rfl) o2 _ 0 1 1 rfl (by rfl) (reads_one hC2) (by simp; omega) (by have := bb2.size; first | omega | (simp; omega)) ?_; intro v3 w3 o3 gr3 b3; (have bb3 := bb2.trans b3))
          | (refine step_appendAll _ (by rfl) _ _ (by rfl) w1.heap.size _ _ [(k : Int)] (by rfl) (o2.later (belowAlloc _ _)) _ 0 1 1 rfl (by rfl) (reads_one (newCell w2 (.int .i64 (k : Int)) 3)) (by simp; omega) (by have := bb2.size; first | omega | (simp; omega)) ?_; intro v3 w3 o3 gr3 b3; (have bb3 := (bb2.trans ((belowAlloc w2 _).mono bb2.size)).trans b3))
          | (refine step_appendAll _ (by rfl) _ _ (by rfl) w1.heap.size _ _ (xs.drop x) (by rfl) o3 g x (k - x) _ HL.out.2 (by rfl) (HDR.out.below bb3) (by simp; omega) (by have := bb3.size; omega) ?_; intro v4 w4 o4 gr4 b4))
        all_goals
          have bb4 := bb3.trans b4
          have hlen : ((([] ++ xs.take x) ++ [(k : Int)]) ++ xs.drop x).length = k + 1 := by simp; omega
          obtain ⟨g', c', rfl, hg1, hg2, hg3⟩ := o4.formC (by omega)
          rw [hlen] at o4 hg3 ⊢
          have HO4 := Lib.hid o4
          have HB4 := Lib.hid bb4
          clear o4 bb4 bb3 b4 b3 b2 gr2 gr3 gr4
        all_goals go_wp2
        all_goals exact ⟨⟨k + 1, g', c', _, by omega, by go_num, rfl, HO4.out.mono (by omega), hlen, hg3, (HR1.out.kept HB4.out (by have := HR1.out.lt; omega)).more (by omega), HD2.out.trans (Dr.ofBelow (HB4.out.mono (by omega)))⟩, by simp [intOf]; omega⟩
    · have hks : k = s := by omega
      subst hks
      go_wp2_with fail
      refine (pick_any R (P + k) 16 wr hR (by omega) (by omega) (by omega)).mono ?_
      rintro e w1 ⟨x, rfl, hx, hR1, hD1⟩
      have ho1 := ho.dr hD1 hRlt
      have hs1 := hD1.size
      have hD' : Dr w.heap.size R w w1 := hD.then hsz hD1
      clear hR hD1 ho hD h hx
      by_cases h0 : x = 0
      · subst h0
        go_wp2_with fail
        refine (num_any R (P + k + 1) _ _ [0, 4, -1] 3 rfl _ (hR1.later (belowAlloc _ _)) (by omega) (reads_lit w1 [0, 4, -1] _) (by intro a ha; cases ha; simp; omega) (by simp) (by simp)).mono ?_
        rintro e w3 ⟨z, hz, rfl, hR3, hD3⟩
        have ho3 := (ho1.later (belowAlloc w1 (.cells #[.int .i64 0, .int .i64 4, .int .i64 (-1)] 3))).dr hD3 hRlt
        have hs3 := hD3.size
        simp at hs3
        have hD2 := (hD'.thenB (by omega) (belowAlloc w1 (.cells #[.int .i64 0, .int .i64 4, .int .i64 (-1)] 3))).then (by simp; omega) hD3
        clear hz hD3 hD' ho1 hR1
        go_wp2_with (at_builtin; refine wpList_append1 _ rfl _ _ rfl w.heap.size _ _ (by rfl) (ho3.later (belowAlloc _ _)) ⟨w3.heap.size, 0, none⟩ 1 z (by rfl) (newCell _ _ _) (by omega) (by simp; omega) ?_; intro v1 w4 ho4 hb4)
        go_ret
        exact ⟨_, _, rfl, by simp; omega, ho4, ((hR3.later (belowAlloc _ _)).kept hb4 hRlt).more (by omega), (hD2.thenB (by omega) (belowAlloc _ _)).trans (Dr.ofBelow hb4)⟩
      · have t0 : ((x : Int) == 0) = false := by simp; omega
        go_wp2
        go_ret
        exact ⟨_, xs, rfl, by omega, ho1, hR1.more (by omega), hD'⟩

theorem l1Order_v (R P : Nat) (n : Int) (w : World) (h : Rdr R P w) (hP : P ≤ 90000) (h0 : 0 ≤ n) (h4 : n ≤ 5) :
    Calls Try.prog 61 #[.pointer (some ⟨R, 0, none⟩), .int .i64 n] w (LvDrawn R (P + 8) 8 w) := by
  obtain ⟨s, rfl⟩ := Int.eq_ofNat_of_zero_le h0
  exact l1Order_any R P s w h hP (by omega)

/-- A mass and a list that are drawn. -/
def OutMsLv (w : World) (e : Ending) (w' : World) : Prop := ∃ (s : Int) (p : Option Addr) (c : Nat) (xs : List Int) (q : Option Addr) (d : Nat) (ts : List Int), e = .returned (.tuple #[.agg #[.int .i64 s, .slice p xs.length c], .slice q ts.length d]) ∧ xs.length ≤ 17 ∧ ts.length ≤ 8 ∧ Reads w' p xs ∧ Reads w' q ts ∧ Below w.heap.size w w'


set_option maxHeartbeats 4000000 in
theorem DrawOuterLevels_any (a0 : Option Addr) (c0 : Nat) (bs : List Int) (w : World) (hx : ReadsK .u8 w a0 bs) (hwf : ∀ n ∈ bs, (Lit.int .u8 n).wf = true) (hl : bs.length ≤ maxLen) (hc : bs.length ≤ c0) :
    Calls Try.prog 18 #[.slice a0 bs.length c0] w (OutMsLv w) := by
  obtain ⟨W, hW⟩ : ∃ W : World, W = w.alloc (.cells #[.int .i64 0, .slice none 0 0] 24) := ⟨_, rfl⟩
  have hsz : W.heap.size = w.heap.size + 1 := by subst hW; simp
  have hbW : Below w.heap.size w W := by subst hW; exact belowAlloc _ _
  have hV : VarInv W w.heap.size 0 (.slice none 0 0) := by subst hW; exact VarInv.made _ _ _ _
  have hxW := hx.below hbW
  have HSZ := Lib.hid hsz
  have HW := Lib.hid hW
  clear hW hsz hx
  have HO := Lib.hid (l14Open_any a0 c0 bs W hxW hwf hl hc)
  unfold maxLen at hl
  clear hxW hwf
  go_enter Try.func18, Try.ntmps18
  go_wp2_with fail
  rw [← HW.out]
  refine HO.out.mono ?_
  rintro e w1 ⟨rfl, hR1, b1⟩
  clear HO
  have hV1 := hV.later b1
  have bb1 := hbW.thenB b1
  have z1 := b1.size
  obtain ⟨R, hRe⟩ : ∃ R, R = W.heap.size := ⟨_, rfl⟩
  rw [← hRe] at hR1 ⊢
  have HR := Lib.hid hRe
  clear hRe hV hbW b1 hc
  have hRlt := hR1.lt
  go_wp2_with fail
  refine (l3Open_any R 0 w1 hR1 (by omega)).mono ?_
  rintro e w2 ⟨s, v, xs, rfl, hxl, hO2, hR2, hD2⟩
  obtain ⟨p, c, rfl, _hr⟩ := hO2.shape
  have hV2 := hV1.drB hD2 (by have := HSZ.out; omega) (by have := HR.out; have := HSZ.out; omega)
  have bb2 := bb1.trans ((hD2.mono (show w.heap.size ≤ w1.heap.size by have := HSZ.out; omega)).below (by have := HR.out; have := HSZ.out; omega))
  have z2 := hD2.size
  have b3 := belowAlloc w2 (.cells #[.int .i64 s, .slice p xs.length c] 24)
  have hM3 := VarInv.made w2 s (.slice p xs.length c) 24
  have hV3 := hV2.later b3
  have hR3 := hR2.later b3
  have bb3 := bb2.thenB b3
  have hO3 := hO2.later b3
  have z3 : w2.heap.size + 1 ≤ (w2.alloc (.cells #[.int .i64 s, .slice p xs.length c] 24)).heap.size := by simp
  have hBR : w2.heap.size ≠ R := by have := hR2.lt; omega
  clear _hr hV1 hD2 hR1 bb1 hO2 hV2 hR2 bb2 b3
  go_wp2_with fail
  generalize w2.alloc (.cells #[.int .i64 s, .slice p xs.length c] 24) = w3 at *
  refine (pick_any R 23 3 w3 hR3 (by omega) (by omega) (by omega)).mono ?_
  rintro e w4 ⟨x, rfl, hx, hR, hD4⟩
  have hV := hV3.drB hD4 (by have := HSZ.out; omega) (by have := HR.out; have := HSZ.out; omega)
  have bb := bb3.trans ((hD4.mono (show w.heap.size ≤ w3.heap.size by have := HSZ.out; omega)).below (by have := HR.out; have := HSZ.out; omega))
  have hM := hM3.drB hD4 (by omega) hBR
  have hO := hO3.dr hD4 hRlt
  have z4 := hD4.size
  clear hV3 bb3 hM3 hO3 hR3 hD4

  by_cases h0 : x = 0
  · subst h0
    have hOx := Lib.hid hO.drew
    clear hO
    rcases (show s < 0 ∨ (0 ≤ s ∧ s ≤ 5) ∨ 5 < s by omega) with hs | ⟨hs, hs2⟩ | hs
    · have h1 : (s < 0) = True := by simp; omega
      have hn0 : (0 : Int) ≤ 0 := by omega
      have hn5 : (0 : Int) ≤ 5 := by omega
      clear hs
      go_wp2_with fail
      replace hM := hM.drew
      replace hV := hV.drew
      replace hR := hR.drew
      replace bb := drewAll bb
      have m0 := hM.c0
      have m1 := hM.c1
      have s0 := hV.c0
      have s1 := hV.c1
      have s2 := hV.f0
      have s3 := hV.f1
      have tk : True := trivial
      have zz : w4.drew.heap.size = w4.heap.size := rfl
      go_region_held3 (fun w' => w'.cell? ⟨w2.heap.size, 0, none⟩ = some (.int .i64 s) ∧ w'.cell? ⟨w2.heap.size, 1, none⟩ = some (.slice p xs.length c))
        (first | exact ⟨m0, m1⟩ | (refine ⟨cellStore2 m0 ?_, cellStore2 m1 ?_⟩ <;> (have := HSZ.out; omega)))
        (first
          | (go_at_call 61; have _t := tk; (with_reducible refine (l1Order_v R 24 0 _ hR (by omega) hn0 hn5).mono ?_); rintro e w9 ⟨v, ts, rfl, htl, hOt, hR9, hD9⟩; (have hM9 := hM.drB hD9 hM.lt hBR); (have hV9 := hV.drB hD9 (by have := HSZ.out; omega) (by have := HR.out; have := HSZ.out; omega)); (have hO9 := hOx.out.dr hD9 hRlt); (have bb9 := bb.trans ((hD9.mono (show w.heap.size ≤ w4.drew.heap.size by have := HSZ.out; omega)).below (by have := HR.out; have := HSZ.out; omega))); (have z9 := hD9.size); obtain ⟨q, d, rfl, hq⟩ := hOt.shape; clear m0 m1 s0 s1 s2 s3; (have m0 := hM9.c0); (have m1 := hM9.c1); (have s0 := hV9.c0); (have s1 := hV9.c1); (have s2 := hV9.f0); (have s3 := hV9.f1); clear hM hV hR bb hD9 hR9 tk _t))
      all_goals go_wp2
      all_goals refine bodyPost_ret (v := .tuple #[.agg #[.int .i64 s, .slice p xs.length c], .slice q ts.length d]) (by simp [results, Try.results18, go_sem, s0, s1, s2, s3]) rfl ⟨s, p, c, xs, q, d, ts, rfl, by omega, htl, ?_, ?_, ?_⟩
      · exact ((hO9.setBelow (by show w.heap.size < _; have := HSZ.out; omega) _).setBelow (by show w.heap.size < _; have := HSZ.out; omega) _).reads
      · exact ((hOt.setBelow (by show w.heap.size < _; have := HSZ.out; omega) _).setBelow (by show w.heap.size < _; have := HSZ.out; omega) _).reads
      · exact (bb9.setCell (Nat.le_refl _) _).setCell (Nat.le_refl _) _
    · have h1 : (s < 0) = False := by simp; omega
      have h2 : ((5 : Int) < s) = False := by simp; omega
      have hn0 := Lib.hid hs
      have hn5 := Lib.hid hs2
      clear hs hs2
      go_wp2_with fail
      replace hM := hM.drew
      replace hV := hV.drew
      replace hR := hR.drew
      replace bb := drewAll bb
      have m0 := hM.c0
      have m1 := hM.c1
      have s0 := hV.c0
      have s1 := hV.c1
      have s2 := hV.f0
      have s3 := hV.f1
      have tk : True := trivial
      have zz : w4.drew.heap.size = w4.heap.size := rfl
      go_region_held3 (fun w' => w'.cell? ⟨w2.heap.size, 0, none⟩ = some (.int .i64 s) ∧ w'.cell? ⟨w2.heap.size, 1, none⟩ = some (.slice p xs.length c))
        (first | exact ⟨m0, m1⟩ | (refine ⟨cellStore2 m0 ?_, cellStore2 m1 ?_⟩ <;> (have := HSZ.out; omega)))
        (first
          | (go_at_call 61; have _t := tk; (with_reducible refine (l1Order_v R 24 s _ hR (by omega) hn0.out hn5.out).mono ?_); rintro e w9 ⟨v, ts, rfl, htl, hOt, hR9, hD9⟩; (have hM9 := hM.drB hD9 hM.lt hBR); (have hV9 := hV.drB hD9 (by have := HSZ.out; omega) (by have := HR.out; have := HSZ.out; omega)); (have hO9 := hOx.out.dr hD9 hRlt); (have bb9 := bb.trans ((hD9.mono (show w.heap.size ≤ w4.drew.heap.size by have := HSZ.out; omega)).below (by have := HR.out; have := HSZ.out; omega))); (have z9 := hD9.size); obtain ⟨q, d, rfl, hq⟩ := hOt.shape; clear m0 m1 s0 s1 s2 s3; (have m0 := hM9.c0); (have m1 := hM9.c1); (have s0 := hV9.c0); (have s1 := hV9.c1); (have s2 := hV9.f0); (have s3 := hV9.f1); clear hM hV hR bb hD9 hR9 tk _t))
      all_goals go_wp2
      all_goals refine bodyPost_ret (v := .tuple #[.agg #[.int .i64 s, .slice p xs.length c], .slice q ts.length d]) (by simp [results, Try.results18, go_sem, s0, s1, s2, s3]) rfl ⟨s, p, c, xs, q, d, ts, rfl, by omega, htl, ?_, ?_, ?_⟩
      · exact ((hO9.setBelow (by show w.heap.size < _; have := HSZ.out; omega) _).setBelow (by show w.heap.size < _; have := HSZ.out; omega) _).reads
      · exact ((hOt.setBelow (by show w.heap.size < _; have := HSZ.out; omega) _).setBelow (by show w.heap.size < _; have := HSZ.out; omega) _).reads
      · exact (bb9.setCell (Nat.le_refl _) _).setCell (Nat.le_refl _) _
    · have h1 : (s < 0) = False := by simp; omega
      have h2 : ((5 : Int) < s) = True := by simp; omega
      have hn0 : (0 : Int) ≤ 5 := by omega
      have hn5 : (5 : Int) ≤ 5 := by omega
      clear hs
      go_wp2_with fail
      replace hM := hM.drew
      replace hV := hV.drew
      replace hR := hR.drew
      replace bb := drewAll bb
      have m0 := hM.c0
      have m1 := hM.c1
      have s0 := hV.c0
      have s1 := hV.c1
      have s2 := hV.f0
      have s3 := hV.f1
      have tk : True := trivial
      have zz : w4.drew.heap.size = w4.heap.size := rfl
      go_region_held3 (fun w' => w'.cell? ⟨w2.heap.size, 0, none⟩ = some (.int .i64 s) ∧ w'.cell? ⟨w2.heap.size, 1, none⟩ = some (.slice p xs.length c))
        (first | exact ⟨m0, m1⟩ | (refine ⟨cellStore2 m0 ?_, cellStore2 m1 ?_⟩ <;> (have := HSZ.out; omega)))
        (first
          | (go_at_call 61; have _t := tk; (with_reducible refine (l1Order_v R 24 5 _ hR (by omega) hn0 hn5).mono ?_); rintro e w9 ⟨v, ts, rfl, htl, hOt, hR9, hD9⟩; (have hM9 := hM.drB hD9 hM.lt hBR); (have hV9 := hV.drB hD9 (by have := HSZ.out; omega) (by have := HR.out; have := HSZ.out; omega)); (have hO9 := hOx.out.dr hD9 hRlt); (have bb9 := bb.trans ((hD9.mono (show w.heap.size ≤ w4.drew.heap.size by have := HSZ.out; omega)).below (by have := HR.out; have := HSZ.out; omega))); (have z9 := hD9.size); obtain ⟨q, d, rfl, hq⟩ := hOt.shape; clear m0 m1 s0 s1 s2 s3; (have m0 := hM9.c0); (have m1 := hM9.c1); (have s0 := hV9.c0); (have s1 := hV9.c1); (have s2 := hV9.f0); (have s3 := hV9.f1); clear hM hV hR bb hD9 hR9 tk _t))
      all_goals go_wp2
      all_goals refine bodyPost_ret (v := .tuple #[.agg #[.int .i64 s, .slice p xs.length c], .slice q ts.length d]) (by simp [results, Try.results18, go_sem, s0, s1, s2, s3]) rfl ⟨s, p, c, xs, q, d, ts, rfl, by omega, htl, ?_, ?_, ?_⟩
      · exact ((hO9.setBelow (by show w.heap.size < _; have := HSZ.out; omega) _).setBelow (by show w.heap.size < _; have := HSZ.out; omega) _).reads
      · exact ((hOt.setBelow (by show w.heap.size < _; have := HSZ.out; omega) _).setBelow (by show w.heap.size < _; have := HSZ.out; omega) _).reads
      · exact (bb9.setCell (Nat.le_refl _) _).setCell (Nat.le_refl _) _
  · have hx1 : (0 : Int) < (x : Int) := by omega
    have m0 := hM.c0
    have m1 := hM.c1
    go_wp2_with fail
    refine (sNormalMass_any s p c xs w4 hO.reads (by omega)).mono ?_
    rintro e w5 ⟨v, rfl, hO5, b5⟩
    have hNl := nmR_len s xs (by omega)
    obtain ⟨K, hK⟩ : ∃ K, K = gL (massB s xs) s (nonP xs) := ⟨_, rfl⟩
    obtain ⟨S, hS⟩ : ∃ S, S = gS (massB s xs) s (nonP xs) := ⟨_, rfl⟩
    obtain ⟨G, hG⟩ : ∃ G, G = gOk (massB s xs) s (nonP xs) := ⟨_, rfl⟩
    rw [← hK] at hO5 hNl
    rw [← hS, ← hG]
    clear hK hS hG m0 m1
    obtain ⟨p5, c5, rfl, _h5⟩ := hO5.shape
    replace hV := hV.later b5
    replace hM := hM.later b5
    replace hR := hR.later b5
    replace hO := hO.later b5
    replace bb := bb.thenB b5
    have z5 := b5.size
    have hM5 := hM
    have hV5 := hV
    have hR5 := hR
    have bb5 := bb
    have hO5c := hO5
    have b6 := belowAlloc w5 (.cells #[.int .i64 S, .slice p5 K.length c5] 24)
    have hN6 := VarInv.made w5 S (.slice p5 K.length c5) 24
    replace hV := hV.later b6
    replace hM := hM.later b6
    replace hR := hR.later b6
    replace hO := hO.later b6
    replace bb := bb.thenB b6
    have hO6 := hO5.later b6
    have z6 : w5.heap.size + 1 ≤ (w5.alloc (.cells #[.int .i64 S, .slice p5 K.length c5] 24)).heap.size := by simp
    have lt2 : w2.heap.size < w5.heap.size := by omega
    clear b5 b6 hO5 _h5
    cases G
    · go_wp2_with fail
      generalize w5.alloc (.cells #[.int .i64 S, .slice p5 K.length c5] 24) = w6 at *
      clear hN6 hO6 hM5 hV5 hR5 bb5 hO5c
      have hOx := Lib.hid hO.drew
      clear hO
      rcases (show s < 0 ∨ (0 ≤ s ∧ s ≤ 5) ∨ 5 < s by omega) with hs | ⟨hs, hs2⟩ | hs
      · have h1 : (s < 0) = True := by simp; omega
        have hn0 : (0 : Int) ≤ 0 := by omega
        have hn5 : (0 : Int) ≤ 5 := by omega
        clear hs
        go_wp2_with fail
        replace hM := hM.drew
        replace hV := hV.drew
        replace hR := hR.drew
        replace bb := drewAll bb
        have m0 := hM.c0
        have m1 := hM.c1
        have s0 := hV.c0
        have s1 := hV.c1
        have s2 := hV.f0
        have s3 := hV.f1
        have tk : True := trivial
        have zz : w6.drew.heap.size = w6.heap.size := rfl
        go_region_held3 (fun w' => w'.cell? ⟨w2.heap.size, 0, none⟩ = some (.int .i64 s) ∧ w'.cell? ⟨w2.heap.size, 1, none⟩ = some (.slice p xs.length c))
          (first | exact ⟨m0, m1⟩ | (refine ⟨cellStore2 m0 ?_, cellStore2 m1 ?_⟩ <;> (have := HSZ.out; omega)))
          (first
            | (go_at_call 61; have _t := tk; (with_reducible refine (l1Order_v R 24 0 _ hR (by omega) hn0 hn5).mono ?_); rintro e w9 ⟨v, ts, rfl, htl, hOt, hR9, hD9⟩; (have hM9 := hM.drB hD9 hM.lt hBR); (have hV9 := hV.drB hD9 (by have := HSZ.out; omega) (by have := HR.out; have := HSZ.out; omega)); (have hO9 := hOx.out.dr hD9 hRlt); (have bb9 := bb.trans ((hD9.mono (show w.heap.size ≤ w6.drew.heap.size by have := HSZ.out; omega)).below (by have := HR.out; have := HSZ.out; omega))); (have z9 := hD9.size); obtain ⟨q, d, rfl, hq⟩ := hOt.shape; clear m0 m1 s0 s1 s2 s3; (have m0 := hM9.c0); (have m1 := hM9.c1); (have s0 := hV9.c0); (have s1 := hV9.c1); (have s2 := hV9.f0); (have s3 := hV9.f1); clear hM hV hR bb hD9 hR9 tk _t))
        all_goals go_wp2
        all_goals refine bodyPost_ret (v := .tuple #[.agg #[.int .i64 s, .slice p xs.length c], .slice q ts.length d]) (by simp [results, Try.results18, go_sem, s0, s1, s2, s3]) rfl ⟨s, p, c, xs, q, d, ts, rfl, by omega, htl, ?_, ?_, ?_⟩
        · exact ((hO9.setBelow (by show w.heap.size < _; have := HSZ.out; omega) _).setBelow (by show w.heap.size < _; have := HSZ.out; omega) _).reads
        · exact ((hOt.setBelow (by show w.heap.size < _; have := HSZ.out; omega) _).setBelow (by show w.heap.size < _; have := HSZ.out; omega) _).reads
        · exact (bb9.setCell (Nat.le_refl _) _).setCell (Nat.le_refl _) _
      · have h1 : (s < 0) = False := by simp; omega
        have h2 : ((5 : Int) < s) = False := by simp; omega
        have hn0 := Lib.hid hs
        have hn5 := Lib.hid hs2
        clear hs hs2
        go_wp2_with fail
        replace hM := hM.drew
        replace hV := hV.drew
        replace hR := hR.drew
        replace bb := drewAll bb
        have m0 := hM.c0
        have m1 := hM.c1
        have s0 := hV.c0
        have s1 := hV.c1
        have s2 := hV.f0
        have s3 := hV.f1
        have tk : True := trivial
        have zz : w6.drew.heap.size = w6.heap.size := rfl
        go_region_held3 (fun w' => w'.cell? ⟨w2.heap.size, 0, none⟩ = some (.int .i64 s) ∧ w'.cell? ⟨w2.heap.size, 1, none⟩ = some (.slice p xs.length c))
          (first | exact ⟨m0, m1⟩ | (refine ⟨cellStore2 m0 ?_, cellStore2 m1 ?_⟩ <;> (have := HSZ.out; omega)))
          (first
            | (go_at_call 61; have _t := tk; (with_reducible refine (l1Order_v R 24 s _ hR (by omega) hn0.out hn5.out).mono ?_); rintro e w9 ⟨v, ts, rfl, htl, hOt, hR9, hD9⟩; (have hM9 := hM.drB hD9 hM.lt hBR); (have hV9 := hV.drB hD9 (by have := HSZ.out; omega) (by have := HR.out; have := HSZ.out; omega)); (have hO9 := hOx.out.dr hD9 hRlt); (have bb9 := bb.trans ((hD9.mono (show w.heap.size ≤ w6.drew.heap.size by have := HSZ.out; omega)).below (by have := HR.out; have := HSZ.out; omega))); (have z9 := hD9.size); obtain ⟨q, d, rfl, hq⟩ := hOt.shape; clear m0 m1 s0 s1 s2 s3; (have m0 := hM9.c0); (have m1 := hM9.c1); (have s0 := hV9.c0); (have s1 := hV9.c1); (have s2 := hV9.f0); (have s3 := hV9.f1); clear hM hV hR bb hD9 hR9 tk _t))
        all_goals go_wp2
        all_goals refine bodyPost_ret (v := .tuple #[.agg #[.int .i64 s, .slice p xs.length c], .slice q ts.length d]) (by simp [results, Try.results18, go_sem, s0, s1, s2, s3]) rfl ⟨s, p, c, xs, q, d, ts, rfl, by omega, htl, ?_, ?_, ?_⟩
        · exact ((hO9.setBelow (by show w.heap.size < _; have := HSZ.out; omega) _).setBelow (by show w.heap.size < _; have := HSZ.out; omega) _).reads
        · exact ((hOt.setBelow (by show w.heap.size < _; have := HSZ.out; omega) _).setBelow (by show w.heap.size < _; have := HSZ.out; omega) _).reads
        · exact (bb9.setCell (Nat.le_refl _) _).setCell (Nat.le_refl _) _
      · have h1 : (s < 0) = False := by simp; omega
        have h2 : ((5 : Int) < s) = True := by simp; omega
        have hn0 : (0 : Int) ≤ 5 := by omega
        have hn5 : (5 : Int) ≤ 5 := by omega
        clear hs
        go_wp2_with fail
        replace hM := hM.drew
        replace hV := hV.drew
        replace hR := hR.drew
        replace bb := drewAll bb
        have m0 := hM.c0
        have m1 := hM.c1
        have s0 := hV.c0
        have s1 := hV.c1
        have s2 := hV.f0
        have s3 := hV.f1
        have tk : True := trivial
        have zz : w6.drew.heap.size = w6.heap.size := rfl
        go_region_held3 (fun w' => w'.cell? ⟨w2.heap.size, 0, none⟩ = some (.int .i64 s) ∧ w'.cell? ⟨w2.heap.size, 1, none⟩ = some (.slice p xs.length c))
          (first | exact ⟨m0, m1⟩ | (refine ⟨cellStore2 m0 ?_, cellStore2 m1 ?_⟩ <;> (have := HSZ.out; omega)))
          (first
            | (go_at_call 61; have _t := tk; (with_reducible refine (l1Order_v R 24 5 _ hR (by omega) hn0 hn5).mono ?_); rintro e w9 ⟨v, ts, rfl, htl, hOt, hR9, hD9⟩; (have hM9 := hM.drB hD9 hM.lt hBR); (have hV9 := hV.drB hD9 (by have := HSZ.out; omega) (by have := HR.out; have := HSZ.out; omega)); (have hO9 := hOx.out.dr hD9 hRlt); (have bb9 := bb.trans ((hD9.mono (show w.heap.size ≤ w6.drew.heap.size by have := HSZ.out; omega)).below (by have := HR.out; have := HSZ.out; omega))); (have z9 := hD9.size); obtain ⟨q, d, rfl, hq⟩ := hOt.shape; clear m0 m1 s0 s1 s2 s3; (have m0 := hM9.c0); (have m1 := hM9.c1); (have s0 := hV9.c0); (have s1 := hV9.c1); (have s2 := hV9.f0); (have s3 := hV9.f1); clear hM hV hR bb hD9 hR9 tk _t))
        all_goals go_wp2
        all_goals refine bodyPost_ret (v := .tuple #[.agg #[.int .i64 s, .slice p xs.length c], .slice q ts.length d]) (by simp [results, Try.results18, go_sem, s0, s1, s2, s3]) rfl ⟨s, p, c, xs, q, d, ts, rfl, by omega, htl, ?_, ?_, ?_⟩
        · exact ((hO9.setBelow (by show w.heap.size < _; have := HSZ.out; omega) _).setBelow (by show w.heap.size < _; have := HSZ.out; omega) _).reads
        · exact ((hOt.setBelow (by show w.heap.size < _; have := HSZ.out; omega) _).setBelow (by show w.heap.size < _; have := HSZ.out; omega) _).reads
        · exact (bb9.setCell (Nat.le_refl _) _).setCell (Nat.le_refl _) _
    · have n0 := hN6.c0
      have n1 := hN6.c1
      have m0 := hM5.c0
      have m1 := hM5.c1
      have m2 := hM5.f0
      have m3 := hM5.f1
      go_wp2_with fail
      clear n0 n1 m0 m1 m2 m3 hO hN6 hM hV hR bb hO6
      have hM6 := hM5.two S (.slice p5 K.length c5)
      have hV6 := hV5.other2 w2.heap.size (by have := HSZ.out; omega) (.int .i64 S) (.slice p5 K.length c5)
      have hR6 := (hR5.setCell ⟨w2.heap.size, 0, none⟩ (by show R < w2.heap.size; omega) (.int .i64 S)).setCell ⟨w2.heap.size, 1, none⟩ (by show R < w2.heap.size; omega) (.slice p5 K.length c5)
      have bb6 := (bb5.setCell (p := ⟨w2.heap.size, 0, none⟩) (by show _ ≤ w2.heap.size; have := HSZ.out; omega) (.int .i64 S)).setCell (p := ⟨w2.heap.size, 1, none⟩) (by show _ ≤ w2.heap.size; have := HSZ.out; omega) (.slice p5 K.length c5)
      have hO6 := ((hO5c.setBelow (a := ⟨w2.heap.size, 0, none⟩) (by show w2.heap.size < w4.heap.size; omega) (.int .i64 S)).setBelow (a := ⟨w2.heap.size, 1, none⟩) (by show w2.heap.size < w4.heap.size; omega) (.slice p5 K.length c5)).mono (show w1.heap.size ≤ w4.heap.size by omega)
      have z7 : w5.heap.size ≤ ((w5.setCell ⟨w2.heap.size, 0, none⟩ (.int .i64 S)).setCell ⟨w2.heap.size, 1, none⟩ (.slice p5 K.length c5)).heap.size := by simp
      clear hM5 hV5 hR5 bb5 hO5c
      generalize (w5.setCell ⟨w2.heap.size, 0, none⟩ (.int .i64 S)).setCell ⟨w2.heap.size, 1, none⟩ (.slice p5 K.length c5) = w6 at *
      have b7 := belowAlloc w6 (.cells #[.int .i64 S, .slice p5 K.length c5] 24)
      have hM := hM6.later b7
      have hV := hV6.later b7
      have hR := hR6.later b7
      have bb := bb6.thenB b7
      have hO := hO6.later b7
      have z8 : w6.heap.size + 1 ≤ (w6.alloc (.cells #[.int .i64 S, .slice p5 K.length c5] 24)).heap.size := by simp
      clear hM6 hV6 hR6 bb6 hO6 b7
      generalize w6.alloc (.cells #[.int .i64 S, .slice p5 K.length c5] 24) = w7 at *
      have hOx := Lib.hid hO.drew
      clear hO
      rcases (show S < 0 ∨ (0 ≤ S ∧ S ≤ 5) ∨ 5 < S by omega) with hs | ⟨hs, hs2⟩ | hs
      · have h1 : (S < 0) = True := by simp; omega
        have hn0 : (0 : Int) ≤ 0 := by omega
        have hn5 : (0 : Int) ≤ 5 := by omega
        clear hs
        go_wp2_with fail
        replace hM := hM.drew
        replace hV := hV.drew
        replace hR := hR.drew
        replace bb := drewAll bb
        have m0 := hM.c0
        have m1 := hM.c1
        have s0 := hV.c0
        have s1 := hV.c1
        have s2 := hV.f0
        have s3 := hV.f1
        have tk : True := trivial
        have zz : w7.drew.heap.size = w7.heap.size := rfl
        go_region_held3 (fun w' => w'.cell? ⟨w2.heap.size, 0, none⟩ = some (.int .i64 S) ∧ w'.cell? ⟨w2.heap.size, 1, none⟩ = some (.slice p5 K.length c5))
          (first | exact ⟨m0, m1⟩ | (refine ⟨cellStore2 m0 ?_, cellStore2 m1 ?_⟩ <;> (have := HSZ.out; omega)))
          (first
            | (go_at_call 61; have _t := tk; (with_reducible refine (l1Order_v R 24 0 _ hR (by omega) hn0 hn5).mono ?_); rintro e w9 ⟨v, ts, rfl, htl, hOt, hR9, hD9⟩; (have hM9 := hM.drB hD9 hM.lt hBR); (have hV9 := hV.drB hD9 (by have := HSZ.out; omega) (by have := HR.out; have := HSZ.out; omega)); (have hO9 := hOx.out.dr hD9 hRlt); (have bb9 := bb.trans ((hD9.mono (show w.heap.size ≤ w7.drew.heap.size by have := HSZ.out; omega)).below (by have := HR.out; have := HSZ.out; omega))); (have z9 := hD9.size); obtain ⟨q, d, rfl, hq⟩ := hOt.shape; clear m0 m1 s0 s1 s2 s3; (have m0 := hM9.c0); (have m1 := hM9.c1); (have s0 := hV9.c0); (have s1 := hV9.c1); (have s2 := hV9.f0); (have s3 := hV9.f1); clear hM hV hR bb hD9 hR9 tk _t))
        all_goals go_wp2
        all_goals refine bodyPost_ret (v := .tuple #[.agg #[.int .i64 S, .slice p5 K.length c5], .slice q ts.length d]) (by simp [results, Try.results18, go_sem, s0, s1, s2, s3]) rfl ⟨S, p5, c5, K, q, d, ts, rfl, by omega, htl, ?_, ?_, ?_⟩
        · exact ((hO9.setBelow (by show w.heap.size < _; have := HSZ.out; omega) _).setBelow (by show w.heap.size < _; have := HSZ.out; omega) _).reads
        · exact ((hOt.setBelow (by show w.heap.size < _; have := HSZ.out; omega) _).setBelow (by show w.heap.size < _; have := HSZ.out; omega) _).reads
        · exact (bb9.setCell (Nat.le_refl _) _).setCell (Nat.le_refl _) _
      · have h1 : (S < 0) = False := by simp; omega
        have h2 : ((5 : Int) < S) = False := by simp; omega
        have hn0 := Lib.hid hs
        have hn5 := Lib.hid hs2
        clear hs hs2
        go_wp2_with fail
        replace hM := hM.drew
        replace hV := hV.drew
        replace hR := hR.drew
        replace bb := drewAll bb
        have m0 := hM.c0
        have m1 := hM.c1
        have s0 := hV.c0
        have s1 := hV.c1
        have s2 := hV.f0
        have s3 := hV.f1
        have tk : True := trivial
        have zz : w7.drew.heap.size = w7.heap.size := rfl
        go_region_held3 (fun w' => w'.cell? ⟨w2.heap.size, 0, none⟩ = some (.int .i64 S) ∧ w'.cell? ⟨w2.heap.size, 1, none⟩ = some (.slice p5 K.length c5))
          (first | exact ⟨m0, m1⟩ | (refine ⟨cellStore2 m0 ?_, cellStore2 m1 ?_⟩ <;> (have := HSZ.out; omega)))
          (first
            | (go_at_call 61; have _t := tk; (with_reducible refine (l1Order_v R 24 S _ hR (by omega) hn0.out hn5.out).mono ?_); rintro e w9 ⟨v, ts, rfl, htl, hOt, hR9, hD9⟩; (have hM9 := hM.drB hD9 hM.lt hBR); (have hV9 := hV.drB hD9 (by have := HSZ.out; omega) (by have := HR.out; have := HSZ.out; omega)); (have hO9 := hOx.out.dr hD9 hRlt); (have bb9 := bb.trans ((hD9.mono (show w.heap.size ≤ w7.drew.heap.size by have := HSZ.out; omega)).below (by have := HR.out; have := HSZ.out; omega))); (have z9 := hD9.size); obtain ⟨q, d, rfl, hq⟩ := hOt.shape; clear m0 m1 s0 s1 s2 s3; (have m0 := hM9.c0); (have m1 := hM9.c1); (have s0 := hV9.c0); (have s1 := hV9.c1); (have s2 := hV9.f0); (have s3 := hV9.f1); clear hM hV hR bb hD9 hR9 tk _t))
        all_goals go_wp2
        all_goals refine bodyPost_ret (v := .tuple #[.agg #[.int .i64 S, .slice p5 K.length c5], .slice q ts.length d]) (by simp [results, Try.results18, go_sem, s0, s1, s2, s3]) rfl ⟨S, p5, c5, K, q, d, ts, rfl, by omega, htl, ?_, ?_, ?_⟩
        · exact ((hO9.setBelow (by show w.heap.size < _; have := HSZ.out; omega) _).setBelow (by show w.heap.size < _; have := HSZ.out; omega) _).reads
        · exact ((hOt.setBelow (by show w.heap.size < _; have := HSZ.out; omega) _).setBelow (by show w.heap.size < _; have := HSZ.out; omega) _).reads
        · exact (bb9.setCell (Nat.le_refl _) _).setCell (Nat.le_refl _) _
      · have h1 : (S < 0) = False := by simp; omega
        have h2 : ((5 : Int) < S) = True := by simp; omega
        have hn0 : (0 : Int) ≤ 5 := by omega
        have hn5 : (5 : Int) ≤ 5 := by omega
        clear hs
        go_wp2_with fail
        replace hM := hM.drew
        replace hV := hV.drew
        replace hR := hR.drew
        replace bb := drewAll bb
        have m0 := hM.c0
        have m1 := hM.c1
        have s0 := hV.c0
        have s1 := hV.c1
        have s2 := hV.f0
        have s3 := hV.f1
        have tk : True := trivial
        have zz : w7.drew.heap.size = w7.heap.size := rfl
        go_region_held3 (fun w' => w'.cell? ⟨w2.heap.size, 0, none⟩ = some (.int .i64 S) ∧ w'.cell? ⟨w2.heap.size, 1, none⟩ = some (.slice p5 K.length c5))
          (first | exact ⟨m0, m1⟩ | (refine ⟨cellStore2 m0 ?_, cellStore2 m1 ?_⟩ <;> (have := HSZ.out; omega)))
          (first
            | (go_at_call 61; have _t := tk; (with_reducible refine (l1Order_v R 24 5 _ hR (by omega) hn0 hn5).mono ?_); rintro e w9 ⟨v, ts, rfl, htl, hOt, hR9, hD9⟩; (have hM9 := hM.drB hD9 hM.lt hBR); (have hV9 := hV.drB hD9 (by have := HSZ.out; omega) (by have := HR.out; have := HSZ.out; omega)); (have hO9 := hOx.out.dr hD9 hRlt); (have bb9 := bb.trans ((hD9.mono (show w.heap.size ≤ w7.drew.heap.size by have := HSZ.out; omega)).below (by have := HR.out; have := HSZ.out; omega))); (have z9 := hD9.size); obtain ⟨q, d, rfl, hq⟩ := hOt.shape; clear m0 m1 s0 s1 s2 s3; (have m0 := hM9.c0); (have m1 := hM9.c1); (have s0 := hV9.c0); (have s1 := hV9.c1); (have s2 := hV9.f0); (have s3 := hV9.f1); clear hM hV hR bb hD9 hR9 tk _t))
        all_goals go_wp2
        all_goals refine bodyPost_ret (v := .tuple #[.agg #[.int .i64 S, .slice p5 K.length c5], .slice q ts.length d]) (by simp [results, Try.results18, go_sem, s0, s1, s2, s3]) rfl ⟨S, p5, c5, K, q, d, ts, rfl, by omega, htl, ?_, ?_, ?_⟩
        · exact ((hO9.setBelow (by show w.heap.size < _; have := HSZ.out; omega) _).setBelow (by show w.heap.size < _; have := HSZ.out; omega) _).reads
        · exact ((hOt.setBelow (by show w.heap.size < _; have := HSZ.out; omega) _).setBelow (by show w.heap.size < _; have := HSZ.out; omega) _).reads
        · exact (bb9.setCell (Nat.le_refl _) _).setCell (Nat.le_refl _) _
end Go.Proofs.Ytmbipmdflbddbaa
