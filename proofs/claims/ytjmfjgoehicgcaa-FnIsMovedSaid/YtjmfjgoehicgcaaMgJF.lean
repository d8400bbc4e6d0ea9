/- Copies of a flow, and whether the rest can go: the reference. -/
import Derived.Test.YtjmfjgoehicgcaaMgZH
set_option linter.unusedVariables false
set_option linter.unusedSimpArgs false
namespace Go.Proofs.Ytjmfjgoehicgcaa
open Go.RowKit

/-- All of a slice is appended to an empty one, as a step of a region that draws its order. -/
theorem step_copy {ops : Array Oper} {o : Oper} {a : Act} {K : Act → World → Prop} {Q : Exit → Act → World → Prop} {E : Prop} (w : World) (hgd : o.guard = none) (s x : Operand)
    (ho : o.op = .call { callee := .builtin .append, args := #[s, x], argTypes := #[22, 22] }) (n : Nat) (g0 : Nat) (hs : a.eval s = .slice (some ⟨g0, 0, none⟩) 0 0)
    (ad : Nat) (c : Nat) (ys : List Int) (hn : ys.length = n) (hx : a.eval x = .slice (some ⟨ad, 0, none⟩) n c) (hr : Reads w (some ⟨ad, 0, none⟩) ys) (h0 : 0 < n) (hlen : n ≤ 1048576)
    (h : ∀ g cap w', Own w.heap.size w' (.slice (some ⟨g, 0, none⟩) n cap) ys → Below w.heap.size w w' → K (a.put o.dst (.slice (some ⟨g, 0, none⟩) n cap)) w') :
    if Region.wanted o (yielded ops a.tmps) = true then Oper.wp Try.prog o a w K Q else E := by
  subst hn
  obtain ⟨i0, hi, hz0, hz1, hz2⟩ := info_parts Try.info3
  have hnews : ∀ j u, (ys.map (Value.int .i64))[j]? = some u → w.cell? ((⟨ad, 0, none⟩ : Addr).add j) = some u := fun j u hj => by
    rw [List.getElem?_map] at hj
    by_cases hl : j < ys.length
    · rw [List.getElem?_eq_getElem hl] at hj
      simp only [Option.map_some, Option.some.injEq] at hj
      rw [Addr.add_lit, Nat.zero_add, rdAt hr j hl, ← hj, nth_eq _ _ hl]
    · rw [List.getElem?_eq_none (by omega)] at hj; cases hj
  obtain ⟨v', w', hrun, r1, r2⟩ := run_append_arg_grows (P := Try.prog) w 22 o.type 3 i0 (.int .i64 0) 1 8 Try.underlying22 hi hz0 hz1 hz2 rfl (by decide) ⟨g0, 0, none⟩ 0 0 [] (by simp) (fun j u hj => by simp at hj) ⟨ad, 0, none⟩ ys.length c (ys.map (Value.int .i64)) (by simp) hnews (by omega) (by unfold maxLen; omega) (by omega)
  rw [Nat.zero_add, List.nil_append] at r1
  obtain ⟨g, cap, rfl, -, -⟩ := World.ownsRow.form r1 h0
  rw [if_pos (by simp [Region.wanted, hgd])]
  unfold Oper.wp execOp
  simp only [ho, resolve, invoke, builtin, Sem.run_bind, Sem.run_pure, Result.andThen_ok, List.map_toArray, List.map_cons, List.map_nil, hs, hx, hrun]
  exact h g cap w' r1 ((Below.refl _ _).grown r2 (Nat.le_refl _) (fun k hk => by cases hk))

theorem putFar {w : World} {b z o : Nat} {v u0 u1 u2 u3 : Value} (h : w.cell? ⟨z, o, none⟩ = some v) (hne : b ≠ z) : ((((w.setCell ⟨b, 0, none⟩ u0).setCell ⟨b, 1, none⟩ u1).setCell ⟨b, 2, none⟩ u2).setCell ⟨b, 3, none⟩ u3).cell? ⟨z, o, none⟩ = some v :=
  cellOf (cellOf (cellOf (cellOf h hne) hne) hne) hne

theorem own4 {B g n c b : Nat} {w : World} {zs : List Int} {u0 u1 u2 u3 : Value} (h : Own B w (.slice (some ⟨g, 0, none⟩) n c) zs) (hne : b ≠ g) : Own B ((((w.setCell ⟨b, 0, none⟩ u0).setCell ⟨b, 1, none⟩ u1).setCell ⟨b, 2, none⟩ u2).setCell ⟨b, 3, none⟩ u3) (.slice (some ⟨g, 0, none⟩) n c) zs :=
  (((h.setOther _ hne _).setOther _ hne _).setOther _ hne _).setOther _ hne _
theorem below4 {B b : Nat} {w w' : World} {u0 u1 u2 u3 : Value} (h : Below B w w') (hb : B ≤ b) : Below B w ((((w'.setCell ⟨b, 0, none⟩ u0).setCell ⟨b, 1, none⟩ u1).setCell ⟨b, 2, none⟩ u2).setCell ⟨b, 3, none⟩ u3) :=
  (((h.setCell (p := ⟨b, 0, none⟩) hb _).setCell (p := ⟨b, 1, none⟩) hb _).setCell (p := ⟨b, 2, none⟩) hb _).setCell (p := ⟨b, 3, none⟩) hb _

/-- What 'l8Copy' gives. -/
def CopyPost (N nn : Nat) (Fl lf du : List Int) (w : World) (e : Ending) (w' : World) : Prop :=
  ∃ (fb lb db cf cl cd : Nat), e = .returned (.agg #[.int .i64 (N : Int), .slice (some ⟨fb, 0, none⟩) nn cf, .slice (some ⟨lb, 0, none⟩) N cl, .slice (some ⟨db, 0, none⟩) N cd]) ∧ FM w.heap.size w' N nn fb lb db cf cl cd Fl lf du ∧ Below w.heap.size w w'

set_option maxHeartbeats 8000000 in
set_option maxRecDepth 100000 in
theorem l8Copy_any (B N nn fb lb db cf cl cd : Nat) (Fl lf du : List Int) (w : World) (h1 : 1 ≤ N) (h16 : N ≤ 16) (hfm : FM B w N nn fb lb db cf cl cd Fl lf du) :
    Calls Try.prog 117 #[.agg #[.int .i64 (N : Int), .slice (some ⟨fb, 0, none⟩) nn cf, .slice (some ⟨lb, 0, none⟩) N cl, .slice (some ⟨db, 0, none⟩) N cd]] w (CopyPost N nn Fl lf du w) := by
  have hn2 : nn ≤ 256 := by rw [hfm.hn]; exact Nat.mul_le_mul h16 h16
  have hn1 : 0 < nn := by rw [hfm.hn]; exact Nat.mul_pos h1 h1
  obtain ⟨W, hW⟩ : ∃ W : World, W = (w.alloc (.cells #[.int .i64 (N : Int), .slice (some ⟨fb, 0, none⟩) nn cf, .slice (some ⟨lb, 0, none⟩) N cl, .slice (some ⟨db, 0, none⟩) N cd] 64)).alloc (.cells #[.int .i64 0, .slice none 0 0, .slice none 0 0, .slice none 0 0] 64) := ⟨_, rfl⟩
  have hbW : Below w.heap.size w W := by rw [hW]; exact (belowAlloc w _).thenB (belowAlloc _ _)
  have hsz : W.heap.size = w.heap.size + 2 := by rw [hW]; simp
  have bx : Bx W w.heap.size (.int .i64 (N : Int)) (.slice (some ⟨fb, 0, none⟩) nn cf) (.slice (some ⟨lb, 0, none⟩) N cl) (.slice (some ⟨db, 0, none⟩) N cd) := by rw [hW]; exact (Bx.made _ _ _ _ _ _).later (belowAlloc _ _)
  have rx : Bx W (w.heap.size + 1) (.int .i64 0) (.slice none 0 0) (.slice none 0 0) (.slice none 0 0) := by
    have e := Bx.made (w.alloc (.cells #[.int .i64 (N : Int), .slice (some ⟨fb, 0, none⟩) nn cf, .slice (some ⟨lb, 0, none⟩) N cl, .slice (some ⟨db, 0, none⟩) N cd] 64)) (.int .i64 0) (.slice none 0 0) (.slice none 0 0) (.slice none 0 0) 64
    rw [allocSz] at e
    rw [hW]; exact e
  have rf : ∀ o, W.frozen? ⟨w.heap.size + 1, o, none⟩ = false := by
    have e := newFroz (w.alloc (.cells #[.int .i64 (N : Int), .slice (some ⟨fb, 0, none⟩) nn cf, .slice (some ⟨lb, 0, none⟩) N cl, .slice (some ⟨db, 0, none⟩) N cd] 64)) #[.int .i64 0, .slice none 0 0, .slice none 0 0, .slice none 0 0] 64
    rw [allocSz] at e
    rw [hW]; exact e
  have HW := Lib.hid hW
  have HSZ := Lib.hid hsz
  have HBW := Lib.hid hbW
  have hfm2 := hfm.later hbW
  have HF := Lib.hid hfm2.of.reads
  have HL := Lib.hid hfm2.ol.reads
  have HD := Lib.hid hfm2.od.reads
  have HFL := Lib.hid hfm2.fl
  have HLL := Lib.hid hfm2.ll
  have HDL := Lib.hid hfm2.dl
  have HN := Lib.hid hfm2.hn
  have p0 := bx.c0
  have p1 := bx.c1
  have p2 := bx.c2
  have p3 := bx.c3
  have HRX := Lib.hid (And.intro rx rf)
  have hpf : w.heap.size + 1 ≠ w.heap.size := by omega
  have bb : Below W.heap.size W W := Below.refl _ _
  clear hW hsz hbW bx rx rf hfm hfm2
  go_enter Try.func117, Try.ntmps117
  go_wp2_with fail
  rw [← HW.out]
  go_region_held3 (fun w' => w'.cell? ⟨w.heap.size, 0, none⟩ = some (.int .i64 (N : Int)) ∧ w'.cell? ⟨w.heap.size, 1, none⟩ = some (.slice (some ⟨fb, 0, none⟩) nn cf) ∧ w'.cell? ⟨w.heap.size, 2, none⟩ = some (.slice (some ⟨lb, 0, none⟩) N cl) ∧ w'.cell? ⟨w.heap.size, 3, none⟩ = some (.slice (some ⟨db, 0, none⟩) N cd))
    (first | with_reducible exact ⟨putFar (cellKeep bb p0) hpf, putFar (cellKeep bb p1) hpf, putFar (cellKeep bb p2) hpf, putFar (cellKeep bb p3) hpf⟩ | with_reducible exact ⟨cellKeep (bb) p0, cellKeep (bb) p1, cellKeep (bb) p2, cellKeep (bb) p3⟩ | with_reducible exact ⟨cellKeep ((bb).drew) p0, cellKeep ((bb).drew) p1, cellKeep ((bb).drew) p2, cellKeep ((bb).drew) p3⟩ | with_reducible exact ⟨cellKeep ((bb.thenB (belowAlloc _ _))) p0, cellKeep ((bb.thenB (belowAlloc _ _))) p1, cellKeep ((bb.thenB (belowAlloc _ _))) p2, cellKeep ((bb.thenB (belowAlloc _ _))) p3⟩ | with_reducible exact ⟨cellKeep (((bb.thenB (belowAlloc _ _))).drew) p0, cellKeep (((bb.thenB (belowAlloc _ _))).drew) p1, cellKeep (((bb.thenB (belowAlloc _ _))).drew) p2, cellKeep (((bb.thenB (belowAlloc _ _))).drew) p3⟩ | with_reducible exact ⟨cellKeep (((bb.thenB (belowAlloc _ _)).thenB (belowAlloc _ _))) p0, cellKeep (((bb.thenB (belowAlloc _ _)).thenB (belowAlloc _ _))) p1, cellKeep (((bb.thenB (belowAlloc _ _)).thenB (belowAlloc _ _))) p2, cellKeep (((bb.thenB (belowAlloc _ _)).thenB (belowAlloc _ _))) p3⟩ | with_reducible exact ⟨cellKeep ((((bb.thenB (belowAlloc _ _)).thenB (belowAlloc _ _))).drew) p0, cellKeep ((((bb.thenB (belowAlloc _ _)).thenB (belowAlloc _ _))).drew) p1, cellKeep ((((bb.thenB (belowAlloc _ _)).thenB (belowAlloc _ _))).drew) p2, cellKeep ((((bb.thenB (belowAlloc _ _)).thenB (belowAlloc _ _))).drew) p3⟩ | with_reducible exact ⟨cellKeep ((((bb.thenB (belowAlloc _ _)).thenB (belowAlloc _ _)).thenB (belowAlloc _ _))) p0, cellKeep ((((bb.thenB (belowAlloc _ _)).thenB (belowAlloc _ _)).thenB (belowAlloc _ _))) p1, cellKeep ((((bb.thenB (belowAlloc _ _)).thenB (belowAlloc _ _)).thenB (belowAlloc _ _))) p2, cellKeep ((((bb.thenB (belowAlloc _ _)).thenB (belowAlloc _ _)).thenB (belowAlloc _ _))) p3⟩ | with_reducible exact ⟨cellKeep (((((bb.thenB (belowAlloc _ _)).thenB (belowAlloc _ _)).thenB (belowAlloc _ _))).drew) p0, cellKeep (((((bb.thenB (belowAlloc _ _)).thenB (belowAlloc _ _)).thenB (belowAlloc _ _))).drew) p1, cellKeep (((((bb.thenB (belowAlloc _ _)).thenB (belowAlloc _ _)).thenB (belowAlloc _ _))).drew) p2, cellKeep (((((bb.thenB (belowAlloc _ _)).thenB (belowAlloc _ _)).thenB (belowAlloc _ _))).drew) p3⟩)
    (first
      | (refine step_copy _ (by rfl) _ _ (by rfl) nn _ (by rfl) fb cf Fl HFL.out (by rfl) (by have hb := bb; first | with_reducible exact (HF.out.below (hb)) | with_reducible exact (HF.out.below ((hb).drew)) | with_reducible exact (HF.out.below ((hb.thenB (belowAlloc _ _)))) | with_reducible exact (HF.out.below (((hb.thenB (belowAlloc _ _))).drew)) | with_reducible exact (HF.out.below (((hb.thenB (belowAlloc _ _)).thenB (belowAlloc _ _)))) | with_reducible exact (HF.out.below ((((hb.thenB (belowAlloc _ _)).thenB (belowAlloc _ _))).drew)) | with_reducible exact (HF.out.below ((((hb.thenB (belowAlloc _ _)).thenB (belowAlloc _ _)).thenB (belowAlloc _ _)))) | with_reducible exact (HF.out.below (((((hb.thenB (belowAlloc _ _)).thenB (belowAlloc _ _)).thenB (belowAlloc _ _))).drew))) (by omega) (by omega) ?_; intro g3 k3 w3 o3 b3; (replace bb : Below W.heap.size W w3 := by have hb := bb; first | with_reducible exact (hb).thenB b3 | with_reducible exact ((hb).drew).thenB b3 | with_reducible exact ((hb.thenB (belowAlloc _ _))).thenB b3 | with_reducible exact (((hb.thenB (belowAlloc _ _))).drew).thenB b3 | with_reducible exact (((hb.thenB (belowAlloc _ _)).thenB (belowAlloc _ _))).thenB b3 | with_reducible exact ((((hb.thenB (belowAlloc _ _)).thenB (belowAlloc _ _))).drew).thenB b3 | with_reducible exact ((((hb.thenB (belowAlloc _ _)).thenB (belowAlloc _ _)).thenB (belowAlloc _ _))).thenB b3 | with_reducible exact (((((hb.thenB (belowAlloc _ _)).thenB (belowAlloc _ _)).thenB (belowAlloc _ _))).drew).thenB b3); (have c3 : Below W.heap.size W w3 := by have hb := Below.refl W.heap.size W; first | with_reducible exact (hb).thenB b3 | with_reducible exact ((hb).drew).thenB b3 | with_reducible exact ((hb.thenB (belowAlloc _ _))).thenB b3 | with_reducible exact (((hb.thenB (belowAlloc _ _))).drew).thenB b3 | with_reducible exact (((hb.thenB (belowAlloc _ _)).thenB (belowAlloc _ _))).thenB b3 | with_reducible exact ((((hb.thenB (belowAlloc _ _)).thenB (belowAlloc _ _))).drew).thenB b3 | with_reducible exact ((((hb.thenB (belowAlloc _ _)).thenB (belowAlloc _ _)).thenB (belowAlloc _ _))).thenB b3 | with_reducible exact (((((hb.thenB (belowAlloc _ _)).thenB (belowAlloc _ _)).thenB (belowAlloc _ _))).drew).thenB b3); (have n3 : W.heap.size ≤ g3 := by have hz := (o3.blockLt g3 rfl).1; (try simp at hz); omega); (replace o3 := Own.mono o3 (show W.heap.size ≤ _ from by (try simp) <;> omega)); (replace b3 := trivial))
      | (refine step_copy _ (by rfl) _ _ (by rfl) N _ (by rfl) lb cl lf HLL.out (by rfl) (by have hb := bb; first | with_reducible exact (HL.out.below (hb)) | with_reducible exact (HL.out.below ((hb).drew)) | with_reducible exact (HL.out.below ((hb.thenB (belowAlloc _ _)))) | with_reducible exact (HL.out.below (((hb.thenB (belowAlloc _ _))).drew)) | with_reducible exact (HL.out.below (((hb.thenB (belowAlloc _ _)).thenB (belowAlloc _ _)))) | with_reducible exact (HL.out.below ((((hb.thenB (belowAlloc _ _)).thenB (belowAlloc _ _))).drew)) | with_reducible exact (HL.out.below ((((hb.thenB (belowAlloc _ _)).thenB (belowAlloc _ _)).thenB (belowAlloc _ _)))) | with_reducible exact (HL.out.below (((((hb.thenB (belowAlloc _ _)).thenB (belowAlloc _ _)).thenB (belowAlloc _ _))).drew))) (by omega) (by omega) ?_; intro g4 k4 w4 o4 b4; (replace bb : Below W.heap.size W w4 := by have hb := bb; first | with_reducible exact (hb).thenB b4 | with_reducible exact ((hb).drew).thenB b4 | with_reducible exact ((hb.thenB (belowAlloc _ _))).thenB b4 | with_reducible exact (((hb.thenB (belowAlloc _ _))).drew).thenB b4 | with_reducible exact (((hb.thenB (belowAlloc _ _)).thenB (belowAlloc _ _))).thenB b4 | with_reducible exact ((((hb.thenB (belowAlloc _ _)).thenB (belowAlloc _ _))).drew).thenB b4 | with_reducible exact ((((hb.thenB (belowAlloc _ _)).thenB (belowAlloc _ _)).thenB (belowAlloc _ _))).thenB b4 | with_reducible exact (((((hb.thenB (belowAlloc _ _)).thenB (belowAlloc _ _)).thenB (belowAlloc _ _))).drew).thenB b4); (have c4 : Below w3.heap.size w3 w4 := by have hb := Below.refl w3.heap.size w3; first | with_reducible exact (hb).thenB b4 | with_reducible exact ((hb).drew).thenB b4 | with_reducible exact ((hb.thenB (belowAlloc _ _))).thenB b4 | with_reducible exact (((hb.thenB (belowAlloc _ _))).drew).thenB b4 | with_reducible exact (((hb.thenB (belowAlloc _ _)).thenB (belowAlloc _ _))).thenB b4 | with_reducible exact ((((hb.thenB (belowAlloc _ _)).thenB (belowAlloc _ _))).drew).thenB b4 | with_reducible exact ((((hb.thenB (belowAlloc _ _)).thenB (belowAlloc _ _)).thenB (belowAlloc _ _))).thenB b4 | with_reducible exact (((((hb.thenB (belowAlloc _ _)).thenB (belowAlloc _ _)).thenB (belowAlloc _ _))).drew).thenB b4); (have n4 : w3.heap.size ≤ g4 := by have hz := (o4.blockLt g4 rfl).1; (try simp at hz); omega); (replace o4 := Own.mono o4 (show w3.heap.size ≤ _ from by (try simp) <;> omega)); (replace b4 := trivial))
      | (refine step_copy _ (by rfl) _ _ (by rfl) N _ (by rfl) db cd du HDL.out (by rfl) (by have hb := bb; first | with_reducible exact (HD.out.below (hb)) | with_reducible exact (HD.out.below ((hb).drew)) | with_reducible exact (HD.out.below ((hb.thenB (belowAlloc _ _)))) | with_reducible exact (HD.out.below (((hb.thenB (belowAlloc _ _))).drew)) | with_reducible exact (HD.out.below (((hb.thenB (belowAlloc _ _)).thenB (belowAlloc _ _)))) | with_reducible exact (HD.out.below ((((hb.thenB (belowAlloc _ _)).thenB (belowAlloc _ _))).drew)) | with_reducible exact (HD.out.below ((((hb.thenB (belowAlloc _ _)).thenB (belowAlloc _ _)).thenB (belowAlloc _ _)))) | with_reducible exact (HD.out.below (((((hb.thenB (belowAlloc _ _)).thenB (belowAlloc _ _)).thenB (belowAlloc _ _))).drew))) (by omega) (by omega) ?_; intro g5 k5 w5 o5 b5; (replace bb : Below W.heap.size W w5 := by have hb := bb; first | with_reducible exact (hb).thenB b5 | with_reducible exact ((hb).drew).thenB b5 | with_reducible exact ((hb.thenB (belowAlloc _ _))).thenB b5 | with_reducible exact (((hb.thenB (belowAlloc _ _))).drew).thenB b5 | with_reducible exact (((hb.thenB (belowAlloc _ _)).thenB (belowAlloc _ _))).thenB b5 | with_reducible exact ((((hb.thenB (belowAlloc _ _)).thenB (belowAlloc _ _))).drew).thenB b5 | with_reducible exact ((((hb.thenB (belowAlloc _ _)).thenB (belowAlloc _ _)).thenB (belowAlloc _ _))).thenB b5 | with_reducible exact (((((hb.thenB (belowAlloc _ _)).thenB (belowAlloc _ _)).thenB (belowAlloc _ _))).drew).thenB b5); (have c5 : Below w4.heap.size w4 w5 := by have hb := Below.refl w4.heap.size w4; first | with_reducible exact (hb).thenB b5 | with_reducible exact ((hb).drew).thenB b5 | with_reducible exact ((hb.thenB (belowAlloc _ _))).thenB b5 | with_reducible exact (((hb.thenB (belowAlloc _ _))).drew).thenB b5 | with_reducible exact (((hb.thenB (belowAlloc _ _)).thenB (belowAlloc _ _))).thenB b5 | with_reducible exact ((((hb.thenB (belowAlloc _ _)).thenB (belowAlloc _ _))).drew).thenB b5 | with_reducible exact ((((hb.thenB (belowAlloc _ _)).thenB (belowAlloc _ _)).thenB (belowAlloc _ _))).thenB b5 | with_reducible exact (((((hb.thenB (belowAlloc _ _)).thenB (belowAlloc _ _)).thenB (belowAlloc _ _))).drew).thenB b5); (have n5 : w4.heap.size ≤ g5 := by have hz := (o5.blockLt g5 rfl).1; (try simp at hz); omega); (replace o5 := Own.mono o5 (show w4.heap.size ≤ _ from by (try simp) <;> omega)); (replace b5 := trivial); (have r0 := cellKeep bb HRX.out.1.c0); (have r1 := cellKeep bb HRX.out.1.c1); (have r2 := cellKeep bb HRX.out.1.c2); (have r3 := cellKeep bb HRX.out.1.c3); (have f0 := frozKeep bb HRX.out.1.lt (HRX.out.2 0)); (have f1 := frozKeep bb HRX.out.1.lt (HRX.out.2 1)); (have f2 := frozKeep bb HRX.out.1.lt (HRX.out.2 2)); (have f3 := frozKeep bb HRX.out.1.lt (HRX.out.2 3)))
      | fail)
  all_goals
    have z3 := (o3.blockLt g3 rfl).2
    have z4 := (o4.blockLt g4 rfl).2
    have z5 := (o5.blockLt g5 rfl).2
    have s4 := c4.size
    have s5 := c5.size
    have s3 := c3.size
    have hs := HSZ.out
    have O3 := ((o3.mono (show w.heap.size ≤ _ by omega)).later c4).later c5
    have O4 := (o4.mono (show w.heap.size ≤ _ by omega)).later c5
    have O5 := o5.mono (show w.heap.size ≤ _ by omega)
    have HO := Lib.hid (And.intro O3 (And.intro O4 O5))
    have HB := Lib.hid (HBW.out.thenB bb)
    clear O3 O4 O5 o3 o4 o5 c3 c4 c5 bb p0 p1 p2 p3
    go_wp2
    have t0 : w.heap.size + 1 ≠ g3 := by omega
    have t1 : w.heap.size + 1 ≠ g4 := by omega
    have t2 : w.heap.size + 1 ≠ g5 := by omega
    refine bodyPost_ret (v := .agg #[.int .i64 (N : Int), .slice (some ⟨g3, 0, none⟩) nn k3, .slice (some ⟨g4, 0, none⟩) N k4, .slice (some ⟨g5, 0, none⟩) N k5]) (by simp [results, Try.results117, go_sem, r0, r1, r2, r3, f0, f1, f2, f3]) rfl ⟨g3, g4, g5, k3, k4, k5, rfl, ⟨HN.out, HFL.out, HLL.out, HDL.out, own4 HO.out.1 t0, own4 HO.out.2.1 t1, own4 HO.out.2.2 t2, by omega, by omega, by omega⟩, below4 HB.out (by omega)⟩

end Go.Proofs.Ytjmfjgoehicgcaa

/- Whether the rest can go: the reference. -/
set_option linter.unusedVariables false
set_option linter.unusedSimpArgs false
namespace Go.Proofs.Ytjmfjgoehicgcaa
open Go.RowKit

/-- The memory of a copy that is changed. -/
structure CM (N nn fb lb db cf cl cd P : Nat) (w wr : World) (Fl lf du : List Int) : Prop where
  fm : FM w.heap.size wr N nn fb lb db cf cl cd Fl lf du
  bx : Bx wr P (.int .i64 (N : Int)) (.slice (some ⟨fb, 0, none⟩) nn cf) (.slice (some ⟨lb, 0, none⟩) N cl) (.slice (some ⟨db, 0, none⟩) N cd)
  pf : fb ≠ P
  pl : lb ≠ P
  pd : db ≠ P
  bl : Below w.heap.size w wr

section
variable {N nn fb lb db cf cl cd P : Nat} {w wr : World} {Fl lf du : List Int}
theorem CM.drew (h : CM N nn fb lb db cf cl cd P w wr Fl lf du) : CM N nn fb lb db cf cl cd P w wr.drew Fl lf du := ⟨h.fm.drew, ⟨h.bx.c0, h.bx.c1, h.bx.c2, h.bx.c3⟩, h.pf, h.pl, h.pd, h.bl.drew⟩
theorem CM.setF (h : CM N nn fb lb db cf cl cd P w wr Fl lf du) (k : Nat) (y : Int) : CM N nn fb lb db cf cl cd P w (wr.setCell ⟨fb, k, none⟩ (.int .i64 y)) (Fl.set k y) lf du :=
  ⟨h.fm.setF k y, ⟨cellOf h.bx.c0 h.pf, cellOf h.bx.c1 h.pf, cellOf h.bx.c2 h.pf, cellOf h.bx.c3 h.pf⟩, h.pf, h.pl, h.pd, h.bl.setCell (p := ⟨fb, k, none⟩) h.fm.lts.1.1 _⟩
theorem CM.setL (h : CM N nn fb lb db cf cl cd P w wr Fl lf du) (k : Nat) (y : Int) : CM N nn fb lb db cf cl cd P w (wr.setCell ⟨lb, k, none⟩ (.int .i64 y)) Fl (lf.set k y) du :=
  ⟨h.fm.setL k y, ⟨cellOf h.bx.c0 h.pl, cellOf h.bx.c1 h.pl, cellOf h.bx.c2 h.pl, cellOf h.bx.c3 h.pl⟩, h.pf, h.pl, h.pd, h.bl.setCell (p := ⟨lb, k, none⟩) h.fm.lts.2.1.1 _⟩
theorem CM.setD (h : CM N nn fb lb db cf cl cd P w wr Fl lf du) (k : Nat) (y : Int) : CM N nn fb lb db cf cl cd P w (wr.setCell ⟨db, k, none⟩ (.int .i64 y)) Fl lf (du.set k y) :=
  ⟨h.fm.setD k y, ⟨cellOf h.bx.c0 h.pd, cellOf h.bx.c1 h.pd, cellOf h.bx.c2 h.pd, cellOf h.bx.c3 h.pd⟩, h.pf, h.pl, h.pd, h.bl.setCell (p := ⟨db, k, none⟩) h.fm.lts.2.2.1 _⟩
end

theorem nth_less {xs : List Int} {b : Nat} {n : Int} (hb : b < xs.length) : nth (xs.set b (nth xs b - n)) = less (nth xs) b n := by
  rw [nth_setv _ _ _ hb]
  funext x
  unfold less
  by_cases e : x = b
  · subst e; rw [upv_same, if_pos rfl]
  · rw [upv_off _ _ _ _ e, if_neg e]

theorem zero_next {xs : List Int} {k : Nat} (hk : k < xs.length) (h : ∀ j, j < k → nth xs j = 0) : ∀ j, j < k + 1 → nth (xs.set k 0) j = 0 := fun j hj => by
  rw [nth_setv _ _ _ hk]
  by_cases e : j = k
  · subst e; rw [upv_same]
  · rw [upv_off _ _ _ _ e]; exact h j (by omega)

/-- What the numbers of a flow are. -/
structure FN (N : Nat) (lf du : List Int) : Prop where
  ll : lf.length = N
  dl : du.length = N
  l0 : ∀ b, b < N → 0 ≤ nth lf b ∧ nth lf b ≤ 1000000000000
  d0 : ∀ a, a < N → 0 ≤ nth du a ∧ nth du a ≤ 1000000000000
  sm : sm N (nth lf) = sm N (nth du)

set_option maxHeartbeats 4000000 in
set_option maxRecDepth 100000 in
theorem l8Can_any (B N nn fb lb db cf cl cd : Nat) (Fl lf du : List Int) (w : World) (h1 : 1 ≤ N) (h16 : N ≤ 16) (hfm : FM B w N nn fb lb db cf cl cd Fl lf du) (hfn : FN N lf du) (b a : Nat) (hb : b < N) (ha : a < N) (n : Int) (hn0 : 0 ≤ n) (hn1 : n ≤ nth lf b) (hn2 : n ≤ nth du a) :
    Calls Try.prog 116 #[.agg #[.int .i64 (N : Int), .slice (some ⟨fb, 0, none⟩) nn cf, .slice (some ⟨lb, 0, none⟩) N cl, .slice (some ⟨db, 0, none⟩) N cd], .int .i64 b, .int .i64 a, .int .i64 n] w
      fun e w' => e = .returned (.bool (flB N (less (nth lf) b n) (less (nth du) a n))) ∧ Below w.heap.size w w' := by
  obtain ⟨W, hW⟩ : ∃ W : World, W = w.alloc (.cells #[.int .i64 (N : Int), .slice (some ⟨fb, 0, none⟩) nn cf, .slice (some ⟨lb, 0, none⟩) N cl, .slice (some ⟨db, 0, none⟩) N cd] 64) := ⟨_, rfl⟩
  have hbW : Below w.heap.size w W := by rw [hW]; exact belowAlloc w _
  have hsz : W.heap.size = w.heap.size + 1 := by rw [hW]; simp
  have bx : Bx W w.heap.size (.int .i64 (N : Int)) (.slice (some ⟨fb, 0, none⟩) nn cf) (.slice (some ⟨lb, 0, none⟩) N cl) (.slice (some ⟨db, 0, none⟩) N cd) := by rw [hW]; exact Bx.made _ _ _ _ _ _
  have hcp := l8Copy_any B N nn fb lb db cf cl cd Fl lf du W h1 h16 (hfm.later hbW)
  have HCP := Lib.hid hcp
  have HW := Lib.hid hW
  have HSZ := Lib.hid hsz
  have HBW := Lib.hid hbW
  have HFN := Lib.hid hfn
  have hnn2 : nn ≤ 256 := by rw [hfm.hn]; exact Nat.mul_le_mul h16 h16
  have c0 := bx.c0
  have c1 := bx.c1
  have c2 := bx.c2
  have c3 := bx.c3
  have HN1 := Lib.hid hn1
  have HN2 := Lib.hid hn2
  clear hcp hW hsz hbW bx hfm hfn hn1 hn2
  go_enter Try.func116, Try.ntmps116
  go_wp2_with fail
  rw [← HW.out]
  refine HCP.out.mono ?_
  rintro e w1 ⟨gb, kb, eb, jf, jl, jd, rfl, hfm, b1⟩
  have hlt := hfm.lts
  have b2 := belowAlloc w1 (.cells #[.int .i64 (N : Int), .slice (some ⟨gb, 0, none⟩) nn jf, .slice (some ⟨kb, 0, none⟩) N jl, .slice (some ⟨eb, 0, none⟩) N jd] 64)
  have x0 := Bx.made w1 (.int .i64 (N : Int)) (.slice (some ⟨gb, 0, none⟩) nn jf) (.slice (some ⟨kb, 0, none⟩) N jl) (.slice (some ⟨eb, 0, none⟩) N jd) 64
  have hcm : CM N nn gb kb eb jf jl jd w1.heap.size w (w1.alloc (.cells #[.int .i64 (N : Int), .slice (some ⟨gb, 0, none⟩) nn jf, .slice (some ⟨kb, 0, none⟩) N jl, .slice (some ⟨eb, 0, none⟩) N jd] 64)) Fl lf du :=
    ⟨(hfm.mono (by have := HSZ.out; omega)).later b2, x0, by omega, by omega, by omega, (HBW.out.thenB b1).thenB b2⟩
  have HCM := Lib.hid hcm
  clear hcm b2 x0 hlt hfm b1 HCP c0 c1 c2 c3 HBW HSZ
  go_wp2_with fail
  clear HW
  generalize w1.alloc (.cells #[.int .i64 (N : Int), .slice (some ⟨gb, 0, none⟩) nn jf, .slice (some ⟨kb, 0, none⟩) N jl, .slice (some ⟨eb, 0, none⟩) N jd] 64) = w2 at *
  generalize w1.heap.size = P at *
  have hbz : (b : Int) < (N : Int) := by omega
  have haz : (a : Int) < (N : Int) := by omega
  have c2 := HCM.out.bx.c2
  obtain ⟨l1, l2⟩ := HCM.out.fm.ol.cellAt HCM.out.fm.ll b hb
  obtain ⟨LF, hLF⟩ : ∃ x, x = nth lf b := ⟨_, rfl⟩
  obtain ⟨DU, hDU⟩ : ∃ x, x = nth du a := ⟨_, rfl⟩
  have hlf := HFN.out.l0 b hb
  have hdu := HFN.out.d0 a ha
  rw [← hLF] at l1 hlf HN1
  rw [← hDU] at hdu HN2
  have HLF := Lib.hid hLF
  have HDU := Lib.hid hDU
  have hn1 := HN1.out
  have hn2 := HN2.out
  clear hLF hDU
  go_region
  have hcm2 := (HCM.out.setL b (LF - n)).drew
  have HC2 := Lib.hid hcm2
  clear hcm2 c2 l1 l2 HCM
  generalize (w2.setCell ⟨kb, b, none⟩ (.int .i64 (LF - n))).drew = w3 at *
  have c3 := HC2.out.bx.c3
  obtain ⟨d1, d2⟩ := HC2.out.fm.od.cellAt HC2.out.fm.dl a ha
  rw [← HDU.out] at d1
  go_wp2_with fail
  go_region
  have hcm3 := (HC2.out.setD a (DU - n)).drew
  have HC3 := Lib.hid hcm3
  clear hcm3 c3 d1 d2 HC2
  generalize (w3.setCell ⟨eb, a, none⟩ (.int .i64 (DU - n))).drew = w4 at *
  obtain ⟨lf2, hlf2⟩ : ∃ x, x = lf.set b (LF - n) := ⟨_, rfl⟩
  obtain ⟨du2, hdu2⟩ : ∃ x, x = du.set a (DU - n) := ⟨_, rfl⟩
  have hL2 : Hid (nth lf2 = less (nth lf) b n) := Lib.hid (by rw [hlf2, HLF.out]; exact nth_less (by rw [HFN.out.ll]; exact hb))
  have hD2 : Hid (nth du2 = less (nth du) a n) := Lib.hid (by rw [hdu2, HDU.out]; exact nth_less (by rw [HFN.out.dl]; exact ha))
  rw [← hlf2, ← hdu2] at HC3
  clear hlf2 hdu2
  have HLDB := Lib.hid (And.intro hlf (And.intro hdu (And.intro hn1 hn2)))
  clear hlf hdu hn1 hn2
  go_wp2_with fail
  go_loopw [10] (fun i wr => ∃ (k : Nat) (F2 : List Int), k ≤ nn ∧ i = .int .i64 k ∧ (∀ j, j < k → nth F2 j = 0) ∧ CM N nn gb kb eb jf jl jd P w wr F2 lf2 du2) (fun i _ => nn - (intOf i).toNat)
  case atStart => exact ⟨0, Fl, Nat.zero_le _, rfl, fun j hj => absurd hj (Nat.not_lt_zero _), HC3.out⟩
  case round =>
    clear HC3
    obtain ⟨k, F2, hk, rfl, hz, hcm⟩ := hrel
    have c1 := hcm.bx.c1
    by_cases hkN : k < nn
    · have hkz : (k : Int) < (nn : Int) := by omega
      obtain ⟨q1, q2⟩ := hcm.fm.of.cellAt hcm.fm.fl k hkN
      have HZ := Lib.hid (zero_next (by rw [hcm.fm.fl]; exact hkN) hz)
      have HC := Lib.hid (hcm.setF k 0)
      clear hz hcm
      go_wp2
      exact ⟨⟨k + 1, _, by omega, by go_num, HZ.out, HC.out⟩, by simp [intOf]; omega⟩
    · have hkE : k = nn := by omega
      subst hkE
      have c0 := hcm.bx.c0
      have c2 := hcm.bx.c2
      have c3 := hcm.bx.c3
      have hl1 : ∀ x, x < N → 0 ≤ less (nth lf) b n x ∧ less (nth lf) b n x ≤ 10000000000000 := fun x hx => by
        have e := HFN.out.l0 x hx
        obtain ⟨-, -, e2, -⟩ := HLDB.out
        have e3 := HLF.out
        unfold less
        split
        · subst_vars; omega
        · omega
      have hd1 : ∀ x, x < N → 0 ≤ less (nth du) a n x ∧ less (nth du) a n x ≤ 10000000000000 := fun x hx => by
        have e := HFN.out.d0 x hx
        obtain ⟨-, -, -, e2⟩ := HLDB.out
        have e3 := HDU.out
        unfold less
        split
        · subst_vars; omega
        · omega
      have hpf : PFlow N (less (nth lf) b n) (less (nth du) a n) (tab N F2) (nth lf2) (nth du2) :=
        PFlow.start (fun x y hx hy => by rw [tab_at hx hy]; exact hz _ (by rw [hcm.fm.hn]; exact tab_lt hy hx)) (fun x _ => by rw [hL2.out]) (fun x _ => by rw [hD2.out]) (fun x hx => (hl1 x hx).1) (fun x hx => (hd1 x hx).1)
      have hsm : sm N (less (nth lf) b n) = sm N (less (nth du) a n) := by rw [less_sum hb, less_sum ha, HFN.out.sm]
      have hrun := l8Run_any w.heap.size N k gb kb eb jf jl jd F2 lf2 du2 wr h1 h16 hcm.fm _ _ hpf hsm (fun x hx => (hl1 x hx).2) (fun x hx => (hd1 x hx).2)
      have HR := Lib.hid hrun
      have hlt := hcm.fm.lts
      have hbl := hcm.bl
      have hz1 := hbl.size
      clear hrun hcm hz hpf hsm hl1 hd1
      go_wp2_with fail
      refine HR.out.mono ?_
      rintro e w5 ⟨Fl5, lf5, du5, rfl, hfm, hpf, hd1, hd2, hex⟩
      have hbel : Below w.heap.size w w5 := hbl.trans (hex.below (by omega) (by omega) (by omega) (by omega))
      have hdn := Lib.hid (done_is hd1 hd2)
      have HD := Lib.hid (l8Done_any N w5 h16 (.slice (some ⟨gb, 0, none⟩) k jf) (.slice (some ⟨kb, 0, none⟩) N jl) rfl rfl (some ⟨eb, 0, none⟩) jd du5 hfm.od.reads hfm.dl)
      clear HR hpf hd1 hd2 hex hfm c0 c1 c2 c3
      go_wp2_with fail
      refine HD.out.mono ?_
      rintro e w6 ⟨rfl, b6⟩
      rw [hdn.out]
      go_wp2
      go_ret
      exact ⟨rfl, hbel.thenB b6⟩

end Go.Proofs.Ytjmfjgoehicgcaa

/- As much as leaves a way for the rest: the reference. -/
set_option linter.unusedVariables false
set_option linter.unusedSimpArgs false
namespace Go.Proofs.Ytjmfjgoehicgcaa
open Go.RowKit

/-- Whether the rest can go if so much goes from one set to another one. -/
def CanG (N : Nat) (lf du : List Int) (b a : Nat) (n : Int) : Prop := ∃ G, Flow N (less (nth lf) b n) (less (nth du) a n) G

/-- While the greatest amount is looked for. -/
structure Bin (N : Nat) (lf du : List Int) (b a : Nat) (lo hi : Int) : Prop where
  l0 : 0 ≤ lo
  lh : lo ≤ hi
  h1 : hi ≤ nth lf b
  h2 : hi ≤ nth du a
  can : CanG N lf du b a lo
  no : ∀ m, hi < m → m ≤ nth lf b → m ≤ nth du a → ¬ CanG N lf du b a m

theorem Bin.up {N : Nat} {lf du : List Int} {b a : Nat} {lo hi mid : Int} (h : Bin N lf du b a lo hi) (h1 : lo ≤ mid) (h2 : mid ≤ hi) (hc : CanG N lf du b a mid) : Bin N lf du b a mid hi := ⟨by have := h.l0; omega, h2, h.h1, h.h2, hc, h.no⟩
theorem Bin.down {N : Nat} {lf du : List Int} {b a : Nat} {lo hi mid : Int} (h : Bin N lf du b a lo hi) (h1 : lo < mid) (h2 : mid ≤ hi) (hc : ¬ CanG N lf du b a mid) (hm : ∀ n m, 0 ≤ n → n ≤ m → CanG N lf du b a m → CanG N lf du b a n) : Bin N lf du b a lo (mid - 1) :=
  ⟨h.l0, by omega, by have := h.h1; omega, by have := h.h2; omega, h.can, fun m m1 _ _ hc2 => hc (hm mid m (by have := h.l0; omega) (by omega) hc2)⟩

/-- What 'l8Most' gives. -/
def MostPost (N nn : Nat) (Fl lf du : List Int) (b a : Nat) (w : World) (e : Ending) (w' : World) : Prop :=
  ∃ (fb lb db cf cl cd : Nat) (n : Int), e = .returned (.agg #[.int .i64 (N : Int), .slice (some ⟨fb, 0, none⟩) nn cf, .slice (some ⟨lb, 0, none⟩) N cl, .slice (some ⟨db, 0, none⟩) N cd]) ∧ Bin N lf du b a n n ∧
    FM w.heap.size w' N nn fb lb db cf cl cd (Fl.set (N * b + a) n) (lf.set b (nth lf b - n)) (du.set a (nth du a - n)) ∧ Below w.heap.size w w'

set_option maxHeartbeats 4000000 in
set_option maxRecDepth 100000 in
theorem l8Most_any (B N nn fb lb db cf cl cd : Nat) (Fl lf du : List Int) (w : World) (h1 : 1 ≤ N) (h16 : N ≤ 16) (hfm : FM B w N nn fb lb db cf cl cd Fl lf du) (hfn : FN N lf du) (b a : Nat) (hb : b < N) (ha : a < N)
    (hcan : CanG N lf du b a 0) (hmono : ∀ n m, 0 ≤ n → n ≤ m → CanG N lf du b a m → CanG N lf du b a n) :
    Calls Try.prog 86 #[.agg #[.int .i64 (N : Int), .slice (some ⟨fb, 0, none⟩) nn cf, .slice (some ⟨lb, 0, none⟩) N cl, .slice (some ⟨db, 0, none⟩) N cd], .int .i64 b, .int .i64 a] w (MostPost N nn Fl lf du b a w) := by
  obtain ⟨W, hW⟩ : ∃ W : World, W = (w.alloc (.cells #[.int .i64 (N : Int), .slice (some ⟨fb, 0, none⟩) nn cf, .slice (some ⟨lb, 0, none⟩) N cl, .slice (some ⟨db, 0, none⟩) N cd] 64)).alloc (.cells #[.int .i64 0, .slice none 0 0, .slice none 0 0, .slice none 0 0] 64) := ⟨_, rfl⟩
  have hbW : Below w.heap.size w W := by rw [hW]; exact (belowAlloc w _).thenB (belowAlloc _ _)
  have hsz : W.heap.size = w.heap.size + 2 := by rw [hW]; simp
  have bx : Bx W w.heap.size (.int .i64 (N : Int)) (.slice (some ⟨fb, 0, none⟩) nn cf) (.slice (some ⟨lb, 0, none⟩) N cl) (.slice (some ⟨db, 0, none⟩) N cd) := by rw [hW]; exact (Bx.made _ _ _ _ _ _).later (belowAlloc _ _)
  have rx : Bx W (w.heap.size + 1) (.int .i64 0) (.slice none 0 0) (.slice none 0 0) (.slice none 0 0) := by
    have e := Bx.made (w.alloc (.cells #[.int .i64 (N : Int), .slice (some ⟨fb, 0, none⟩) nn cf, .slice (some ⟨lb, 0, none⟩) N cl, .slice (some ⟨db, 0, none⟩) N cd] 64)) (.int .i64 0) (.slice none 0 0) (.slice none 0 0) (.slice none 0 0) 64
    rw [allocSz] at e
    rw [hW]; exact e
  have rf : ∀ o, W.frozen? ⟨w.heap.size + 1, o, none⟩ = false := by
    have e := newFroz (w.alloc (.cells #[.int .i64 (N : Int), .slice (some ⟨fb, 0, none⟩) nn cf, .slice (some ⟨lb, 0, none⟩) N cl, .slice (some ⟨db, 0, none⟩) N cd] 64)) #[.int .i64 0, .slice none 0 0, .slice none 0 0, .slice none 0 0] 64
    rw [allocSz] at e
    rw [hW]; exact e
  have hfm2 := hfm.later hbW
  have HFM := Lib.hid hfm2
  have HFN := Lib.hid hfn
  have HRX := Lib.hid (And.intro rx rf)
  have HBX := Lib.hid bx
  have HSZ := Lib.hid hsz
  have HBW := Lib.hid hbW
  have HMO := Lib.hid hmono
  have HCA := Lib.hid hcan
  have HW := Lib.hid hW
  have hnn2 : nn ≤ 256 := by rw [hfm.hn]; exact Nat.mul_le_mul h16 h16
  have HNN := Lib.hid hfm.hn
  have c2 := bx.c2
  have c3 := bx.c3
  obtain ⟨l1, l2⟩ := hfm2.ol.cellAt hfm2.ll b hb
  obtain ⟨d1, d2⟩ := hfm2.od.cellAt hfm2.dl a ha
  obtain ⟨LF, hLF⟩ : ∃ x, x = nth lf b := ⟨_, rfl⟩
  obtain ⟨DU, hDU⟩ : ∃ x, x = nth du a := ⟨_, rfl⟩
  have hlf := hfn.l0 b hb
  have hdu := hfn.d0 a ha
  rw [← hLF] at l1 hlf
  rw [← hDU] at d1 hdu
  have HLF := Lib.hid hLF
  have HDU := Lib.hid hDU
  have hbz : (b : Int) < (N : Int) := by omega
  have haz : (a : Int) < (N : Int) := by omega
  clear hW hsz hbW bx rx rf hfm hfm2 hfn hcan hmono hLF hDU
  go_enter Try.func86, Try.ntmps86
  go_wp2_with fail
  rw [← HW.out]
  clear HW
  obtain ⟨M, hM⟩ : ∃ M : Int, M = if DU < LF then DU else LF := ⟨_, rfl⟩
  have hM2 : 0 ≤ M ∧ M ≤ 1000000000000 ∧ M ≤ LF ∧ M ≤ DU ∧ (∀ m, M < m → m ≤ LF → ¬ m ≤ DU) := by
    rw [hM]; split
    · exact ⟨by omega, by omega, by omega, by omega, fun m _ _ _ => by omega⟩
    · exact ⟨by omega, by omega, by omega, by omega, fun m _ _ _ => by omega⟩
  have HM2 := Lib.hid hM2
  have hbin : Bin N lf du b a 0 M := ⟨Int.le_refl _, hM2.1, by rw [← HLF.out]; exact hM2.2.2.1, by rw [← HDU.out]; exact hM2.2.2.2.1, HCA.out, fun m m1 m2 m3 => absurd (by rw [HDU.out]; exact m3) (hM2.2.2.2.2 m m1 (by rw [HLF.out]; exact m2))⟩
  have HBI := Lib.hid hbin
  have HM := Lib.hid hM
  clear hM hM2 hbin
  have hstep : ∀ v : Int, M = v → Hid (Bin N lf du b a 0 v) := fun v e => Lib.hid (by rw [← e]; exact HBI.out)
  have HST := Lib.hid hstep
  clear hstep
  by_cases hmin : DU < LF
  case pos =>
    have e1 : (DU < LF) = True := by simp [hmin]
    have e2 : (LF < DU) = False := by simp; omega
    have HBI := HST.out DU (by rw [HM.out, if_pos hmin])
    go_region
    clear HST HM HM2 hmin e1
    go_wp2_with fail
    go_loopw [7, 8] (fun lo hi wr => ∃ (l h : Int), lo = .int .i64 l ∧ hi = .int .i64 h ∧ Bin N lf du b a l h ∧ Below W.heap.size W wr) (fun lo hi _ => (intOf hi - intOf lo).toNat)
    case atStart => exact ⟨_, _, rfl, rfl, HBI.out, (Below.refl _ _).drew⟩
    case round =>
      clear HBI
      obtain ⟨l, h, rfl, rfl, hbi, hbl⟩ := hrel
      have bx := HBX.out.later hbl
      have x0 := bx.c0
      have x1 := bx.c1
      have x2 := bx.c2
      have x3 := bx.c3
      have i0 := hbi.l0
      have i1 := hbi.lh
      have i2 := hbi.h1
      rw [← HLF.out] at i2
      have HB2 := Lib.hid hbi
      clear hbi bx
      by_cases hlt : l < h
      · have hmb : l < (l + h + 1) / 2 ∧ (l + h + 1) / 2 ≤ h := by omega
        have HMB := Lib.hid hmb
        have hc := l8Can_any B N nn fb lb db cf cl cd Fl lf du wr h1 h16 (HFM.out.later hbl) HFN.out b a hb ha ((l + h + 1) / 2) (by omega) (by have := HB2.out.h1; omega) (by have := HB2.out.h2; omega)
        have HC := Lib.hid hc
        clear hc hmb
        cases hfl : flB N (less (nth lf) b ((l + h + 1) / 2)) (less (nth du) a ((l + h + 1) / 2))
        · have hno := Lib.hid (HB2.out.down HMB.out.1 HMB.out.2 (flB_no.1 hfl) HMO.out)
          rw [hfl] at HC
          clear hfl
          go_wp2_with fail
          refine HC.out.mono ?_
          rintro e w1 ⟨rfl, b1⟩
          clear HC x0 x1 x2 x3
          have hb1 := Lib.hid (hbl.thenB b1)
          go_wp2
          obtain ⟨m1, m2⟩ := HMB.out
          exact ⟨⟨_, _, rfl, rfl, hno.out, hb1.out⟩, by simp [intOf]; omega⟩
        · have hup := Lib.hid (HB2.out.up (Int.le_of_lt HMB.out.1) HMB.out.2 (flB_iff.1 hfl))
          rw [hfl] at HC
          clear hfl
          go_wp2_with fail
          refine HC.out.mono ?_
          rintro e w1 ⟨rfl, b1⟩
          clear HC x0 x1 x2 x3
          have hb1 := Lib.hid (hbl.thenB b1)
          go_wp2
          obtain ⟨m1, m2⟩ := HMB.out
          exact ⟨⟨_, _, rfl, rfl, hup.out, hb1.out⟩, by simp [intOf]; omega⟩
      · have hle : h = l := by omega
        subst hle
        have hcp := l8Copy_any B N nn fb lb db cf cl cd Fl lf du wr h1 h16 (HFM.out.later hbl)
        have HCP := Lib.hid hcp
        clear hcp
        go_wp2_with fail
        refine HCP.out.mono ?_
        rintro e w1 ⟨gb, kb, eb, jf, jl, jd, rfl, hfm, b1⟩
        have hlts := hfm.lts
        have b2 := belowAlloc w1 (.cells #[.int .i64 (N : Int), .slice (some ⟨gb, 0, none⟩) nn jf, .slice (some ⟨kb, 0, none⟩) N jl, .slice (some ⟨eb, 0, none⟩) N jd] 64)
        have x0' := Bx.made w1 (.int .i64 (N : Int)) (.slice (some ⟨gb, 0, none⟩) nn jf) (.slice (some ⟨kb, 0, none⟩) N jl) (.slice (some ⟨eb, 0, none⟩) N jd) 64
        have hsz1 := hbl.size
        have hsz2 := b1.size
        have hcm : CM N nn gb kb eb jf jl jd w1.heap.size W (w1.alloc (.cells #[.int .i64 (N : Int), .slice (some ⟨gb, 0, none⟩) nn jf, .slice (some ⟨kb, 0, none⟩) N jl, .slice (some ⟨eb, 0, none⟩) N jd] 64)) Fl lf du :=
          ⟨(hfm.mono (by omega)).later b2, x0', by omega, by omega, by omega, (hbl.thenB b1).thenB b2⟩
        have HCM := Lib.hid hcm
        clear hcm b2 x0' hlts hfm b1 HCP x0 x1 x2 x3 hsz1 hsz2
        go_wp2_with fail
        generalize w1.alloc (.cells #[.int .i64 (N : Int), .slice (some ⟨gb, 0, none⟩) nn jf, .slice (some ⟨kb, 0, none⟩) N jl, .slice (some ⟨eb, 0, none⟩) N jd] 64) = w2 at *
        generalize w1.heap.size = P at *
        have c2' := HCM.out.bx.c2
        obtain ⟨l1', l2'⟩ := HCM.out.fm.ol.cellAt HCM.out.fm.ll b hb
        rw [← HLF.out] at l1'
        go_region
        have hcm2 := (HCM.out.setL b (LF - h)).drew
        have HC2 := Lib.hid hcm2
        clear hcm2 c2' l1' l2' HCM
        generalize (w2.setCell ⟨kb, b, none⟩ (.int .i64 (LF - h))).drew = w3 at *
        have c3' := HC2.out.bx.c3
        obtain ⟨d1', d2'⟩ := HC2.out.fm.od.cellAt HC2.out.fm.dl a ha
        rw [← HDU.out] at d1'
        go_wp2_with fail
        go_region
        have hcm3 := (HC2.out.setD a (DU - h)).drew
        have HC3 := Lib.hid hcm3
        clear hcm3 c3' d1' d2' HC2
        generalize (w3.setCell ⟨eb, a, none⟩ (.int .i64 (DU - h))).drew = w4 at *
        obtain ⟨nb, i1', hnb, hi1, hilt, HWX⟩ := idx_facts h16 ha hb
        have c1' := HC3.out.bx.c1
        have hix : i1' < nn := by rw [HNN.out]; exact hilt
        have hiz : (i1' : Int) < (nn : Int) := Int.ofNat_lt.2 hix
        obtain ⟨v1', v2'⟩ := HC3.out.fm.of.cellAt HC3.out.fm.fl i1' hix
        have hbx2 := HBX.out.later HC3.out.bl
        have y0 := hbx2.c0
        have HCF := Lib.hid (HC3.out.setF i1' h)
        have HI1 := Lib.hid hi1
        obtain ⟨hwb, hsum, hwb2, hsum2⟩ := HWX.out
        have hrx := HRX.out.1.later HC3.out.bl
        have r0 := hrx.c0
        have r1 := hrx.c1
        have r2 := hrx.c2
        have r3 := hrx.c3
        have f0 := frozKeep HC3.out.bl HRX.out.1.lt (HRX.out.2 0)
        have f1 := frozKeep HC3.out.bl HRX.out.1.lt (HRX.out.2 1)
        have f2 := frozKeep HC3.out.bl HRX.out.1.lt (HRX.out.2 2)
        have f3 := frozKeep HC3.out.bl HRX.out.1.lt (HRX.out.2 3)
        have hgR : gb ≠ w.heap.size + 1 := by have := HC3.out.fm.lts.1.1; have := HSZ.out; omega
        have hkR : kb ≠ w.heap.size + 1 := by have := HC3.out.fm.lts.2.1.1; have := HSZ.out; omega
        have heR : eb ≠ w.heap.size + 1 := by have := HC3.out.fm.lts.2.2.1; have := HSZ.out; omega
        have hgP := HC3.out.pf
        have p0' := HC3.out.bx.c0
        have p2' := HC3.out.bx.c2
        have p3' := HC3.out.bx.c3
        have HR3 := Lib.hid (And.intro hgR.symm (And.intro hkR.symm heR.symm))
        clear hbx2 hnb hi1 hilt hrx hkR heR
        go_wp2
        clear hwb hsum hwb2 hsum2
        refine bodyPost_ret (v := .agg #[.int .i64 (N : Int), .slice (some ⟨gb, 0, none⟩) nn jf, .slice (some ⟨kb, 0, none⟩) N jl, .slice (some ⟨eb, 0, none⟩) N jd]) (by simp [results, Try.results86, go_sem, r0, r1, r2, r3, f0, f1, f2, f3, hgR]) rfl ⟨gb, kb, eb, jf, jl, jd, h, rfl, HB2.out, ?_, ?_⟩
        · rw [← HI1.out, ← HLF.out, ← HDU.out]
          exact (HCF.out.fm.mono (by have := HSZ.out; omega)).other4 _ HR3.out.1 HR3.out.2.1 HR3.out.2.2 _ _ _ _
        · exact below4 (HBW.out.thenB HCF.out.bl) (by omega)
  case neg =>
    have e1 : (DU < LF) = False := by simp [hmin]
    have HBI := HST.out LF (by rw [HM.out, if_neg hmin])
    go_region
    clear HST HM HM2 hmin e1
    go_wp2_with fail
    go_loopw [7, 8] (fun lo hi wr => ∃ (l h : Int), lo = .int .i64 l ∧ hi = .int .i64 h ∧ Bin N lf du b a l h ∧ Below W.heap.size W wr) (fun lo hi _ => (intOf hi - intOf lo).toNat)
    case atStart => exact ⟨_, _, rfl, rfl, HBI.out, (Below.refl _ _).drew⟩
    case round =>
      clear HBI
      obtain ⟨l, h, rfl, rfl, hbi, hbl⟩ := hrel
      have bx := HBX.out.later hbl
      have x0 := bx.c0
      have x1 := bx.c1
      have x2 := bx.c2
      have x3 := bx.c3
      have i0 := hbi.l0
      have i1 := hbi.lh
      have i2 := hbi.h1
      rw [← HLF.out] at i2
      have HB2 := Lib.hid hbi
      clear hbi bx
      by_cases hlt : l < h
      · have hmb : l < (l + h + 1) / 2 ∧ (l + h + 1) / 2 ≤ h := by omega
        have HMB := Lib.hid hmb
        have hc := l8Can_any B N nn fb lb db cf cl cd Fl lf du wr h1 h16 (HFM.out.later hbl) HFN.out b a hb ha ((l + h + 1) / 2) (by omega) (by have := HB2.out.h1; omega) (by have := HB2.out.h2; omega)
        have HC := Lib.hid hc
        clear hc hmb
        cases hfl : flB N (less (nth lf) b ((l + h + 1) / 2)) (less (nth du) a ((l + h + 1) / 2))
        · have hno := Lib.hid (HB2.out.down HMB.out.1 HMB.out.2 (flB_no.1 hfl) HMO.out)
          rw [hfl] at HC
          clear hfl
          go_wp2_with fail
          refine HC.out.mono ?_
          rintro e w1 ⟨rfl, b1⟩
          clear HC x0 x1 x2 x3
          have hb1 := Lib.hid (hbl.thenB b1)
          go_wp2
          obtain ⟨m1, m2⟩ := HMB.out
          exact ⟨⟨_, _, rfl, rfl, hno.out, hb1.out⟩, by simp [intOf]; omega⟩
        · have hup := Lib.hid (HB2.out.up (Int.le_of_lt HMB.out.1) HMB.out.2 (flB_iff.1 hfl))
          rw [hfl] at HC
          clear hfl
          go_wp2_with fail
          refine HC.out.mono ?_
          rintro e w1 ⟨rfl, b1⟩
          clear HC x0 x1 x2 x3
          have hb1 := Lib.hid (hbl.thenB b1)
          go_wp2
          obtain ⟨m1, m2⟩ := HMB.out
          exact ⟨⟨_, _, rfl, rfl, hup.out, hb1.out⟩, by simp [intOf]; omega⟩
      · have hle : h = l := by omega
        subst hle
        have hcp := l8Copy_any B N nn fb lb db cf cl cd Fl lf du wr h1 h16 (HFM.out.later hbl)
        have HCP := Lib.hid hcp
        clear hcp
        go_wp2_with fail
        refine HCP.out.mono ?_
        rintro e w1 ⟨gb, kb, eb, jf, jl, jd, rfl, hfm, b1⟩
        have hlts := hfm.lts
        have b2 := belowAlloc w1 (.cells #[.int .i64 (N : Int), .slice (some ⟨gb, 0, none⟩) nn jf, .slice (some ⟨kb, 0, none⟩) N jl, .slice (some ⟨eb, 0, none⟩) N jd] 64)
        have x0' := Bx.made w1 (.int .i64 (N : Int)) (.slice (some ⟨gb, 0, none⟩) nn jf) (.slice (some ⟨kb, 0, none⟩) N jl) (.slice (some ⟨eb, 0, none⟩) N jd) 64
        have hsz1 := hbl.size
        have hsz2 := b1.size
        have hcm : CM N nn gb kb eb jf jl jd w1.heap.size W (w1.alloc (.cells #[.int .i64 (N : Int), .slice (some ⟨gb, 0, none⟩) nn jf, .slice (some ⟨kb, 0, none⟩) N jl, .slice (some ⟨eb, 0, none⟩) N jd] 64)) Fl lf du :=
          ⟨(hfm.mono (by omega)).later b2, x0', by omega, by omega, by omega, (hbl.thenB b1).thenB b2⟩
        have HCM := Lib.hid hcm
        clear hcm b2 x0' hlts hfm b1 HCP x0 x1 x2 x3 hsz1 hsz2
        go_wp2_with fail
        generalize w1.alloc (.cells #[.int .i64 (N : Int), .slice (some ⟨gb, 0, none⟩) nn jf, .slice (some ⟨kb, 0, none⟩) N jl, .slice (some ⟨eb, 0, none⟩) N jd] 64) = w2 at *
        generalize w1.heap.size = P at *
        have c2' := HCM.out.bx.c2
        obtain ⟨l1', l2'⟩ := HCM.out.fm.ol.cellAt HCM.out.fm.ll b hb
        rw [← HLF.out] at l1'
        go_region
        have hcm2 := (HCM.out.setL b (LF - h)).drew
        have HC2 := Lib.hid hcm2
        clear hcm2 c2' l1' l2' HCM
        generalize (w2.setCell ⟨kb, b, none⟩ (.int .i64 (LF - h))).drew = w3 at *
        have c3' := HC2.out.bx.c3
        obtain ⟨d1', d2'⟩ := HC2.out.fm.od.cellAt HC2.out.fm.dl a ha
        rw [← HDU.out] at d1'
        go_wp2_with fail
        go_region
        have hcm3 := (HC2.out.setD a (DU - h)).drew
        have HC3 := Lib.hid hcm3
        clear hcm3 c3' d1' d2' HC2
        generalize (w3.setCell ⟨eb, a, none⟩ (.int .i64 (DU - h))).drew = w4 at *
        obtain ⟨nb, i1', hnb, hi1, hilt, HWX⟩ := idx_facts h16 ha hb
        have c1' := HC3.out.bx.c1
        have hix : i1' < nn := by rw [HNN.out]; exact hilt
        have hiz : (i1' : Int) < (nn : Int) := Int.ofNat_lt.2 hix
        obtain ⟨v1', v2'⟩ := HC3.out.fm.of.cellAt HC3.out.fm.fl i1' hix
        have hbx2 := HBX.out.later HC3.out.bl
        have y0 := hbx2.c0
        have HCF := Lib.hid (HC3.out.setF i1' h)
        have HI1 := Lib.hid hi1
        obtain ⟨hwb, hsum, hwb2, hsum2⟩ := HWX.out
        have hrx := HRX.out.1.later HC3.out.bl
        have r0 := hrx.c0
        have r1 := hrx.c1
        have r2 := hrx.c2
        have r3 := hrx.c3
        have f0 := frozKeep HC3.out.bl HRX.out.1.lt (HRX.out.2 0)
        have f1 := frozKeep HC3.out.bl HRX.out.1.lt (HRX.out.2 1)
        have f2 := frozKeep HC3.out.bl HRX.out.1.lt (HRX.out.2 2)
        have f3 := frozKeep HC3.out.bl HRX.out.1.lt (HRX.out.2 3)
        have hgR : gb ≠ w.heap.size + 1 := by have := HC3.out.fm.lts.1.1; have := HSZ.out; omega
        have hkR : kb ≠ w.heap.size + 1 := by have := HC3.out.fm.lts.2.1.1; have := HSZ.out; omega
        have heR : eb ≠ w.heap.size + 1 := by have := HC3.out.fm.lts.2.2.1; have := HSZ.out; omega
        have hgP := HC3.out.pf
        have p0' := HC3.out.bx.c0
        have p2' := HC3.out.bx.c2
        have p3' := HC3.out.bx.c3
        have HR3 := Lib.hid (And.intro hgR.symm (And.intro hkR.symm heR.symm))
        clear hbx2 hnb hi1 hilt hrx hkR heR
        go_wp2
        clear hwb hsum hwb2 hsum2
        refine bodyPost_ret (v := .agg #[.int .i64 (N : Int), .slice (some ⟨gb, 0, none⟩) nn jf, .slice (some ⟨kb, 0, none⟩) N jl, .slice (some ⟨eb, 0, none⟩) N jd]) (by simp [results, Try.results86, go_sem, r0, r1, r2, r3, f0, f1, f2, f3, hgR]) rfl ⟨gb, kb, eb, jf, jl, jd, h, rfl, HB2.out, ?_, ?_⟩
        · rw [← HI1.out, ← HLF.out, ← HDU.out]
          exact (HCF.out.fm.mono (by have := HSZ.out; omega)).other4 _ HR3.out.1 HR3.out.2.1 HR3.out.2.2 _ _ _ _
        · exact below4 (HBW.out.thenB HCF.out.bl) (by omega)

end Go.Proofs.Ytjmfjgoehicgcaa
