/- Copies of a flow, and whether the rest can go: the reference. -/
import Derived.Test.YtjmfjgoehicgcaaJE
set_option linter.unusedVariables false
set_option linter.unusedSimpArgs false
namespace Go.Proofs.Ytjmfjgoehicgcaa
open Go.RowKit

/-- All of a slice is appended to an empty one, as a step of a region that draws its order. -/
theorem step_copy {ops : Array Oper} {o : Oper} {a : Act} {K : Act → World → Prop} {Q : Exit → Act → World → Prop} {E : Prop} (w : World) (hgd : o.guard = none) (s x : Operand)
    (ho : o.op = .call { callee := .builtin .append, args := #[s, x], argTypes := #[22, 22] }) (n : Nat) (g0 : Nat) (hs : a.eval s = .slice (some ⟨g0, 0, none⟩) 0 0)
    (ad : Nat) (c : Nat) (ys : List Int) (hn : ys.length = n) (hx : a.eval x = .slice (some ⟨ad, 0, none⟩) n c) (hr : Reads w (some ⟨ad, 0, none⟩) ys) (h0 : 0 < n) (hlen : n ≤ 1048576)
    (h : ∀ g cap w', Own w.heap.size w' (.slice (some ⟨g, 0, none⟩) n cap) ys → Below w.heap.size w w' → K (a.put o.dst (.slice (some ⟨g, 0, none⟩) n cap)) w') :
    if Region.wanted o (yielded ops a.tmps) = true then Oper.wp Try.prog o a w K Q else E := by
  subst hn
  obtain ⟨i0, hi, hz0, hz1, hz2⟩ := info_parts Try.info3
  have hnews : ∀ j u, (ys.map (Value.int .i64))[j]? = some u → w.cell? ((⟨ad, 0, none⟩ : Addr).add j) = some u := fun j u hj => by
    rw [List.getElem?_map] at hj
    by_cases hl : j < ys.length
    · rw [List.getElem?_eq_getElem hl] at hj
      simp only [Option.map_some, Option.some.injEq] at hj
      rw [Addr.add_lit, Nat.zero_add, rdAt hr j hl, ← hj, nth_eq _ _ hl]
    · rw [List.getElem?_eq_none (by omega)] at hj; cases hj
  obtain ⟨v', w', hrun, r1, r2⟩ := run_append_arg_grows (P := Try.prog) w 22 o.type 3 i0 (.int .i64 0) 1 8 Try.underlying22 hi hz0 hz1 hz2 rfl (by decide) ⟨g0, 0, none⟩ 0 0 [] (by simp) (fun j u hj => by simp at hj) ⟨ad, 0, none⟩ ys.length c (ys.map (Value.int .i64)) (by simp) hnews (by omega) (by unfold maxLen; omega) (by omega)
  rw [Nat.zero_add, List.nil_append] at r1
  obtain ⟨g, cap, rfl, -, -⟩ := World.ownsRow.form r1 h0
  rw [if_pos (by simp [Region.wanted, hgd])]
  unfold Oper.wp execOp
  simp only [ho, resolve, invoke, builtin, Sem.run_bind, Sem.run_pure, Result.andThen_ok, List.map_toArray, List.map_cons, List.map_nil, hs, hx, hrun]
  exact h g cap w' r1 ((Below.refl _ _).grown r2 (Nat.le_refl _) (fun k hk => by cases hk))

theorem putFar {w : World} {b z o : Nat} {v u0 u1 u2 u3 : Value} (h : w.cell? ⟨z, o, none⟩ = some v) (hne : b ≠ z) : ((((w.setCell ⟨b, 0, none⟩ u0).setCell ⟨b, 1, none⟩ u1).setCell ⟨b, 2, none⟩ u2).setCell ⟨b, 3, none⟩ u3).cell? ⟨z, o, none⟩ = some v :=
  cellOf (cellOf (cellOf (cellOf h hne) hne) hne) hne

theorem own4 {B g n c b : Nat} {w : World} {zs : List Int} {u0 u1 u2 u3 : Value} (h : Own B w (.slice (some ⟨g, 0, none⟩) n c) zs) (hne : b ≠ g) : Own B ((((w.setCell ⟨b, 0, none⟩ u0).setCell ⟨b, 1, none⟩ u1).setCell ⟨b, 2, none⟩ u2).setCell ⟨b, 3, none⟩ u3) (.slice (some ⟨g, 0, none⟩) n c) zs :=
  (((h.setOther _ hne _).setOther _ hne _).setOther _ hne _).setOther _ hne _
theorem below4 {B b : Nat} {w w' : World} {u0 u1 u2 u3 : Value} (h : Below B w w') (hb : B ≤ b) : Below B w ((((w'.setCell ⟨b, 0, none⟩ u0).setCell ⟨b, 1, none⟩ u1).setCell ⟨b, 2, none⟩ u2).setCell ⟨b, 3, none⟩ u3) :=
  (((h.setCell (p := ⟨b, 0, none⟩) hb _).setCell (p := ⟨b, 1, none⟩) hb _).setCell (p := ⟨b, 2, none⟩) hb _).setCell (p := ⟨b, 3, none⟩) hb _

/-- What 'l8Copy' gives. -/
def CopyPost (N nn : Nat) (Fl lf du : List Int) (w : World) (e : Ending) (w' : World) : Prop :=
  ∃ (fb lb db cf cl cd : Nat), e = .returned (.agg #[.int .i64 (N : Int), .slice (some ⟨fb, 0, none⟩) nn cf, .slice (some ⟨lb, 0, none⟩) N cl, .slice (some ⟨db, 0, none⟩) N cd]) ∧ FM w.heap.size w' N nn fb lb db cf cl cd Fl lf du ∧ Below w.heap.size w w'

set_option maxHeartbeats 8000000 in
set_option maxRecDepth 100000 in
theorem l8Copy_any (B N nn fb lb db cf cl cd : Nat) (Fl lf du : List Int) (w : World) (h1 : 1 ≤ N) (h16 : N ≤ 16) (hfm : FM B w N nn fb lb db cf cl cd Fl lf du) :
    Calls Try.prog 117 #[.agg #[.int .i64 (N : Int), .slice (some ⟨fb, 0, none⟩) nn cf, .slice (some ⟨lb, 0, none⟩) N cl, .slice (some ⟨db, 0, none⟩) N cd]] w (CopyPost N nn Fl lf du w) := by
  have hn2 : nn ≤ 256 := by rw [hfm.hn]; exact Nat.mul_le_mul h16 h16
  have hn1 : 0 < nn := by rw [hfm.hn]; exact Nat.mul_pos h1 h1
  obtain ⟨W, hW⟩ : ∃ W : World, W = (w.alloc (.cells #[.int .i64 (N : Int), .slice (some ⟨fb, 0, none⟩) nn cf, .slice (some ⟨lb, 0, none⟩) N cl, .slice (some ⟨db, 0, none⟩) N cd] 64)).alloc (.cells #[.int .i64 0, .slice none 0 0, .slice none 0 0, .slice none 0 0] 64) := ⟨_, rfl⟩
  have hbW : Below w.heap.size w W := by rw [hW]; exact (belowAlloc w _).thenB (belowAlloc _ _)
  have hsz : W.heap.size = w.heap.size + 2 := by rw [hW]; simp
  have bx : Bx W w.heap.size (.int .i64 (N : Int)) (.slice (some ⟨fb, 0, none⟩) nn cf) (.slice (some ⟨lb, 0, none⟩) N cl) (.slice (some ⟨db, 0, none⟩) N cd) := by rw [hW]; exact (Bx.made _ _ _ _ _ _).later (belowAlloc _ _)
  have rx : Bx W (w.heap.size + 1) (.int .i64 0) (.slice none 0 0) (.slice none 0 0) (.slice none 0 0) := by
    have e := Bx.made (w.alloc (.cells #[.int .i64 (N : Int), .slice (some ⟨fb, 0, none⟩) nn cf, .slice (some ⟨lb, 0, none⟩) N cl, .slice (some ⟨db, 0, none⟩) N cd] 64)) (.int .i64 0) (.slice none 0 0) (.slice none 0 0) (.slice none 0 0) 64
    rw [allocSz] at e
    rw [hW]; exact e
  have rf : ∀ o, W.frozen? ⟨w.heap.size + 1, o, none⟩ = false := by
    have e := newFroz (w.alloc (.cells #[.int .i64 (N : Int), .slice (some ⟨fb, 0, none⟩) nn cf, .slice (some ⟨lb, 0, none⟩) N cl, .slice (some ⟨db, 0, none⟩) N cd] 64)) #[.int .i64 0, .slice none 0 0, .slice none 0 0, .slice none 0 0] 64
    rw [allocSz] at e
    rw [hW]; exact e
  have HW := Lib.hid hW
  have HSZ := Lib.hid hsz
  have HBW := Lib.hid hbW
  have hfm2 := hfm.later hbW
  have HF := Lib.hid hfm2.of.reads
  have HL := Lib.hid hfm2.ol.reads
  have HD := Lib.hid hfm2.od.reads
  have HFL := Lib.hid hfm2.fl
  have HLL := Lib.hid hfm2.ll
  have HDL := Lib.hid hfm2.dl
  have HN := Lib.hid hfm2.hn
  have p0 := bx.c0
  have p1 := bx.c1
  have p2 := bx.c2
  have p3 := bx.c3
  have HRX := Lib.hid (And.intro rx rf)
  have hpf : w.heap.size + 1 ≠ w.heap.size := by omega
  have bb : Below W.heap.size W W := Below.refl _ _
  clear hW hsz hbW bx rx rf hfm hfm2
  go_enter Try.func117, Try.ntmps117
  go_wp2_with fail
  rw [← HW.out]
  go_region_held3 (fun w' => w'.cell? ⟨w.heap.size, 0, none⟩ = some (.int .i64 (N : Int)) ∧ w'.cell? ⟨w.heap.size, 1, none⟩ = some (.slice (some ⟨fb, 0, none⟩) nn cf) ∧ w'.cell? ⟨w.heap.size, 2, none⟩ = some (.slice (some ⟨lb, 0, none⟩) N cl) ∧ w'.cell? ⟨w.heap.size, 3, none⟩ = some (.slice (some ⟨db, 0, none⟩) N cd))
    (first | with_reducible exact ⟨putFar (cellKeep bb p0) hpf, putFar (cellKeep bb p1) hpf, putFar (cellKeep bb p2) hpf, putFar (cellKeep bb p3) hpf⟩ | with_reducible exact ⟨cellKeep (bb) p0, cellKeep (bb) p1, cellKeep (bb) p2, cellKeep (bb) p3⟩ | with_reducible exact ⟨cellKeep ((bb).drew) p0, cellKeep ((bb).drew) p1, cellKeep ((bb).drew) p2, cellKeep ((bb).drew) p3⟩ | with_reducible exact ⟨cellKeep ((bb.thenB (belowAlloc _ _))) p0, cellKeep ((bb.thenB (belowAlloc _ _))) p1, cellKeep ((bb.thenB (belowAlloc _ _))) p2, cellKeep ((bb.thenB (belowAlloc _ _))) p3⟩ | with_reducible exact ⟨cellKeep (((bb.thenB (belowAlloc _ _))).drew) p0, cellKeep (((bb.thenB (belowAlloc _ _))).drew) p1, cellKeep (((bb.thenB (belowAlloc _ _))).drew) p2, cellKeep (((bb.thenB (belowAlloc _ _))).drew) p3⟩ | with_reducible exact ⟨cellKeep (((bb.thenB (belowAlloc _ _)).thenB (belowAlloc _ _))) p0, cellKeep (((bb.thenB (belowAlloc _ _)).thenB (belowAlloc _ _))) p1, cellKeep (((bb.thenB (belowAlloc _ _)).thenB (belowAlloc _ _))) p2, cellKeep (((bb.thenB (belowAlloc _ _)).thenB (belowAlloc _ _))) p3⟩ | with_reducible exact ⟨cellKeep ((((bb.thenB (belowAlloc _ _)).thenB (belowAlloc _ _))).drew) p0, cellKeep ((((bb.thenB (belowAlloc _ _)).thenB (belowAlloc _ _))).drew) p1, cellKeep ((((bb.thenB (belowAlloc _ _)).thenB (belowAlloc _ _))).drew) p2, cellKeep ((((bb.thenB (belowAlloc _ _)).thenB (belowAlloc _ _))).drew) p3⟩ | with_reducible exact ⟨cellKeep ((((bb.thenB (belowAlloc _ _)).thenB (belowAlloc _ _)).thenB (belowAlloc _ _))) p0, cellKeep ((((bb.thenB (belowAlloc _ _)).thenB (belowAlloc _ _)).thenB (belowAlloc _ _))) p1, cellKeep ((((bb.thenB (belowAlloc _ _)).thenB (belowAlloc _ _)).thenB (belowAlloc _ _))) p2, cellKeep ((((bb.thenB (belowAlloc _ _)).thenB (belowAlloc _ _)).thenB (belowAlloc _ _))) p3⟩ | with_reducible exact ⟨cellKeep (((((bb.thenB (belowAlloc _ _)).thenB (belowAlloc _ _)).thenB (belowAlloc _ _))).drew) p0, cellKeep (((((bb.thenB (belowAlloc _ _)).thenB (belowAlloc _ _)).thenB (belowAlloc _ _))).drew) p1, cellKeep (((((bb.thenB (belowAlloc _ _)).thenB (belowAlloc _ _)).thenB (belowAlloc _ _))).drew) p2, cellKeep (((((bb.thenB (belowAlloc _ _)).thenB (belowAlloc _ _)).thenB (belowAlloc _ _))).drew) p3⟩)
    (first
      | (refine step_copy _ (by rfl) _ _ (by rfl) nn _ (by rfl) fb cf Fl HFL.out (by rfl) (by have hb := bb; first | with_reducible exact (HF.out.below (hb)) | with_reducible exact (HF.out.below ((hb).drew)) | with_reducible exact (HF.out.below ((hb.thenB (belowAlloc _ _)))) | with_reducible exact (HF.out.below (((hb.thenB (belowAlloc _ _))).drew)) | with_reducible exact (HF.out.below (((hb.thenB (belowAlloc _ _)).thenB (belowAlloc _ _)))) | with_reducible exact (HF.out.below ((((hb.thenB (belowAlloc _ _)).thenB (belowAlloc _ _))).drew)) | with_reducible exact (HF.out.below ((((hb.thenB (belowAlloc _ _)).thenB (belowAlloc _ _)).thenB (belowAlloc _ _)))) | with_reducible exact (HF.out.below (((((hb.thenB (belowAlloc _ _)).thenB (belowAlloc _ _)).thenB (belowAlloc _ _))).drew))) (by omega) (by omega) ?_; intro g3 k3 w3 o3 b3; (replace bb : Below W.heap.size W w3 := by have hb := bb; first | with_reducible exact (hb).thenB b3 | with_reducible exact ((hb).drew).thenB b3 | with_reducible exact ((hb.thenB (belowAlloc _ _))).thenB b3 | with_reducible exact (((hb.thenB (belowAlloc _ _))).drew).thenB b3 | with_reducible exact (((hb.thenB (belowAlloc _ _)).thenB (belowAlloc _ _))).thenB b3 | with_reducible exact ((((hb.thenB (belowAlloc _ _)).thenB (belowAlloc _ _))).drew).thenB b3 | with_reducible exact ((((hb.thenB (belowAlloc _ _)).thenB (belowAlloc _ _)).thenB (belowAlloc _ _))).thenB b3 | with_reducible exact (((((hb.thenB (belowAlloc _ _)).thenB (belowAlloc _ _)).thenB (belowAlloc _ _))).drew).thenB b3); (have c3 : Below W.heap.size W w3 := by have hb := Below.refl W.heap.size W; first | with_reducible exact (hb).thenB b3 | with_reducible exact ((hb).drew).thenB b3 | with_reducible exact ((hb.thenB (belowAlloc _ _))).thenB b3 | with_reducible exact (((hb.thenB (belowAlloc _ _))).drew).thenB b3 | with_reducible exact (((hb.thenB (belowAlloc _ _)).thenB (belowAlloc _ _))).thenB b3 | with_reducible exact ((((hb.thenB (belowAlloc _ _)).thenB (belowAlloc _ _))).drew).thenB b3 | with_reducible exact ((((hb.thenB (belowAlloc _ _)).thenB (belowAlloc _ _)).thenB (belowAlloc _ _))).thenB b3 | with_reducible exact (((((hb.thenB (belowAlloc _ _)).thenB (belowAlloc _ _)).thenB (belowAlloc _ _))).drew).thenB b3); (have n3 : W.heap.size ≤ g3 := by have hz := (o3.blockLt g3 rfl).1; (try simp at hz); omega); (replace o3 := Own.mono o3 (show W.heap.size ≤ _ from by (try simp) <;> omega)); (replace b3 := trivial))
      | (refine step_copy _ (by rfl) _ _ (by rfl) N _ (by rfl) lb cl lf HLL.out (by rfl) (by have hb := bb; first | with_reducible exact (HL.out.below (hb)) | with_reducible exact (HL.out.below ((hb).drew)) | with_reducible exact (HL.out.below ((hb.thenB (belowAlloc _ _)))) | with_reducible exact (HL.out.below (((hb.thenB (belowAlloc _ _))).drew)) | with_reducible exact (HL.out.below (((hb.thenB (belowAlloc _ _)).thenB (belowAlloc _ _)))) | with_reducible exact (HL.out.below ((((hb.thenB (belowAlloc _ _)).thenB (belowAlloc _ _))).drew)) | with_reducible exact (HL.out.below ((((hb.thenB (belowAlloc _ _)).thenB (belowAlloc _ _)).thenB (belowAlloc _ _)))) | with_reducible exact (HL.out.below (((((hb.thenB (belowAlloc _ _)).thenB (belowAlloc _ _)).thenB (belowAlloc _ _))).drew))) (by omega) (by omega) ?_; intro g4 k4 w4 o4 b4; (replace bb : Below W.heap.size W w4 := by have hb := bb; first | with_reducible exact (hb).thenB b4 | with_reducible exact ((hb).drew).thenB b4 | with_reducible exact ((hb.thenB (belowAlloc _ _))).thenB b4 | with_reducible exact (((hb.thenB (belowAlloc _ _))).drew).thenB b4 | with_reducible exact (((hb.thenB (belowAlloc _ _)).thenB (belowAlloc _ _))).thenB b4 | with_reducible exact ((((hb.thenB (belowAlloc _ _)).thenB (belowAlloc _ _))).drew).thenB b4 | with_reducible exact ((((hb.thenB (belowAlloc _ _)).thenB (belowAlloc _ _)).thenB (belowAlloc _ _))).thenB b4 | with_reducible exact (((((hb.thenB (belowAlloc _ _)).thenB (belowAlloc _ _)).thenB (belowAlloc _ _))).drew).thenB b4); (have c4 : Below w3.heap.size w3 w4 := by have hb := Below.refl w3.heap.size w3; first | with_reducible exact (hb).thenB b4 | with_reducible exact ((hb).drew).thenB b4 | with_reducible exact ((hb.thenB (belowAlloc _ _))).thenB b4 | with_reducible exact (((hb.thenB (belowAlloc _ _))).drew).thenB b4 | with_reducible exact (((hb.thenB (belowAlloc _ _)).thenB (belowAlloc _ _))).thenB b4 | with_reducible exact ((((hb.thenB (belowAlloc _ _)).thenB (belowAlloc _ _))).drew).thenB b4 | with_reducible exact ((((hb.thenB (belowAlloc _ _)).thenB (belowAlloc _ _)).thenB (belowAlloc _ _))).thenB b4 | with_reducible exact (((((hb.thenB (belowAlloc _ _)).thenB (belowAlloc _ _)).thenB (belowAlloc _ _))).drew).thenB b4); (have n4 : w3.heap.size ≤ g4 := by have hz := (o4.blockLt g4 rfl).1; (try simp at hz); omega); (replace o4 := Own.mono o4 (show w3.heap.size ≤ _ from by (try simp) <;> omega)); (replace b4 := trivial))
      | (refine step_copy _ (by rfl) _ _ (by rfl) N _ (by rfl) db cd du HDL.out (by rfl) (by have hb := bb; first | with_reducible exact (HD.out.below (hb)) | with_reducible exact (HD.out.below ((hb).drew)) | with_reducible exact (HD.out.below ((hb.thenB (belowAlloc _ _)))) | with_reducible exact (HD.out.below (((hb.thenB (belowAlloc _ _))).drew)) | with_reducible exact (HD.out.below (((hb.thenB (belowAlloc _ _)).thenB (belowAlloc _ _)))) | with_reducible exact (HD.out.below ((((hb.thenB (belowAlloc _ _)).thenB (belowAlloc _ _))).drew)) | with_reducible exact (HD.out.below ((((hb.thenB (belowAlloc _ _)).thenB (belowAlloc _ _)).thenB (belowAlloc _ _)))) | with_reducible exact (HD.out.below (((((hb.thenB (belowAlloc _ _)).thenB (belowAlloc _ _)).thenB (belowAlloc _ _))).drew))) (by omega) (by omega) ?_; intro g5 k5 w5 o5 b5; (replace bb : Below W.heap.size W w5 := by have hb := bb; first | with_reducible exact (hb).thenB b5 | with_reducible exact ((hb).drew).thenB b5 | with_reducible exact ((hb.thenB (belowAlloc _ _))).thenB b5 | with_reducible exact (((hb.thenB (belowAlloc _ _))).drew).thenB b5 | with_reducible exact (((hb.thenB (belowAlloc _ _)).thenB (belowAlloc _ _))).thenB b5 | with_reducible exact ((((hb.thenB (belowAlloc _ _)).thenB (belowAlloc _ _))).drew).thenB b5 | with_reducible exact ((((hb.thenB (belowAlloc _ _)).thenB (belowAlloc _ _)).thenB (belowAlloc _ _))).thenB b5 | with_reducible exact (((((hb.thenB (belowAlloc _ _)).thenB (belowAlloc _ _)).thenB (belowAlloc _ _))).drew).thenB b5); (have c5 : Below w4.heap.size w4 w5 := by have hb := Below.refl w4.heap.size w4; first | with_reducible exact (hb).thenB b5 | with_reducible exact ((hb).drew).thenB b5 | with_reducible exact ((hb.thenB (belowAlloc _ _))).thenB b5 | with_reducible exact (((hb.thenB (belowAlloc _ _))).drew).thenB b5 | with_reducible exact (((hb.thenB (belowAlloc _ _)).thenB (belowAlloc _ _))).thenB b5 | with_reducible exact ((((hb.thenB (belowAlloc _ _)).thenB (belowAlloc _ _))).drew).thenB b5 | with_reducible exact ((((hb.thenB (belowAlloc _ _)).thenB (belowAlloc _ _)).thenB (belowAlloc _ _))).thenB b5 | with_reducible exact (((((hb.thenB (belowAlloc _ _)).thenB (belowAlloc _ _)).thenB (belowAlloc _ _))).drew).thenB b5); (have n5 : w4.heap.size ≤ g5 := by have hz := (o5.blockLt g5 rfl).1; (try simp at hz); omega); (replace o5 := Own.mono o5 (show w4.heap.size ≤ _ from by (try simp) <;> omega)); (replace b5 := trivial); (have r0 := cellKeep bb HRX.out.1.c0); (have r1 := cellKeep bb HRX.out.1.c1); (have r2 := cellKeep bb HRX.out.1.c2); (have r3 := cellKeep bb HRX.out.1.c3); (have f0 := frozKeep bb HRX.out.1.lt (HRX.out.2 0)); (have f1 := frozKeep bb HRX.out.1.lt (HRX.out.2 1)); (have f2 := frozKeep bb HRX.out.1.lt (HRX.out.2 2)); (have f3 := frozKeep bb HRX.out.1.lt (HRX.out.2 3)))
      | fail)
  all_goals
    have z3 := (o3.blockLt g3 rfl).2
    have z4 := (o4.blockLt g4 rfl).2
    have z5 := (o5.blockLt g5 rfl).2
    have s4 := c4.size
    have s5 := c5.size
    have s3 := c3.size
    have hs := HSZ.out
    have O3 := ((o3.mono (show w.heap.size ≤ _ by omega)).later c4).later c5
    have O4 := (o4.mono (show w.heap.size ≤ _ by omega)).later c5
    have O5 := o5.mono (show w.heap.size ≤ _ by omega)
    have HO := Lib.hid (And.intro O3 (And.intro O4 O5))
    have HB := Lib.hid (HBW.out.thenB bb)
    clear O3 O4 O5 o3 o4 o5 c3 c4 c5 bb p0 p1 p2 p3
    go_wp2
    have t0 : w.heap.size + 1 ≠ g3 := by omega
    have t1 : w.heap.size + 1 ≠ g4 := by omega
    have t2 : w.heap.size + 1 ≠ g5 := by omega
    refine bodyPost_ret (v := .agg #[.int .i64 (N : Int), .slice (some ⟨g3, 0, none⟩) nn k3, .slice (some ⟨g4, 0, none⟩) N k4, .slice (some ⟨g5, 0, none⟩) N k5]) (by simp [results, Try.results117, go_sem, r0, r1, r2, r3, f0, f1, f2, f3]) rfl ⟨g3, g4, g5, k3, k4, k5, rfl, ⟨HN.out, HFL.out, HLL.out, HDL.out, own4 HO.out.1 t0, own4 HO.out.2.1 t1, own4 HO.out.2.2 t2, by omega, by omega, by omega⟩, below4 HB.out (by omega)⟩

end Go.Proofs.Ytjmfjgoehicgcaa
