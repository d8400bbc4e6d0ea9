/- Parts that are added up at other places: mapped, and the functions built on it. -/
import Derived.Test.YtkpnenbkfphldaaK3
import Derived.Test.YtkpnenbkfphldaaT1
import Derived.Test.YtkpnenbkfphldaaQ1
set_option linter.unusedVariables false
set_option linter.unusedSimpArgs false
namespace Go.Proofs.Ytkpnenbkfphldaa
open Go.RowKit

def addAt (zs : List Int) (i : Nat) (y : Int) : List Int := zs.set i (nth zs i + y)
theorem addAt_len (zs : List Int) (i : Nat) (y : Int) : (addAt zs i y).length = zs.length := by simp [addAt]

/-- The numbers before k, each added at the place that f gives. -/
def accTo (f : Nat → Nat) (ys zs : List Int) (k : Nat) : List Int := (List.range k).foldl (fun zs b => addAt zs (f b) (nth ys b)) zs
theorem accTo_succ (f : Nat → Nat) (ys zs : List Int) (k : Nat) : accTo f ys zs (k + 1) = addAt (accTo f ys zs k) (f k) (nth ys k) := by simp [accTo, List.range_succ]
theorem accTo_len (f : Nat → Nat) (ys zs : List Int) (k : Nat) : (accTo f ys zs k).length = zs.length := by
  induction k with
  | zero => rfl
  | succ k ih => rw [accTo_succ, addAt_len, ih]

theorem allB_iff {low high : Int} {xs : List Int} : allB low high xs = true ↔ ∀ k, k < xs.length → low ≤ nth xs k ∧ nth xs k ≤ high := by
  constructor
  · exact fun h k hk => allB_nth h k hk
  · intro h
    unfold allB
    rw [List.all_eq_true]
    intro x hx
    obtain ⟨i, hi, rfl⟩ := List.getElem_of_mem hx
    have := h i hi
    rw [nth_eq _ _ hi] at this
    simpa [inB] using this

theorem nth_addAt (zs : List Int) (i k : Nat) (y : Int) (hk : k < zs.length) : nth (addAt zs i y) k = if k = i then nth zs k + y else nth zs k := by
  rw [nth_eq _ _ (by rw [addAt_len]; exact hk), nth_eq zs k hk]
  by_cases h : k = i
  · subst h
    rw [if_pos rfl]
    simp only [addAt, List.getElem_set_self]
    rw [nth_eq zs k hk]
  · rw [if_neg h]
    simp only [addAt]
    rw [List.getElem_set_ne (fun e => h e.symm)]

theorem addAt_all {A M y : Int} {zs : List Int} (i : Nat) (h : allB 0 A zs = true) (h1 : 0 ≤ y) (h2 : y ≤ M) (hM : 0 ≤ M) : allB 0 (A + M) (addAt zs i y) = true := by
  rw [allB_iff] at *
  intro k hk
  rw [addAt_len] at hk
  have := h k hk
  rw [nth_addAt _ _ _ _ hk]
  split <;> omega

theorem accTo_all {M : Int} (f : Nat → Nat) (ys zs : List Int) (hy : allB 0 M ys = true) (hM : 0 ≤ M) (hz : allB 0 0 zs = true) (k : Nat) (hk : k ≤ ys.length) : allB 0 (M * k) (accTo f ys zs k) = true := by
  induction k with
  | zero => simpa [accTo] using hz
  | succ k ih =>
    rw [accTo_succ]
    have h1 := allB_nth hy k (by omega)
    have h2 := addAt_all (f k) (ih (by omega)) h1.1 h1.2 hM
    have : M * ((k + 1 : Nat) : Int) = M * k + M := by rw [Int.natCast_add, Int.mul_add]; simp
    rw [this]; exact h2

/-- So many zeros. -/
def zeros (n : Nat) : List Int := List.replicate n 0
theorem zeros_len (n : Nat) : (zeros n).length = n := by simp [zeros]
theorem zeros_all (n : Nat) : allB 0 0 (zeros n) = true := by
  rw [allB_iff]; intro k hk; rw [zeros_len] at hk; rw [nth_eq _ _ (by rw [zeros_len]; exact hk)]; simp [zeros]

/-- 'make([]int, n)': zeros that the call owns. -/
theorem wpList_makeInts {ops : Array Oper} {rest : List Oper} {o : Oper} {a : Act} {Q : Exit → Act → World → Prop} (w : World) (hg : o.guard = none) (l c : Operand) (hop : o.op = Op.makeSlice 23 l c)
    (B : Nat) (kl kc : IntKind) (L C : Int) (n : Nat) (hl : a.eval l = .int kl L) (hc : a.eval c = .int kc C) (hL : L = (n : Int)) (hC : C = (n : Int)) (hn : n ≤ 1048576) (hB : B ≤ w.heap.size)
    (hK : ∀ w', Own B w' (.slice (some ⟨w.heap.size, 0, none⟩) n n) (zeros n) → Below w.heap.size w w' → w.heap.size < w'.heap.size → wpList Try.prog ops Q rest (a.put o.dst (.slice (some ⟨w.heap.size, 0, none⟩) n n)) w') :
    wpList Try.prog ops Q (o :: rest) a w := by
  obtain ⟨i0, hi, hz0, hz1, hz2⟩ := info_parts Try.info3
  refine wpList_make_full w hg l c 23 hop B 3 i0 (.int .i64 0) 1 Try.underlying23 hi hz0 hz1 kl kc L C n hl hc hL hC (by rw [hz2]; omega) (by unfold maxLen; omega) hB ?_
  intro w' h1 h2
  refine hK w' ?_ ((Below.refl _ _).grown h2 (Nat.le_refl _) (fun k hk => by cases hk)) ((World.ownsRow.lt h1 w.heap.size rfl).2)
  unfold Own
  rw [zeros_len]
  simpa [zeros, toList_madeCells_one, Value.cells] using h1

/-- A cell of a slice of ints that the call owns, at the head of its row. -/
theorem Own.cellAt {B g n c : Nat} {w : World} {zs : List Int} (h : Own B w (.slice (some ⟨g, 0, none⟩) n c) zs) (hl : zs.length = n) (k : Nat) (hk : k < n) :
    w.cell? ⟨g, k, none⟩ = some (.int .i64 (nth zs k)) ∧ w.frozen? ⟨g, k, none⟩ = false := by
  unfold Own at h
  rw [hl] at h
  exact ⟨cell_own h k hk, h.frozenAt k⟩

theorem Own.storedAt {B g n c : Nat} {w : World} {zs : List Int} (h : Own B w (.slice (some ⟨g, 0, none⟩) n c) zs) (hl : zs.length = n) (k : Nat) (y : Int) :
    Own B (w.setCell ⟨g, k, none⟩ (.int .i64 y)) (.slice (some ⟨g, 0, none⟩) n c) (zs.set k y) := by
  unfold Own at *
  rw [hl] at h
  have := (h.stored k (.int .i64 y)).1
  rw [List.length_set, hl, List.map_set]
  exact this

set_option maxHeartbeats 1000000 in
theorem mapped_any (fid : FuncId) (hfid : ∀ (args : Array Value) (W : World), Sem.run Try.prog (callFunc fid args) W = .ok (.enter fid args) W) (q : Addr) (F : Nat → Nat) (s z : Int) (p : Option Addr) (c n : Nat) (xs : List Int) (w : World)
    (hx : Reads w p xs) (hxm : xs.length ≤ 16) (hr : allB 0 1000000 xs = true) (hz1 : 1 ≤ z) (hz4 : z ≤ 4) (hn : (n : Int) = pow2 z) (hF : ∀ b, b < xs.length → F b < n)
    (hcl : Hid (∀ (b : Nat) (wr : World), b < xs.length → Below w.heap.size w wr → Calls Try.prog fid #[.int .i64 b, .pointer (some q)] wr fun e w' => e = .returned (.int .i64 (F b : Nat)) ∧ wr = w')) :
    Calls Try.prog 83 #[.agg #[.int .i64 s, .slice p xs.length c], .int .i64 z, .func (Fn.func fid) #[] #[.pointer (some q)]] w fun e w' =>
      ∃ v, e = .returned (.tuple #[.agg #[.int .i64 (mkS z (accTo F xs (zeros n) xs.length)), v], .bool (mkOk z (accTo F xs (zeros n) xs.length))]) ∧ Own w.heap.size w' v (mkL z (accTo F xs (zeros n) xs.length)) ∧ Below w.heap.size w w' := by
  have hpw := pow2_wrap z hz1 hz4
  have hbd := pow2_bd z hz1 hz4
  have hn16 : n ≤ 16 := by omega
  rw [← hn] at hpw
  have HR := Lib.hid hr
  have HN := Lib.hid hn
  clear hr hn hbd
  obtain ⟨W, hW⟩ : ∃ W : World, W = (w.alloc (.cells #[.int .i64 s, .slice p xs.length c] 25)).alloc (.cells #[.int .i64 0, .slice none 0 0] 25) := ⟨_, rfl⟩
  have hbW : Below w.heap.size w W := by subst hW; exact (belowAlloc _ _).thenB (belowAlloc _ _)
  have hsz : W.heap.size = w.heap.size + 2 := by subst hW; simp
  have hM : VarInv W w.heap.size s (.slice p xs.length c) := by subst hW; exact (VarInv.made w _ _ _).later (belowAlloc _ _)
  have hR : VarInv W (w.heap.size + 1) 0 (.slice none 0 0) := by
    subst hW
    have h := VarInv.made (w.alloc (.cells #[.int .i64 s, .slice p xs.length c] 25)) 0 (.slice none 0 0) 25
    rw [show (w.alloc (.cells #[.int .i64 s, .slice p xs.length c] 25)).heap.size = w.heap.size + 1 by simp] at h
    exact h
  have HWW := Lib.hid hW
  have HSZ := Lib.hid hsz
  clear hW hsz
  go_enter Try.func83, Try.ntmps83
  go_wp2_with (at_make; refine wpList_makeInts _ rfl _ _ rfl (w.heap.size + 2) _ _ _ _ n rfl rfl hpw hpw (by omega) (by simp) ?_)
  rw [← HWW.out]
  intro w1 hown hb1 hlt1
  replace hb1 : Below W.heap.size W w1 := by rw [HSZ.out]; exact hb1
  have hM1 := hM.later hb1
  have hR1 := hR.later hb1
  have hbw1 := hbW.thenB hb1
  have hm1 := hM1.c1
  clear hb1 hM hR hbW hpw
  go_wp2_with fail
  go_loopw [17] (fun i wr => ∃ k : Nat, k ≤ xs.length ∧ i = .int .i64 k ∧ Own (w.heap.size + 2) wr (.slice (some ⟨w.heap.size + 1 + 1, 0, none⟩) n n) (accTo F xs (zeros n) k) ∧ VarInv wr w.heap.size s (.slice p xs.length c) ∧ VarInv wr (w.heap.size + 1) 0 (.slice none 0 0) ∧ Below w.heap.size w wr ∧ w.heap.size + 1 + 1 < wr.heap.size) (fun i _ => xs.length - (intOf i).toNat)
  case atStart => exact ⟨0, Nat.zero_le _, rfl, hown, hM1, hR1, hbw1, hlt1⟩
  case round =>
    clear hown hM1 hR1 hbw1 hlt1 hm1
    obtain ⟨k, hk, rfl, ho, iM, iR, hb, hlt1⟩ := hrel
    by_cases hlt : k < xs.length
    · obtain ⟨b, off, rfl, hbl, hc0⟩ := hx k hlt
      have hc := (hb.cell (p := ⟨b, off + k, none⟩) hbl).trans hc0
      have hs := Lib.hid (accTo_succ F xs (zeros n) k)
      have hal := accTo_all F xs (zeros n) HR.out (by omega) (zeros_all n) k hk
      have hln := accTo_len F xs (zeros n) k
      rw [zeros_len] at hln
      have hFk := hF k hlt
      obtain ⟨f1, f2⟩ := allB_nth hal (F k) (by rw [hln]; exact hFk)
      obtain ⟨d1, d2⟩ := allB_nth HR.out k hlt
      obtain ⟨q1, q2⟩ := ho.cellAt hln (F k) hFk
      have hst := ho.storedAt hln (F k) (nth (accTo F xs (zeros n) k) (F k) + nth xs k)
      have HST := Lib.hid hst
      have HO := Lib.hid ho
      clear hx hc0 hal hst ho
      have hFn : ((F k : Nat) : Int) < (n : Int) := by omega
      have hF0 : (0 : Int) ≤ ((F k : Nat) : Int) := by omega
      have hle : 1000000 * (k : Int) ≤ 16000000 := by omega
      go_wp2_with fail
      refine (hcl.out k _ hlt hb).mono ?_
      rintro e w' ⟨rfl, rfl⟩
      go_wp2
      exact ⟨⟨k + 1, by omega, by go_num, by rw [hs.out]; exact HST.out, iM.other _ (by show w.heap.size + 1 + 1 ≠ w.heap.size; omega) _, iR.other _ (by show w.heap.size + 1 + 1 ≠ w.heap.size + 1; omega) _, hb.setCell (by show _ ≤ w.heap.size + 1 + 1; omega) _, by simpa using hlt1⟩, by simp [intOf]; omega⟩
    · have h1 : k = xs.length := by omega
      subst h1
      have hal := accTo_all F xs (zeros n) HR.out (by omega) (zeros_all n) xs.length (Nat.le_refl _)
      have hal2 := Lib.hid (allB_wider hal (low' := 0) (high' := 4611686018427387904) (by omega) (by omega))
      have hln := accTo_len F xs (zeros n) xs.length
      rw [zeros_len] at hln
      have HLN := Lib.hid hln
      have r1 := iR.c0
      have r2 := iR.c1
      clear hal hln hx
      go_wp2_with fail
      refine (makeMass_n _ _ _ _ _ _ HLN.out ho.reads (by rw [HLN.out]; omega) hal2.out).mono ?_
      rintro e w2 ⟨v, rfl, ho2, hb2⟩
      obtain ⟨p2, k2, rfl, hr2⟩ := ho2.shape
      clear hr2
      have jR := iR.later hb2
      have s0 := jR.c0
      have s1 := jR.c1
      have s2 := jR.f0
      have s3 := jR.f1
      go_wp2
      refine bodyPost_ret (v := .tuple #[.agg #[.int .i64 (mkS z (accTo F xs (zeros n) xs.length)), .slice p2 (mkL z (accTo F xs (zeros n) xs.length)).length k2], .bool (mkOk z (accTo F xs (zeros n) xs.length))]) (by simp [results, Try.results83, go_sem, s0, s1, s2, s3]) rfl ⟨_, rfl, ?_, ?_⟩
      · exact ((ho2.setBelow (by show w.heap.size + 1 < _; omega) _).setBelow (by show w.heap.size + 1 < _; omega) _).mono (by omega)
      · exact ((hb.trans (hb2.mono (by omega))).setCell (by show _ ≤ w.heap.size + 1; omega) _).setCell (by show _ ≤ w.heap.size + 1; omega) _

end Go.Proofs.Ytkpnenbkfphldaa
