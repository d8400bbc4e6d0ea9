/- The reader of drawn bytes: what a call leaves as it was, and one pick. -/
import Derived.Test.YtjmfjgoehicgcaaBase
import Derived.Deep.QuietTactic
import Derived.IntWalk
set_option linter.unusedVariables false
set_option linter.unusedSimpArgs false
namespace Go.Proofs.Ytjmfjgoehicgcaa
open Go.RowKit

/-- Below block B nothing has changed but block R. -/
structure Dr (B R : Nat) (w w' : World) : Prop where
  os : w'.os = w.os
  tape : w'.tape = w.tape
  output : w'.output = w.output
  size : w.heap.size ≤ w'.heap.size
  block : ∀ k, k < B → k ≠ R → w'.heap[k]? = w.heap[k]?

theorem Dr.refl (B R : Nat) (w : World) : Dr B R w w := ⟨rfl, rfl, rfl, Nat.le_refl _, fun _ _ _ => rfl⟩
theorem Dr.trans {B R : Nat} {a b c : World} (h : Dr B R a b) (k : Dr B R b c) : Dr B R a c :=
  ⟨k.os.trans h.os, k.tape.trans h.tape, k.output.trans h.output, Nat.le_trans h.size k.size, fun i hi hr => (k.block i hi hr).trans (h.block i hi hr)⟩
theorem Dr.mono {B B' R : Nat} {a b : World} (h : Dr B R a b) (hB : B' ≤ B) : Dr B' R a b :=
  ⟨h.os, h.tape, h.output, h.size, fun i hi hr => h.block i (Nat.lt_of_lt_of_le hi hB) hr⟩
theorem Dr.ofBelow {B R : Nat} {a b : World} (h : Below B a b) : Dr B R a b := ⟨h.os, h.tape, h.output, h.size, fun i hi _ => h.block i hi⟩
theorem Dr.below {B R : Nat} {a b : World} (h : Dr B R a b) (hR : B ≤ R) : Below B a b := ⟨h.os, h.tape, h.output, h.size, fun i hi => h.block i hi (by omega)⟩
theorem Dr.then {B R : Nat} {a b c : World} (h : Dr B R a b) (hB : B ≤ b.heap.size) (k : Dr b.heap.size R b c) : Dr B R a c := h.trans (k.mono hB)
theorem Dr.thenB {B R : Nat} {a b c : World} (h : Dr B R a b) (hB : B ≤ b.heap.size) (k : Below b.heap.size b c) : Dr B R a c := h.trans (Dr.ofBelow (k.mono hB))
theorem Dr.drew {B R : Nat} {a b : World} (h : Dr B R a b) : Dr B R a b.drew := ⟨h.os, h.tape, h.output, h.size, h.block⟩
theorem Dr.drewN {B R : Nat} {a b : World} (h : Dr B R a b) (k : Nat) : Dr B R a (b.drewN k) := ⟨h.os, h.tape, h.output, h.size, h.block⟩
theorem Dr.setCell {B R : Nat} {a b : World} (h : Dr B R a b) (p : Addr) (hp : B ≤ p.block ∨ p.block = R) (u : Value) : Dr B R a (b.setCell p u) :=
  ⟨h.os, h.tape, h.output, by simpa using h.size, fun i hi hr => by rw [Below.heap_setCell _ _ _ _ (by rcases hp with hp | hp <;> omega)]; exact h.block i hi hr⟩
theorem Dr.cell {B R : Nat} {w w' : World} (h : Dr B R w w') {b o : Nat} (hb : b < B) (hr : b ≠ R) : w'.cell? ⟨b, o, none⟩ = w.cell? ⟨b, o, none⟩ := World.cell?_of_block (w := w) (h.block b hb hr)
theorem Dr.frozen {B R : Nat} {w w' : World} (h : Dr B R w w') {b o : Nat} (hb : b < B) (hr : b ≠ R) : w'.frozen? ⟨b, o, none⟩ = w.frozen? ⟨b, o, none⟩ := World.frozen?_of_block (w := w) (h.block b hb hr)

theorem Own.dr {B R : Nat} {w w' : World} {v : Value} {xs : List Int} (h : Own B w v xs) (hb : Dr w.heap.size R w w') (hR : R < B) : Own B w' v xs := by
  refine ⟨h.1, ?_⟩
  rcases h.2 with h | ⟨g, cap, cur, a, b, hg, r⟩
  · exact .inl h
  · exact .inr ⟨g, cap, cur, a, b, by rw [hb.block g (Array.getElem?_eq_some_iff.1 hg).1 (by omega)]; exact hg, r⟩

theorem cellDr {R : Nat} {w w' : World} {b o : Nat} {v : Value} (hb : Dr w.heap.size R w w') (h : w.cell? ⟨b, o, none⟩ = some v) (hr : b ≠ R) : w'.cell? ⟨b, o, none⟩ = some v :=
  (hb.cell (World.block_lt_of_cell? w _ h) hr).trans h
theorem frozDr {R : Nat} {w w' : World} {b o : Nat} (hb : Dr w.heap.size R w w') (hlt : b < w.heap.size) (hr : b ≠ R) (h : w.frozen? ⟨b, o, none⟩ = false) : w'.frozen? ⟨b, o, none⟩ = false :=
  (hb.frozen hlt hr).trans h

/-- What is read of memory that is no part of the reader. -/
def Apart (R : Nat) (a : Option Addr) : Prop := ∀ x, a = some x → x.block ≠ R

theorem ReadsK.dr {q : IntKind} {R : Nat} {w w' : World} {a : Option Addr} {xs : List Int} (h : ReadsK q w a xs) (hb : Dr w.heap.size R w w') (hr : Apart R a) : ReadsK q w' a xs := by
  intro k hk
  obtain ⟨b, off, rfl, hlt, hc⟩ := h k hk
  have := hr _ rfl
  exact ⟨b, off, rfl, Nat.lt_of_lt_of_le hlt hb.size, by rw [hb.cell hlt this]; exact hc⟩

/-- The reader at block R: a slice of bytes, and how many were asked for, at most P. -/
def Rdr (R P : Nat) (w : World) : Prop :=
  ∃ (a : Option Addr) (c : Nat) (bs : List Int) (p : Nat), w.cell? ⟨R, 0, none⟩ = some (.slice a bs.length c) ∧ ReadsK .u8 w a bs ∧ (∀ n ∈ bs, 0 ≤ n ∧ n ≤ 255) ∧ bs.length ≤ 2000 ∧
    (∀ x, a = some x → 0 < bs.length → x.block < R) ∧ w.cell? ⟨R, 1, none⟩ = some (.int .i64 p) ∧ p ≤ P ∧ w.frozen? ⟨R, 0, none⟩ = false ∧ w.frozen? ⟨R, 1, none⟩ = false ∧ R < w.heap.size

theorem Rdr.lt {R P : Nat} {w : World} (h : Rdr R P w) : R < w.heap.size := by obtain ⟨a, c, bs, p, h1, h2, h3, h4, h5, h6, h7, h8, h9, h10⟩ := h; exact h10
theorem Rdr.more {R P P' : Nat} {w : World} (h : Rdr R P w) (hp : P ≤ P') : Rdr R P' w := by
  obtain ⟨a, c, bs, p, h1, h2, h3, h4, h5, h6, h7, h8, h9, h10⟩ := h; exact ⟨a, c, bs, p, h1, h2, h3, h4, h5, h6, by omega, h8, h9, h10⟩
theorem Rdr.kept {R P B : Nat} {w w' : World} (h : Rdr R P w) (hb : Below B w w') (hB : R < B) : Rdr R P w' := by
  obtain ⟨a, c, bs, p, h1, h2, h3, h4, h5, h6, h7, h8, h9, h10⟩ := h
  refine ⟨a, c, bs, p, (hb.cell (p := ⟨R, 0, none⟩) hB).trans h1, ?_, h3, h4, h5, (hb.cell (p := ⟨R, 1, none⟩) hB).trans h6, h7, (hb.frozen (p := ⟨R, 0, none⟩) hB).trans h8, (hb.frozen (p := ⟨R, 1, none⟩) hB).trans h9, Nat.lt_of_lt_of_le h10 hb.size⟩
  intro k hk
  obtain ⟨b, off, rfl, hlt, hc⟩ := h2 k hk
  have := h5 _ rfl (by omega)
  exact ⟨b, off, rfl, Nat.lt_of_lt_of_le hlt hb.size, (hb.cell (p := ⟨b, off + k, none⟩) (by simp at this ⊢; omega)).trans hc⟩
theorem Rdr.later {R P : Nat} {w w' : World} (h : Rdr R P w) (hb : Below w.heap.size w w') : Rdr R P w' := h.kept hb h.lt
theorem Rdr.drew {R P : Nat} {w : World} (h : Rdr R P w) : Rdr R P w.drew := h
theorem Rdr.drewN {R P : Nat} {w : World} (h : Rdr R P w) (k : Nat) : Rdr R P (w.drewN k) := h
theorem Rdr.setCell {R P : Nat} {w : World} (h : Rdr R P w) (q : Addr) (hq : R < q.block) (u : Value) : Rdr R P (w.setCell q u) := h.kept (B := R + 1) ((Below.refl _ _).setCell (by omega) u) (by omega)

/-- One number picked: it lies below n; the reader goes on. -/
def Picked (R P : Nat) (n : Int) (w : World) (e : Ending) (w' : World) : Prop := ∃ x : Nat, e = .returned (.int .i64 (x : Int)) ∧ (x : Int) < n ∧ Rdr R (P + 1) w' ∧ Dr w.heap.size R w w'

theorem pick_fin {R P : Nat} {n : Int} {w w' : World} {e : Ending} {v : Value} {a : Option Addr} {c p : Nat} {bs : List Int} (hv : e = .returned v) (hx : ∃ y : Int, v = .int .i64 y ∧ 0 ≤ y ∧ y < n)
    (h1 : w.cell? ⟨R, 0, none⟩ = some (.slice a bs.length c)) (h2 : ReadsK .u8 w a bs) (h3 : ∀ n ∈ bs, 0 ≤ n ∧ n ≤ 255) (h4 : bs.length ≤ 2000) (h5 : ∀ x, a = some x → 0 < bs.length → x.block < R)
    (h6 : w.cell? ⟨R, 1, none⟩ = some (.int .i64 p)) (h7 : p ≤ P) (h8 : w.frozen? ⟨R, 0, none⟩ = false) (h9 : w.frozen? ⟨R, 1, none⟩ = false) (h10 : R < w.heap.size)
    (hw : ∃ k : Nat, w' = (w.setCell ⟨R, 1, none⟩ (.int .i64 ((p : Int) + 1))).drewN k) : Picked R P n w e w' := by
  obtain ⟨y, rfl, hy0, hy1⟩ := hx
  obtain ⟨x, rfl⟩ := Int.eq_ofNat_of_zero_le hy0
  have hp1 : (p : Int) + 1 = ((p + 1 : Nat) : Int) := by simp
  rw [hp1] at hw
  have key : Rdr R (P + 1) (w.setCell ⟨R, 1, none⟩ (.int .i64 ((p + 1 : Nat) : Int))) := by
    refine ⟨a, c, bs, p + 1, by rw [World.cell?_setCell_other _ _ _ _ (by simp)]; exact h1, ?_, h3, h4, h5, World.cell?_setCell_same _ _ _ h6, by omega, by rw [World.frozen?_setCell]; exact h8, by rw [World.frozen?_setCell]; exact h9, by simpa using h10⟩
    intro k hk
    obtain ⟨b, off, rfl, hlt, hc⟩ := h2 k hk
    have := h5 _ rfl (by omega)
    refine ⟨b, off, rfl, by simpa using hlt, ?_⟩
    rw [World.cell?_setCell_other _ _ _ _ (fun e => (by simp at this; omega : b ≠ R) (by simpa using (congrArg Addr.block e).symm))]; exact hc
  obtain ⟨k, rfl⟩ := hw
  exact ⟨x, hv, hy1, key.drewN k, ((Dr.refl _ R _).setCell _ (.inr (by rfl)) _).drewN k⟩

/-- The sign bit alone decides whether a result is below zero. -/
theorem xor_nat (X Y : Nat) (hX : X < 9223372036854775808) (hY : Y < 9223372036854775808) : bits .xor .i64 (X : Int) (Y : Int) = ((X ^^^ Y : Nat) : Int) := by
  have hx : X ^^^ Y < 2 ^ 63 := Nat.xor_lt_two_pow (by simpa using hX) (by simpa using hY)
  have h1 : (BitVec.ofInt 64 (X : Int)).toNat = X := by
    rw [BitVec.ofInt_natCast, BitVec.toNat_ofNat]; exact Nat.mod_eq_of_lt (by omega)
  have h2 : (BitVec.ofInt 64 (Y : Int)).toNat = Y := by
    rw [BitVec.ofInt_natCast, BitVec.toNat_ofNat]; exact Nat.mod_eq_of_lt (by omega)
  show IntKind.i64.wrap ((BitVec.ofInt 64 (X : Int) ^^^ BitVec.ofInt 64 (Y : Int)).toNat : Int) = _
  rw [BitVec.toNat_xor, h1, h2]
  exact IntWalk.i64_in _ (by omega)

set_option maxHeartbeats 1000000 in
theorem pick_any (R P : Nat) (n : Int) (w : World) (h : Rdr R P w) (hP : P ≤ 1000000) (h1 : 1 ≤ n) (h2 : n ≤ 1000000) :
    Calls Try.prog 91 #[.pointer (some ⟨R, 0, none⟩), .int .i64 n] w (Picked R P n w) := by
  obtain ⟨a, c, bs, p, hc0, hrd, hwf, hl, hab, hc1, hp, hf0, hf1, hlt⟩ := h
  have hp1 : p ≤ 1000000 := by omega
  have hfin := fun e v w' hv hx hw => pick_fin (R := R) (P := P) (n := n) (w := w) (w' := w') (e := e) (v := v) (a := a) (c := c) (p := p) (bs := bs) hv hx hc0 hrd hwf hl hab hc1 hp hf0 hf1 hlt hw
  have HF := Lib.hid hfin
  clear hfin
  by_cases h0 : bs.length = 0
  · have hb0 : bs = [] := List.length_eq_zero_iff.1 h0
    subst hb0
    clear hrd hwf hab h0 hl
    simp only [List.length_nil] at hc0
    have hlast := Lib.hid (HF.out _ _ (w.setCell ⟨R, 1, none⟩ (.int .i64 ((p : Int) + 1))) rfl ⟨0, rfl, by omega, by omega⟩ ⟨0, rfl⟩)
    clear HF
    go_enter Try.func91, Try.ntmps91
    go_wp2
    go_ret
    exact hlast.out
  · have hz0 : ((bs.length : Int) == 0) = false := by simp [List.length_eq_zero_iff] at h0 ⊢; exact h0
    by_cases hk : p < bs.length
    · obtain ⟨b, off, rfl, hbl, hcell⟩ := hrd p hk
      have hbR := hab _ rfl (by omega)
      simp only at hbR
      have hx := hwf (nth bs p) (by rw [nth_eq bs p hk]; exact List.getElem_mem hk)
      have hm0 := Int.emod_nonneg (nth bs p) (show n ≠ 0 by omega)
      have hm1 := Int.emod_lt_of_pos (nth bs p) (show 0 < n by omega)
      have hlast := Lib.hid (HF.out _ _ (w.setCell ⟨R, 1, none⟩ (.int .i64 ((p : Int) + 1))) rfl ⟨_, rfl, hm0, hm1⟩ ⟨0, rfl⟩)
      clear HF hm0 hm1 hwf hrd
      go_enter Try.func91, Try.ntmps91
      go_wp2
      go_ret
      exact hlast.out
    · have hL : 0 < bs.length := by omega
      obtain ⟨j1, hj1⟩ : ∃ j1, j1 = p % bs.length := ⟨_, rfl⟩
      obtain ⟨j2, hj2⟩ : ∃ j2, j2 = (p * 7 + 3) % bs.length := ⟨_, rfl⟩
      have lj1 : j1 < bs.length := by rw [hj1]; exact Nat.mod_lt _ hL
      have lj2 : j2 < bs.length := by rw [hj2]; exact Nat.mod_lt _ hL
      obtain ⟨b, off, rfl, hbl, hcell⟩ := hrd j1 lj1
      have hcell2 : w.cell? ⟨b, off + j2, none⟩ = some (.int .u8 (nth bs j2)) := by
        obtain ⟨b', off', e, _, h⟩ := hrd j2 lj2
        cases e; exact h
      have hbR := hab _ rfl (by omega)
      simp only at hbR
      have hx := hwf (nth bs j1) (by rw [nth_eq bs j1 lj1]; exact List.getElem_mem lj1)
      have hx2 := hwf (nth bs j2) (by rw [nth_eq bs j2 lj2]; exact List.getElem_mem lj2)
      have m1 : (p : Int) % (bs.length : Int) = (j1 : Int) := by rw [hj1]; simp
      have m2 : ((p : Int) * 7 + 3) % (bs.length : Int) = (j2 : Int) := by rw [hj2]; simp
      obtain ⟨q, hq⟩ : ∃ q, q = p / bs.length := ⟨_, rfl⟩
      have lq : q ≤ 1000000 := by rw [hq]; exact Nat.le_trans (Nat.div_le_self _ _) hp1
      have m3 : (p : Int) / (bs.length : Int) = (q : Int) := by rw [hq]; simp
      clear hq hj1 hj2 hwf hrd
      go_enter Try.func91, Try.ntmps91
      go_wp2
      go_quiet (fail)
      obtain ⟨X, hX, hXs⟩ : ∃ X : Nat, X < 1000000000 ∧ nth bs j1 * 131 + nth bs j2 * 1117 + (p : Int) * 29 + (q : Int) * 53 = (X : Int) := by
        obtain ⟨x1, e1⟩ := Int.eq_ofNat_of_zero_le hx.1
        obtain ⟨x2, e2⟩ := Int.eq_ofNat_of_zero_le hx2.1
        refine ⟨x1 * 131 + x2 * 1117 + p * 29 + q * 53, by omega, by rw [e1, e2]; simp⟩
      rw [hXs]
      obtain ⟨Z, hZ, hZs⟩ : ∃ Z : Nat, Z < 1073741824 ∧ bits .xor .i64 (X : Int) ((X : Int) / 64) = (Z : Int) := by
        refine ⟨X ^^^ (X / 64), Nat.xor_lt_two_pow (n := 30) (by omega) (by omega), ?_⟩
        rw [show ((X : Int) / 64) = ((X / 64 : Nat) : Int) by omega]
        exact xor_nat _ _ (by omega) (by omega)
      clear hXs m1 m2 m3
      have hz0 : (0 : Int) ≤ Z := by omega
      have hm0 := Lib.hid (Int.emod_nonneg (Z : Int) (show n ≠ 0 by omega))
      have hm1 := Lib.hid (Int.emod_lt_of_pos (Z : Int) (show 0 < n by omega))
      go_wp2
      go_ret
      exact HF.out _ _ _ rfl ⟨_, rfl, hm0.out, hm1.out⟩ ⟨_, rfl⟩

/-- One number out of a list. -/
def Numbered (R P : Nat) (xs : List Int) (w : World) (e : Ending) (w' : World) : Prop := ∃ y : Int, y ∈ xs ∧ e = .returned (.int .i64 y) ∧ Rdr R (P + 1) w' ∧ Dr w.heap.size R w w'

theorem reads_lit (w : World) (xs : List Int) (t : TypeId) : Reads (w.alloc (.cells (xs.map (Value.int .i64)).toArray t)) (some ⟨w.heap.size, 0, none⟩) xs := by
  intro k hk
  refine ⟨w.heap.size, 0, rfl, by simp, ?_⟩
  rw [World.cell?_alloc_at _ _ _ _ (by simp)]
  simp [nth, List.getD, hk]

theorem num_any (R P : Nat) (a : Option Addr) (c : Nat) (xs : List Int) (n : Nat) (hn : xs.length = n) (w : World) (h : Rdr R P w) (hP : P ≤ 1000000) (hx : Reads w a xs) (ha : Apart R a) (h1 : 1 ≤ xs.length) (h2 : xs.length ≤ 1000) :
    Calls Try.prog 92 #[.pointer (some ⟨R, 0, none⟩), .slice a n c] w (Numbered R P xs w) := by
  subst hn
  go_enter Try.func92, Try.ntmps92
  go_wp2_with fail
  refine (pick_any R P (xs.length : Int) w h hP (by omega) (by omega)).mono ?_
  rintro e w' ⟨k, rfl, hk, hR, hD⟩
  have hk' : k < xs.length := by omega
  obtain ⟨b, off, rfl, hb, hc⟩ := (hx.dr hD ha) k hk'
  have hm : nth xs k ∈ xs := by rw [nth_eq xs k hk']; exact List.getElem_mem hk'
  have HF := Lib.hid (show Numbered R P xs w (.returned (.int .i64 (nth xs k))) w' from ⟨_, hm, rfl, hR, hD⟩)
  clear hR hD hx ha hm h hk
  go_wp2
  go_ret
  exact HF.out

theorem Rdr.made (w : World) (a : Option Addr) (c : Nat) (bs : List Int) (t : TypeId) (hx : ReadsK .u8 w a bs) (hb : ∀ n ∈ bs, 0 ≤ n ∧ n ≤ 255) (hl : bs.length ≤ 2000) : Rdr w.heap.size 0 (w.alloc (.cells #[.slice a bs.length c, .int .i64 0] t)) := by
  refine ⟨a, c, bs, 0, newCell0 _ _ _ _, hx.below (belowAlloc _ _), hb, hl, ?_, newCell1 _ _ _ _, Nat.le_refl _, newFroz _ _ _ _, newFroz _ _ _ _, by simp⟩
  intro x hxa hlen
  obtain ⟨b, off, h, hlt, _⟩ := hx 0 hlen
  rw [hxa] at h; cases h; exact hlt

theorem ReadsK.take {q : IntKind} {w : World} {a : Option Addr} {xs : List Int} (h : ReadsK q w a xs) (n : Nat) : ReadsK q w a (xs.take n) := by
  intro k hk
  have hk2 : k < xs.length := by simp at hk; omega
  have hkn : k < n := by simp at hk; omega
  obtain ⟨b, off, e, hlt, hc⟩ := h k hk2
  refine ⟨b, off, e, hlt, ?_⟩
  rw [hc, nth_eq _ _ hk, nth_eq _ _ hk2, List.getElem_take]

theorem l14Open_any (a : Option Addr) (c : Nat) (bs : List Int) (w : World) (hx : ReadsK .u8 w a bs) (hwf : ∀ n ∈ bs, (Lit.int .u8 n).wf = true) (hl : bs.length ≤ maxLen) (hc : bs.length ≤ c) :
    Calls Try.prog 75 #[.slice a bs.length c] w fun e w' => e = .returned (.pointer (some ⟨w.heap.size, 0, none⟩)) ∧ Rdr w.heap.size 0 w' ∧ Below w.heap.size w w' := by
  unfold maxLen at hl
  have hb : ∀ n ∈ bs, 0 ≤ n ∧ n ≤ 255 := fun n hn => by
    have := hwf n hn
    simp [Lit.wf, IntKind.min, IntKind.max, IntKind.signed, IntKind.bits] at this
    omega
  clear hwf
  by_cases h2 : 2000 < bs.length
  · go_enter Try.func75, Try.ntmps75
    go_wp2
    go_ret
    have h := Rdr.made w a c (bs.take 2000) 106 (hx.take 2000) (fun n hn => hb n (List.mem_of_mem_take hn)) (by simp; omega)
    rw [show (bs.take 2000).length = 2000 by simp; omega] at h
    exact ⟨rfl, h, belowAlloc _ _⟩
  · go_enter Try.func75, Try.ntmps75
    go_wp2
    go_ret
    exact ⟨rfl, Rdr.made w a c bs _ hx hb (by omega), belowAlloc _ _⟩

end Go.Proofs.Ytjmfjgoehicgcaa
