/- The chance in which each set goes to the first of its answers in an order: both packages. -/
import Derived.Test.YtbcigoimgbfnoaaR1
import Derived.Test.YtbcigoimgbfnoaaC7
import Derived.Test.YtbcigoimgbfnoaaV9
set_option linter.unusedVariables false
set_option linter.unusedSimpArgs false
namespace Go.Proofs.Ytbcigoimgbfnoaa
open Go.RowKit

/-- The first answer of a set in an order, as a set. -/
def frS (ts : List Int) (a : Nat) : Nat := match ts.find? (fun y => a.testBit y.toNat) with
  | some y => bit y.toNat
  | none => 0

theorem frS_at (a : Nat) : ∀ (ts : List Int) (i : Nat), i < ts.length → (∀ j, j < i → a.testBit (nth ts j).toNat = false) → a.testBit (nth ts i).toNat = true → frS ts a = bit (nth ts i).toNat := by
  intro ts
  induction ts with
  | nil => intro i hi; simp at hi
  | cons x ts ih =>
    intro i hi hall ht
    cases i with
    | zero =>
      have ht' : a.testBit x.toNat = true := by simpa [nth] using ht
      simp [frS, ht', nth]
    | succ i =>
      have h0 : a.testBit x.toNat = false := by simpa [nth] using hall 0 (by omega)
      have e : nth (x :: ts) (i + 1) = nth ts i := by simp [nth]
      rw [e] at ht ⊢
      have := ih i (by simpa using hi) (fun j hj => by have := hall (j + 1) (by omega); simpa [nth] using this) ht
      unfold frS at this ⊢
      rw [List.find?_cons, h0]
      exact this

theorem frS_none (a : Nat) (ts : List Int) (h : ∀ j, j < ts.length → a.testBit (nth ts j).toNat = false) : frS ts a = 0 := by
  have : ts.find? (fun y => a.testBit y.toNat) = none := by
    rw [List.find?_eq_none]
    intro y hy
    obtain ⟨j, hj, rfl⟩ := List.getElem_of_mem hy
    have := h j hj
    rw [nth_eq _ _ hj] at this
    simp [this]
  unfold frS
  rw [this]

theorem frS_lt {s : Int} {ts : List Int} (h : allB 0 (s - 1) ts = true) (a : Nat) : frS ts a < 2 ^ s.toNat := by
  unfold frS
  cases hf : ts.find? (fun y => a.testBit y.toNat) with
  | none => exact Nat.two_pow_pos _
  | some y =>
    have hm := List.mem_of_find?_eq_some hf
    obtain ⟨j, hj, rfl⟩ := List.getElem_of_mem hm
    have := allB_nth h j hj
    rw [nth_eq _ _ hj] at this
    exact Nat.pow_lt_pow_right (by omega) (by omega)

theorem frS_zero (ts : List Int) : frS ts 0 = 0 := frS_none 0 ts fun j _ => by simp

theorem fo1 : ∀ (a : Fin 1) (m : Fin 2), m.val ≠ 0 → [(a.val : Int)].any (fun y => m.val.testBit y.toNat) = true := by decide +kernel
theorem fo2 : ∀ (a b : Fin 2) (m : Fin 4), ndTo [(a.val : Int), b.val] 2 = true → m.val ≠ 0 → [(a.val : Int), b.val].any (fun y => m.val.testBit y.toNat) = true := by decide +kernel
theorem fo3 : ∀ (a b c : Fin 3) (m : Fin 8), ndTo [(a.val : Int), b.val, c.val] 3 = true → m.val ≠ 0 → [(a.val : Int), b.val, c.val].any (fun y => m.val.testBit y.toNat) = true := by decide +kernel
theorem fo4 : ∀ (a b c d : Fin 4) (m : Fin 16), ndTo [(a.val : Int), b.val, c.val, d.val] 4 = true → m.val ≠ 0 → [(a.val : Int), b.val, c.val, d.val].any (fun y => m.val.testBit y.toNat) = true := by decide +kernel

theorem ordB_parts {s : Int} {ts : List Int} (h : ordB s ts = true) : allB 0 (s - 1) ts = true ∧ (ts.length : Int) = s ∧ ndTo ts ts.length = true := by
  simp only [ordB, Bool.and_eq_true, decide_eq_true_eq] at h
  exact ⟨h.1, h.2.1, h.2.2⟩

theorem fo_any {s : Int} {ts : List Int} (h1 : 1 ≤ s) (h4 : s ≤ 4) (h : ordB s ts = true) (a : Nat) (h0 : a ≠ 0) (ha : a < 2 ^ s.toNat) : ∃ i, i < ts.length ∧ a.testBit (nth ts i).toNat = true := by
  obtain ⟨hal, hl, hn⟩ := ordB_parts h
  have hany : ts.any (fun y => a.testBit y.toNat) = true := by
    rcases few h1 h4 hal hl with ⟨rfl, x, rfl⟩ | ⟨rfl, x, y, rfl⟩ | ⟨rfl, x, y, z, rfl⟩ | ⟨rfl, x, y, z, u, rfl⟩
    · exact fo1 x ⟨a, ha⟩ h0
    · exact fo2 x y ⟨a, ha⟩ hn h0
    · exact fo3 x y z ⟨a, ha⟩ hn h0
    · exact fo4 x y z u ⟨a, ha⟩ hn h0
  rw [List.any_eq_true] at hany
  obtain ⟨y, hy, ht⟩ := hany
  obtain ⟨j, hj, rfl⟩ := List.getElem_of_mem hy
  exact ⟨j, hj, by rw [nth_eq _ _ hj]; exact ht⟩

/-- The parts. -/
def frP (xs ts : List Int) : List Int := accTo (frS ts) xs (zeros xs.length) xs.length

theorem frP_len (xs ts : List Int) : (frP xs ts).length = xs.length := by rw [frP, accTo_len, zeros_len]

def crG (s : Int) (xs ts : List Int) : Bool := normB s xs && ordB s ts

theorem crR_len (s : Int) (xs ts : List Int) (h : xs.length ≤ 1048576) : (gL (crG s xs ts) s (frP xs ts)).length ≤ 1048576 := by
  have := gL_len (crG s xs ts) s (frP xs ts)
  rw [frP_len] at this
  omega

theorem frP_wide {s : Int} {xs : List Int} (h : MassOk s xs) (ts : List Int) : allB 0 4611686018427387904 (frP xs ts) = true := by
  have := h.l16
  exact allB_wider (accTo_all (frS ts) xs _ h.all (by omega) (zeros_all _) _ (Nat.le_refl _)) (by omega) (by omega)

theorem addAt_zero0 (zs : List Int) (i : Nat) : addAt zs i 0 = zs := by
  unfold addAt
  by_cases h : i < zs.length
  · rw [nth_eq _ _ h, Int.add_zero, List.set_getElem_self]
  · rw [List.set_eq_of_length_le (by omega)]

theorem acc_one (ts xs zs : List Int) (h : nth xs 0 = 0) : accTo (frS ts) xs zs 1 = zs := by
  rw [accTo_succ, h, addAt_zero0]; rfl

theorem firIn_any (a : Nat) (q : Addr) (p : Option Addr) (c : Nat) (ts : List Int) (w : World) (hx : Reads w p ts) (hxm : ts.length ≤ 4) (hal : allB 0 3 ts = true) (ha : a < 16) (hq : w.cell? q = some (.slice p ts.length c)) :
    Calls Try.prog 72 #[.int .i64 a, .pointer (some q)] w fun e w' => e = .returned (.int .i64 (frS ts a : Nat)) ∧ w = w' := by
  have HA := Lib.hid hal
  clear hal
  go_enter Try.func72, Try.ntmps72
  go_wp2
  go_loop [8] (fun i => ∃ k : Nat, k ≤ ts.length ∧ i = .int .i64 k ∧ ∀ j, j < k → a.testBit (nth ts j).toNat = false) (fun i => ts.length - (intOf i).toNat)
  case atStart => exact ⟨0, Nat.zero_le _, rfl, fun j hj => absurd hj (by omega)⟩
  case round =>
    obtain ⟨k, hk, rfl, hall⟩ := hrel
    have HL := Lib.hid hall
    clear hall
    by_cases hlt : k < ts.length
    · obtain ⟨b, off, rfl, hbl, hc⟩ := hx k hlt
      have hbn := allB_nth HA.out k hlt
      obtain ⟨y, hy, hy4⟩ := int_nat4 hbn.1 (show nth ts k < 4 by omega) (by omega)
      have HY := Lib.hid hy
      rw [hy] at hc
      have hwp := bit_wrap' y hy4
      have hh := bit_has' a y ha hy4
      clear hx hy hbn
      cases ht : a.testBit y
      · rw [ht] at hh
        have HT := Lib.hid ht
        clear ht
        go_wp2
        exact ⟨⟨k + 1, by omega, by go_num, fun j hj => by
          by_cases e : j = k
          · subst e; rw [HY.out, Int.toNat_natCast]; exact HT.out
          · exact HL.out j (by omega)⟩, by simp [intOf]; omega⟩
      · rw [ht] at hh
        have hF : Hid (frS ts a = bit y) := Lib.hid (by rw [frS_at a ts k hlt HL.out (by rw [HY.out, Int.toNat_natCast]; exact ht), HY.out, Int.toNat_natCast])
        clear ht
        go_wp2
        go_ret
        exact ⟨by rw [hF.out]; rfl, rfl⟩
    · have h1 : k = ts.length := by omega
      subst h1
      have hF : Hid (frS ts a = 0) := Lib.hid (frS_none a ts HL.out)
      clear hx
      go_wp2
      go_ret
      exact ⟨by rw [hF.out]; rfl, rfl⟩

theorem l10First_any (a : Nat) (p : Option Addr) (c : Nat) (ts : List Int) (w : World) (hx : Reads w p ts) (hxm : ts.length ≤ 4) (hal : allB 0 3 ts = true) (ha : a < 16) (hex : ∃ i, i < ts.length ∧ a.testBit (nth ts i).toNat = true) :
    Calls Try.prog 71 #[.int .i64 a, .slice p ts.length c] w fun e w' => (∃ y : Nat, e = .returned (.int .i64 y) ∧ y < 4 ∧ bit y = frS ts a) ∧ w = w' := by
  have HA := Lib.hid hal
  have HE := Lib.hid hex
  clear hal hex
  go_enter Try.func71, Try.ntmps71
  go_wp2
  go_loop [5] (fun i => ∃ k : Nat, k ≤ ts.length ∧ i = .int .i64 k ∧ ∀ j, j < k → a.testBit (nth ts j).toNat = false) (fun i => ts.length - (intOf i).toNat)
  case atStart => exact ⟨0, Nat.zero_le _, rfl, fun j hj => absurd hj (by omega)⟩
  case round =>
    obtain ⟨k, hk, rfl, hall⟩ := hrel
    have hlt : k < ts.length := by
      rcases Nat.lt_or_ge k ts.length with h | h
      · exact h
      · obtain ⟨i, hi, ht⟩ := HE.out
        rw [hall i (by omega)] at ht; cases ht
    have HL := Lib.hid hall
    clear hall
    obtain ⟨b, off, rfl, hbl, hc⟩ := hx k hlt
    have hbn := allB_nth HA.out k hlt
    obtain ⟨y, hy, hy4⟩ := int_nat4 hbn.1 (show nth ts k < 4 by omega) (by omega)
    have HY := Lib.hid hy
    rw [hy] at hc
    clear hx hy hbn
    by_cases ht : a.testBit y = true
    · have hF : Hid (bit y = frS ts a) := Lib.hid (by rw [frS_at a ts k hlt HL.out (by rw [HY.out, Int.toNat_natCast]; exact ht), HY.out, Int.toNat_natCast])
      go_wp2_with fail
      refine (l1Has_any a y _ ha hy4).mono ?_
      rintro e w' ⟨rfl, rfl⟩
      go_wp2
      go_ret
      exact ⟨⟨y, rfl, hy4, hF.out⟩, rfl⟩
    · replace ht : a.testBit y = false := by simpa using ht
      have HT := Lib.hid ht
      go_wp2_with fail
      refine (l1Has_any a y _ ha hy4).mono ?_
      rintro e w' ⟨rfl, rfl⟩
      go_wp2
      exact ⟨⟨k + 1, by omega, by go_num, fun j hj => by
        by_cases e : j = k
        · subst e; rw [HY.out, Int.toNat_natCast]; exact HT.out
        · exact HL.out j (by omega)⟩, by simp [intOf]; omega⟩

set_option maxHeartbeats 1000000 in
theorem chanceOfOrder_any (s : Int) (p : Option Addr) (c : Nat) (xs : List Int) (q : Option Addr) (d : Nat) (ts : List Int) (w : World) (hx : Reads w p xs) (ht : Reads w q ts) (hk : MassOk s xs) (ho : ordB s ts = true) :
    Calls Try.prog 56 #[.agg #[.int .i64 s, .slice p xs.length c], .slice q ts.length d] w fun e w' => ∃ v, e = .returned (.tuple #[.agg #[.int .i64 (mkS s (frP xs ts)), v], .bool (mkOk s (frP xs ts))]) ∧ Own w.heap.size w' v (mkL s (frP xs ts)) ∧ Below w.heap.size w w' := by
  obtain ⟨W, hW⟩ : ∃ W : World, W = (((w.alloc (.cells #[.int .i64 s, .slice p xs.length c] 28)).alloc (.cells #[.slice q ts.length d] 22)).alloc (.cells #[.int .i64 0, .slice none 0 0] 28)) := ⟨_, rfl⟩
  have bW : Below w.heap.size w W := by subst hW; exact (((belowAlloc _ _).thenB (belowAlloc _ _)).thenB (belowAlloc _ _))
  have hsz : W.heap.size = w.heap.size + 3 := by subst hW; simp
  have b0 : VarInv W (w.heap.size) (s) (.slice p xs.length c) := by
    subst hW
    have h := VarInv.made w (s) (.slice p xs.length c) 28
    exact ((h.later (belowAlloc _ _)).later (belowAlloc _ _))
  have b1 : W.cell? ⟨w.heap.size + 1, 0, none⟩ = some (.slice q ts.length d) := by
    subst hW
    have h := newCell ((w.alloc (.cells #[.int .i64 s, .slice p xs.length c] 28))) (.slice q ts.length d) 22
    rw [show (w.alloc (.cells #[.int .i64 s, .slice p xs.length c] 28)).heap.size = w.heap.size + 1 by simp] at h
    exact cellKeep (belowAlloc _ _) (h)
  have bR : VarInv W (w.heap.size + 2) (0) (.slice none 0 0) := by
    subst hW
    have h := VarInv.made ((w.alloc (.cells #[.int .i64 s, .slice p xs.length c] 28)).alloc (.cells #[.slice q ts.length d] 22)) (0) (.slice none 0 0) 28
    rw [show ((w.alloc (.cells #[.int .i64 s, .slice p xs.length c] 28)).alloc (.cells #[.slice q ts.length d] 22)).heap.size = w.heap.size + 2 by simp] at h
    exact h
  have HWW := Lib.hid hW
  have HSZ := Lib.hid hsz
  clear hW hsz
  obtain ⟨o1, o2, o3⟩ := ordB_parts ho
  have k1 := hk.s1
  have k4 := hk.s4
  have HK := Lib.hid hk
  have hl16 := hk.l16
  have hal := hk.all
  have htl : ts.length ≤ 4 := by omega
  have hta : allB 0 3 ts = true := allB_wider o1 (by omega) (by omega)
  have HTA := Lib.hid hta
  have HF : Hid (∀ b, frS ts b < xs.length) := Lib.hid (fun b => by have h := frS_lt o1 b; have h2 := hk.len; simp [pow2] at h2; have h3 : xs.length = 2 ^ s.toNat := (by exact_mod_cast h2); omega)
  have HP := Lib.hid (frP_wide hk ts)
  have HPL := Lib.hid (frP_len xs ts)
  have HOR := Lib.hid ho
  clear hk ho o1 o2 o3 hta
  have hmf : ∀ (fn : Fn) (first cap : Array Value) (w : World), (Instr.makeFunc fn first cap).run Try.prog w = .ok (.func fn first cap) w := fun _ _ _ _ => rfl
  go_enter Try.func56, Try.ntmps56
  go_wp2_with fail
  rw [← HWW.out]
  have hxr := (hx.below bW)
  have htr := (ht.below bW)
  have b1' := Lib.hid b1
  have l1 := World.block_lt_of_cell? _ _ b1
  refine (mapped_any 72 (fun _ _ => by kernel_rfl) ⟨w.heap.size + 1, 0, none⟩ (frS ts) _ _ _ _ xs.length _ _ hxr hl16 hal k1 k4 HK.out.len (fun b hb => HF.out b) (Lib.hid fun b wr hb hbw => firIn_any b _ _ _ ts wr (htr.below hbw) htl HTA.out (by omega) ((hbw.cell (p := ⟨w.heap.size + 1, 0, none⟩) l1).trans b1'.out))).mono ?_
  rintro e w1 ⟨vo, rfl, o, hb⟩
  replace b0 := b0.later hb
  have b0_0 := b0.c0
  have b0_1 := b0.c1
  replace b1 := cellKeep hb b1
  replace bR := bR.later hb
  have bR_0 := bR.c0
  have bR_1 := bR.c1
  replace bW := bW.thenB hb
  have z1 := hb.size
  obtain ⟨po, co, rfl, _hr⟩ := o.shape
  clear hb _hr
  have s0 := bR.c0
  have s1 := bR.c1
  have s2 := bR.f0
  have s3 := bR.f1
  go_wp2
  refine bodyPost_ret (v := .tuple #[.agg #[.int .i64 (mkS s (frP xs ts)), .slice po (mkL s (frP xs ts)).length co], .bool (mkOk s (frP xs ts))]) (by simp [results, Try.results56, go_sem, s0, s1, s2, s3, frP]) rfl ⟨_, rfl, ?_, ?_⟩
  · exact ((o.setBelow (by show w.heap.size + 2 < _; have := HSZ.out; omega) _).setBelow (by show w.heap.size + 2 < _; have := HSZ.out; omega) _).mono (by have := HSZ.out; omega)
  · exact ((bW).setCell (by show _ ≤ w.heap.size + 2; omega) _).setCell (by show _ ≤ w.heap.size + 2; omega) _

set_option maxHeartbeats 2000000 in
theorem l10Order_any (s : Int) (p : Option Addr) (c : Nat) (xs : List Int) (q : Option Addr) (d : Nat) (ts : List Int) (w : World) (hx : Reads w p xs) (ht : Reads w q ts) (hk : MassOk s xs) (hn0 : nth xs 0 = 0) (ho : ordB s ts = true) :
    Calls Try.prog 55 #[.agg #[.int .i64 s, .slice p xs.length c], .slice q ts.length d] w fun e w' => ∃ v, e = .returned (.tuple #[.agg #[.int .i64 (mkS s (frP xs ts)), v], .bool (mkOk s (frP xs ts))]) ∧ Own w.heap.size w' v (mkL s (frP xs ts)) ∧ Below w.heap.size w w' := by
  obtain ⟨W, hW⟩ : ∃ W : World, W = ((w.alloc (.cells #[.int .i64 s, .slice p xs.length c] 28)).alloc (.cells #[.int .i64 0, .slice none 0 0] 28)) := ⟨_, rfl⟩
  have bW : Below w.heap.size w W := by subst hW; exact ((belowAlloc _ _).thenB (belowAlloc _ _))
  have hsz : W.heap.size = w.heap.size + 2 := by subst hW; simp
  have b0 : VarInv W (w.heap.size) (s) (.slice p xs.length c) := by
    subst hW
    have h := VarInv.made w (s) (.slice p xs.length c) 28
    exact (h.later (belowAlloc _ _))
  have bR : VarInv W (w.heap.size + 1) (0) (.slice none 0 0) := by
    subst hW
    have h := VarInv.made (w.alloc (.cells #[.int .i64 s, .slice p xs.length c] 28)) (0) (.slice none 0 0) 28
    rw [show (w.alloc (.cells #[.int .i64 s, .slice p xs.length c] 28)).heap.size = w.heap.size + 1 by simp] at h
    exact h
  have HWW := Lib.hid hW
  have HSZ := Lib.hid hsz
  clear hW hsz
  obtain ⟨o1, o2, o3⟩ := ordB_parts ho
  have k1 := hk.s1
  have k4 := hk.s4
  have HK := Lib.hid hk
  have hl16 := hk.l16
  have hal := hk.all
  have htl : ts.length ≤ 4 := by omega
  have hta : allB 0 3 ts = true := allB_wider o1 (by omega) (by omega)
  have HTA := Lib.hid hta
  have HF : Hid (∀ b, frS ts b < xs.length) := Lib.hid (fun b => by have h := frS_lt o1 b; have h2 := hk.len; simp [pow2] at h2; have h3 : xs.length = 2 ^ s.toNat := (by exact_mod_cast h2); omega)
  have HP := Lib.hid (frP_wide hk ts)
  have HPL := Lib.hid (frP_len xs ts)
  have HOR := Lib.hid ho
  clear hk ho o1 o2 o3 hta
  have HN0 := Lib.hid hn0
  have h2l : 2 ≤ xs.length := by have h := pow2_bd s k1 k4; have h2 := HK.out.len; omega
  have HL2 : Hid (xs.length = 2 ^ s.toNat) := Lib.hid (by have h2 := HK.out.len; simp [pow2] at h2; exact_mod_cast h2)
  clear hn0
  have hx0 := (hx.below bW)
  have ht0 := (ht.below bW)
  go_enter Try.func55, Try.ntmps55
  go_wp2_with (at_make; (try rw [← HWW.out]); refine wpList_makeInts _ rfl _ _ rfl (w.heap.size + 2) _ _ _ _ xs.length rfl rfl rfl rfl (by omega) (by have := HSZ.out; omega) ?_)
  intro w2 hown hb2 hlt2
  rw [HSZ.out] at hown hlt2
  have hM2 := b0.later hb2
  have hR2 := bR.later hb2
  replace bW := bW.thenB hb2
  have b0_0 := hM2.c0
  have b0_1 := hM2.c1
  clear b0 bR hb2 hx0 ht0
  go_wp2_with fail
  rw [HSZ.out]
  clear b0_0 b0_1
  go_loopw [7] (fun i wr => ∃ k : Nat, 1 ≤ k ∧ k ≤ xs.length ∧ i = .int .i64 k ∧ Own (w.heap.size + 2) wr (.slice (some ⟨w.heap.size + 2, 0, none⟩) xs.length xs.length) (accTo (frS ts) xs (zeros xs.length) k) ∧ VarInv wr w.heap.size s (.slice p xs.length c) ∧ VarInv wr (w.heap.size + 1) 0 (.slice none 0 0) ∧ Below w.heap.size w wr ∧ w.heap.size + 2 < wr.heap.size) (fun i _ => xs.length - (intOf i).toNat)
  case atStart => exact ⟨1, Nat.le_refl _, by omega, rfl, by rw [acc_one ts xs _ HN0.out]; exact hown, hM2, hR2, bW, hlt2⟩
  case round =>
    clear hown hM2 hR2 bW hlt2
    obtain ⟨k, hk1, hk, rfl, ho, iM, iR, hb, hlt2⟩ := hrel
    have m0 := iM.c0
    have m1 := iM.c1
    by_cases hlt : k < xs.length
    · obtain ⟨b, off, rfl, hbl, hc0⟩ := hx k hlt
      have hc := (hb.cell (p := ⟨b, off + k, none⟩) hbl).trans hc0
      have hs := Lib.hid (accTo_succ (frS ts) xs (zeros xs.length) k)
      have hacc := accTo_all (frS ts) xs (zeros xs.length) hal (by omega) (zeros_all _) k hk
      have hln := accTo_len (frS ts) xs (zeros xs.length) k
      rw [zeros_len] at hln
      have hFk := HF.out k
      have htr := ht.below hb
      have hex := fo_any k1 k4 HOR.out k (by omega) (by have := HL2.out; omega)
      have HEX := Lib.hid hex
      have HLN := Lib.hid hln
      have HAC := Lib.hid hacc
      have HOW := Lib.hid ho
      have hk16 : k < 16 := by omega
      obtain ⟨d1, d2⟩ := allB_nth hal k hlt
      clear hc0 hacc hln ho hex
      go_wp2_with fail
      refine (l10First_any k _ _ ts _ htr htl HTA.out hk16 HEX.out).mono ?_
      rintro e w' ⟨⟨y, rfl, hy4, hyb⟩, rfl⟩
      rw [← hyb] at hFk
      obtain ⟨f1, f2⟩ := allB_nth HAC.out (bit y) (by rw [HLN.out]; exact hFk)
      obtain ⟨q1, q2⟩ := HOW.out.cellAt HLN.out (bit y) hFk
      have HST := Lib.hid (HOW.out.storedAt HLN.out (bit y) (nth (accTo (frS ts) xs (zeros xs.length) k) (bit y) + nth xs k))
      have hwp := bit_wrap' y hy4
      have hsum : IntKind.i64.wrap (nth (accTo (frS ts) xs (zeros xs.length) k) (bit y) + nth xs k) = nth (accTo (frS ts) xs (zeros xs.length) k) (bit y) + nth xs k := IntWalk.i64_in _ ⟨by clear hwp; omega, by clear hwp; omega⟩
      have hFn : ((bit y : Nat) : Int) < (xs.length : Int) := Int.ofNat_lt.mpr hFk
      have hF0 : (0 : Int) ≤ ((bit y : Nat) : Int) := Int.natCast_nonneg _
      have HYB := Lib.hid hyb
      clear hyb htr hx ht
      go_wp2_with fail
      go_region
      all_goals go_wp2
      all_goals exact ⟨⟨k + 1, by omega, by omega, by go_num, by rw [hs.out, ← HYB.out]; exact HST.out.drew, (iM.other _ (by show w.heap.size + 2 ≠ w.heap.size; omega) _).drew, (iR.other _ (by show w.heap.size + 2 ≠ w.heap.size + 1; omega) _).drew, (hb.setCell (by show _ ≤ w.heap.size + 2; omega) _).drew, by simpa using hlt2⟩, by simp [intOf]; omega⟩
    · have h1 : k = xs.length := by omega
      subst h1
      clear hx ht
      have HO2 : Hid (Own (w.heap.size + 2) wr (.slice (some ⟨w.heap.size + 2, 0, none⟩) xs.length xs.length) (frP xs ts)) := Lib.hid ho
      clear ho
      go_wp2_with fail
      refine (l3Made_n _ _ _ _ (frP xs ts) _ HPL.out HO2.out.reads (by rw [HPL.out]; omega) HP.out).mono ?_
      rintro e w3 ⟨v, rfl, ho2, hb3⟩
      obtain ⟨p2, c2, rfl, hr2⟩ := ho2.shape
      clear hr2
      have jR := iR.later hb3
      have s0 := jR.c0
      have s1 := jR.c1
      have s2 := jR.f0
      have s3 := jR.f1
      go_wp2
      refine bodyPost_ret (v := .tuple #[.agg #[.int .i64 (mkS s (frP xs ts)), .slice p2 (mkL s (frP xs ts)).length c2], .bool (mkOk s (frP xs ts))]) (by simp [results, Try.results55, go_sem, s0, s1, s2, s3]) rfl ⟨_, rfl, ?_, ?_⟩
      · exact ((ho2.setBelow (by show w.heap.size + 1 < _; omega) _).setBelow (by show w.heap.size + 1 < _; omega) _).mono (by omega)
      · exact ((hb.thenB hb3).setCell (by show _ ≤ w.heap.size + 1; omega) _).setCell (by show _ ≤ w.heap.size + 1; omega) _

set_option maxHeartbeats 2000000 in
theorem iChanceOfOrder_any (s : Int) (p : Option Addr) (c : Nat) (xs : List Int) (q : Option Addr) (d : Nat) (ts : List Int) (w : World) (hx : Reads w p xs) (ht : Reads w q ts) (hxm : xs.length ≤ 1048576) (htm : ts.length ≤ 1048576) :
    Calls Try.prog 29 #[.agg #[.int .i64 s, .slice p xs.length c], .slice q ts.length d] w fun e w' => ∃ v, e = .returned (.tuple #[.agg #[.int .i64 (gS (crG s xs ts) s (frP xs ts)), v], .bool (gOk (crG s xs ts) s (frP xs ts))]) ∧ Own w.heap.size w' v (gL (crG s xs ts) s (frP xs ts)) ∧ Below w.heap.size w w' := by
  obtain ⟨W, hW⟩ : ∃ W : World, W = ((w.alloc (.cells #[.int .i64 s, .slice p xs.length c] 28)).alloc (.cells #[.int .i64 0, .slice none 0 0] 28)) := ⟨_, rfl⟩
  have bW : Below w.heap.size w W := by subst hW; exact ((belowAlloc _ _).thenB (belowAlloc _ _))
  have hsz : W.heap.size = w.heap.size + 2 := by subst hW; simp
  have b0 : VarInv W (w.heap.size) (s) (.slice p xs.length c) := by
    subst hW
    have h := VarInv.made w (s) (.slice p xs.length c) 28
    exact (h.later (belowAlloc _ _))
  have bR : VarInv W (w.heap.size + 1) (0) (.slice none 0 0) := by
    subst hW
    have h := VarInv.made (w.alloc (.cells #[.int .i64 s, .slice p xs.length c] 28)) (0) (.slice none 0 0) 28
    rw [show (w.alloc (.cells #[.int .i64 s, .slice p xs.length c] 28)).heap.size = w.heap.size + 1 by simp] at h
    exact h
  have HWW := Lib.hid hW
  have HSZ := Lib.hid hsz
  clear hW hsz
  by_cases h1 : normB s xs = true
  rotate_left
  · have h1 : normB s xs = false := by simpa using h1
    obtain ⟨hS, hO, hL⟩ := gNo (s := s) (L := frP xs ts) (g := crG s xs ts) (by simp [crG, h1])
    have hS := Lib.hid hS
    have hO := Lib.hid hO
    have hL := Lib.hid hL
    go_enter Try.func29, Try.ntmps29
    go_wp2_with fail
    rw [← HWW.out]
    refine (isNormal_any _ _ _ _ _ (hx.below bW) hxm).mono ?_
    rintro e w1 ⟨rfl, hb⟩
    replace b0 := b0.later hb
    have b0_0 := b0.c0
    have b0_1 := b0.c1
    replace bR := bR.later hb
    have bR_0 := bR.c0
    have bR_1 := bR.c1
    replace bW := bW.thenB hb
    have z1 := hb.size
    clear hb
    have s0 := bR.c0
    have s1 := bR.c1
    have s2 := bR.f0
    have s3 := bR.f1
    go_wp2
    refine bodyPost_ret (v := .tuple #[.agg #[.int .i64 (0), .slice none 0 0], .bool (false)]) (by simp [results, Try.results29, go_sem, s0, s1, s2, s3]) rfl ⟨_, by rw [hS.out, hO.out], ?_, ?_⟩
    · rw [hL.out]; exact Own.nil _ _
    · exact ((bW).setCell (by show _ ≤ w.heap.size + 1; omega) _).setCell (by show _ ≤ w.heap.size + 1; omega) _
  have hk : MassOk s xs := massB_ok (by have h := h1; simp only [normB, Bool.and_eq_true] at h; exact h.1)
  have k1 := hk.s1
  have k4 := hk.s4
  have hn0 : nth xs 0 = 0 := by have h := h1; simp only [normB, Bool.and_eq_true, beq_iff_eq] at h; exact h.2
  have HN0 := Lib.hid hn0
  have HK := Lib.hid hk
  clear hn0 hk
  by_cases h2 : ordB s ts = true
  rotate_left
  · have h2 : ordB s ts = false := by simpa using h2
    obtain ⟨hS, hO, hL⟩ := gNo (s := s) (L := frP xs ts) (g := crG s xs ts) (by simp [crG, h2])
    have hS := Lib.hid hS
    have hO := Lib.hid hO
    have hL := Lib.hid hL
    go_enter Try.func29, Try.ntmps29
    go_wp2_with fail
    rw [← HWW.out]
    refine (isNormal_any _ _ _ _ _ (hx.below bW) hxm).mono ?_
    rintro e w1 ⟨rfl, hb⟩
    replace b0 := b0.later hb
    have b0_0 := b0.c0
    have b0_1 := b0.c1
    replace bR := bR.later hb
    have bR_0 := bR.c0
    have bR_1 := bR.c1
    replace bW := bW.thenB hb
    have z1 := hb.size
    clear hb
    go_wp2_with fail
    refine (isOrder_any _ _ _ ts _ (ht.below bW) htm k1 k4).mono ?_
    rintro e w' ⟨rfl, rfl⟩
    have s0 := bR.c0
    have s1 := bR.c1
    have s2 := bR.f0
    have s3 := bR.f1
    go_wp2
    refine bodyPost_ret (v := .tuple #[.agg #[.int .i64 (0), .slice none 0 0], .bool (false)]) (by simp [results, Try.results29, go_sem, s0, s1, s2, s3]) rfl ⟨_, by rw [hS.out, hO.out], ?_, ?_⟩
    · rw [hL.out]; exact Own.nil _ _
    · exact ((bW).setCell (by show _ ≤ w.heap.size + 1; omega) _).setCell (by show _ ≤ w.heap.size + 1; omega) _
  obtain ⟨hS, hO, hL⟩ := gYes (s := s) (L := frP xs ts) (show crG s xs ts = true by simp [crG, h1, h2])
  have hS := Lib.hid hS
  have hO := Lib.hid hO
  have hL := Lib.hid hL
  have HOR := Lib.hid h2
  go_enter Try.func29, Try.ntmps29
  go_wp2_with fail
  rw [← HWW.out]
  refine (isNormal_any _ _ _ _ _ (hx.below bW) hxm).mono ?_
  rintro e w1 ⟨rfl, hb⟩
  replace b0 := b0.later hb
  have b0_0 := b0.c0
  have b0_1 := b0.c1
  replace bR := bR.later hb
  have bR_0 := bR.c0
  have bR_1 := bR.c1
  replace bW := bW.thenB hb
  have z1 := hb.size
  clear hb
  go_wp2_with fail
  refine (isOrder_any _ _ _ ts _ (ht.below bW) htm k1 k4).mono ?_
  rintro e w' ⟨rfl, rfl⟩
  go_wp2_with fail
  refine (chanceOfOrder_any _ _ _ _ _ _ _ _ (hx.below bW) (ht.below bW) HK.out HOR.out).mono ?_
  rintro e w2 ⟨vo, rfl, o, hb⟩
  clear b0_0 b0_1 bR_0 bR_1
  replace b0 := b0.later hb
  have b0_0 := b0.c0
  have b0_1 := b0.c1
  replace bR := bR.later hb
  have bR_0 := bR.c0
  have bR_1 := bR.c1
  replace bW := bW.thenB hb
  have z2 := hb.size
  obtain ⟨po, co, rfl, _hr⟩ := o.shape
  clear hb _hr
  have s0 := bR.c0
  have s1 := bR.c1
  have s2 := bR.f0
  have s3 := bR.f1
  go_wp2
  refine bodyPost_ret (v := .tuple #[.agg #[.int .i64 (mkS s (frP xs ts)), .slice po (mkL s (frP xs ts)).length co], .bool (mkOk s (frP xs ts))]) (by simp [results, Try.results29, go_sem, s0, s1, s2, s3]) rfl ⟨_, by rw [hS.out, hO.out], ?_, ?_⟩
  · rw [hL.out]; exact ((o.setBelow (by show w.heap.size + 1 < _; have := HSZ.out; omega) _).setBelow (by show w.heap.size + 1 < _; have := HSZ.out; omega) _).mono (by have := HSZ.out; omega)
  · exact ((bW).setCell (by show _ ≤ w.heap.size + 1; omega) _).setCell (by show _ ≤ w.heap.size + 1; omega) _

set_option maxHeartbeats 2000000 in
theorem sChanceOfOrder_any (s : Int) (p : Option Addr) (c : Nat) (xs : List Int) (q : Option Addr) (d : Nat) (ts : List Int) (w : World) (hx : Reads w p xs) (ht : Reads w q ts) (hxm : xs.length ≤ 1048576) (htm : ts.length ≤ 1048576) :
    Calls Try.prog 28 #[.agg #[.int .i64 s, .slice p xs.length c], .slice q ts.length d] w fun e w' => ∃ v, e = .returned (.tuple #[.agg #[.int .i64 (gS (crG s xs ts) s (frP xs ts)), v], .bool (gOk (crG s xs ts) s (frP xs ts))]) ∧ Own w.heap.size w' v (gL (crG s xs ts) s (frP xs ts)) ∧ Below w.heap.size w w' := by
  obtain ⟨W, hW⟩ : ∃ W : World, W = ((w.alloc (.cells #[.int .i64 s, .slice p xs.length c] 28)).alloc (.cells #[.int .i64 0, .slice none 0 0] 28)) := ⟨_, rfl⟩
  have bW : Below w.heap.size w W := by subst hW; exact ((belowAlloc _ _).thenB (belowAlloc _ _))
  have hsz : W.heap.size = w.heap.size + 2 := by subst hW; simp
  have b0 : VarInv W (w.heap.size) (s) (.slice p xs.length c) := by
    subst hW
    have h := VarInv.made w (s) (.slice p xs.length c) 28
    exact (h.later (belowAlloc _ _))
  have bR : VarInv W (w.heap.size + 1) (0) (.slice none 0 0) := by
    subst hW
    have h := VarInv.made (w.alloc (.cells #[.int .i64 s, .slice p xs.length c] 28)) (0) (.slice none 0 0) 28
    rw [show (w.alloc (.cells #[.int .i64 s, .slice p xs.length c] 28)).heap.size = w.heap.size + 1 by simp] at h
    exact h
  have HWW := Lib.hid hW
  have HSZ := Lib.hid hsz
  clear hW hsz
  by_cases h1 : normB s xs = true
  rotate_left
  · have h1 : normB s xs = false := by simpa using h1
    obtain ⟨hS, hO, hL⟩ := gNo (s := s) (L := frP xs ts) (g := crG s xs ts) (by simp [crG, h1])
    have hS := Lib.hid hS
    have hO := Lib.hid hO
    have hL := Lib.hid hL
    go_enter Try.func28, Try.ntmps28
    go_wp2_with fail
    rw [← HWW.out]
    refine (IsNormal_any _ _ _ _ _ (hx.below bW) hxm).mono ?_
    rintro e w1 ⟨rfl, hb⟩
    replace b0 := b0.later hb
    have b0_0 := b0.c0
    have b0_1 := b0.c1
    replace bR := bR.later hb
    have bR_0 := bR.c0
    have bR_1 := bR.c1
    replace bW := bW.thenB hb
    have z1 := hb.size
    clear hb
    have s0 := bR.c0
    have s1 := bR.c1
    have s2 := bR.f0
    have s3 := bR.f1
    go_wp2
    refine bodyPost_ret (v := .tuple #[.agg #[.int .i64 (0), .slice none 0 0], .bool (false)]) (by simp [results, Try.results28, go_sem, s0, s1, s2, s3]) rfl ⟨_, by rw [hS.out, hO.out], ?_, ?_⟩
    · rw [hL.out]; exact Own.nil _ _
    · exact ((bW).setCell (by show _ ≤ w.heap.size + 1; omega) _).setCell (by show _ ≤ w.heap.size + 1; omega) _
  have hk : MassOk s xs := massB_ok (by have h := h1; simp only [normB, Bool.and_eq_true] at h; exact h.1)
  have k1 := hk.s1
  have k4 := hk.s4
  have hn0 : nth xs 0 = 0 := by have h := h1; simp only [normB, Bool.and_eq_true, beq_iff_eq] at h; exact h.2
  have HN0 := Lib.hid hn0
  have HK := Lib.hid hk
  clear hn0 hk
  by_cases h2 : ordB s ts = true
  rotate_left
  · have h2 : ordB s ts = false := by simpa using h2
    obtain ⟨hS, hO, hL⟩ := gNo (s := s) (L := frP xs ts) (g := crG s xs ts) (by simp [crG, h2])
    have hS := Lib.hid hS
    have hO := Lib.hid hO
    have hL := Lib.hid hL
    go_enter Try.func28, Try.ntmps28
    go_wp2_with fail
    rw [← HWW.out]
    refine (IsNormal_any _ _ _ _ _ (hx.below bW) hxm).mono ?_
    rintro e w1 ⟨rfl, hb⟩
    replace b0 := b0.later hb
    have b0_0 := b0.c0
    have b0_1 := b0.c1
    replace bR := bR.later hb
    have bR_0 := bR.c0
    have bR_1 := bR.c1
    replace bW := bW.thenB hb
    have z1 := hb.size
    clear hb
    go_wp2_with fail
    refine (l1Moves_any _ _ _ ts _ (ht.below bW) htm k1 k4).mono ?_
    rintro e w' ⟨rfl, rfl⟩
    have s0 := bR.c0
    have s1 := bR.c1
    have s2 := bR.f0
    have s3 := bR.f1
    go_wp2
    refine bodyPost_ret (v := .tuple #[.agg #[.int .i64 (0), .slice none 0 0], .bool (false)]) (by simp [results, Try.results28, go_sem, s0, s1, s2, s3]) rfl ⟨_, by rw [hS.out, hO.out], ?_, ?_⟩
    · rw [hL.out]; exact Own.nil _ _
    · exact ((bW).setCell (by show _ ≤ w.heap.size + 1; omega) _).setCell (by show _ ≤ w.heap.size + 1; omega) _
  obtain ⟨hS, hO, hL⟩ := gYes (s := s) (L := frP xs ts) (show crG s xs ts = true by simp [crG, h1, h2])
  have hS := Lib.hid hS
  have hO := Lib.hid hO
  have hL := Lib.hid hL
  have HOR := Lib.hid h2
  go_enter Try.func28, Try.ntmps28
  go_wp2_with fail
  rw [← HWW.out]
  refine (IsNormal_any _ _ _ _ _ (hx.below bW) hxm).mono ?_
  rintro e w1 ⟨rfl, hb⟩
  replace b0 := b0.later hb
  have b0_0 := b0.c0
  have b0_1 := b0.c1
  replace bR := bR.later hb
  have bR_0 := bR.c0
  have bR_1 := bR.c1
  replace bW := bW.thenB hb
  have z1 := hb.size
  clear hb
  go_wp2_with fail
  refine (l1Moves_any _ _ _ ts _ (ht.below bW) htm k1 k4).mono ?_
  rintro e w' ⟨rfl, rfl⟩
  go_wp2_with fail
  refine (l10Order_any _ _ _ _ _ _ _ _ (hx.below bW) (ht.below bW) HK.out HN0.out HOR.out).mono ?_
  rintro e w2 ⟨vo, rfl, o, hb⟩
  clear b0_0 b0_1 bR_0 bR_1
  replace b0 := b0.later hb
  have b0_0 := b0.c0
  have b0_1 := b0.c1
  replace bR := bR.later hb
  have bR_0 := bR.c0
  have bR_1 := bR.c1
  replace bW := bW.thenB hb
  have z2 := hb.size
  obtain ⟨po, co, rfl, _hr⟩ := o.shape
  clear hb _hr
  have s0 := bR.c0
  have s1 := bR.c1
  have s2 := bR.f0
  have s3 := bR.f1
  go_wp2
  refine bodyPost_ret (v := .tuple #[.agg #[.int .i64 (mkS s (frP xs ts)), .slice po (mkL s (frP xs ts)).length co], .bool (mkOk s (frP xs ts))]) (by simp [results, Try.results28, go_sem, s0, s1, s2, s3]) rfl ⟨_, by rw [hS.out, hO.out], ?_, ?_⟩
  · rw [hL.out]; exact ((o.setBelow (by show w.heap.size + 1 < _; have := HSZ.out; omega) _).setBelow (by show w.heap.size + 1 < _; have := HSZ.out; omega) _).mono (by have := HSZ.out; omega)
  · exact ((bW).setCell (by show _ ≤ w.heap.size + 1; omega) _).setCell (by show _ ≤ w.heap.size + 1; omega) _

end Go.Proofs.Ytbcigoimgbfnoaa
