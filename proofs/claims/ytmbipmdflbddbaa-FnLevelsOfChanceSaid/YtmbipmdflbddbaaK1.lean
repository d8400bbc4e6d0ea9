/- A short list of numbers sorted in place, and cut to its different ones. -/
import Derived.Test.YtmbipmdflbddbaaK7
import Derived.CellFam
import Derived.BigGuard
import Derived.BigCall
import Derived.Deep.Draws
import Derived.Deep.QuietTactic
import Derived.Lib.SliceRun
import Derived.Deep.LoopGhost
import Derived.IntWalk
set_option linter.unusedVariables false
set_option linter.unusedSimpArgs false
namespace Go.Proofs.Ytmbipmdflbddbaa
open Go.RowKit

theorem isNaN_any (x : Int) (w : World) : Calls Try.prog 133 #[.int .i64 x] w fun e w' => e = .returned (.bool false) ∧ w = w' := by
  go_enter Try.func133, Try.ntmps133
  go_wp2
  go_ret
  exact ⟨rfl, rfl⟩

theorem cmpLess_any (x y : Int) (w : World) : Calls Try.prog 120 #[.int .i64 x, .int .i64 y] w fun e w' => e = .returned (.bool (decide (x < y))) ∧ w = w' := by
  go_enter Try.func120, Try.ntmps120
  go_wp2_with fail
  refine (isNaN_any _ _).mono ?_
  rintro e w' ⟨rfl, rfl⟩
  go_wp2
  go_ret
  exact ⟨rfl, rfl⟩

/-- Two lists with the same numbers in them. -/
def Vals (xs ys : List Int) : Prop := ∀ v, (∃ p, p < xs.length ∧ nth xs p = v) ↔ (∃ p, p < ys.length ∧ nth ys p = v)
def SortedTo (zs : List Int) (i : Nat) : Prop := ∀ p q, p < q → q < i → nth zs p ≤ nth zs q
structure Inner (zs : List Int) (i j : Nat) : Prop where
  le : j ≤ i
  others : ∀ p q, p < q → q ≤ i → p ≠ j → q ≠ j → nth zs p ≤ nth zs q
  behind : ∀ q, j < q → q ≤ i → nth zs j ≤ nth zs q

theorem Inner.start {zs : List Int} {i : Nat} (h : SortedTo zs i) : Inner zs i i :=
  ⟨Nat.le_refl _, fun p q h1 h2 h3 h4 => h p q h1 (by omega), fun q h1 h2 => by omega⟩

theorem nth_set_at (ys : List Int) (k : Nat) (y : Int) (h : k < ys.length) : nth (ys.set k y) k = y := by
  rw [nth_eq _ _ (by rw [List.length_set]; exact h), List.getElem_set_self]
theorem nth_set_no (ys : List Int) (k j : Nat) (y : Int) (h : j ≠ k) : nth (ys.set k y) j = nth ys j := by
  simp [nth, List.getD, List.getElem?_set_ne (Ne.symm h)]

def swapped (zs : List Int) (j : Nat) : List Int := (zs.set (j + 1) (nth zs j)).set j (nth zs (j + 1))
theorem swapped_len (zs : List Int) (j : Nat) : (swapped zs j).length = zs.length := by simp [swapped]
theorem swapped_low (zs : List Int) (j : Nat) (h : j + 1 < zs.length) : nth (swapped zs j) j = nth zs (j + 1) := nth_set_at _ _ _ (by rw [List.length_set]; omega)
theorem swapped_high (zs : List Int) (j : Nat) (h : j + 1 < zs.length) : nth (swapped zs j) (j + 1) = nth zs j := by
  rw [swapped, nth_set_no _ _ _ _ (by omega), nth_set_at _ _ _ h]
theorem swapped_off (zs : List Int) (j k : Nat) (h1 : k ≠ j) (h2 : k ≠ j + 1) : nth (swapped zs j) k = nth zs k := by
  rw [swapped, nth_set_no _ _ _ _ h1, nth_set_no _ _ _ _ h2]

theorem Inner.swap {zs : List Int} {i j : Nat} (h : Inner zs i (j + 1)) (hi : i < zs.length) (hlt : nth zs (j + 1) < nth zs j) : Inner (swapped zs j) i j := by
  have hj : j + 1 < zs.length := by have := h.le; omega
  have e0 := swapped_low zs j hj
  have e1 := swapped_high zs j hj
  have hle := h.le
  refine ⟨by omega, ?_, ?_⟩
  · intro p q hpq hq hp hq2
    by_cases a : q = j + 1
    · subst a
      rw [e1, swapped_off zs j p hp (by omega)]
      exact h.others p j (by omega) (by omega) (by omega) (by omega)
    · by_cases b : p = j + 1
      · subst b
        rw [e1, swapped_off zs j q hq2 a]
        exact h.others j q (by omega) hq (by omega) a
      · rw [swapped_off zs j p hp b, swapped_off zs j q hq2 a]
        exact h.others p q hpq hq b a
  · intro q h1 h2
    rw [e0]
    by_cases a : q = j + 1
    · subst a; rw [e1]; omega
    · rw [swapped_off zs j q (by omega) a]
      exact h.behind q (by omega) h2

theorem Inner.stop {zs : List Int} {i j : Nat} (h : Inner zs i j) (hs : j = 0 ∨ nth zs (j - 1) ≤ nth zs j) : SortedTo zs (i + 1) := by
  intro p q hpq hq
  by_cases a : p = j
  · subst a; exact h.behind q hpq (by omega)
  · by_cases b : q = j
    · subst b
      rcases hs with hs | hs
      · omega
      · by_cases c : p = q - 1
        · rw [c]; exact hs
        · have := h.others p (q - 1) (by omega) (by have := h.le; omega) a (by omega); omega
    · exact h.others p q hpq (by omega) a b

theorem Vals.refl (xs : List Int) : Vals xs xs := fun v => Iff.rfl
theorem Vals.trans {a b c : List Int} (h : Vals a b) (k : Vals b c) : Vals a c := fun v => (h v).trans (k v)
theorem Vals.swapped {zs ys : List Int} (h : Vals zs ys) (j : Nat) (hj : j + 1 < zs.length) : Vals (swapped zs j) ys := by
  refine Vals.trans (fun v => ?_) h
  rw [swapped_len]
  constructor
  · rintro ⟨p, hp, rfl⟩
    by_cases a : p = j
    · subst a; exact ⟨p + 1, hj, (swapped_low zs p hj).symm⟩
    · by_cases b : p = j + 1
      · subst b; exact ⟨j, by omega, (swapped_high zs j hj).symm⟩
      · exact ⟨p, hp, (swapped_off zs j p a b).symm⟩
  · rintro ⟨p, hp, rfl⟩
    by_cases a : p = j
    · subst a; exact ⟨p + 1, hj, swapped_high zs p hj⟩
    · by_cases b : p = j + 1
      · subst b; exact ⟨j, by omega, swapped_low zs j hj⟩
      · exact ⟨p, hp, swapped_off zs j p a b⟩

theorem Own.drewN {B : Nat} {w : World} {v : Value} {xs : List Int} (h : Own B w v xs) (k : Nat) : Own B (w.drewN k) v xs := h

set_option maxHeartbeats 2000000 in
theorem insertionSort_any (B g n c : Nat) (ys : List Int) (w : World) (hn : ys.length = n) (ho : Own B w (.slice (some ⟨g, 0, none⟩) n c) ys) (hn1 : 1 ≤ n) (hn2 : n ≤ 12) (hg : B ≤ g) :
    Calls Try.prog 114 #[.slice (some ⟨g, 0, none⟩) n c, .int .i64 0, .int .i64 n] w fun e w' => e = .returned (.tuple #[]) ∧ ∃ zs, zs.length = n ∧ SortedTo zs n ∧ Vals zs ys ∧ Own B w' (.slice (some ⟨g, 0, none⟩) n c) zs ∧ Below B w w' := by
  have HN := Lib.hid hn
  clear hn
  go_enter Try.func114, Try.ntmps114
  go_wp2
  go_loopw [6] (fun vi wr => ∃ (i : Nat) (zs : List Int), vi = .int .i64 i ∧ 1 ≤ i ∧ i ≤ n ∧ zs.length = n ∧ SortedTo zs i ∧ Vals zs ys ∧ Own B wr (.slice (some ⟨g, 0, none⟩) n c) zs ∧ Below B w wr) (fun vi _ => n - (intOf vi).toNat)
  case atStart => exact ⟨1, ys, by go_num, Nat.le_refl _, hn1, HN.out, fun p q h1 h2 => by omega, Vals.refl _, ho, Below.refl _ _⟩
  case round =>
    clear ho
    obtain ⟨i, zs, rfl, hi1, hin, hzl, hso, hva, ho, hb⟩ := hrel
    have HZ := Lib.hid hzl
    have HS := Lib.hid hso
    have HV := Lib.hid hva
    clear hzl hso hva
    by_cases hlt : i < n
    · go_wp2
      go_loopw [7] (fun vj wr2 => ∃ (j : Nat) (us : List Int), vj = .int .i64 j ∧ us.length = n ∧ Inner us i j ∧ Vals us ys ∧ Own B wr2 (.slice (some ⟨g, 0, none⟩) n c) us ∧ Below B w wr2) (fun vj _ => (intOf vj).toNat)
      case atStart => exact ⟨i, zs, rfl, HZ.out, Inner.start HS.out, HV.out, ho, hb⟩
      case round =>
        clear ho hb HS HV HZ
        obtain ⟨j, us, rfl, hul, hin2, hva, ho, hb⟩ := hrel
        have hji := hin2.le
        have HU := Lib.hid hul
        have HI := Lib.hid hin2
        have HV := Lib.hid hva
        clear hul hin2 hva
        cases j with
        | zero =>
          go_wp2
          go_quiet ((go_at_call 120; exact Calls.quiet_of_same ((cmpLess_any _ _ _).mono fun _ _ h => ⟨h.1, h.2.symm⟩)))
          go_wp2
          go_roundw
          case rel => exact ⟨i + 1, us, by go_num, by omega, by omega, HU.out, HI.out.stop (.inl rfl), HV.out, ho.drewN _, below_drewN hb _⟩
          case measure => simp [intOf]; omega
        | succ j =>
          obtain ⟨c1, f1⟩ := ho.cellAt HU.out (j + 1) (by omega)
          obtain ⟨c0, f0⟩ := ho.cellAt HU.out j (by omega)
          have hjn : j + 1 < n := by omega
          have i0 : (0 : Int) ≤ (j : Int) := by omega
          have i1 : (j : Int) < n := by omega
          have i2 : (0 : Int) ≤ (j : Int) + 1 := by omega
          have i3 : (j : Int) + 1 < n := by omega
          have i4 : ((j : Int) + 1).toNat = j + 1 := by omega
          have i6 : IntKind.i64.wrap (j : Int) = (j : Int) := IntWalk.i64_in _ (by omega)
          have i7 : IntKind.i64.wrap ((j : Int) + 1 - 1) = (j : Int) := by rw [Int.add_sub_cancel]; exact IntWalk.i64_in _ (by omega)
          have i5 : (0 : Int) < (j : Int) + 1 := by omega
          by_cases hcmp : nth us (j + 1) < nth us j
          · have HC := Lib.hid hcmp
            have hd : decide (nth us (j + 1) < nth us j) = true := by simpa using hcmp
            go_wp2
            go_quiet ((go_at_call 120; exact Calls.quiet_of_same ((cmpLess_any _ _ _).mono fun _ _ h => ⟨h.1, h.2.symm⟩)))
            go_wp2
            go_region
            all_goals go_wp2
            exact ⟨⟨j, swapped us j, rfl, by rw [swapped_len]; exact HU.out, HI.out.swap (by rw [HU.out]; omega) HC.out, HV.out.swapped j (by rw [HU.out]; omega), ((ho.drewN _).storedAt HU.out (j + 1) _).storedAt (by rw [List.length_set]; exact HU.out) j _, ((below_drewN hb _).setCell (by show B ≤ g; omega) _).setCell (by show B ≤ g; omega) _⟩, by simp [intOf]⟩
          · have HC := Lib.hid hcmp
            have hd : decide (nth us (j + 1) < nth us j) = false := by simpa using hcmp
            go_wp2
            go_quiet ((go_at_call 120; exact Calls.quiet_of_same ((cmpLess_any _ _ _).mono fun _ _ h => ⟨h.1, h.2.symm⟩)))
            go_wp2
            go_roundw
            case rel => exact ⟨i + 1, us, by go_num, by omega, by omega, HU.out, HI.out.stop (.inr (by have := HC.out; simp; omega)), HV.out, ho.drewN _, below_drewN hb _⟩
            case measure => simp [intOf]; omega
    · have hin' : i = n := by omega
      subst hin'
      go_wp2
      go_end0
      exact ⟨rfl, zs, HZ.out, HS.out, HV.out, ho, hb⟩

set_option maxRecDepth 1000000 in
theorem bitsLen64_any (n : Nat) (w : World) (h1 : 1 ≤ n) (h5 : n ≤ 5) :
    Calls Try.prog 124 #[.int .u64 n] w fun e w' => (∃ r : Int, e = .returned (.int .i64 r)) ∧ w = w' := by
  have h : n = 1 ∨ n = 2 ∨ n = 3 ∨ n = 4 ∨ n = 5 := by omega
  rcases h with rfl | rfl | rfl | rfl | rfl
  all_goals
    clear h1 h5
    go_enter Try.func124, Try.ntmps124
    go_wp2
    go_ret
    exact ⟨⟨_, rfl⟩, rfl⟩

theorem bitsLen_any (n : Nat) (w : World) (h1 : 1 ≤ n) (h5 : n ≤ 5) :
    Calls Try.prog 96 #[.int .u64 n] w fun e w' => (∃ r : Int, e = .returned (.int .i64 r)) ∧ w = w' := by
  go_enter Try.func96, Try.ntmps96
  go_wp2_with fail
  refine (bitsLen64_any n _ h1 h5).mono ?_
  rintro e w' ⟨⟨r, rfl⟩, rfl⟩
  go_wp2
  go_ret
  exact ⟨⟨_, rfl⟩, rfl⟩

set_option maxHeartbeats 1000000 in
set_option maxRecDepth 100000 in
theorem pdqsort_any (B g n c : Nat) (r : Int) (ys : List Int) (w : World) (hn : ys.length = n) (ho : Own B w (.slice (some ⟨g, 0, none⟩) n c) ys) (hn1 : 1 ≤ n) (hn2 : n ≤ 12) (hg : B ≤ g) :
    Calls Try.prog 95 #[.slice (some ⟨g, 0, none⟩) n c, .int .i64 0, .int .i64 n, .int .i64 r] w fun e w' => e = .returned (.tuple #[]) ∧ ∃ zs, zs.length = n ∧ SortedTo zs n ∧ Vals zs ys ∧ Own B w' (.slice (some ⟨g, 0, none⟩) n c) zs ∧ Below B w w' := by
  have HC := Lib.hid (insertionSort_any B g n c ys w hn ho hn1 hn2 hg)
  have h12 : (n : Int) ≤ 12 := by omega
  clear ho hn
  go_enter Try.func95, Try.ntmps95
  go_wp2
  go_loopw [1, 2] (fun a b wr => a = .int .i64 0 ∧ b = .int .i64 n ∧ wr = w) (fun _ _ _ => 0)
  case atStart => exact ⟨rfl, rfl, rfl⟩
  case round =>
    obtain ⟨rfl, rfl, rfl⟩ := hrel
    go_wp2_with fail
    refine HC.out.mono ?_
    rintro e w' ⟨rfl, zs, h⟩
    have H := Lib.hid h
    clear h
    go_wp2
    (try simp only [Exit.inBlock, Exit.then])
    refine bodyPost_ret (results_none rfl _ _ _) rfl ?_
    exact ⟨rfl, zs, H.out⟩

set_option maxHeartbeats 1000000 in
theorem sort_any (B g n c : Nat) (ys : List Int) (w : World) (hn : ys.length = n) (ho : Own B w (.slice (some ⟨g, 0, none⟩) n c) ys) (hn1 : 1 ≤ n) (hn2 : n ≤ 5) (hg : B ≤ g) :
    Calls Try.prog 52 #[.slice (some ⟨g, 0, none⟩) n c] w fun e w' => e = .returned (.tuple #[]) ∧ ∃ zs, zs.length = n ∧ SortedTo zs n ∧ Vals zs ys ∧ Own B w' (.slice (some ⟨g, 0, none⟩) n c) zs ∧ Below B w w' := by
  have HC := Lib.hid (fun r => pdqsort_any B g n c r ys w hn ho hn1 (by omega) hg)
  have hb0 : (n : Int) ≤ 5 := by omega
  clear ho hn
  go_enter Try.func52, Try.ntmps52
  go_wp2_with fail
  refine (bitsLen_any n _ hn1 hn2).mono ?_
  rintro e w' ⟨⟨r, rfl⟩, rfl⟩
  go_wp2_with fail
  refine (HC.out r).mono ?_
  rintro e w' ⟨rfl, zs, h⟩
  have H := Lib.hid h
  clear h
  go_wp2
  go_end0
  exact ⟨rfl, zs, H.out⟩

/-- What the second loop keeps. -/
structure CompI (n : Nat) (zs us : List Int) (r kk : Nat) : Prop where
  one : 1 ≤ kk
  lt : kk < r
  le : r ≤ n
  orig : ∀ q, r - 1 ≤ q → q < n → nth us q = nth zs q
  inc : ∀ p q, p < q → q < kk → nth us p < nth us q
  last : nth us (kk - 1) = nth zs (r - 1)
  vals : ∀ v, (∃ p, p < kk ∧ nth us p = v) ↔ (∃ p, p < r ∧ nth zs p = v)

theorem CompI.start {n k : Nat} {zs : List Int} (h1 : 1 ≤ k) (hk : k < n) (hi : ∀ p q, p < q → q < k → nth zs p < nth zs q) (hd : nth zs k = nth zs (k - 1)) : CompI n zs zs (k + 1) k := by
  refine ⟨h1, by omega, by omega, fun q _ _ => rfl, hi, by simp [hd], fun v => ⟨?_, ?_⟩⟩
  · rintro ⟨p, hp, rfl⟩; exact ⟨p, by omega, rfl⟩
  · rintro ⟨p, hp, rfl⟩
    by_cases e : p = k
    · subst e; exact ⟨p - 1, by omega, hd.symm⟩
    · exact ⟨p, by omega, rfl⟩

theorem CompI.skip {n r kk : Nat} {zs us : List Int} (h : CompI n zs us r kk) (hr : r < n) (hd : nth zs r = nth zs (r - 1)) : CompI n zs us (r + 1) kk := by
  have := h.one
  have := h.lt
  refine ⟨h.one, by omega, by omega, fun q h1 h2 => h.orig q (by omega) h2, h.inc, by rw [h.last, Nat.add_sub_cancel, hd], fun v => ⟨?_, ?_⟩⟩
  · intro hv; obtain ⟨p, hp, e⟩ := (h.vals v).1 hv; exact ⟨p, by omega, e⟩
  · rintro ⟨p, hp, rfl⟩
    by_cases e : p = r
    · subst e; exact (h.vals _).2 ⟨p - 1, by omega, hd.symm⟩
    · exact (h.vals _).2 ⟨p, by omega, rfl⟩

theorem CompI.keep {n r kk : Nat} {zs us : List Int} (h : CompI n zs us r kk) (hn : us.length = n) (hr : r < n) (hs : SortedTo zs n) (hd : nth zs r ≠ nth zs (r - 1)) : CompI n zs (us.set kk (nth zs r)) (r + 1) (kk + 1) := by
  have h1 := h.one
  have h2 := h.lt
  have hlt : nth zs (r - 1) < nth zs r := by have := hs (r - 1) r (by omega) hr; omega
  have hat : nth (us.set kk (nth zs r)) kk = nth zs r := nth_set_at _ _ _ (by omega)
  have hoff : ∀ q, q ≠ kk → nth (us.set kk (nth zs r)) q = nth us q := fun q hq => nth_set_no _ _ _ _ hq
  refine ⟨by omega, by omega, by omega, ?_, ?_, by rw [Nat.add_sub_cancel, Nat.add_sub_cancel]; exact hat, fun v => ⟨?_, ?_⟩⟩
  · intro q a b; rw [hoff q (by omega)]; exact h.orig q (by omega) b
  · intro p q hpq hq
    rw [hoff p (by omega)]
    by_cases e : q = kk
    · subst e
      rw [hat]
      by_cases c : p = q - 1
      · subst c; rw [h.last]; exact hlt
      · have := h.inc p (q - 1) (by omega) (by omega); rw [h.last] at this; omega
    · rw [hoff q e]; exact h.inc p q hpq (by omega)
  · rintro ⟨p, hp, rfl⟩
    by_cases e : p = kk
    · subst e; exact ⟨r, by omega, hat.symm⟩
    · rw [hoff p e]
      obtain ⟨q, hq, e2⟩ := (h.vals (nth us p)).1 ⟨p, by omega, rfl⟩
      exact ⟨q, by omega, e2⟩
  · rintro ⟨p, hp, rfl⟩
    by_cases e : p = r
    · subst e; exact ⟨kk, by omega, hat⟩
    · obtain ⟨q, hq, e2⟩ := (h.vals (nth zs p)).2 ⟨p, by omega, rfl⟩
      exact ⟨q, by omega, by rw [hoff q (by omega)]; exact e2⟩

/-- The different numbers of a list, ascending. -/
structure Uniq (us zs : List Int) : Prop where
  inc : ∀ p q, p < q → q < us.length → nth us p < nth us q
  vals : Vals us zs

theorem take_nth (us : List Int) (k q : Nat) (h : q < k) : nth (us.take k) q = nth us q := by
  simp [nth, List.getD, h]

theorem CompI.done {n kk : Nat} {zs us : List Int} (h : CompI n zs us n kk) (hz : zs.length = n) (hu : us.length = n) : Uniq (us.take kk) zs := by
  have := h.lt
  have hl : (us.take kk).length = kk := by simp; omega
  refine ⟨fun p q a b => ?_, fun v => ?_⟩
  · rw [hl] at b
    rw [take_nth _ _ _ (by omega), take_nth _ _ _ b]; exact h.inc p q a b
  · rw [hl, hz, ← h.vals v]
    constructor
    · rintro ⟨p, hp, rfl⟩; exact ⟨p, hp, (take_nth _ _ _ hp).symm⟩
    · rintro ⟨p, hp, rfl⟩; exact ⟨p, hp, take_nth _ _ _ hp⟩

theorem below_setCells {B b : Nat} {w a : World} (h : Below B w a) (hb : B ≤ b) : ∀ (vs : List Value) (o : Nat), Below B w (a.setCells b o vs)
  | [], _ => h
  | v :: r, o => below_setCells (h.setCell (p := ⟨b, o, none⟩) hb v) hb r (o + 1)

theorem zero_int (w : World) : (zeroValue 3).run Try.prog w = .ok (.int .i64 0) w := by
  first
  | rfl
  | kernel_rfl

theorem heap_setCells (b : Nat) : ∀ (vs : List Value) (o : Nat) (w : World), (w.setCells b o vs).heap.size = w.heap.size
  | [], _, _ => rfl
  | v :: r, o, w => by rw [World.setCells, heap_setCells b r]; simp

theorem reads_kept {B g n c kk : Nat} {w : World} {us : List Int} {vs : List Value} (h : Own B w (.slice (some ⟨g, 0, none⟩) n c) us) (hn : us.length = n) (hk : kk ≤ n) : Reads (w.setCells g kk vs) (some ⟨g, 0, none⟩) (us.take kk) := by
  intro q hq
  have hq2 : q < kk := by simp at hq; omega
  refine ⟨g, 0, rfl, by rw [heap_setCells]; exact (h.blockLt g rfl).2, ?_⟩
  rw [World.cell?_setCells_out g vs kk w _ (fun _ _ => .inl (by show 0 + q < kk; omega)), Nat.zero_add, (h.cellAt hn q (by omega)).1, take_nth _ _ _ hq2]

set_option maxHeartbeats 4000000 in
set_option maxRecDepth 1000000 in
theorem compact_any (B g n c : Nat) (zs : List Int) (w : World) (hn : zs.length = n) (ho : Own B w (.slice (some ⟨g, 0, none⟩) n c) zs) (hs : SortedTo zs n) (hn1 : 1 ≤ n) (hn2 : n ≤ 5) (hc : n ≤ c) (hg : B ≤ g) :
    Calls Try.prog 53 #[.slice (some ⟨g, 0, none⟩) n c] w fun e w' => ∃ us k, e = .returned (.slice (some ⟨g, 0, none⟩) k c) ∧ us.length = k ∧ 1 ≤ k ∧ k ≤ n ∧ Uniq us zs ∧ Reads w' (some ⟨g, 0, none⟩) us ∧ Below B w w' := by
  have HN := Lib.hid hn
  have HS := Lib.hid hs
  clear hn hs
  by_cases h2 : n < 2
  · have h1 : n = 1 := by omega
    have HR := Lib.hid (show ∃ us k, Ending.returned (.slice (some ⟨g, 0, none⟩) n c) = .returned (.slice (some ⟨g, 0, none⟩) k c) ∧ us.length = k ∧ 1 ≤ k ∧ k ≤ n ∧ Uniq us zs ∧ Reads w (some ⟨g, 0, none⟩) us ∧ Below B w w from
      ⟨zs, n, rfl, HN.out, hn1, Nat.le_refl _, ⟨fun p q a b => by have := HN.out; omega, Vals.refl _⟩, ho.reads, Below.refl _ _⟩)
    clear ho h1
    go_enter Try.func53, Try.ntmps53
    go_wp2
    go_ret
    exact HR.out
  · go_enter Try.func53, Try.ntmps53
    go_wp2
    go_loopg [3] n (fun m s3 wr => ∃ k : Nat, 1 ≤ k ∧ k ≤ n ∧ n - k ≤ m ∧ s3 = .int .i64 k ∧ Own B wr (.slice (some ⟨g, 0, none⟩) n c) zs ∧ Below B w wr ∧ ∀ p q, p < q → q < k → nth zs p < nth zs q)
    case atStart => exact ⟨1, Nat.le_refl _, by omega, by omega, rfl, ho, Below.refl _ _, fun p q a b => by omega⟩
    case round =>
      clear ho
      obtain ⟨k, hk1, hk, hm, rfl, ho, hb, hinc⟩ := hrel
      have HI := Lib.hid hinc
      clear hinc
      by_cases hlt : k < n
      · obtain ⟨c1, f1⟩ := ho.cellAt HN.out k hlt
        obtain ⟨c0, f0⟩ := ho.cellAt HN.out (k - 1) (by omega)
        generalize hx : nth zs k = x at c1
        generalize hy : nth zs (k - 1) = y at c0
        have HX := Lib.hid hx
        have HY := Lib.hid hy
        clear hx hy
        by_cases hdup : x = y
        · subst hdup
          go_wp2_with fail
          go_region
          go_wp2
          clear c0 c1 f0 f1
          go_loopg [3, 5] n (fun m2 s3 s5 wr2 => ∃ (kk k2 : Nat) (us : List Int), s3 = .int .i64 kk ∧ s5 = .int .i64 k2 ∧ 1 ≤ k2 ∧ k + k2 ≤ n ∧ n - (k + k2) ≤ m2 ∧ us.length = n ∧ CompI n zs us (k + k2) kk ∧ Own B wr2 (.slice (some ⟨g, 0, none⟩) n c) us ∧ Below B w wr2)
          case atStart => exact ⟨k, 1, zs, rfl, rfl, Nat.le_refl _, by omega, by omega, HN.out, CompI.start hk1 hlt HI.out (by rw [HX.out, HY.out]), ho.drew, hb.drew⟩
          case round =>
            clear ho hb
            obtain ⟨kk, k2, us, rfl, rfl, h1, hle, hg2, hul, hI, ho, hb⟩ := hrel
            have hkk := hI.lt
            have hkk1 := hI.one
            have HU := Lib.hid hul
            by_cases hlt2 : k + k2 < n
            · obtain ⟨cm, fm⟩ := ho.cellAt hul (k + k2) (by omega)
              obtain ⟨cp, fp⟩ := ho.cellAt hul (k + k2 - 1) (by omega)
              obtain ⟨ck, fk⟩ := ho.cellAt hul kk (by omega)
              rw [hI.orig (k + k2) (by omega) hlt2] at cm
              rw [hI.orig (k + k2 - 1) (by omega) (by omega), show k + k2 - 1 = k + (k2 - 1) by omega] at cp
              have I2 := Lib.hid hI
              clear hI hul fm fp
              generalize hu : nth zs (k + k2) = u at cm
              generalize hv : nth zs (k + (k2 - 1)) = v at cp
              generalize nth us kk = old at ck
              have HC := Lib.hid hu
              have HD := Lib.hid (show nth zs (k + k2 - 1) = v by rw [← hv, show k + k2 - 1 = k + (k2 - 1) by omega])
              clear hu hv
              by_cases huv : u = v
              · subst huv
                go_wp2_with fail
                go_region
                go_wp2
                go_roundg (n - (k + (k2 + 1)))
                case measure => omega
                case rel => exact ⟨kk, k2 + 1, us, rfl, by go_num, by omega, by omega, Nat.le_refl _, HU.out, I2.out.skip hlt2 (by rw [HC.out, HD.out]), ho.drew, hb.drew⟩
              · go_wp2_with fail
                go_region
                go_wp2
                go_roundg (n - (k + (k2 + 1)))
                case measure => omega
                case rel => exact ⟨kk + 1, k2 + 1, us.set kk u, by go_num, by go_num, by omega, by omega, Nat.le_refl _, by rw [List.length_set]; exact HU.out, by have := I2.out.keep HU.out hlt2 HS.out (by rw [HC.out, HD.out]; exact huv); rwa [HC.out] at this, (ho.storedAt HU.out kk u).drew, (hb.setCell hg _).drew⟩
            · have hend : k + k2 = n := by omega
              rw [hend] at hI
              have hkn : kk < n := by omega
              have hcl : ∀ ty, (Builtin.clear_ #[22] ty #[.slice (some ⟨g, kk, none⟩) (n - kk) (c - kk)]).run Try.prog wr = .ok (.tuple #[]) (wr.setCells g kk (List.replicate (n - kk) (.int .i64 0))) :=
                fun ty => Lib.run_clear_slice wr _ _ ty _ Try.underlying22 zero_int rfl rfl g kk _ _ (by omega) (fun j hj => by rw [(ho.cellAt hul (kk + j) (by omega)).1]; rfl) (fun j hj => (ho.cellAt hul (kk + j) (by omega)).2)
              have HR := Lib.hid (show ∃ us2 k3, Ending.returned (.slice (some ⟨g, 0, none⟩) kk c) = .returned (.slice (some ⟨g, 0, none⟩) k3 c) ∧ us2.length = k3 ∧ 1 ≤ k3 ∧ k3 ≤ n ∧ Uniq us2 zs ∧ Reads (wr.setCells g kk (List.replicate (n - kk) (.int .i64 0))) (some ⟨g, 0, none⟩) us2 ∧ Below B w (wr.setCells g kk (List.replicate (n - kk) (.int .i64 0))) from
                ⟨us.take kk, kk, rfl, by simp; omega, hkk1, by omega, hI.done HN.out hul, reads_kept ho hul (by omega), below_setCells hb hg _ _⟩)
              clear hI ho hb HU hul hend
              go_wp2
              go_ret
              exact HR.out
        · go_wp2_with fail
          go_region
          go_wp2
          go_roundg (n - (k + 1))
          case measure => omega
          case rel =>
            refine ⟨k + 1, by omega, by omega, Nat.le_refl _, by go_num, ho.drew, hb.drew, fun p q hpq hq => ?_⟩
            by_cases e : q = k
            · subst e
              have := HS.out p q hpq hlt
              have h3 := HS.out (q - 1) q (by omega) hlt
              rw [HX.out, HY.out] at h3
              by_cases e2 : p = q - 1
              · subst e2; rw [HX.out, HY.out]; omega
              · have := HI.out p (q - 1) (by omega) (by omega)
                rw [HY.out] at this; rw [HX.out]; omega
            · exact HI.out p q hpq (by omega)
      · have : k = n := by omega
        subst this
        have HR := Lib.hid (show ∃ us k2, Ending.returned (.slice (some ⟨g, 0, none⟩) k c) = .returned (.slice (some ⟨g, 0, none⟩) k2 c) ∧ us.length = k2 ∧ 1 ≤ k2 ∧ k2 ≤ k ∧ Uniq us zs ∧ Reads wr (some ⟨g, 0, none⟩) us ∧ Below B w wr from
          ⟨zs, k, rfl, HN.out, hn1, Nat.le_refl _, ⟨fun p q a b => HI.out p q a (by rw [← HN.out]; exact b), Vals.refl _⟩, ho.reads, hb⟩)
        clear ho hb
        go_wp2
        go_ret
        exact HR.out

end Go.Proofs.Ytmbipmdflbddbaa
