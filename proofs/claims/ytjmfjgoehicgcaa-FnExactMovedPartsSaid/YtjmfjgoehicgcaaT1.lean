/- The law's own helpers on slices of ints. -/
import Derived.Test.YtjmfjgoehicgcaaBase
set_option linter.unusedVariables false
set_option linter.unusedSimpArgs false
namespace Go.Proofs.Ytjmfjgoehicgcaa
open Go.RowKit

theorem take_eq_step (xs ys : List Int) (k : Nat) (h : xs.take k = ys.take k) (hx : k < xs.length) (hy : k < ys.length) (e : nth xs k = nth ys k) : xs.take (k + 1) = ys.take (k + 1) := by
  rw [take_succ_getD xs k hx, take_succ_getD ys k hy, h, e]

theorem take_ne_of (xs ys : List Int) (k : Nat) (hx : k < xs.length) (hy : k < ys.length) (e : nth xs k ≠ nth ys k) : xs ≠ ys := by
  intro h; subst h; exact e rfl

set_option maxHeartbeats 400000 in
theorem eqIntS_any (a1 a2 : Option Addr) (c1 c2 : Nat) (xs ys : List Int) (w : World) (hx : Reads w a1 xs) (hy : Reads w a2 ys) (hxm : xs.length ≤ maxLen) (hym : ys.length ≤ maxLen) :
    Calls Try.prog 36 #[.slice a1 xs.length c1, .slice a2 ys.length c2] w fun e w' => e = .returned (.bool (decide (xs = ys))) ∧ Below w.heap.size w w' := by
  unfold maxLen at hxm hym
  by_cases hl : xs.length = ys.length
  · have hL : ((xs.length : Int) != (ys.length : Int)) = false := by simp [hl]
    have HL : Hid (xs.length = ys.length) := hl
    clear hl
    go_enter Try.func36, Try.ntmps36
    go_wp2
    go_loopw [5] (fun i wr => ∃ k : Nat, k ≤ xs.length ∧ i = .int .i64 k ∧ xs.take k = ys.take k ∧ Below w.heap.size w wr) (fun i _ => xs.length - (intOf i).toNat)
    case atStart => exact ⟨0, Nat.zero_le _, rfl, by simp, Below.refl _ _⟩
    case round =>
      obtain ⟨k, hk, rfl, ht, hb⟩ := hrel
      by_cases hlt : k < xs.length
      · have hlt2 : k < ys.length := by rw [← HL.out]; exact hlt
        obtain ⟨b, off, rfl, hbl, hc⟩ := (hx.below hb) k hlt
        obtain ⟨b2, off2, rfl, hbl2, hc2⟩ := (hy.below hb) k hlt2
        have HT : Hid (xs.take k = ys.take k) := ht
        clear ht
        by_cases he : nth xs k = nth ys k
        · have hstep := Lib.hid (take_eq_step xs ys k HT.out hlt hlt2 he)
          have hE : (nth xs k != nth ys k) = false := bne_eq_false_iff_eq.2 he
          clear he
          go_wp2
          go_quiet (fail)
          go_wp2
          exact ⟨⟨k + 1, by omega, by go_num, hstep.out, below_drewN hb _⟩, by simp [intOf]; omega⟩
        · have hne := Lib.hid (take_ne_of xs ys k hlt hlt2 he)
          have hE : (nth xs k != nth ys k) = true := by rw [bne_iff_ne]; exact he
          clear he
          go_wp2
          go_quiet (fail)
          go_wp2
          go_ret
          exact ⟨ret_bool (by simpa using hne.out), below_drewN hb _⟩
      · have heq : xs = ys := by
          have h1 : k = xs.length := by omega
          rw [h1, List.take_length] at ht
          rw [ht, HL.out, List.take_length]
        have HE := Lib.hid heq
        clear heq ht
        go_wp2
        go_ret
        exact ⟨ret_bool (by simpa using HE.out), hb⟩
  · have hne : xs ≠ ys := fun h => hl (by rw [h])
    have hL : ((xs.length : Int) != (ys.length : Int)) = true := by rw [bne_iff_ne]; omega
    have HN := Lib.hid hne
    clear hl hne
    go_enter Try.func36, Try.ntmps36
    go_wp2
    go_ret
    exact ⟨ret_bool (by simpa using HN.out), Below.refl _ _⟩

theorem copy_step (xs : List Int) (k : Nat) (h : k < xs.length) :
    ((xs.take k ++ List.replicate (xs.length - k) 0).map (Value.int .i64)).set k (.int .i64 (nth xs k)) = (xs.take (k + 1) ++ List.replicate (xs.length - (k + 1)) 0).map (Value.int .i64) := by
  rw [take_succ_getD xs k h, ← List.map_set, List.set_append_right _ _ (by simp; omega)]
  have e : xs.length - k = (xs.length - (k + 1)) + 1 := by omega
  rw [e, List.replicate_succ]
  simp [Nat.min_eq_left (Nat.le_of_lt h)]

theorem cell_own {w : World} {B g n c : Nat} {zs : List Int} (h : w.ownsRow B 3 1 (.slice (some ⟨g, 0, none⟩) n c) n (zs.map (Value.int .i64))) (k : Nat) (hk : k < n) :
    w.cell? ⟨g, k, none⟩ = some (.int .i64 (nth zs k)) := by
  have hl : zs.length = n := by simpa using h.1
  rw [h.cellAt k (by omega)]
  simp [nth, List.getD, hl, hk]

theorem toIntS_any (a : Option Addr) (c : Nat) (xs : List Int) (w : World) (hx : Reads w a xs) (hxm : xs.length ≤ 1048576) :
    Calls Try.prog 58 #[.slice a xs.length c] w fun e w' => ∃ v, e = .returned v ∧ Own w.heap.size w' v xs ∧ Below w.heap.size w w' := by
  obtain ⟨i0, hi, hz0, hz1, hz2⟩ := info_parts Try.info3
  go_enter Try.func58, Try.ntmps58
  go_wp2_with (at_make; refine wpList_make_full _ rfl _ _ 22 rfl w.heap.size 3 i0 (.int .i64 0) 1 Try.underlying22 hi hz0 hz1 _ _ _ _ xs.length rfl rfl rfl rfl ?b1 ?b2 ?b3 ?_)
  case b1 => rw [hz2]; omega
  case b2 => unfold maxLen; omega
  case b3 => exact Nat.le_refl _
  intro w1 hown hgr
  have hb1 : Below w.heap.size w w1 := (Below.refl _ _).grown hgr (Nat.le_refl _) (fun k hk => by cases hk)
  rw [hz1] at *
  go_wp2
  go_loopw [4] (fun i wr => ∃ k : Nat, k ≤ xs.length ∧ i = .int .i64 k ∧ wr.ownsRow w.heap.size 3 1 (.slice (some ⟨w.heap.size, 0, none⟩) xs.length xs.length) xs.length ((xs.take k ++ List.replicate (xs.length - k) 0).map (Value.int .i64)) ∧ Below w.heap.size w wr) (fun i _ => xs.length - (intOf i).toNat)
  case atStart => exact ⟨0, Nat.zero_le _, rfl, by simpa [toList_madeCells_one, Value.cells] using hown, hb1⟩
  case round =>
    obtain ⟨k, hk, rfl, ho, hb⟩ := hrel
    by_cases hlt : k < xs.length
    · obtain ⟨b, off, rfl, hbl, hc⟩ := (hx.below hb) k hlt
      have hc2 := cell_own ho k hlt
      have hf2 := ho.frozenAt k
      have hst := ho.stored k (.int .i64 (nth xs k))
      rw [copy_step xs k hlt] at hst
      have hb2 : Below w.heap.size w (wr.setCell ⟨w.heap.size, k, none⟩ (.int .i64 (nth xs k))) := hb.setCell (Nat.le_refl _) _
      have HS := Lib.hid hst
      clear hst hx
      go_wp2
      exact ⟨⟨k + 1, by omega, by go_num, HS.out.1, hb2⟩, by simp [intOf]; omega⟩
    · have h1 : k = xs.length := by omega
      subst h1
      have ho2 : Own w.heap.size wr (.slice (some ⟨w.heap.size, 0, none⟩) xs.length xs.length) xs := by
        unfold Own; simpa using ho
      have HO := Lib.hid ho2
      clear ho ho2
      go_wp2
      go_ret
      exact ⟨_, rfl, HO.out, hb⟩

end Go.Proofs.Ytjmfjgoehicgcaa

