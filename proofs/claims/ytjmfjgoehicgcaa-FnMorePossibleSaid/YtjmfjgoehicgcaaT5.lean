/- The laws' own comparison of two lists. -/
import Derived.Test.YtjmfjgoehicgcaaT1
set_option linter.unusedVariables false
set_option linter.unusedSimpArgs false
namespace Go.Proofs.Ytjmfjgoehicgcaa
open Go.RowKit

/-- Whether two lists have the same numbers: a plain definition. -/
def sameB (xs ys : List Int) : Bool := decide (xs = ys)
theorem sameB_self (xs : List Int) : sameB xs xs = true := by simp [sameB]

theorem sameB_no {xs ys : List Int} (h : xs ≠ ys) : sameB xs ys = false := by simp [sameB, h]
theorem same_len {xs ys : List Int} (k : Nat) (h : xs.take k = ys.take k) (hk : ¬ (k < xs.length ∧ k < ys.length)) (hx : k ≤ xs.length) (hy : k ≤ ys.length) : sameB xs ys = decide ((xs.length : Int) = (ys.length : Int)) := by
  by_cases e : xs.length = ys.length
  · have : k = xs.length := by omega
    rw [this, List.take_length, e, List.take_length] at h
    subst h; simp [sameB]
  · have : xs ≠ ys := fun h => e (by rw [h])
    simp [sameB, this]; omega

set_option maxHeartbeats 400000 in
theorem weSame_any (a1 a2 : Option Addr) (c1 c2 : Nat) (xs ys : List Int) (w : World) (hx : Reads w a1 xs) (hy : Reads w a2 ys) (hxm : xs.length ≤ 1048576) (hym : ys.length ≤ 1048576) :
    Calls Try.prog 52 #[.slice a1 xs.length c1, .slice a2 ys.length c2] w fun e w' => e = .returned (.bool (sameB xs ys)) ∧ Below w.heap.size w w' := by
  go_enter Try.func52, Try.ntmps52
  go_wp2
  go_loopw [5] (fun i wr => ∃ k : Nat, k ≤ xs.length ∧ k ≤ ys.length ∧ i = .int .i64 k ∧ xs.take k = ys.take k ∧ Below w.heap.size w wr) (fun i _ => xs.length - (intOf i).toNat)
  case atStart => exact ⟨0, Nat.zero_le _, Nat.zero_le _, rfl, by simp, Below.refl _ _⟩
  case round =>
    obtain ⟨k, hk, hky, rfl, ht, hb⟩ := hrel
    by_cases hlt : k < xs.length
    · by_cases hlt2 : k < ys.length
      · obtain ⟨b, off, rfl, hbl, hc⟩ := (hx.below hb) k hlt
        obtain ⟨b2, off2, rfl, hbl2, hc2⟩ := (hy.below hb) k hlt2
        have HT : Hid (xs.take k = ys.take k) := Lib.hid ht
        clear ht
        by_cases he : nth xs k = nth ys k
        · have hstep := Lib.hid (take_eq_step xs ys k HT.out hlt hlt2 he)
          have hE : (nth xs k != nth ys k) = false := bne_eq_false_iff_eq.2 he
          clear he
          go_wp2
          go_quiet (fail)
          go_wp2
          exact ⟨⟨k + 1, by omega, by omega, by go_num, hstep.out, below_drewN hb _⟩, by simp [intOf]; omega⟩
        · have hne := Lib.hid (sameB_no (take_ne_of xs ys k hlt hlt2 he))
          have hE : (nth xs k != nth ys k) = true := by rw [bne_iff_ne]; exact he
          clear he
          go_wp2
          go_quiet (fail)
          go_wp2
          go_ret
          exact ⟨ret_bool (by rw [hne.out]), below_drewN hb _⟩
      · have HE := Lib.hid (same_len k ht (by omega) hk hky)
        clear ht
        go_wp2
        go_ret
        exact ⟨ret_bool (by rw [HE.out]; first | rfl | simp [decide_eq_decide]), hb⟩
    · have HE := Lib.hid (same_len k ht (by omega) hk hky)
      clear ht
      go_wp2
      go_ret
      exact ⟨ret_bool (by rw [HE.out]; first | rfl | simp [decide_eq_decide]), hb⟩

theorem weSame_same (a1 a2 : Option Addr) (c1 c2 n m : Nat) (xs ys : List Int) (h : ys = xs) (hn : xs.length = n) (hm : ys.length = m) (w : World) (hx : Reads w a1 xs) (hy : Reads w a2 ys) (hxm : xs.length ≤ 1048576) :
    Calls Try.prog 52 #[.slice a1 n c1, .slice a2 m c2] w fun e w' => e = .returned (.bool true) ∧ Below w.heap.size w w' := by
  subst h hn hm
  refine (weSame_any a1 a2 c1 c2 _ _ w hx hy hxm hxm).mono ?_
  rintro e w' ⟨h, hb⟩
  exact ⟨by rw [h, sameB_self], hb⟩

end Go.Proofs.Ytjmfjgoehicgcaa
