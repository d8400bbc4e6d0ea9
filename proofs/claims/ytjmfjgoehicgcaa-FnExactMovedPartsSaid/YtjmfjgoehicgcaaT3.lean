/- The laws' marks: what is written into a slice, and what it holds. -/
import Derived.Test.YtjmfjgoehicgcaaT1
set_option linter.unusedVariables false
set_option linter.unusedSimpArgs false
namespace Go.Proofs.Ytjmfjgoehicgcaa
open Go.RowKit

/-- The numbers from m on. -/
def marks (m : Int) (n : Nat) : List Int := (List.range n).map fun i : Nat => m + (i : Int)

theorem marks_len (m : Int) (n : Nat) : (marks m n).length = n := by simp [marks]
theorem marks_nth (m : Int) (n i : Nat) (h : i < n) : nth (marks m n) i = m + i := by
  rw [nth_eq _ _ (by rw [marks_len]; exact h)]; simp [marks]

theorem mark_step (xs : List Int) (m : Int) (k : Nat) (h : k < xs.length) :
    ((marks m k ++ xs.drop k).map (Value.int .i64)).set k (.int .i64 (m + k)) = (marks m (k + 1) ++ xs.drop (k + 1)).map (Value.int .i64) := by
  have e : marks m (k + 1) = marks m k ++ [m + k] := by simp [marks, List.range_succ]
  rw [e, ← List.map_set, List.set_append_right _ _ (by rw [marks_len]; omega), marks_len, Nat.sub_self, List.drop_eq_getElem_cons h, List.set_cons_zero]
  simp

theorem markIntS_any (B : Nat) (v : Value) (xs : List Int) (m : Int) (w : World) (ho : Own B w v xs) (hxm : xs.length ≤ 1048576) (hm : 0 ≤ m) (hm2 : m ≤ 8388608) :
    Calls Try.prog 38 #[v, .int .i64 m] w fun e w' => e = .returned (.int .i64 (m + xs.length)) ∧ Own B w' v (marks m xs.length) ∧ w.grownBy w' v.ownBlock := by
  rcases ho.2 with ⟨rfl, hn⟩ | ⟨g, cap, cur, rfl, hb, hg, hnc, hcm, hcs, htk⟩
  · have h0 : xs = [] := List.eq_nil_of_length_eq_zero hn
    subst h0
    go_enter Try.func38, Try.ntmps38
    go_wp2
    refine wp_loop_rounds 1 ?_
    rw [rounds_succ]
    go_wp2
    go_ret
    exact ⟨ret_int (by simp), by simpa [marks] using Own.nil _ _, World.grownBy.refl _ _⟩
  · clear hb hg hnc hcm hcs htk
    go_enter Try.func38, Try.ntmps38
    go_wp2
    go_loopw [1, 5] (fun q i wr => ∃ k : Nat, k ≤ xs.length ∧ i = .int .i64 k ∧ q = .int .i64 (m + k) ∧ wr.ownsRow B 3 1 (.slice (some ⟨g, 0, none⟩) xs.length cap) xs.length ((marks m k ++ xs.drop k).map (Value.int .i64)) ∧ w.grownBy wr (some g)) (fun _ i _ => xs.length - (intOf i).toNat)
    case atStart => exact ⟨0, Nat.zero_le _, rfl, by simp, by unfold Own at ho; simpa [marks] using ho, World.grownBy.refl _ _⟩
    case round =>
      obtain ⟨k, hk, rfl, rfl, hw, hgr⟩ := hrel
      by_cases hlt : k < xs.length
      · have hc := cell_own hw k hlt
        have hf := hw.frozenAt k
        have hst := hw.stored k (.int .i64 (m + k))
        rw [mark_step xs m k hlt] at hst
        have HS := Lib.hid hst
        have HG := Lib.hid hgr
        clear hst hgr
        go_wp2
        exact ⟨⟨k + 1, by omega, by go_num, by go_num, HS.out.1, HG.out.trans2 HS.out.2⟩, by simp [intOf]; omega⟩
      · have h1 : k = xs.length := by omega
        subst h1
        have hw2 : Own B wr (.slice (some ⟨g, 0, none⟩) xs.length cap) (marks m xs.length) := by
          unfold Own; rw [marks_len]; simpa using hw
        have HW := Lib.hid hw2
        clear hw hw2
        go_wp2
        go_ret
        exact ⟨rfl, HW.out, hgr⟩

theorem heldIntS_any (a : Option Addr) (c n : Nat) (m : Int) (w : World) (hx : Reads w a (marks m n)) (hxm : n ≤ 1048576) (hm : 0 ≤ m) (hm2 : m ≤ 8388608) :
    Calls Try.prog 39 #[.slice a n c, .int .i64 m] w fun e w' => e = .returned (.int .i64 (m + n)) ∧ w = w' := by
  go_enter Try.func39, Try.ntmps39
  go_wp2
  go_loop [1, 5] (fun q i => ∃ k : Nat, k ≤ n ∧ i = .int .i64 k ∧ q = .int .i64 (m + k)) (fun _ i => n - (intOf i).toNat)
  case atStart => exact ⟨0, Nat.zero_le _, rfl, by simp⟩
  case round =>
    obtain ⟨k, hk, rfl, rfl⟩ := hrel
    by_cases hlt : k < n
    · obtain ⟨b, off, rfl, hbl, hc⟩ := hx k (by rw [marks_len]; exact hlt)
      rw [marks_nth m n k hlt] at hc
      have hne : (m + (k : Int) != m + (k : Int)) = false := by simp
      clear hx
      go_wp2
      exact ⟨⟨k + 1, by omega, by go_num, by go_num⟩, by simp [intOf]; omega⟩
    · have h1 : k = n := by omega
      subst h1
      clear hx
      go_wp2
      go_ret
      exact ⟨rfl, rfl⟩

end Go.Proofs.Ytjmfjgoehicgcaa
