/- Sums of the parts within a set, and of those that hold it. -/
import Derived.Test.YtjmfjgoehicgcaaP4
set_option linter.unusedVariables false
set_option linter.unusedSimpArgs false
namespace Go.Proofs.Ytjmfjgoehicgcaa
open Go.RowKit

def inSet (a b : Nat) : Bool := subB b a


theorem l4Common_any (s : Int) (p : Option Addr) (c : Nat) (xs : List Int) (a : Nat) (w : World) (hx : Reads w p xs) (hxm : xs.length ≤ 16) (ha : a < 16) (hr : allB 0 1000000 xs = true) :
    Calls Try.prog 81 #[.agg #[.int .i64 s, .slice p xs.length c], .int .i64 a] w fun e w' => e = .returned (.int .i64 (sumTo (subB a) xs xs.length)) ∧ Below w.heap.size w w' := by
  have HR := Lib.hid hr
  clear hr
  have hb0 : Below w.heap.size w (w.alloc (.cells #[.int .i64 s, .slice p xs.length c] 27)) := (Below.refl _ _).alloc (Nat.le_refl _) _
  have hx1 := hx.below hb0
  clear hx
  go_enter Try.func81, Try.ntmps81
  go_wp2
  go_loop [5, 6] (fun d i => ∃ (k : Nat), k ≤ xs.length ∧ i = .int .i64 k ∧ d = .int .i64 (sumTo (subB a) xs k)) (fun _ i => xs.length - (intOf i).toNat)
  case atStart => exact ⟨0, Nat.zero_le _, rfl, rfl⟩
  case round =>
    obtain ⟨k, hk, rfl, rfl⟩ := hrel
    by_cases hlt : k < xs.length
    · obtain ⟨b, off, rfl, hbl, hc⟩ := hx1 k hlt
      have hs := Lib.hid (sumTo_succ (subB a) xs k)
      have hn := allB_nth HR.out k hlt
      obtain ⟨hn1, hn2⟩ := hn
      have hsum := sumTo_bd (subB a) xs HR.out (by omega) k hk
      obtain ⟨hs1, hs2⟩ := hsum
      have ht := sub_test a k ha (by omega)
      clear hx1
      cases hm : subB a k
      · rw [hm] at ht
        have HM := Lib.hid hm
        clear hm
        go_wp2
        exact ⟨⟨k + 1, by omega, by go_num, by rw [hs.out, HM.out]; rfl⟩, by simp [intOf]; omega⟩
      · rw [hm] at ht
        have HM := Lib.hid hm
        clear hm
        go_wp2
        exact ⟨⟨k + 1, by omega, by go_num, by rw [hs.out, HM.out]; rfl⟩, by simp [intOf]; omega⟩
    · have h1 : k = xs.length := by omega
      subst h1
      clear hx1
      go_wp2
      go_ret
      exact ⟨rfl, hb0⟩


theorem impliedIn_any (a b : Nat) (q : Addr) (w : World) (ha : a < 16) (hb : b < 16) (hc : w.cell? q = some (.int .i64 a)) :
    Calls Try.prog 115 #[.int .i64 b, .pointer (some q)] w fun e w' => e = .returned (.bool (inSet a b)) ∧ w = w' := by
  have ht : _ = inSet a b := sub_test b a hb ha
  go_enter Try.func115, Try.ntmps115
  go_wp2
  go_ret
  exact ⟨ret_bool rfl, rfl⟩


theorem impliedPart_any (s : Int) (p : Option Addr) (c : Nat) (xs : List Int) (a : Nat) (w : World) (hx : Reads w p xs) (hxm : xs.length ≤ 16) (ha : a < 16) (hr : allB 0 1000000 xs = true) :
    Calls Try.prog 83 #[.agg #[.int .i64 s, .slice p xs.length c], .int .i64 a] w fun e w' => e = .returned (.int .i64 (sumTo (inSet a) xs xs.length)) ∧ Below w.heap.size w w' := by
  have HR := Lib.hid hr
  clear hr
  have hb1 : Below w.heap.size w (w.alloc (.cells #[.int .i64 s, .slice p xs.length c] 27)) := (Below.refl _ _).alloc (Nat.le_refl _) _
  have hb0 : Below w.heap.size w ((w.alloc (.cells #[.int .i64 s, .slice p xs.length c] 27)).alloc (.cells #[.int .i64 a] 3)) := hb1.alloc (by simp) _
  have hx1 := hx.below hb0
  have hcell : ((w.alloc (.cells #[.int .i64 s, .slice p xs.length c] 27)).alloc (.cells #[.int .i64 a] 3)).cell? ⟨w.heap.size + 1, 0, none⟩ = some (.int .i64 a) := by
    rw [World.cell?_alloc_at _ _ _ _ (by simp)]; rfl
  have hmf : ∀ (fn : Fn) (first cap : Array Value) (w : World), (Instr.makeFunc fn first cap).run Try.prog w = .ok (.func fn first cap) w := fun _ _ _ _ => rfl
  clear hx
  go_enter Try.func83, Try.ntmps83
  go_wp2_with fail
  refine (sumOver_any 115 (fun _ _ => by kernel_rfl) ⟨w.heap.size + 1, 0, none⟩ (inSet a) _ _ _ _ _ hx1 hxm HR.out (Lib.hid fun b wr hb hbw => (impliedIn_any a b _ wr ha (by omega) ((hbw.cell (p := ⟨w.heap.size + 1, 0, none⟩) (by simp)).trans hcell)))).mono ?_
  rintro e w1 ⟨rfl, hb2⟩
  go_wp2
  go_ret
  exact ⟨rfl, hb0.trans (hb2.mono hb0.size)⟩


theorem commonIn_any (a b : Nat) (q : Addr) (w : World) (ha : a < 16) (hb : b < 16) (hc : w.cell? q = some (.int .i64 a)) :
    Calls Try.prog 114 #[.int .i64 b, .pointer (some q)] w fun e w' => e = .returned (.bool (subB a b)) ∧ w = w' := by
  have ht := sub_test a b ha hb
  go_enter Try.func114, Try.ntmps114
  go_wp2
  go_ret
  exact ⟨ret_bool rfl, rfl⟩

end Go.Proofs.Ytjmfjgoehicgcaa
