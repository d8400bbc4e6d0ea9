/- Sums of the parts of some sets: what speaks for a set. -/
import Derived.Test.YtjmfjgoehicgcaaM3
set_option linter.unusedVariables false
set_option linter.unusedSimpArgs false
namespace Go.Proofs.Ytjmfjgoehicgcaa
open Go.RowKit

/-- The sum of the numbers at the places before k that p takes. -/
def sumTo (p : Nat → Bool) (xs : List Int) (k : Nat) : Int := (List.range k).foldl (fun s b => if p b then s + nth xs b else s) 0

theorem sumTo_succ (p : Nat → Bool) (xs : List Int) (k : Nat) : sumTo p xs (k + 1) = if p k then sumTo p xs k + nth xs k else sumTo p xs k := by
  simp [sumTo, List.range_succ]

theorem sumTo_bd {high : Int} (p : Nat → Bool) (xs : List Int) (h : allB 0 high xs = true) (h0 : 0 ≤ high) (k : Nat) (hk : k ≤ xs.length) : 0 ≤ sumTo p xs k ∧ sumTo p xs k ≤ high * k := by
  induction k with
  | zero => simp [sumTo]
  | succ k ih =>
    have h1 := ih (by omega)
    have h2 := allB_nth h k (by omega)
    rw [sumTo_succ]
    have : high * ((k + 1 : Nat) : Int) = high * k + high := by rw [Int.natCast_add, Int.mul_add]; simp
    split <;> omega

/-- Two sets have an answer in common. -/
def meetB (a b : Nat) : Bool := a &&& b != 0
/-- All answers of the first set are in the second. -/
def subB (a b : Nat) : Bool := a &&& b == a

theorem and_bits : ∀ a b : Fin 16, bits BinOp.and IntKind.i64 (a.val : Int) (b.val : Int) = ((a.val &&& b.val : Nat) : Int) := by decide +kernel
theorem andNot_bits : ∀ a b : Fin 16, (bits BinOp.andNot IntKind.i64 (a.val : Int) (b.val : Int) == 0) = subB a.val b.val := by decide +kernel

theorem meet_test (a b : Nat) (ha : a < 16) (hb : b < 16) : (bits BinOp.and IntKind.i64 (a : Int) (b : Int) != 0) = meetB a b := by
  have := and_bits ⟨a, ha⟩ ⟨b, hb⟩
  rw [this, meetB, Bool.eq_iff_iff]
  simp

theorem sub_test (a b : Nat) (ha : a < 16) (hb : b < 16) : (bits BinOp.andNot IntKind.i64 (a : Int) (b : Int) == 0) = subB a b := andNot_bits ⟨a, ha⟩ ⟨b, hb⟩

theorem l4Possible_any (s : Int) (p : Option Addr) (c : Nat) (xs : List Int) (a : Nat) (w : World) (hx : Reads w p xs) (hxm : xs.length ≤ 16) (ha : a < 16) (hr : allB 0 1000000 xs = true) :
    Calls Try.prog 79 #[.agg #[.int .i64 s, .slice p xs.length c], .int .i64 a] w fun e w' => e = .returned (.int .i64 (sumTo (meetB a) xs xs.length)) ∧ Below w.heap.size w w' := by
  have HR := Lib.hid hr
  clear hr
  have hb0 : Below w.heap.size w (w.alloc (.cells #[.int .i64 s, .slice p xs.length c] 27)) := (Below.refl _ _).alloc (Nat.le_refl _) _
  have hx1 := hx.below hb0
  clear hx
  go_enter Try.func79, Try.ntmps79
  go_wp2
  go_loop [5, 6] (fun d i => ∃ (k : Nat), k ≤ xs.length ∧ i = .int .i64 k ∧ d = .int .i64 (sumTo (meetB a) xs k)) (fun _ i => xs.length - (intOf i).toNat)
  case atStart => exact ⟨0, Nat.zero_le _, rfl, rfl⟩
  case round =>
    obtain ⟨k, hk, rfl, rfl⟩ := hrel
    by_cases hlt : k < xs.length
    · obtain ⟨b, off, rfl, hbl, hc⟩ := hx1 k hlt
      have hs := Lib.hid (sumTo_succ (meetB a) xs k)
      have hn := allB_nth HR.out k hlt
      obtain ⟨hn1, hn2⟩ := hn
      have hsum := sumTo_bd (meetB a) xs HR.out (by omega) k hk
      obtain ⟨hs1, hs2⟩ := hsum
      have ht := meet_test a k ha (by omega)
      clear hx1
      cases hm : meetB a k
      · rw [hm] at ht
        have HM := Lib.hid hm
        clear hm
        go_wp2
        exact ⟨⟨k + 1, by omega, by go_num, by rw [hs.out, HM.out]; rfl⟩, by simp [intOf]; omega⟩
      · rw [hm] at ht
        have HM := Lib.hid hm
        clear hm
        go_wp2
        exact ⟨⟨k + 1, by omega, by go_num, by rw [hs.out, HM.out]; rfl⟩, by simp [intOf]; omega⟩
    · have h1 : k = xs.length := by omega
      subst h1
      clear hx1
      go_wp2
      go_ret
      exact ⟨rfl, hb0⟩

theorem sumOver_any (fid : FuncId) (hfid : ∀ (args : Array Value) (W : World), Sem.run Try.prog (callFunc fid args) W = .ok (.enter fid args) W) (q : Addr) (pr : Nat → Bool) (s : Int) (p : Option Addr) (c : Nat) (xs : List Int) (w : World) (hx : Reads w p xs) (hxm : xs.length ≤ 16) (hr : allB 0 1000000 xs = true)
    (hcl : Hid (∀ (b : Nat) (wr : World), b < xs.length → Below w.heap.size w wr → Calls Try.prog fid #[.int .i64 b, .pointer (some q)] wr fun e w' => e = .returned (.bool (pr b)) ∧ wr = w')) :
    Calls Try.prog 113 #[.agg #[.int .i64 s, .slice p xs.length c], .func (Fn.func fid) #[] #[.pointer (some q)]] w fun e w' => e = .returned (.int .i64 (sumTo pr xs xs.length)) ∧ Below w.heap.size w w' := by
  have HR := Lib.hid hr
  clear hr
  have hb0 : Below w.heap.size w (w.alloc (.cells #[.int .i64 s, .slice p xs.length c] 27)) := (Below.refl _ _).alloc (Nat.le_refl _) _
  have hx1 := hx.below hb0
  clear hx
  go_enter Try.func113, Try.ntmps113
  go_wp2
  go_loop [5, 11] (fun d i => ∃ (k : Nat), k ≤ xs.length ∧ i = .int .i64 k ∧ d = .int .i64 (sumTo pr xs k)) (fun _ i => xs.length - (intOf i).toNat)
  case atStart => exact ⟨0, Nat.zero_le _, rfl, rfl⟩
  case round =>
    obtain ⟨k, hk, rfl, rfl⟩ := hrel
    by_cases hlt : k < xs.length
    · obtain ⟨b, off, rfl, hbl, hc⟩ := hx1 k hlt
      have hs := Lib.hid (sumTo_succ pr xs k)
      have hn := allB_nth HR.out k hlt
      obtain ⟨hn1, hn2⟩ := hn
      have hsum := sumTo_bd pr xs HR.out (by omega) k hk
      obtain ⟨hs1, hs2⟩ := hsum
      clear hx1
      go_wp2_with fail
      refine (hcl.out k _ hlt hb0).mono ?_
      rintro e w' ⟨rfl, rfl⟩
      cases hm : pr k
      · have HM := Lib.hid hm
        clear hm
        go_wp2
        exact ⟨⟨k + 1, by omega, by go_num, by rw [hs.out, HM.out]; rfl⟩, by simp [intOf]; omega⟩
      · have HM := Lib.hid hm
        clear hm
        go_wp2
        exact ⟨⟨k + 1, by omega, by go_num, by rw [hs.out, HM.out]; rfl⟩, by simp [intOf]; omega⟩
    · have h1 : k = xs.length := by omega
      subst h1
      clear hx1
      go_wp2
      go_ret
      exact ⟨rfl, hb0⟩

theorem meetB_comm (a b : Nat) : meetB a b = meetB b a := by unfold meetB; rw [Nat.and_comm]

theorem possibleIn_any (a b : Nat) (q : Addr) (w : World) (ha : a < 16) (hb : b < 16) (hc : w.cell? q = some (.int .i64 a)) :
    Calls Try.prog 135 #[.int .i64 b, .pointer (some q)] w fun e w' => e = .returned (.bool (meetB a b)) ∧ w = w' := by
  have ht := meet_test b a hb ha
  have hcm := Lib.hid (meetB_comm b a)
  go_enter Try.func135, Try.ntmps135
  go_wp2
  go_ret
  exact ⟨ret_bool hcm.out, rfl⟩

theorem possiblePart_any (s : Int) (p : Option Addr) (c : Nat) (xs : List Int) (a : Nat) (w : World) (hx : Reads w p xs) (hxm : xs.length ≤ 16) (ha : a < 16) (hr : allB 0 1000000 xs = true) :
    Calls Try.prog 112 #[.agg #[.int .i64 s, .slice p xs.length c], .int .i64 a] w fun e w' => e = .returned (.int .i64 (sumTo (meetB a) xs xs.length)) ∧ Below w.heap.size w w' := by
  have HR := Lib.hid hr
  clear hr
  have hb1 : Below w.heap.size w (w.alloc (.cells #[.int .i64 s, .slice p xs.length c] 27)) := (Below.refl _ _).alloc (Nat.le_refl _) _
  have hb0 : Below w.heap.size w ((w.alloc (.cells #[.int .i64 s, .slice p xs.length c] 27)).alloc (.cells #[.int .i64 a] 3)) := hb1.alloc (by simp) _
  have hx1 := hx.below hb0
  have hcell : ((w.alloc (.cells #[.int .i64 s, .slice p xs.length c] 27)).alloc (.cells #[.int .i64 a] 3)).cell? ⟨w.heap.size + 1, 0, none⟩ = some (.int .i64 a) := by
    rw [World.cell?_alloc_at _ _ _ _ (by simp)]; rfl
  have hmf : ∀ (fn : Fn) (first cap : Array Value) (w : World), (Instr.makeFunc fn first cap).run Try.prog w = .ok (.func fn first cap) w := fun _ _ _ _ => rfl
  clear hx
  go_enter Try.func112, Try.ntmps112
  go_wp2_with fail
  refine (sumOver_any 135 (fun _ _ => by kernel_rfl) ⟨w.heap.size + 1, 0, none⟩ (meetB a) _ _ _ _ _ hx1 hxm HR.out (Lib.hid fun b wr hb hbw => (possibleIn_any a b _ wr ha (by omega) ((hbw.cell (p := ⟨w.heap.size + 1, 0, none⟩) (by simp)).trans hcell)))).mono ?_
  rintro e w1 ⟨rfl, hb2⟩
  go_wp2
  go_ret
  exact ⟨rfl, hb0.trans (hb2.mono hb0.size)⟩

end Go.Proofs.Ytjmfjgoehicgcaa
