/- Greatest common divisors: what both packages' loops compute. -/
import Derived.Test.YtjmfjgoehicgcaaS1
set_option linter.unusedVariables false
set_option linter.unusedSimpArgs false
namespace Go.Proofs.Ytjmfjgoehicgcaa
open Go.RowKit

/-- The greatest number that divides all numbers of a list. -/
def gcdL (xs : List Int) : Nat := xs.foldl (fun d x => Nat.gcd d x.natAbs) 0

theorem gcdL_snoc (xs : List Int) (x : Int) : gcdL (xs ++ [x]) = Nat.gcd (gcdL xs) x.natAbs := by simp [gcdL]

theorem abs_if (a : Int) : (if a < -a then -a else a) = (a.natAbs : Int) := by split <;> omega

theorem gcd_step (p q : Nat) (h : 0 < q) : Nat.gcd q (p % q) = Nat.gcd p q := by
  rw [Nat.gcd_comm p q, Nat.gcd_comm q (p % q), ← Nat.gcd_rec]

theorem gcdL_le (xs : List Int) (h : allB (-4611686018427387904) 4611686018427387904 xs = true) : gcdL xs ≤ 4611686018427387904 := by
  suffices H : ∀ (l : List Int) (d : Nat), d ≤ 4611686018427387904 → (∀ x ∈ l, x.natAbs ≤ 4611686018427387904) → l.foldl (fun d x => Nat.gcd d x.natAbs) d ≤ 4611686018427387904 by
    refine H xs 0 (by omega) fun x hx => ?_
    have := List.all_eq_true.1 h x hx
    simp [inB] at this
    omega
  intro l
  induction l with
  | nil => intro d hd _; exact hd
  | cons x l ih =>
    intro d hd hl
    simp only [List.foldl_cons]
    refine ih _ ?_ (fun y hy => hl y (by simp [hy]))
    rcases Nat.eq_zero_or_pos d with rfl | hd0
    · rw [Nat.gcd_zero_left]; exact hl x (by simp)
    · exact Nat.le_trans (Nat.gcd_le_left _ hd0) hd

theorem l2Divisor_any (a b : Int) (w : World) (ha : -4611686018427387904 ≤ a) (ha' : a ≤ 4611686018427387904) (hb : -4611686018427387904 ≤ b) (hb' : b ≤ 4611686018427387904) :
    Calls Try.prog 129 #[.int .i64 a, .int .i64 b] w fun e w' => e = .returned (.int .i64 (Nat.gcd a.natAbs b.natAbs : Nat)) ∧ w = w' := by
  go_enter Try.func129, Try.ntmps129
  go_wp2
  all_goals
    go_loop [0, 1] (fun x y => ∃ p q : Nat, x = .int .i64 p ∧ y = .int .i64 q ∧ Nat.gcd p q = Nat.gcd a.natAbs b.natAbs ∧ p ≤ 4611686018427387904 ∧ q ≤ 4611686018427387904) (fun _ y => (intOf y).toNat)
    case atStart => exact ⟨a.natAbs, b.natAbs, congrArg (Value.int .i64) (by omega), congrArg (Value.int .i64) (by omega), rfl, by omega, by omega⟩
    case round =>
      obtain ⟨p, q, rfl, rfl, hg, hp, hq⟩ := hrel
      have HG := Lib.hid hg
      clear hg
      by_cases hq0 : 0 < q
      · have hm : (p : Int) % (q : Int) = ((p % q : Nat) : Int) := by simp
        have hlt := Nat.mod_lt p hq0
        go_wp2
        exact ⟨⟨q, p % q, rfl, congrArg (Value.int .i64) hm, by rw [gcd_step p q hq0]; exact HG.out, hq, by omega⟩, by simp [intOf]; omega⟩
      · have h0 : q = 0 := by omega
        subst h0
        have hfin := Lib.hid HG.out
        rw [Nat.gcd_zero_right] at hfin
        clear HG
        go_wp2
        go_ret
        exact ⟨ret_int (by rw [hfin.out]), rfl⟩

theorem l3Lowest_any (a : Option Addr) (c : Nat) (xs : List Int) (w : World) (hx : Reads w a xs) (hxm : xs.length ≤ 1048576) (hr : allB (-4611686018427387904) 4611686018427387904 xs = true) :
    Calls Try.prog 103 #[.slice a xs.length c] w fun e w' => e = .returned (.int .i64 (gcdL xs)) ∧ w = w' := by
  have HR := Lib.hid hr
  clear hr
  go_enter Try.func103, Try.ntmps103
  go_wp2
  go_loop [3, 4] (fun d i => ∃ k : Nat, k ≤ xs.length ∧ i = .int .i64 k ∧ d = .int .i64 (gcdL (xs.take k))) (fun _ i => xs.length - (intOf i).toNat)
  case atStart => exact ⟨0, Nat.zero_le _, rfl, rfl⟩
  case round =>
    obtain ⟨k, hk, rfl, rfl⟩ := hrel
    by_cases hlt : k < xs.length
    · obtain ⟨b, off, rfl, hbl, hc⟩ := hx k hlt
      have hs := Lib.hid (take_succ_getD xs k hlt)
      have hn := allB_nth HR.out k hlt
      obtain ⟨hn1, hn2⟩ := hn
      have hg := gcdL_le _ (allB_take HR.out k)
      clear hx
      go_wp2_with fail
      refine (l2Divisor_any _ _ _ (by omega) (by omega) hn1 hn2).mono ?_
      rintro e w' ⟨rfl, rfl⟩
      go_wp2_with fail
      exact ⟨⟨k + 1, by omega, by go_num, by rw [hs.out, gcdL_snoc]⟩, by simp [intOf]; omega⟩
    · have h1 : k = xs.length := by omega
      subst h1
      clear hx
      go_wp2
      go_ret
      exact ⟨rfl, rfl⟩

theorem divisorOf_any (a : Option Addr) (c : Nat) (xs : List Int) (w : World) (hx : Reads w a xs) (hxm : xs.length ≤ 1048576) (hr : allB (-4611686018427387904) 4611686018427387904 xs = true) :
    Calls Try.prog 99 #[.slice a xs.length c] w fun e w' => e = .returned (.int .i64 (gcdL xs)) ∧ ∃ n, w' = w.drewN n := by
  have HR := Lib.hid hr
  clear hr
  go_enter Try.func99, Try.ntmps99
  go_wp2
  go_loopw [3, 8] (fun d i wr => ∃ (k : Nat) (p : Int), k ≤ xs.length ∧ i = .int .i64 k ∧ d = .int .i64 p ∧ p.natAbs = gcdL (xs.take k) ∧ -4611686018427387904 ≤ p ∧ p ≤ 4611686018427387904 ∧ ∃ n, wr = w.drewN n) (fun _ i _ => xs.length - (intOf i).toNat)
  case atStart => exact ⟨0, 0, Nat.zero_le _, rfl, rfl, rfl, by omega, by omega, 0, rfl⟩
  case round =>
    obtain ⟨k, p, hk, rfl, rfl, hp, hp1, hp2, n, rfl⟩ := hrel
    have HP := Lib.hid hp
    clear hp
    by_cases hlt : k < xs.length
    · obtain ⟨b, off, rfl, hbl, hc⟩ := hx k hlt
      have hs := Lib.hid (take_succ_getD xs k hlt)
      have hn := allB_nth HR.out k hlt
      obtain ⟨hn1, hn2⟩ := hn
      clear hx
      go_wp2
      go_loopw [3, 5] (fun d i wr => ∃ (p q : Int), d = .int .i64 p ∧ i = .int .i64 q ∧ Nat.gcd p.natAbs q.natAbs = gcdL (xs.take (k + 1)) ∧ -4611686018427387904 ≤ p ∧ p ≤ 4611686018427387904 ∧ -4611686018427387904 ≤ q ∧ q ≤ 4611686018427387904 ∧ ∃ n, wr = w.drewN n) (fun _ i _ => (intOf i).natAbs)
      case atStart => exact ⟨p, nth xs k, rfl, rfl, by rw [hs.out, gcdL_snoc, HP.out], hp1, hp2, hn1, hn2, n, rfl⟩
      case round =>
        clear hc hn1 hn2 hp1 hp2 HP
        obtain ⟨p, q, rfl, rfl, hg, hp1, hp2, hq1, hq2, n, rfl⟩ := hrel
        have HG := Lib.hid hg
        clear hg
        by_cases hq0 : q = 0
        · subst hq0
          have hfin := Lib.hid HG.out
          rw [show (0 : Int).natAbs = 0 from rfl, Nat.gcd_zero_right] at hfin
          clear HG
          go_wp2
          exact ⟨⟨k + 1, p, by omega, by go_num, rfl, hfin.out, hp1, hp2, n, rfl⟩, by simp [intOf]; omega⟩
        · have hq3 : (q != 0) = true := bne_iff_ne.2 hq0
          have hta := Int.natAbs_tmod p q
          have hpos : 0 < q.natAbs := by omega
          have hlt2 := Nat.mod_lt p.natAbs hpos
          have hb1 : -4611686018427387904 ≤ p.tmod q ∧ p.tmod q ≤ 4611686018427387904 := by omega
          have hgs : Nat.gcd q.natAbs (p.tmod q).natAbs = gcdL (xs.take (k + 1)) := by rw [hta, gcd_step _ _ hpos]; exact HG.out
          have hlt3 : (p.tmod q).natAbs < q.natAbs := by omega
          have HF := Lib.hid (And.intro hb1 (And.intro hgs hlt3))
          have hq4 : ¬ q = 0 := hq0
          clear hq0 hb1 hgs hta hlt2 hlt3 hpos HG
          go_wp2
          go_quiet (fail)
          go_wp2
          exact ⟨⟨q, p.tmod q, rfl, rfl, HF.out.2.1, hq1, hq2, HF.out.1.1, HF.out.1.2, _, World.drewN_drewN _ _ _⟩, HF.out.2.2⟩
    · have h1 : k = xs.length := by omega
      subst h1
      have hfin := Lib.hid HP.out
      rw [List.take_length] at hfin
      clear HP hx
      by_cases hp0 : p < -p
      all_goals
        go_wp2
        go_ret
        exact ⟨ret_int (by rw [← hfin.out]; omega), n, rfl⟩

end Go.Proofs.Ytjmfjgoehicgcaa
