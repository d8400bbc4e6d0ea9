/- Plain laws on what is more possible. -/
import Derived.Test.YtjmfjgoehicgcaaO8
import Derived.Test.YtjmfjgoehicgcaaM9
import Derived.Test.YtjmfjgoehicgcaaMZ
import Derived.Test.YtjmfjgoehicgcaaZT
set_option linter.unusedVariables false
set_option linter.unusedSimpArgs false
namespace Go.Proofs.Ytjmfjgoehicgcaa
open Go.RowKit

def otB (n a : Nat) : Nat := 2 ^ n - 1 - a
theorem inSet_ot : ∀ n : Fin 5, ∀ a c : Fin 16, a.val < 2 ^ n.val → c.val < 2 ^ n.val → inSet a.val c.val = !meetB (otB n.val a.val) c.val := by decide +kernel

theorem im_possP (n a : Nat) (xs : List Int) (hn : n ≤ 4) (hl : xs.length = 2 ^ n) (ha : a < 2 ^ n) : imS a xs = sumL xs - possS (otB n a) xs := by
  have p16 : 2 ^ n ≤ 16 := Nat.pow_le_pow_right (n := 2) (by omega) hn
  rw [imS_sm, possS_sm, sumL_sm, ← sm_sub]
  apply sm_congr
  intro e he
  have h := inSet_ot ⟨n, by omega⟩ ⟨a, by omega⟩ ⟨e, by omega⟩ ha (by show e < 2 ^ n; omega)
  simp only at h
  rw [h]
  cases meetB (otB n a) e <;> simp

theorem im_extF {N : Nat} {f g : Nat → Int} (h : ∀ a, a < N → sm N (fun e => if inSet a e = true then f e else 0) = sm N (fun e => if inSet a e = true then g e else 0)) : ∀ a, a < N → f a = g a := by
  intro a
  induction a using Nat.strongRecOn with
  | _ a ih =>
    intro ha
    have e := h a ha
    have d : sm N (fun e => (if inSet a e = true then f e else 0) - (if inSet a e = true then g e else 0)) = 0 := by rw [sm_sub]; omega
    rw [sm_single a ha (fun k hk hne => by
      by_cases hs : inSet a k = true
      · have hle : k ≤ a := by
          have : k &&& a = k := by simpa [inSet, subB] using hs
          rw [← this]; exact Nat.and_le_right
        rw [if_pos hs, if_pos hs, ih k (by omega) hk]; omega
      · rw [if_neg hs, if_neg hs]; omega)] at d
    have hs : inSet a a = true := by simp [inSet, subB, Nat.and_self]
    rw [if_pos hs, if_pos hs] at d
    omega

theorem mpTo_iff {xs ys : List Int} {k : Nat} : mpTo xs ys k = true ↔ ∀ a, a < k → possS a xs * sumL ys ≤ possS a ys * sumL xs := by
  simp only [mpTo, List.all_eq_true, List.mem_range, decide_eq_true_eq, possS]
theorem mcTo_iff {xs ys : List Int} {k : Nat} : mcTo xs ys k = true ↔ ∀ a, a < k → coS a xs * sumL ys ≤ coS a ys * sumL xs := by
  simp only [mcTo, List.all_eq_true, List.mem_range, decide_eq_true_eq, coS]

/-- All sets before k are implied by the first at least as much. -/
def imTo (xs ys : List Int) (k : Nat) : Bool := (List.range k).all fun a => decide (imS a ys * sumL xs ≤ imS a xs * sumL ys)
theorem imTo_succ (xs ys : List Int) (k : Nat) : imTo xs ys (k + 1) = (imTo xs ys k && decide (imS k ys * sumL xs ≤ imS k xs * sumL ys)) := by simp [imTo, List.range_succ]
theorem imTo_iff {xs ys : List Int} {k : Nat} : imTo xs ys k = true ↔ ∀ a, a < k → imS a ys * sumL xs ≤ imS a xs * sumL ys := by
  simp only [imTo, List.all_eq_true, List.mem_range, decide_eq_true_eq]

theorem mass_pow {s : Int} {xs : List Int} (hk : MassOk s xs) : ∃ n : Nat, n ≤ 4 ∧ 1 ≤ n ∧ s = n ∧ xs.length = 2 ^ n := by
  have h1 := hk.s1
  have h4 := hk.s4
  have hl := hk.len
  obtain ⟨n, rfl⟩ := Int.eq_ofNat_of_zero_le (show 0 ≤ s by omega)
  refine ⟨n, by omega, by omega, rfl, ?_⟩
  have : pow2 (n : Int) = ((2 ^ n : Nat) : Int) := by simp [pow2]
  rw [this] at hl
  exact_mod_cast hl

theorem imTo_mp {s t : Int} {xs ys : List Int} (hk : MassOk s xs) (hj : MassOk t ys) (hl : xs.length = ys.length) : imTo xs ys xs.length = mpTo xs ys xs.length := by
  obtain ⟨n, hn, -, -, hx⟩ := mass_pow hk
  have hy : ys.length = 2 ^ n := by rw [← hl, hx]
  have ot : ∀ a, a < 2 ^ n → otB n a < 2 ^ n ∧ otB n (otB n a) = a := fun a ha => by unfold otB; omega
  rw [Bool.eq_iff_iff, imTo_iff, mpTo_iff, hx]
  constructor
  · intro h a ha
    have e := h (otB n a) (ot a ha).1
    rw [im_possP n _ xs hn hx (ot a ha).1, im_possP n _ ys hn hy (ot a ha).1, (ot a ha).2, Int.sub_mul, Int.sub_mul, Int.mul_comm (sumL ys) (sumL xs)] at e
    omega
  · intro h a ha
    have e := h (otB n a) (ot a ha).1
    rw [im_possP n a xs hn hx ha, im_possP n a ys hn hy ha, Int.sub_mul, Int.sub_mul, Int.mul_comm (sumL ys) (sumL xs)]
    omega

theorem mp_both {s t : Int} {xs ys : List Int} (hx : massB s xs = true) (hy : massB t ys = true) (hl : xs.length = ys.length) (h1 : mpTo xs ys xs.length = true) (h2 : mpTo ys xs ys.length = true) : xs = ys := by
  have hk := massB_ok hx
  have hj := massB_ok hy
  rw [← imTo_mp hk hj hl, imTo_iff] at h1
  rw [← imTo_mp hj hk hl.symm, imTo_iff] at h2
  have e : ∀ a, a < xs.length → nth xs a * sumL ys = nth ys a * sumL xs := by
    refine im_extF fun a ha => ?_
    have a1 := h1 a ha
    have a2 := h2 a (by omega)
    rw [imS_sm, imS_sm] at a1 a2
    have s1 : sm xs.length (fun e => if inSet a e = true then nth xs e * sumL ys else 0) = sumL ys * sm xs.length (fun e => if inSet a e = true then nth xs e else 0) := by
      rw [← sm_mul]; apply sm_congr; intro b _; split
      · exact Int.mul_comm _ _
      · simp
    have s2 : sm xs.length (fun e => if inSet a e = true then nth ys e * sumL xs else 0) = sumL xs * sm ys.length (fun e => if inSet a e = true then nth ys e else 0) := by
      rw [hl, ← sm_mul]; apply sm_congr; intro b _; split
      · exact Int.mul_comm _ _
      · simp
    rw [s1, s2, Int.mul_comm (sumL ys), Int.mul_comm (sumL xs)]
    omega
  refine low_unique hx hy hl (sumL ys) (sumL xs) (by have := hj.sum1; omega) (by have := hk.sum1; omega) fun k hk' => ?_
  rw [Int.mul_comm, e k hk', Int.mul_comm]

theorem poss_le_sum {s : Int} {xs : List Int} (hk : MassOk s xs) (a : Nat) : possS a xs ≤ sumL xs := by
  rw [possS_sm, sumL_sm]
  refine sm_le fun e he => ?_
  have := (allB_nth hk.all e he).1
  split <;> omega
theorem co_sm (a : Nat) (xs : List Int) : coS a xs = sm xs.length (fun e => if subB a e = true then nth xs e else 0) := by rw [coS, sumTo_sm]
theorem co_le_sum {s : Int} {xs : List Int} (hk : MassOk s xs) (a : Nat) : coS a xs ≤ sumL xs := by
  rw [co_sm, sumL_sm]
  refine sm_le fun e he => ?_
  have := (allB_nth hk.all e he).1
  split <;> omega

theorem meet_top : ∀ n : Fin 5, ∀ a : Fin 16, a.val < 2 ^ n.val → (meetB a.val (2 ^ n.val - 1) = decide (a.val ≠ 0)) ∧ subB a.val (2 ^ n.val - 1) = true := by decide +kernel

theorem fu_nth (xs : List Int) (k : Nat) (h : 0 < xs.length) : nth (fuL xs) k = if k = xs.length - 1 then 1 else 0 := by rw [fuL, sureL_nth _ _ _ (by omega)]

theorem none_poss {s : Int} {xs : List Int} (hk : MassOk s xs) (a : Nat) (ha : a < xs.length) : possS a (fuL xs) = if a = 0 then 0 else 1 := by
  obtain ⟨n, hn, hn1, -, hl⟩ := mass_pow hk
  have p16 : 2 ^ n ≤ 16 := Nat.pow_le_pow_right (n := 2) (by omega) hn
  have h0 : 0 < xs.length := by omega
  rw [possS_sm, fuL_len, sm_single (xs.length - 1) (by omega) (fun k hk' hne => by rw [fu_nth xs k h0, if_neg hne]; split <;> rfl), fu_nth xs _ h0, if_pos rfl, hl]
  have := (meet_top ⟨n, by omega⟩ ⟨a, by omega⟩ (by show a < 2 ^ n; omega)).1
  simp only at this
  rw [this]
  by_cases e : a = 0 <;> simp [e]

theorem none_co {s : Int} {xs : List Int} (hk : MassOk s xs) (a : Nat) (ha : a < xs.length) : coS a (fuL xs) = 1 := by
  obtain ⟨n, hn, hn1, -, hl⟩ := mass_pow hk
  have p16 : 2 ^ n ≤ 16 := Nat.pow_le_pow_right (n := 2) (by omega) hn
  have h0 : 0 < xs.length := by omega
  rw [co_sm, fuL_len, sm_single (xs.length - 1) (by omega) (fun k hk' hne => by rw [fu_nth xs k h0, if_neg hne]; split <;> rfl), fu_nth xs _ h0, if_pos rfl, hl]
  have := (meet_top ⟨n, by omega⟩ ⟨a, by omega⟩ (by show a < 2 ^ n; omega)).2
  simp only at this
  rw [if_pos this]

theorem none_mass {s : Int} {xs : List Int} (hk : MassOk s xs) : massB s (fuL xs) = true := by
  rw [fuL]; exact sure_massB hk.s1 hk.s4 hk.len (by have := hk.len; have := pow2_bd s hk.s1 hk.s4; omega)

theorem none_both {s : Int} {xs : List Int} (hx : massB s xs = true) : bothB s xs s (fuL xs) = true := by
  simp only [bothB, hx, none_mass (massB_ok hx), Bool.true_and]; simp

theorem none_mp {s : Int} {xs : List Int} (hx : massB s xs = true) : mpB s xs s (fuL xs) = true := by
  have hk := massB_ok hx
  have h1 : 0 < xs.length := by have := hk.len; have := pow2_bd s hk.s1 hk.s4; omega
  simp only [mpB, none_both hx, Bool.true_and]
  rw [mpTo_iff]
  intro a ha
  rw [none_poss hk a ha, show sumL (fuL xs) = 1 from sure_sum (by omega), Int.mul_one]
  by_cases e : a = 0
  · subst e
    rw [if_pos rfl, Int.zero_mul, possS_sm, sm_congr (g := fun _ => 0) (fun e _ => by simp [meetB]), sm_zero]; exact Int.le_refl _
  · rw [if_neg e, Int.one_mul]; exact poss_le_sum hk a

theorem none_mc {s : Int} {xs : List Int} (hx : massB s xs = true) : mcB s xs s (fuL xs) = true := by
  have hk := massB_ok hx
  have h1 : 0 < xs.length := by have := hk.len; have := pow2_bd s hk.s1 hk.s4; omega
  simp only [mcB, none_both hx, Bool.true_and]
  rw [mcTo_iff]
  intro a ha
  rw [none_co hk a ha, show sumL (fuL xs) = 1 from sure_sum (by omega), Int.mul_one, Int.one_mul]; exact co_le_sum hk a

/-- What is so of two masses of one question. -/
structure MpLaw (s : Int) (xs ys : List Int) : Prop where
  mx : massB s xs = true
  my : massB s ys = true
  len : xs.length = ys.length
  all : imTo xs ys xs.length = mpB s xs s ys
  eq : mpB s xs s ys = true → mpB s ys s xs = true → xs = ys
  mp : mpB s xs s (fuL xs) = true
  mc : mcB s xs s (fuL xs) = true

theorem both_parts {s t : Int} {xs ys : List Int} (h : bothB s xs t ys = true) : massB s xs = true ∧ massB t ys = true ∧ s = t := by
  simp only [bothB, Bool.and_eq_true, decide_eq_true_eq] at h
  exact ⟨h.1, h.2.1, h.2.2⟩

theorem mp_law {s : Int} {xs ys : List Int} (h : bothB s xs s ys = true) : MpLaw s xs ys := by
  obtain ⟨hx, hy, _⟩ := both_parts h
  obtain ⟨hk, hj, _, hl⟩ := bothB_ok h
  refine ⟨hx, hy, by omega, ?_, fun h1 h2 => ?_, none_mp hx, none_mc hx⟩
  · rw [imTo_mp hk hj (by omega), mpB, h, Bool.true_and]
  · simp only [mpB, Bool.and_eq_true] at h1 h2
    exact mp_both hx hy (by omega) h1.2 h2.2

end Go.Proofs.Ytjmfjgoehicgcaa
