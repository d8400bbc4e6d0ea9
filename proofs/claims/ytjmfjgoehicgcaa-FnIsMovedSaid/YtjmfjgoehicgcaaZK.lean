/- Plain facts: what is a specialization of what. -/
import Derived.Test.YtjmfjgoehicgcaaMgE4
import Derived.Test.YtjmfjgoehicgcaaMgJK
import Derived.Test.YtjmfjgoehicgcaaMgV8
set_option linter.unusedVariables false
set_option linter.unusedSimpArgs false
namespace Go.Proofs.Ytjmfjgoehicgcaa
open Go.RowKit

theorem sub_iff {a b : Nat} : subB a b = true ↔ a &&& b = a := by simp [subB]

theorem sp_of {s : Int} {xs ys : List Int} (h : bothB s xs s ys = true) (G : Nat → Nat → Int) (g : Flow xs.length (supS xs ys) (demS xs ys) G) : spB s xs s ys = true := by
  rw [spB, h, Bool.true_and]; exact flB_iff.2 ⟨G, g⟩

theorem sp_mp {s : Int} {xs ys : List Int} (h : spB s xs s ys = true) : mpB s xs s ys = true ∧ mcB s xs s ys = true := by
  rw [spB, Bool.and_eq_true] at h
  obtain ⟨h1, h2⟩ := h
  obtain ⟨k1, k2, k3, k4⟩ := bothB_ok h1
  have := spec_mp k4.symm h2
  rw [mpB, mcB, h1, this.1, this.2]; exact ⟨rfl, rfl⟩

theorem sp_eq {s : Int} {xs ys : List Int} (h1 : spB s xs s ys = true) (h2 : spB s ys s xs = true) : xs = ys := by
  have e1 := (sp_mp h1).1
  have e2 := (sp_mp h2).1
  rw [mpB, Bool.and_eq_true] at e1 e2
  obtain ⟨k1, k2, k3, k4⟩ := bothB_ok e1.1
  obtain ⟨p1, p2, -⟩ := both_parts e1.1
  exact mp_both p1 p2 k4 e1.2 e2.2

theorem massOk_both {s : Int} {xs ys : List Int} (hx : massB s xs = true) (hy : massB s ys = true) : bothB s xs s ys = true := by
  rw [bothB, hx, hy]; simp

theorem sp_self {s : Int} {xs : List Int} (hx : massB s xs = true) : spB s xs s xs = true := by
  have hk := massB_ok hx
  refine sp_of (massOk_both hx hx) (fun b a => if a = b then nth xs b * sumL xs else 0) ⟨fun b a hb ha => ?_, fun b a hb ha hs => ?_, fun b hb => ?_, fun a ha => ?_⟩
  · have := allB_nth hk.all b hb
    have := hk.sum1
    split
    · exact Int.mul_nonneg (by omega) (by omega)
    · exact Int.le_refl _
  · rw [if_neg]
    intro e
    subst e
    have : subB a a = true := sub_iff.2 (Nat.and_self a)
    rw [this] at hs; cases hs
  · rw [sm_one, if_pos hb]; rfl
  · rw [sm_single a ha (fun b hb hne => if_neg (fun e => hne e.symm)), if_pos rfl]; rfl

theorem sp_none {s : Int} {xs : List Int} (hx : massB s xs = true) : spB s xs s (fuL xs) = true := by
  have hk := massB_ok hx
  obtain ⟨n, hn, hn1, -, hl⟩ := mass_pow hk
  have p16 : 2 ^ n ≤ 16 := Nat.pow_le_pow_right (n := 2) (by omega) hn
  have h0 : 0 < xs.length := by have := hk.len; have := pow2_bd s hk.s1 hk.s4; omega
  have hs1 : sumL (fuL xs) = 1 := sure_sum (by omega)
  refine sp_of (none_both hx) (fun b a => if b = xs.length - 1 then nth xs a else 0) ⟨fun b a hb ha => ?_, fun b a hb ha hs => ?_, fun b hb => ?_, fun a ha => ?_⟩
  · have := allB_nth hk.all a ha
    split
    · exact this.1
    · exact Int.le_refl _
  · rw [if_neg]
    intro e
    subst e
    have := (meet_top ⟨n, by omega⟩ ⟨a, by omega⟩ (by show a < 2 ^ n; omega)).2
    simp only at this
    rw [hl, this] at hs; cases hs
  · unfold supS
    rw [fu_nth xs b h0]
    by_cases e : b = xs.length - 1
    · rw [if_pos e, Int.one_mul, sumL_sm]; apply sm_congr; intro a _; exact if_pos e
    · rw [if_neg e, Int.zero_mul, sm_congr (g := fun _ => 0) (fun a _ => if_neg e), sm_zero]
  · unfold demS
    rw [hs1, Int.mul_one, sm_single (xs.length - 1) (by omega) (fun b hb hne => if_neg hne), if_pos rfl]

theorem nothing_mass {s : Int} {xs : List Int} (hk : MassOk s xs) : massB s (sureL xs.length 0) = true :=
  sure_massB hk.s1 hk.s4 hk.len (by have := hk.len; have := pow2_bd s hk.s1 hk.s4; omega)

theorem sp_nothing {s : Int} {xs : List Int} (hx : massB s xs = true) : spB s (sureL xs.length 0) s xs = true := by
  have hk := massB_ok hx
  have h0 : 0 < xs.length := by have := hk.len; have := pow2_bd s hk.s1 hk.s4; omega
  have hs1 : sumL (sureL xs.length 0) = 1 := sure_sum h0
  have hln : (sureL xs.length 0).length = xs.length := by simp [sureL, zeros_len]
  refine sp_of (massOk_both (nothing_mass hk) hx) (fun b a => if a = 0 then nth xs b else 0) ⟨fun b a hb ha => ?_, fun b a hb ha hs => ?_, fun b hb => ?_, fun a ha => ?_⟩
  · have := allB_nth hk.all b (by omega)
    split
    · exact this.1
    · exact Int.le_refl _
  · rw [if_neg]
    intro e
    subst e
    have : subB 0 b = true := sub_iff.2 (Nat.zero_and b)
    rw [this] at hs; cases hs
  · unfold supS
    rw [hs1, Int.mul_one, sm_one, if_pos (by omega)]
  · unfold demS
    rw [hln, sureL_nth _ _ _ (by omega)]
    by_cases e : a = 0
    · rw [if_pos e, Int.one_mul, sumL_sm]; apply sm_congr; intro b _; exact if_pos e
    · rw [if_neg e, Int.zero_mul, sm_congr (g := fun _ => 0) (fun b _ => if_neg e), sm_zero]

/-- What conjoined evidence is a specialization of. -/
theorem sp_conj {s t : Int} {ys zs : List Int} (hm : massB s ys = true) (h : gOk (bothB s ys t zs) s (cjP ys zs) = true) : spB (gS (bothB s ys t zs) s (cjP ys zs)) (gL (bothB s ys t zs) s (cjP ys zs)) s ys = true := by
  obtain ⟨hb, hok, e1, e2⟩ := gOk_parts h
  rw [e1, e2]
  obtain ⟨k1, k2, k3, k4⟩ := bothB_ok hb
  have lw := mk_low hok
  generalize mkL s (cjP ys zs) = K at lw
  have hkl : K.length = ys.length := by have := lw.len; rw [cjP_len] at this; omega
  obtain ⟨d, hd, hmul⟩ := lw.mul
  have hK := massB_ok lw.mass
  have hY : 0 ≤ sumL ys := by have := k1.sum1; omega
  have hZ : 0 ≤ sumL zs := by have := k2.sum1; omega
  have cj : ∀ a, a < ys.length → d * nth K a = sm ys.length (fun b => sm ys.length (fun c => if b &&& c = a then nth ys b * nth zs c else 0)) := fun a ha => by
    rw [← hmul a (by omega), cj_nth ys zs a ha, k4]
  have row : ∀ b, b < ys.length → sm ys.length (fun a => sm ys.length (fun c => if b &&& c = a then nth ys b * nth zs c else 0)) = nth ys b * sumL zs := fun b hb => by
    have hlt : ∀ c, b &&& c < ys.length := fun c => by have : b &&& c ≤ b := Nat.and_le_left; omega
    rw [sm_swap, sm_congr (g := fun c => nth ys b * nth zs c) (fun c _ => by
      rw [sm_congr (g := fun a => if a = b &&& c then nth ys b * nth zs c else 0) (fun a _ => by by_cases e : b &&& c = a <;> simp [e]; intro h; exact absurd h.symm e), sm_one, if_pos (hlt c)]), sm_mul, sumL_sm zs, k4]
  have hsK : d * sumL K = sumL ys * sumL zs := by
    rw [sumL_sm K, hkl, ← sm_mul, sm_congr cj, sm_swap, sm_congr row, sumL_sm ys, sm_congr (g := fun b => sumL zs * nth ys b) (fun b _ => Int.mul_comm _ _), sm_mul, Int.mul_comm]
  rw [spB, massOk_both lw.mass hm, Bool.true_and]
  refine flB_iff.2 (flow_whole (fun b hb => ?_) (fun a ha => ?_) d hd ⟨fun b a => sumL ys * sm ys.length (fun c => if b &&& c = a then nth ys b * nth zs c else 0), fun b a hb ha => ?_, fun b a hb ha hs => ?_, fun b hb => ?_, fun a ha => ?_⟩)
  · unfold supS
    exact Int.mul_nonneg (allB_nth k1.all b (by omega)).1 (by have := hK.sum1; omega)
  · unfold demS
    exact Int.mul_nonneg (allB_nth hK.all a ha).1 hY
  · refine Int.mul_nonneg hY (sm_nonneg fun c hc => ?_)
    split
    · exact Int.mul_nonneg (allB_nth k1.all b (by omega)).1 (allB_nth k2.all c (by omega)).1
    · exact Int.le_refl _
  · rw [sm_congr (g := fun _ => 0) (fun c _ => if_neg (fun e => ?_)), sm_zero, Int.mul_zero]
    have : subB a b = true := sub_iff.2 (by rw [← e, Nat.and_comm b c, Nat.and_assoc, Nat.and_self])
    rw [this] at hs; cases hs
  · rw [hkl] at hb ⊢
    rw [sm_mul, row b hb]
    unfold supS
    grind
  · rw [hkl] at ha ⊢
    rw [sm_mul, ← cj a ha]
    unfold demS
    grind

end Go.Proofs.Ytjmfjgoehicgcaa
