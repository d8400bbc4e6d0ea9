/- Plain facts: the first table, as a list, moves parts as a list does that is good for it. -/
import Derived.Test.YtjmfjgoehicgcaaMgDD
import Derived.Test.YtjmfjgoehicgcaaMgJK
import Derived.Test.YtjmfjgoehicgcaaZK
import Derived.Test.YtjmfjgoehicgcaaNB
set_option linter.unusedVariables false
set_option linter.unusedSimpArgs false
namespace Go.Proofs.Ytjmfjgoehicgcaa
open Go.RowKit

theorem max_ex {P : Int → Prop} {B : Int} (hb : ∀ n, P n → n ≤ B) : ∀ (d : Nat) (n : Int), (B - n).toNat ≤ d → P n → ∃ m, P m ∧ ∀ k, P k → k ≤ m := by
  intro d
  induction d with
  | zero => intro n hd h; exact ⟨n, h, fun k hk => by have := hb k hk; have := hb n h; omega⟩
  | succ d ih =>
    intro n hd h
    by_cases c : ∃ m, P m ∧ n < m
    · obtain ⟨m, h1, h2⟩ := c
      have := hb m h1
      exact ih m (by omega) h1
    · exact ⟨n, h, fun k hk => by
        rcases Int.lt_or_le n k with q | q
        · exact absurd ⟨k, hk, q⟩ c
        · exact q⟩

/-- Where there is a table there is a first one. -/
theorem first_ex {N : Nat} {sup dem : Nat → Int} (hN : 0 < N) (h : ∃ G, Flow N sup dem G) : ∃ F, First N sup dem F := by
  have key : ∀ i, i ≤ N * N → ∃ F, Flow N sup dem F ∧ Fst N sup dem i F := by
    intro i
    induction i with
    | zero => intro _; obtain ⟨G, g⟩ := h; exact ⟨G, g, Fst.zero _ _ _ _⟩
    | succ i ih =>
      intro hi
      obtain ⟨F, f, hf⟩ := ih (by omega)
      obtain ⟨i1, i2, i3⟩ := pl_of hN (show i < N * N by omega)
      obtain ⟨m, ⟨G, g, hag, rfl⟩, hm⟩ := max_ex (P := fun n => ∃ G, Flow N sup dem G ∧ (∀ k, k < i → G (k / N) (k % N) = F (k / N) (k % N)) ∧ G (i / N) (i % N) = n) (B := sup (i / N)) (fun n ⟨G, g, _, hn⟩ => by
        rw [← hn, ← g.row _ i1]; exact sm_pick (f := fun a => G (i / N) a) (fun a ha => g.nn _ a i1 ha) _ i2) _ (F (i / N) (i % N)) (Nat.le_refl _) ⟨F, f, fun _ _ => rfl, rfl⟩
      exact ⟨G, g, (hf.keep hag).next fun G2 g2 hag2 => hm _ ⟨G2, g2, fun k hk => (hag2 k hk).trans (hag k hk), rfl⟩⟩
  obtain ⟨F, f, hf⟩ := key _ (Nat.le_refl _)
  exact ⟨F, hf.first f⟩

theorem row_sm (N : Nat) (ls : List Int) (b : Nat) : ∀ k, rowS N ls b k = sm k (fun a => nth ls (N * b + a))
  | 0 => rfl
  | k + 1 => by rw [rowS_succ, row_sm N ls b k, sm]
theorem col_sm (N : Nat) (ls : List Int) (a : Nat) : ∀ k, colS N ls a k = sm k (fun b => nth ls (N * b + a))
  | 0 => rfl
  | k + 1 => by rw [colS_succ, col_sm N ls a k, sm]

theorem imB_parts {s t : Int} {xs ys ls : List Int} (h : imB s xs t ys ls = true) : bothB s xs t ys = true ∧ ls.length = xs.length * xs.length ∧ rngTo xs.length ls (xs.length * xs.length) = true ∧ eqTo xs ys ls xs.length = true := by
  simp only [imB, mvB, Bool.and_eq_true, decide_eq_true_eq] at h
  exact ⟨h.1, h.2.1, h.2.2.1, h.2.2.2⟩

/-- A list that is good makes a table. -/
theorem im_flow {s t : Int} {xs ys ls : List Int} (h : imB s xs t ys ls = true) : Flow xs.length (supS xs ys) (demS xs ys) (fun b a => nth ls (xs.length * b + a)) := by
  obtain ⟨h1, h2, h3, h4⟩ := imB_parts h
  refine ⟨fun b a hb ha => (rngTo_at h3 _ (pl_lt ha hb)).1.1, fun b a hb ha hs => ?_, fun b hb => ?_, fun a ha => ?_⟩
  · rcases (rngTo_at h3 _ (pl_lt ha hb)).2 with q | q
    · rw [pl_mod ha, pl_div ha, hs] at q; cases q
    · exact q
  · rw [← row_sm, ← fr_all _ _ _ hb]; exact (eqTo_at h4 b hb).1
  · rw [← col_sm, ← to_all _ _ _ ha]; exact (eqTo_at h4 a ha).2

theorem im_sp {s t : Int} {xs ys ls : List Int} (h : imB s xs t ys ls = true) : spB s xs t ys = true := by
  rw [spB, (imB_parts h).1, Bool.true_and]; exact flB_iff.2 ⟨_, im_flow h⟩

/-- What is so of the first list. -/
structure MvLaw (s : Int) (xs : List Int) (t : Int) (ys M : List Int) : Prop where
  b : bothB s xs t ys = true
  st : s = t
  len : M.length = xs.length * xs.length
  n1 : 1 ≤ xs.length
  n16 : xs.length ≤ 16
  im : imB s xs t ys M = true
  nb : ∀ k, k < xs.length * xs.length → 0 ≤ nth M k ∧ nth M k ≤ 1000000000000
  gb : ∀ k, k ≤ xs.length * xs.length → ∀ a, a < xs.length → 0 ≤ nth (gtT xs.length M k) a ∧ nth (gtT xs.length M k) a ≤ 1000000000000
  made : gOk (mmG s (gtT xs.length M (xs.length * xs.length))) s (gtT xs.length M (xs.length * xs.length)) = true → gS (mmG s (gtT xs.length M (xs.length * xs.length))) s (gtT xs.length M (xs.length * xs.length)) = s ∧ gL (mmG s (gtT xs.length M (xs.length * xs.length))) s (gtT xs.length M (xs.length * xs.length)) = xs
  first : ∀ ls, imB s xs t ys ls = true → ∀ i, i < xs.length * xs.length → (∀ j, j < i → nth ls j = nth M j) → nth ls i ≤ nth M i

theorem list_eq_mk {s : Int} {xs : List Int} (h : massB s xs = true) : mkL s xs = xs ∧ mkOk s xs = true := by
  have hk := massB_ok h
  have hq : quoTo xs xs.length = xs := by
    refine nth_ext2 _ _ (by rw [quoTo_len]) fun k hk' => ?_
    rw [quoTo_len] at hk'
    rw [quo_nth xs k hk', hk.gcd]; simp
  have ho : mkOk s xs = true := by rw [mkOk, hq, h, hk.gcd]; rfl
  exact ⟨by rw [mkL, if_pos ho, hq], ho⟩

theorem mv_law {s t : Int} {xs ys : List Int} (h : spB s xs t ys = true) : MvLaw s xs t ys (mvL s xs t ys) := by
  have h0 := h
  rw [spB, Bool.and_eq_true] at h
  obtain ⟨hb, hf⟩ := h
  obtain ⟨k1, k2, k3, k4⟩ := bothB_ok hb
  have tm := two_of hb
  have hN : 0 < xs.length := tm.n1
  have hex := first_ex hN (flB_iff.1 hf)
  obtain ⟨sb, db, -⟩ := tm.sup
  have hfl : mvL s xs t ys = (List.range (xs.length * xs.length)).map fun k => Classical.choose hex (k / xs.length) (k % xs.length) := by
    rw [mvL, if_pos h0, firstL, dif_pos hex]
  have hF := Classical.choose_spec hex
  obtain ⟨F, hFe⟩ : ∃ F, F = Classical.choose hex := ⟨_, rfl⟩
  rw [← hFe] at hfl hF
  generalize mvL s xs t ys = M at hfl
  have hl : M.length = xs.length * xs.length := by rw [hfl]; simp
  have hn : ∀ k, k < xs.length * xs.length → nth M k = F (k / xs.length) (k % xs.length) := fun k hk => by
    subst hfl
    rw [nth_eq _ k (by simp [hk])]; simp
  have hat : ∀ b a, b < xs.length → a < xs.length → nth M (xs.length * b + a) = F b a := fun b a hb' ha => by
    rw [hn _ (pl_lt ha hb'), pl_div ha, pl_mod ha]
  have g := hF.flow
  have nb : ∀ k, k < xs.length * xs.length → 0 ≤ nth M k ∧ nth M k ≤ 1000000000000 := fun k hk => by
    obtain ⟨i1, i2, i3⟩ := pl_of hN hk
    rw [hn k hk]
    have e1 := g.nn _ _ i1 i2
    have e2 := sm_pick (f := fun a => F (k / xs.length) a) (fun a ha => g.nn _ a i1 ha) _ i2
    rw [g.row _ i1] at e2
    have := (sb _ i1).2
    exact ⟨e1, by omega⟩
  have hto : ∀ a, a < xs.length → toM xs.length M a (xs.length * xs.length) = nth xs a * sumL ys := fun a ha => by
    rw [to_all _ _ _ ha, col_sm, sm_congr (fun b hb' => hat b a hb' ha), g.col a ha]; rfl
  have hfr : ∀ b, b < xs.length → frM xs.length M b (xs.length * xs.length) = nth ys b * sumL xs := fun b hb' => by
    rw [fr_all _ _ _ hb', row_sm, sm_congr (fun a ha => hat b a hb' ha), g.row b hb']; rfl
  refine ⟨hb, k3, hl, hN, tm.n16, ?_, nb, fun k hk a ha => ?_, fun hg => ?_, fun ls hls i hi hag => ?_⟩
  · have r : rngTo xs.length M (xs.length * xs.length) = true := by
      unfold rngTo
      rw [List.all_eq_true]
      intro i hi
      rw [List.mem_range] at hi
      obtain ⟨i1, i2, i3⟩ := pl_of hN hi
      simp only [Bool.and_eq_true, Bool.or_eq_true, beq_iff_eq]
      refine ⟨by have := nb i hi; simp [inB]; omega, ?_⟩
      cases hs : subB (i % xs.length) (i / xs.length)
      · exact .inr (by rw [hn i hi]; exact g.sub _ _ i1 i2 hs)
      · exact .inl rfl
    have e : eqTo xs ys M xs.length = true := by
      unfold eqTo
      rw [List.all_eq_true]
      intro b hb'
      rw [List.mem_range] at hb'
      rw [hfr b hb', hto b hb']; simp
    rw [imB, hb, mvB, r, e, hl]; simp
  · have e1 : nth (gtT xs.length M k) a = toM xs.length M a k := gtT_nth M ha k
    have e2 := sumTo_mono (p := fun i => i % xs.length == a) (ls := M) (fun i hi => (nb i hi).1) _ (Nat.le_refl _) k hk
    have e3 := sumTo_mono (p := fun i => i % xs.length == a) (ls := M) (fun i hi => (nb i hi).1) k hk 0 (Nat.zero_le _)
    have e4 := hto a ha
    have e5 := (db a ha).2
    have e6 : sumTo (fun i => i % xs.length == a) M 0 = 0 := rfl
    rw [e1]
    unfold toM at e4 ⊢
    unfold demS at e5
    omega
  · obtain ⟨-, hok, e1, e2⟩ := gOk_parts hg
    have hsc := mk_scale (s := s) (P := gtT xs.length M (xs.length * xs.length)) (Q := xs) (d := sumL ys) (by have := k2.sum1; omega) (by rw [gtT_len]) (fun k hk => by rw [gtT_nth M hk, hto k hk, Int.mul_comm])
    rw [e1, e2]
    exact ⟨rfl, by rw [hsc.2.2]; exact (list_eq_mk (both_parts hb).1).1⟩
  · obtain ⟨i1, i2, i3⟩ := pl_of hN hi
    have fl := im_flow hls
    have := hF.top _ fl i hi (fun j hj => by
      obtain ⟨j1, j2, j3⟩ := pl_of hN (show j < xs.length * xs.length by omega)
      rw [j3, hag j hj, hn j (by omega)])
    rw [i3] at this
    rw [hn i hi]; exact this

end Go.Proofs.Ytjmfjgoehicgcaa
