/- The law on lists that tell how parts are moved: what it computes. -/
import Derived.Test.YtjmfjgoehicgcaaDI
import Derived.Test.YtjmfjgoehicgcaaZO
import Derived.Test.YtjmfjgoehicgcaaI8s
import Derived.Test.YtjmfjgoehicgcaaI8p
import Derived.Test.YtjmfjgoehicgcaaMgJK
set_option linter.unusedVariables false
set_option linter.unusedSimpArgs false
namespace Go.Proofs.Ytjmfjgoehicgcaa
open Go.RowKit

theorem im_first {s t : Int} {xs ys ls : List Int} (h : imB s xs t ys ls = true) : spB s xs t ys = true ∧ ls.length = xs.length * xs.length ∧ (mvL s xs t ys).length = xs.length * xs.length ∧ xs.length * xs.length ≤ 256 ∧ (∀ i, i < xs.length * xs.length → (∀ j, j < i → nth ls j = nth (mvL s xs t ys) j) → nth ls i ≤ nth (mvL s xs t ys) i) := by
  have hsp := im_sp h
  have L := mv_law hsp
  have h16 : xs.length * xs.length ≤ 16 * 16 := Nat.mul_le_mul L.n16 L.n16
  exact ⟨hsp, (imB_parts h).2.1, L.len, by omega, L.first ls h⟩


set_option maxHeartbeats 4000000 in
set_option maxRecDepth 100000 in
theorem FnIsMoved_walk (w : World) (a0 : Option Addr) (c0 : Nat) (x0 : List Int) (m0 : x0.length ≤ maxLen) (rd0 : ReadsK .u8 w a0 x0) (wf0 : ∀ n ∈ x0, (Lit.int .u8 n).wf = true) (cp0 : x0.length ≤ c0) :
    Calls Try.prog 9 #[.slice a0 x0.length c0] w fun e w' => e = .returned (.bool true) ∧ Below w.heap.size w w' := by
  by_cases hbig0 : 1048576 < x0.length
  · unfold maxLen at m0
    clear rd0 wf0 cp0
    go_enter Try.func9, Try.ntmps9
    go_wp2
    go_ret
    exact ⟨rfl, Below.refl _ _⟩
  have HD := Lib.hid (DrawIsMoved_any a0 c0 x0 w rd0 wf0 m0 cp0)
  unfold maxLen at m0
  clear rd0 wf0 cp0
  go_enter Try.func9, Try.ntmps9
  go_wp2_with fail
  refine HD.out.mono ?_
  rintro e w1 ⟨s, p, c, xs, t, q, d, ys, r, k0, ls, rfl, hxl, hyl, hll, rx, ry, rl, bW⟩
  clear HD
  obtain ⟨IM, hIM⟩ : ∃ N, N = imB s xs t ys ls := ⟨_, rfl⟩
  have hF1 := fun (w : World) (hx : Reads w p xs) (hy : Reads w q ys) (hl : Reads w r ls) => iIsMoved_any s p c xs t q d ys r k0 ls w hx hy hl (by omega) (by omega) (by omega)
  have hF2 := fun (w : World) (hx : Reads w p xs) (hy : Reads w q ys) (hl : Reads w r ls) => sIsMoved_any s p c xs t q d ys r k0 ls w hx hy hl (by omega) (by omega) (by omega)
  have hF3 := fun (w : World) (hx : Reads w p xs) (hy : Reads w q ys) => iMovedParts_any s p c xs t q d ys w hx hy (by omega) (by omega)
  have hF4 := fun (w : World) (hx : Reads w p xs) (hy : Reads w q ys) => iIsSpecialized_any s p c xs t q d ys w hx hy (by omega) (by omega)
  rw [← hIM] at hF1 hF2
  have HF1 := Lib.hid hF1
  have HF2 := Lib.hid hF2
  have HF3 := Lib.hid hF3
  have HF4 := Lib.hid hF4
  have HIM := Lib.hid hIM
  have hq1 : (IM != IM) = false := by cases IM <;> rfl
  have hq2 : (IM == IM) = true := by cases IM <;> rfl
  clear hF1 hF2 hF3 hF4 hIM
  go_wp2_with fail
  have hb := belowAlloc w1 (.cells #[.int .i64 s, .slice p xs.length c] 27)
  replace rx := rx.below hb
  replace ry := ry.below hb
  replace rl := rl.below hb
  replace bW := bW.thenB hb
  clear hb
  have bm := VarInv.made w1 (s) (.slice p xs.length c) 27
  have z2 := bm.lt
  have hsj : (w1.alloc (.cells #[.int .i64 s, .slice p xs.length c] 27)).heap.size = w1.heap.size + 1 := by simp
  generalize hu2 : w1.alloc (.cells #[.int .i64 s, .slice p xs.length c] 27) = w2 at *
  clear hu2
  have hb := belowAlloc w2 (.cells #[.int .i64 t, .slice q ys.length d] 27)
  replace bm := bm.later hb
  replace rx := rx.below hb
  replace ry := ry.below hb
  replace rl := rl.below hb
  replace bW := bW.thenB hb
  clear hb
  have bn := VarInv.made w2 (t) (.slice q ys.length d) 27
  rw [hsj] at bn
  clear hsj
  have z3 := bn.lt
  generalize hu3 : w2.alloc (.cells #[.int .i64 t, .slice q ys.length d] 27) = w3 at *
  clear hu3
  have bm_0 := bm.c0
  have bm_1 := bm.c1
  have bn_0 := bn.c0
  have bn_1 := bn.c1
  refine (HF1.out _ rx ry rl).mono ?_
  rintro e w4 ⟨rfl, hb⟩
  clear bm_0 bm_1 bn_0 bn_1
  replace bm := bm.later hb
  replace bn := bn.later hb
  replace rx := rx.below hb
  replace ry := ry.below hb
  replace rl := rl.below hb
  replace bW := bW.thenB hb
  have z4 := hb.size
  clear hb
  have bm_0 := bm.c0
  have bm_1 := bm.c1
  have bn_0 := bn.c0
  have bn_1 := bn.c1
  go_wp2_with fail
  refine (HF2.out _ rx ry rl).mono ?_
  rintro e w5 ⟨rfl, hb⟩
  clear bm_0 bm_1 bn_0 bn_1
  replace bm := bm.later hb
  replace bn := bn.later hb
  replace rx := rx.below hb
  replace ry := ry.below hb
  replace rl := rl.below hb
  replace bW := bW.thenB hb
  have z5 := hb.size
  clear hb
  have bm_0 := bm.c0
  have bm_1 := bm.c1
  have bn_0 := bn.c0
  have bn_1 := bn.c1
  cases IM
  · skip
    go_wp2_with fail
    refine (HF2.out _ rx ry rl).mono ?_
    rintro e w6 ⟨rfl, hb⟩
    clear bm_0 bm_1 bn_0 bn_1
    replace bm := bm.later hb
    replace bn := bn.later hb
    replace rx := rx.below hb
    replace ry := ry.below hb
    replace rl := rl.below hb
    replace bW := bW.thenB hb
    have z6 := hb.size
    clear hb
    have bm_0 := bm.c0
    have bm_1 := bm.c1
    have bn_0 := bn.c0
    have bn_1 := bn.c1
    go_wp2
    go_ret
    exact ⟨rfl, bW⟩
  · skip
    obtain ⟨h1, h2, h3, h4, h5⟩ := im_first HIM.out.symm
    obtain ⟨M, hM⟩ : ∃ N, N = mvL s xs t ys := ⟨_, rfl⟩
    obtain ⟨NN, hNN⟩ : ∃ N, N = ls.length := ⟨_, rfl⟩
    rw [← h2, ← hNN] at h3 h4 h5
    have hG3 := HF3.out
    have hG4 := HF4.out
    rw [h1, ← hM] at hG3
    rw [h1] at hG4
    rw [← hM] at h3 h5
    have HG3 := Lib.hid hG3
    have HG4 := Lib.hid hG4
    have HTOP := Lib.hid h5
    have HLN := Lib.hid h3
    have HNN := Lib.hid hNN
    rw [← hNN]
    clear HF1 HF2 HF3 HF4 hq1 hq2 hG3 hG4 h1 h2 h3 h5 hM hNN HIM
    go_wp2_with fail
    refine (HG3.out _ rx ry).mono ?_
    rintro e w6 ⟨v, rfl, o, hb⟩
    clear bm_0 bm_1 bn_0 bn_1
    replace bm := bm.later hb
    replace bn := bn.later hb
    replace rx := rx.below hb
    replace ry := ry.below hb
    replace rl := rl.below hb
    replace bW := bW.thenB hb
    have z6 := hb.size
    obtain ⟨p1, k1, rfl, r1⟩ := o.shape
    clear o
    clear hb
    have bm_0 := bm.c0
    have bm_1 := bm.c1
    have bn_0 := bn.c0
    have bn_1 := bn.c1
    go_wp2
    go_loopw [9] (fun i wz => ∃ k : Nat, k ≤ NN ∧ i = .int .i64 k ∧ (∀ j, j < k → nth ls j = nth M j) ∧ Below w6.heap.size w6 wz) (fun i _ => NN - (intOf i).toNat)
    case atStart => exact ⟨0, Nat.zero_le _, rfl, fun j hj => absurd hj (Nat.not_lt_zero _), Below.refl _ _⟩
    case round =>
      obtain ⟨k, hk, rfl, hag, hbk⟩ := hrel
      clear bm_0 bm_1 bn_0 bn_1
      replace bm := bm.later hbk
      replace bn := bn.later hbk
      replace rx := rx.below hbk
      replace ry := ry.below hbk
      replace rl := rl.below hbk
      replace r1 := r1.below hbk
      replace bW := bW.thenB hbk
      have z7 := hbk.size
      have bm_0 := bm.c0
      have bm_1 := bm.c1
      have bn_0 := bn.c0
      have bn_1 := bn.c1
      have HAG := Lib.hid hag
      clear hag
      by_cases hlt : k < NN
      · skip
        have hkl : k < ls.length := by rw [← HNN.out]; exact hlt
        have hkM : k < M.length := by rw [HLN.out]; exact hlt
        obtain ⟨b8, off8, rfl, hbl8, hc8⟩ := rl k hkl
        obtain ⟨b9, off9, rfl, hbl9, hc9⟩ := r1 k hkM
        have htop := HTOP.out k hlt HAG.out
        obtain ⟨A, hA⟩ : ∃ x, x = nth M k := ⟨_, rfl⟩
        obtain ⟨B, hB⟩ : ∃ x, x = nth ls k := ⟨_, rfl⟩
        rw [← hA] at hc9 htop
        rw [← hB] at hc8 htop
        by_cases he : A = B
        · skip
          have HAG2 : Hid (∀ j, j < k + 1 → nth ls j = nth M j) := Lib.hid fun j hj => by
            by_cases e : j = k
            · rw [e, ← hA, ← hB, he]
            · exact HAG.out j (by omega)
          have hE : (A != B) = false := bne_eq_false_iff_eq.2 he
          clear he hA hB
          go_wp2
          go_quiet (fail)
          go_wp2
          exact ⟨⟨k + 1, by omega, by go_num, HAG2.out, below_drewN hbk _⟩, by simp [intOf]; omega⟩
        · skip
          have hE : (A != B) = true := by rw [bne_iff_ne]; exact he
          have hlt2 : B < A := by omega
          have HG : Hid (decide (B < A) = true) := Lib.hid (by simpa using hlt2)
          clear he hA hB htop
          go_wp2
          go_quiet (fail)
          go_wp2
          go_quiet (fail)
          go_wp2
          go_ret
          exact ⟨by first | rfl | exact ret_bool (by simp; omega), by first | exact bW | exact below_drewN bW _ | exact below_drewN (below_drewN bW _) _⟩
      · skip
        have hkk : k = NN := by omega
        subst hkk
        go_wp2_with fail
        refine (HG4.out _ rx ry).mono ?_
        rintro e w8 ⟨rfl, hb⟩
        clear bm_0 bm_1 bn_0 bn_1
        replace bm := bm.later hb
        replace bn := bn.later hb
        replace rx := rx.below hb
        replace ry := ry.below hb
        replace rl := rl.below hb
        replace r1 := r1.below hb
        replace bW := bW.thenB hb
        replace hbk := hbk.thenB hb
        have z8 := hb.size
        clear hb
        have bm_0 := bm.c0
        have bm_1 := bm.c1
        have bn_0 := bn.c0
        have bn_1 := bn.c1
        go_wp2
        go_ret
        exact ⟨rfl, bW⟩

end Go.Proofs.Ytjmfjgoehicgcaa
