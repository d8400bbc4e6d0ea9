/- Masses that are drawn. -/
import Derived.Test.YtjmfjgoehicgcaaMgBase
import Derived.Test.YtjmfjgoehicgcaaL6
set_option linter.unusedVariables false
set_option linter.unusedSimpArgs false
namespace Go.Proofs.Ytjmfjgoehicgcaa
open Go.RowKit

set_option maxHeartbeats 1000000 in
theorem l3Sure_any (s : Int) (a n : Nat) (w : World) (h1 : 1 ≤ s) (h4 : s ≤ 4) (hn : (n : Int) = pow2 s) (ha : a < n) (hn16 : n ≤ 16) :
    Calls Try.prog 131 #[.int .i64 s, .int .i64 a] w fun e w' => ∃ v, e = .returned (.agg #[.int .i64 s, v]) ∧ Own w.heap.size w' v (sureL n a) ∧ Below w.heap.size w w' := by
  have hpw := pow2_wrap s h1 h4
  rw [← hn] at hpw
  have HN := Lib.hid hn
  clear hn
  obtain ⟨W, hW⟩ : ∃ W : World, W = w.alloc (.cells #[.int .i64 0, .slice none 0 0] 27) := ⟨_, rfl⟩
  have hsz : W.heap.size = w.heap.size + 1 := by subst hW; simp
  have hbW : Below w.heap.size w W := by subst hW; exact belowAlloc _ _
  have hR : VarInv W w.heap.size 0 (.slice none 0 0) := by subst hW; exact VarInv.made _ _ _ _
  have HSZ := Lib.hid hsz
  have HW := Lib.hid hW
  clear hW hsz
  go_enter Try.func131, Try.ntmps131
  go_wp2_with (at_make; (try rw [← HW.out]); refine wpList_makeInts _ rfl _ _ rfl (w.heap.size + 1) _ _ _ _ n rfl rfl hpw hpw (by omega) (by have := HSZ.out; omega) ?_)
  intro w1 hown hb1 hlt1
  rw [HSZ.out] at hown hlt1
  have hR1 := hR.later hb1
  have hz1 : w.heap.size + 1 ≤ w1.heap.size := by have := hb1.size; have := HSZ.out; omega
  have hb2 := belowAlloc w1 (.cells #[.int .i64 s, .slice (some ⟨w.heap.size + 1, 0, none⟩) n n] 27)
  have hM := VarInv.made w1 s (.slice (some ⟨w.heap.size + 1, 0, none⟩) n n) 27
  have ho2 := hown.later hb2
  obtain ⟨q1, q2⟩ := ho2.cellAt (zeros_len n) a ha
  have HST := Lib.hid ((hown.storedAt (zeros_len n) a 1).later (belowAlloc (w1.setCell ⟨w.heap.size + 1, a, none⟩ (.int .i64 1)) (.cells #[.int .i64 s, .slice (some ⟨w.heap.size + 1, 0, none⟩) n n] 27)))
  have hM3 := VarInv.made (w1.setCell ⟨w.heap.size + 1, a, none⟩ (.int .i64 1)) s (.slice (some ⟨w.heap.size + 1, 0, none⟩) n n) 27
  rw [show (w1.setCell ⟨w.heap.size + 1, a, none⟩ (.int .i64 1)).heap.size = w1.heap.size by simp] at hM3
  have hR3 := (hR1.other ⟨w.heap.size + 1, a, none⟩ (by show w.heap.size + 1 ≠ w.heap.size; omega) (.int .i64 1)).later (belowAlloc (w1.setCell ⟨w.heap.size + 1, a, none⟩ (.int .i64 1)) (.cells #[.int .i64 s, .slice (some ⟨w.heap.size + 1, 0, none⟩) n n] 27))
  have m0 := hM.c0
  have m1 := hM.c1
  have m2 := hM3.c0
  have m3 := hM3.c1
  have s0 := hR3.c0
  have s1 := hR3.c1
  have s2 := hR3.f0
  have s3 := hR3.f1
  have han : (a : Int) < (n : Int) := by omega
  have HH := Lib.hid (And.intro hbW (And.intro hb1 hb2))
  rw [HSZ.out]
  clear hown ho2 hM hM3 hR hR1 hR3 hb1 hb2 hbW
  go_wp2
  refine bodyPost_ret (v := .agg #[.int .i64 s, .slice (some ⟨w.heap.size + 1, 0, none⟩) n n]) (by simp [results, Try.results131, go_sem, s0, s1, s2, s3]) rfl ⟨_, rfl, ?_, ?_⟩
  · exact ((HST.out.setBelow (by show w.heap.size < _; omega) _).setBelow (by show w.heap.size < _; omega) _).mono (by omega)
  · obtain ⟨u1, u2, u3⟩ := HH.out
    exact ((((u1.thenB u2).setCell (p := ⟨w.heap.size + 1, a, none⟩) (by show _ ≤ w.heap.size + 1; omega) (.int .i64 1)).thenB (belowAlloc _ _)).setCell (by show _ ≤ w.heap.size; omega) _).setCell (by show _ ≤ w.heap.size; omega) _


/-- A valid mass that is drawn: memory of its own. -/
def MsDrawn (R P : Nat) (s : Int) (w : World) (e : Ending) (w' : World) : Prop := ∃ (v : Value) (xs : List Int), e = .returned (.agg #[.int .i64 s, v]) ∧ massB s xs = true ∧ Own w.heap.size w' v xs ∧ Rdr R P w' ∧ Dr w.heap.size R w w'

theorem pow2_nat3 (n : Nat) : pow2 (n : Int) = ((2 ^ n : Nat) : Int) := by simp [pow2]

theorem l3Sure_v (s t : Int) (a n : Nat) (w : World) (ht : t = (a : Int)) (h1 : 1 ≤ s) (h4 : s ≤ 4) (hn : (n : Int) = pow2 s) (ha : a < n) (hn16 : n ≤ 16) :
    Calls Try.prog 131 #[.int .i64 s, .int .i64 t] w fun e w' => ∃ v, e = .returned (.agg #[.int .i64 s, v]) ∧ Own w.heap.size w' v (sureL n a) ∧ Below w.heap.size w w' := by
  subst ht; exact l3Sure_any s a n w h1 h4 hn ha hn16

theorem allB_set3 {low high y : Int} {zs : List Int} (k : Nat) (h : allB low high zs = true) (h1 : low ≤ y) (h2 : y ≤ high) : allB low high (zs.set k y) = true := by
  rw [allB_iff] at *
  intro j hj
  rw [List.length_set] at hj
  rw [nth_eq _ _ (by rw [List.length_set]; exact hj), List.getElem_set]
  split
  · exact ⟨h1, h2⟩
  · have := h j hj; rw [nth_eq _ _ hj] at this; exact this

theorem sure_mass : ∀ s : Fin 4, ∀ a : Fin 16, a.val < 2 ^ (s.val + 1) → massB ((s.val : Int) + 1) (sureL (2 ^ (s.val + 1)) a.val) = true := by decide +kernel

theorem sure_massB {s : Int} {n a : Nat} (h1 : 1 ≤ s) (h4 : s ≤ 4) (hn : (n : Int) = pow2 s) (ha : a < n) : massB s (sureL n a) = true := by
  obtain ⟨k, hk⟩ := Int.eq_ofNat_of_zero_le (show 0 ≤ s - 1 by omega)
  obtain rfl : s = (k : Int) + 1 := by omega
  have e : n = 2 ^ (k + 1) := by
    have : pow2 ((k : Int) + 1) = ((2 ^ (k + 1) : Nat) : Int) := pow2_nat3 (k + 1)
    rw [this] at hn; exact_mod_cast hn
  subst e
  have hk : k < 4 := by omega
  have : (2 : Nat) ^ (k + 1) ≤ 2 ^ 4 := Nat.pow_le_pow_right (by omega) (by omega)
  exact sure_mass ⟨k, hk⟩ ⟨a, by omega⟩ ha

theorem mk_massB {s : Int} {ps : List Int} (h : mkOk s ps = true) : massB s (mkL s ps) = true ∧ mkS s ps = s := by
  have h2 := h
  simp only [mkOk, Bool.and_eq_true] at h2
  refine ⟨?_, by simp [mkS, h]⟩
  rw [mkL, if_pos h]; exact h2.2

/-- Where the parts stand while a mass is drawn. -/
structure Parts (M : Int) (R P K G n B : Nat) (w wr : World) (ps : List Int) : Prop where
  len : ps.length = n
  all : allB 0 M ps = true
  own : Own G wr (.slice (some ⟨G, 0, none⟩) n n) ps
  var : VarInv wr K 0 (.slice none 0 0)
  rdr : Rdr R P wr
  dr : Dr B R w wr
  lt : G < wr.heap.size

theorem Parts.pick {M : Int} {R P K G n B : Nat} {w wr w' : World} {ps : List Int} (h : Parts M R P K G n B w wr ps) (hR : Rdr R (P + 1) w') (hD : Dr wr.heap.size R wr w') (hRG : R < G) (hRK : R < K) (hKG : K < G) (hB : B ≤ G) : Parts M R (P + 1) K G n B w w' ps :=
  ⟨h.len, h.all, h.own.dr hD hRG, ⟨cellDr hD h.var.c0 (by omega), cellDr hD h.var.c1 (by omega), frozDr hD h.var.lt (by omega) h.var.f0, frozDr hD h.var.lt (by omega) h.var.f1⟩, hR, h.dr.then (by have := h.lt; omega) hD, Nat.lt_of_lt_of_le h.lt hD.size⟩
theorem Parts.set {M : Int} {R P K G n B : Nat} {w wr : World} {ps : List Int} (h : Parts M R P K G n B w wr ps) (k : Nat) (y : Int) (hy : 0 ≤ y) (hy2 : y ≤ M) (hRG : R < G) (hKG : K < G) (hB : B ≤ G) : Parts M R P K G n B w (wr.setCell ⟨G, k, none⟩ (.int .i64 y)) (ps.set k y) :=
  ⟨by rw [List.length_set, h.len], allB_set3 k h.all hy hy2, h.own.storedAt h.len k y, h.var.other ⟨G, k, none⟩ (by show G ≠ K; omega) _, h.rdr.setCell ⟨G, k, none⟩ hRG _, h.dr.setCell _ (.inl hB) _, by simpa using h.lt⟩
theorem Parts.drew {M : Int} {R P K G n B : Nat} {w wr : World} {ps : List Int} (h : Parts M R P K G n B w wr ps) : Parts M R P K G n B w wr.drew ps := ⟨h.len, h.all, h.own.drew, h.var.drew, h.rdr.drew, h.dr.drew, h.lt⟩
theorem Parts.more {M : Int} {R P P' K G n B : Nat} {w wr : World} {ps : List Int} (h : Parts M R P K G n B w wr ps) (hp : P ≤ P') : Parts M R P' K G n B w wr ps := ⟨h.len, h.all, h.own, h.var, h.rdr.more hp, h.dr, h.lt⟩
theorem Parts.wide {M M' : Int} {R P K G n B : Nat} {w wr : World} {ps : List Int} (h : Parts M R P K G n B w wr ps) (hM : M ≤ M') : Parts M' R P K G n B w wr ps := ⟨h.len, allB_wider h.all (by omega) hM, h.own, h.var, h.rdr, h.dr, h.lt⟩
theorem Parts.cell {M : Int} {R P K G n B : Nat} {w wr : World} {ps : List Int} (h : Parts M R P K G n B w wr ps) (k : Nat) (hk : k < n) : wr.cell? ⟨G, k, none⟩ = some (.int .i64 (nth ps k)) ∧ wr.frozen? ⟨G, k, none⟩ = false := h.own.cellAt h.len k hk
theorem Parts.nth {M : Int} {R P K G n B : Nat} {w wr : World} {ps : List Int} (h : Parts M R P K G n B w wr ps) (k : Nat) (hk : k < n) : 0 ≤ nth ps k ∧ nth ps k ≤ M := allB_nth h.all k (by rw [h.len]; exact hk)

set_option maxHeartbeats 4000000 in
theorem l3Draw_any (R P : Nat) (s : Int) (w : World) (h : Rdr R P w) (hP : P ≤ 100000) (h1 : 1 ≤ s) (h4 : s ≤ 4) :
    Calls Try.prog 108 #[.pointer (some ⟨R, 0, none⟩), .int .i64 s] w (MsDrawn R (P + 20) s w) := by
  have hRlt := h.lt
  obtain ⟨n, hn⟩ : ∃ n : Nat, (n : Int) = pow2 s := ⟨(pow2 s).toNat, by have := pow2_bd s h1 h4; omega⟩
  have hnb := pow2_bd s h1 h4
  rw [← hn] at hnb
  have hpw := pow2_wrap s h1 h4
  rw [← hn] at hpw
  have HN := Lib.hid hn
  obtain ⟨S, rfl⟩ := Int.eq_ofNat_of_zero_le (show 0 ≤ s by omega)
  have hbits : ∀ x : Nat, x < S → bit x < n ∧ x < 4 ∧ ∀ a, a < n → a ||| bit x < n := fun x hx => by
    have e : n = 2 ^ S := by
      have := HN.out; rw [pow2_nat3] at this; exact_mod_cast this
    rw [e]; exact ⟨Nat.pow_lt_pow_right (by omega) hx, by omega, fun a ha => Nat.or_lt_two_pow ha (Nat.pow_lt_pow_right (by omega) hx)⟩
  have HBIT := Lib.hid hbits
  obtain ⟨t, ht⟩ : ∃ t : Nat, (n : Int) - 1 = (t : Int) := ⟨n - 1, by omega⟩
  clear hn hbits
  obtain ⟨W, hW⟩ : ∃ W : World, W = w.alloc (.cells #[.int .i64 0, .slice none 0 0] 27) := ⟨_, rfl⟩
  have hsz : W.heap.size = w.heap.size + 1 := by subst hW; simp
  have hbW : Below w.heap.size w W := by subst hW; exact belowAlloc _ _
  have hV : VarInv W w.heap.size 0 (.slice none 0 0) := by subst hW; exact VarInv.made _ _ _ _
  have hRW : Rdr R P W := h.later hbW
  have HSZ := Lib.hid hsz
  have HW := Lib.hid hW
  clear hW hsz h
  go_enter Try.func108, Try.ntmps108
  go_wp2_with (at_make; (try rw [← HW.out]); refine wpList_makeInts _ rfl _ _ rfl (w.heap.size + 1) _ _ _ _ n rfl rfl hpw hpw (by omega) (by have := HSZ.out; omega) ?_)
  intro w1 hown hb1 hlt1
  rw [HSZ.out] at hown hlt1 ⊢
  have hp0 : Parts 0 R P w.heap.size (w.heap.size + 1) n w.heap.size w w1 (zeros n) := ⟨zeros_len n, zeros_all n, hown, hV.later hb1, hRW.later hb1, Dr.ofBelow (hbW.thenB hb1), hlt1⟩
  clear hown hV hRW hb1 hbW hpw
  go_wp2_with fail
  refine (pick_any R P 6 w1 hp0.rdr (by omega) (by omega) (by omega)).mono ?_
  rintro e w2 ⟨x, rfl, hx, hR2, hD2⟩
  have hp2 := hp0.pick hR2 hD2 (by omega) hRlt (by omega) (by omega)
  clear hp0 hR2 hD2 hlt1
  rcases (show x = 0 ∨ x = 1 ∨ x = 2 ∨ 2 < x by omega) with rfl | rfl | rfl | hx3
  · go_wp2
    go_loopw [7] (fun i wr => ∃ (k : Nat) (ps : List Int), k ≤ S ∧ i = .int .i64 k ∧ Parts 4 R (P + 1 + k) w.heap.size (w.heap.size + 1) n w.heap.size w wr ps) (fun i _ => S - (intOf i).toNat)
    case atStart => exact ⟨0, _, Nat.zero_le _, rfl, hp2.wide (by omega)⟩
    case round =>
      clear hp2
      obtain ⟨k, ps, hk, rfl, hp⟩ := hrel
      by_cases hlt : k < S
      · obtain ⟨hb1, hb2, hb3⟩ := HBIT.out k hlt
        have hbw := bit_wrap' k hb2
        have hbn : ((bit k : Nat) : Int) < (n : Int) := by omega
        go_wp2_with fail
        refine (pick_any R _ 4 wr hp.rdr (by omega) (by omega) (by omega)).mono ?_
        rintro e w3 ⟨y, rfl, hy, hR3, hD3⟩
        have hp3 := hp.pick hR3 hD3 (by omega) hRlt (by omega) (by omega)
        obtain ⟨q1, q2⟩ := hp3.cell (bit k) hb1
        have hp4 := Lib.hid (hp3.set (bit k) (y : Int) (by omega) (by omega) (by omega) (by omega) (by omega))
        clear hp hp3 hR3 hD3
        go_wp2
        exact ⟨⟨k + 1, _, by omega, by go_num, hp4.out⟩, by simp [intOf]; omega⟩
      · obtain ⟨wf, rfl⟩ : ∃ wf, wf = wr := ⟨_, rfl⟩
        have hpf := hp.wide (M' := 1000) (by omega)
        clear hp
        obtain ⟨pz, hpz⟩ : ∃ pz, pz = ps := ⟨_, rfl⟩
        rw [← hpz] at hpf
        clear hpz
        have hpe := hpf.more (P' := P + 20) (by omega)
        have hsure := sure_massB (a := t) h1 h4 HN.out (by omega)
        obtain ⟨pl, pa, po, pv, pr, pd, plt⟩ := hpe
        have HA := Lib.hid (allB_wider pa (low' := 0) (high' := 4611686018427387904) (by omega) (by omega))
        have HPL := Lib.hid pl
        have HSU := Lib.hid hsure
        clear hpf pa pl hsure
        go_wp2_with fail
        refine (l3Made_n _ _ _ _ pz wf HPL.out po.reads (by rw [HPL.out]; omega) HA.out).mono ?_
        rintro e wm ⟨v, rfl, om, bm⟩
        have vm := pv.later bm
        have rm := pr.later bm
        have dm := pd.thenB (by omega) bm
        have zm := bm.size
        obtain ⟨pv2, kv2, rfl, rv2⟩ := om.shape
        clear pv pr pd bm rv2 po
        cases hok : mkOk (S : Int) pz
        · have b2 := belowAlloc wm (.cells #[.int .i64 (mkS S pz), .slice pv2 (mkL S pz).length kv2] 27)
          have vm2 := vm.later b2
          have rm2 := rm.later b2
          have dm2 := dm.thenB (by omega) b2
          have mm := newCell0 wm (.int .i64 (mkS S pz)) (.slice pv2 (mkL S pz).length kv2) 27
          clear vm rm dm b2 om
          go_wp2_with fail
          refine (l3Sure_v (S : Int) _ t n _ (by omega) h1 h4 HN.out (by omega) (by omega)).mono ?_
          rintro e wq ⟨vq, rfl, oq, bq⟩
          obtain ⟨pq, kq, rfl, rq⟩ := oq.shape
          have vq := vm2.later bq
          have rdq := rm2.later bq
          have dq := dm2.thenB (by simp; omega) bq
          have zq := bq.size
          simp at zq
          have s0 := vq.c0
          have s1 := vq.c1
          have s2 := vq.f0
          have s3 := vq.f1
          clear vm2 rm2 dm2 vq bq rq
          go_wp2
          refine bodyPost_ret (v := .agg #[.int .i64 S, .slice pq (sureL n t).length kq]) (by simp [results, Try.results108, go_sem, s0, s1, s2, s3]) rfl ⟨_, _, rfl, HSU.out, ?_, ?_, ?_⟩
          · exact ((oq.setBelow (by show w.heap.size < _; simp; omega) _).setBelow (by show w.heap.size < _; simp; omega) _).mono (by simp; omega)
          · exact (rdq.setCell _ hRlt _).setCell _ hRlt _
          · exact (dq.setCell _ (.inl (Nat.le_refl _)) _).setCell _ (.inl (Nat.le_refl _)) _
        · obtain ⟨hmb, hms⟩ := mk_massB hok
          have HMB := Lib.hid hmb
          have HMS := Lib.hid hms
          have mm := VarInv.made wm (mkS S pz) (.slice pv2 (mkL S pz).length kv2) 27
          have b2 := belowAlloc wm (.cells #[.int .i64 (mkS S pz), .slice pv2 (mkL S pz).length kv2] 27)
          have om2 := om.later b2
          have vm2 := vm.later b2
          have rm2 := rm.later b2
          have dm2 := dm.thenB (by omega) b2
          have t0 := mm.c0
          have t1 := mm.c1
          have s0 := vm2.c0
          have s1 := vm2.c1
          have s2 := vm2.f0
          have s3 := vm2.f1
          clear vm rm dm b2 om mm vm2 hmb hms
          go_wp2
          refine bodyPost_ret (v := .agg #[.int .i64 (mkS S pz), .slice pv2 (mkL S pz).length kv2]) (by simp [results, Try.results108, go_sem, s0, s1, s2, s3]) rfl ⟨_, _, by rw [HMS.out], HMB.out, ?_, ?_, ?_⟩
          · exact ((om2.setBelow (by show w.heap.size < _; omega) _).setBelow (by show w.heap.size < _; omega) _).mono (by omega)
          · exact (rm2.setCell _ hRlt _).setCell _ hRlt _
          · exact (dm2.setCell _ (.inl (Nat.le_refl _)) _).setCell _ (.inl (Nat.le_refl _)) _
  · go_wp2_with fail
    refine (pick_any R _ (S : Int) w2 hp2.rdr (by omega) (by omega) (by omega)).mono ?_
    rintro e w3 ⟨y, rfl, hy, hR3, hD3⟩
    have hp3 := hp2.pick hR3 hD3 (by omega) hRlt (by omega) (by omega)
    obtain ⟨hb1, hb2, hb3⟩ := HBIT.out y (by omega)
    have hbw := bit_wrap' y hb2
    clear hp2 hR3 hD3
    go_wp2
    go_loopw [8, 9] (fun v i wr => ∃ (k a : Nat) (ps : List Int), k ≤ S ∧ a < n ∧ v = .int .i64 a ∧ i = .int .i64 k ∧ Parts (3 * k) R (P + 2 + 2 * k) w.heap.size (w.heap.size + 1) n w.heap.size w wr ps) (fun _ i _ => S - (intOf i).toNat)
    case atStart => exact ⟨0, bit y, _, Nat.zero_le _, hb1, congrArg (Value.int .i64) hbw, rfl, hp3⟩
    case round =>
      clear hp3 hbw hb1 hb2 hb3
      obtain ⟨k, a, ps, hk, ha, rfl, rfl, hp⟩ := hrel
      by_cases hlt : k < S
      · obtain ⟨f1, f2⟩ := hp.nth a ha
        replace hp := hp.drew
        obtain ⟨q1, q2⟩ := hp.cell a ha
        have ha0 : (0 : Int) ≤ (a : Int) := by omega
        have ha1 : (a : Int) < (n : Int) := by omega
        go_wp2_with fail
        go_region_with ((go_at_call 91; (with_reducible refine (pick_any R (P + 2 + 2 * k) 4 _ hp.rdr (by omega) (by omega) (by omega)).mono ?_); rintro e w4 ⟨z, rfl, hz, hR4, hD4⟩; (replace hp := hp.pick hR4 hD4 (by omega) hRlt (by omega) (by omega)); (have q1 := (hp.cell a ha).1); (have q2 := (hp.cell a ha).2); (have hsum : IntKind.i64.wrap (nth ps a + (z : Int)) = nth ps a + (z : Int) := IntWalk.i64_in _ (by omega))))
        all_goals
          clear hR4 hD4
          have hp5 := (hp.wide (M' := 3 * ((k + 1 : Nat) : Int)) (by omega)).set a (nth ps a + (z : Int)) (by omega) (by omega) (by omega) (by omega) (by omega)
          go_wp2_with fail
          obtain ⟨w5, hw5⟩ : ∃ w5, w5 = w4.setCell ⟨w.heap.size + 1, a, none⟩ (.int .i64 (nth ps a + (z : Int))) := ⟨_, rfl⟩
          rw [← hw5] at hp5 ⊢
          clear hw5 hp q1 q2 hsum
          refine (pick_any R _ (S : Int) w5 hp5.rdr (by omega) (by omega) (by omega)).mono ?_
          rintro e w6 ⟨y2, rfl, hy2, hR6, hD6⟩
          have hp6 := Lib.hid ((hp5.pick hR6 hD6 (by omega) hRlt (by omega) (by omega)))
          obtain ⟨hb1, hb2, hb3⟩ := HBIT.out y2 (by omega)
          have hbw := bit_wrap' y2 hb2
          have hbo := bit_or' a y2 (by omega) hb2
          have H3 := Lib.hid (hb3 a ha)
          clear hb3 hp5 hR6 hD6
          go_wp2
          exact ⟨⟨k + 1, a ||| bit y2, _, by omega, H3.out, rfl, by go_num, hp6.out.more (by omega)⟩, by simp [intOf]; omega⟩
      · obtain ⟨wf, rfl⟩ : ∃ wf, wf = wr := ⟨_, rfl⟩
        have hpf := hp.wide (M' := 1000) (by omega)
        clear hp
        obtain ⟨pz, hpz⟩ : ∃ pz, pz = ps := ⟨_, rfl⟩
        rw [← hpz] at hpf
        clear hpz
        have hpe := hpf.more (P' := P + 20) (by omega)
        have hsure := sure_massB (a := t) h1 h4 HN.out (by omega)
        obtain ⟨pl, pa, po, pv, pr, pd, plt⟩ := hpe
        have HA := Lib.hid (allB_wider pa (low' := 0) (high' := 4611686018427387904) (by omega) (by omega))
        have HPL := Lib.hid pl
        have HSU := Lib.hid hsure
        clear hpf pa pl hsure
        go_wp2_with fail
        refine (l3Made_n _ _ _ _ pz wf HPL.out po.reads (by rw [HPL.out]; omega) HA.out).mono ?_
        rintro e wm ⟨v, rfl, om, bm⟩
        have vm := pv.later bm
        have rm := pr.later bm
        have dm := pd.thenB (by omega) bm
        have zm := bm.size
        obtain ⟨pv2, kv2, rfl, rv2⟩ := om.shape
        clear pv pr pd bm rv2 po
        cases hok : mkOk (S : Int) pz
        · have b2 := belowAlloc wm (.cells #[.int .i64 (mkS S pz), .slice pv2 (mkL S pz).length kv2] 27)
          have vm2 := vm.later b2
          have rm2 := rm.later b2
          have dm2 := dm.thenB (by omega) b2
          have mm := newCell0 wm (.int .i64 (mkS S pz)) (.slice pv2 (mkL S pz).length kv2) 27
          clear vm rm dm b2 om
          go_wp2_with fail
          refine (l3Sure_v (S : Int) _ t n _ (by omega) h1 h4 HN.out (by omega) (by omega)).mono ?_
          rintro e wq ⟨vq, rfl, oq, bq⟩
          obtain ⟨pq, kq, rfl, rq⟩ := oq.shape
          have vq := vm2.later bq
          have rdq := rm2.later bq
          have dq := dm2.thenB (by simp; omega) bq
          have zq := bq.size
          simp at zq
          have s0 := vq.c0
          have s1 := vq.c1
          have s2 := vq.f0
          have s3 := vq.f1
          clear vm2 rm2 dm2 vq bq rq
          go_wp2
          refine bodyPost_ret (v := .agg #[.int .i64 S, .slice pq (sureL n t).length kq]) (by simp [results, Try.results108, go_sem, s0, s1, s2, s3]) rfl ⟨_, _, rfl, HSU.out, ?_, ?_, ?_⟩
          · exact ((oq.setBelow (by show w.heap.size < _; simp; omega) _).setBelow (by show w.heap.size < _; simp; omega) _).mono (by simp; omega)
          · exact (rdq.setCell _ hRlt _).setCell _ hRlt _
          · exact (dq.setCell _ (.inl (Nat.le_refl _)) _).setCell _ (.inl (Nat.le_refl _)) _
        · obtain ⟨hmb, hms⟩ := mk_massB hok
          have HMB := Lib.hid hmb
          have HMS := Lib.hid hms
          have mm := VarInv.made wm (mkS S pz) (.slice pv2 (mkL S pz).length kv2) 27
          have b2 := belowAlloc wm (.cells #[.int .i64 (mkS S pz), .slice pv2 (mkL S pz).length kv2] 27)
          have om2 := om.later b2
          have vm2 := vm.later b2
          have rm2 := rm.later b2
          have dm2 := dm.thenB (by omega) b2
          have t0 := mm.c0
          have t1 := mm.c1
          have s0 := vm2.c0
          have s1 := vm2.c1
          have s2 := vm2.f0
          have s3 := vm2.f1
          clear vm rm dm b2 om mm vm2 hmb hms
          go_wp2
          refine bodyPost_ret (v := .agg #[.int .i64 (mkS S pz), .slice pv2 (mkL S pz).length kv2]) (by simp [results, Try.results108, go_sem, s0, s1, s2, s3]) rfl ⟨_, _, by rw [HMS.out], HMB.out, ?_, ?_, ?_⟩
          · exact ((om2.setBelow (by show w.heap.size < _; omega) _).setBelow (by show w.heap.size < _; omega) _).mono (by omega)
          · exact (rm2.setCell _ hRlt _).setCell _ hRlt _
          · exact (dm2.setCell _ (.inl (Nat.le_refl _)) _).setCell _ (.inl (Nat.le_refl _)) _
  · go_wp2_with fail
    refine (pick_any R _ (n : Int) w2 hp2.rdr (by omega) (by omega) (by omega)).mono ?_
    rintro e w3 ⟨y, rfl, hy, hR3, hD3⟩
    have hp3 := hp2.pick hR3 hD3 (by omega) hRlt (by omega) (by omega)
    clear hp2 hR3 hD3
    go_wp2_with fail
    refine (pick_any R _ 3 w3 hp3.rdr (by omega) (by omega) (by omega)).mono ?_
    rintro e w4 ⟨z, rfl, hz, hR4, hD4⟩
    have hp4 := hp3.pick hR4 hD4 (by omega) hRlt (by omega) (by omega)
    clear hp3 hR4 hD4
    have hyn : y < n := by omega
    obtain ⟨q1, q2⟩ := hp4.cell y hyn
    have hp5 := (hp4.wide (M' := 3) (by omega)).set y (1 + (z : Int)) (by omega) (by omega) (by omega) (by omega) (by omega)
    clear hp4
    go_wp2_with fail
    obtain ⟨w5, hw5⟩ : ∃ w5, w5 = w4.setCell ⟨w.heap.size + 1, y, none⟩ (.int .i64 (1 + (z : Int))) := ⟨_, rfl⟩
    rw [← hw5] at hp5 ⊢
    clear q1 q2 hw5
    obtain ⟨ps, hps⟩ : ∃ ps, ps = (zeros n).set y (1 + (z : Int)) := ⟨_, rfl⟩
    rw [← hps] at hp5
    clear hps
    have htn : t < n := by omega
    obtain ⟨f1, f2⟩ := hp5.nth t htn
    have hp := hp5.drew
    obtain ⟨q1, q2⟩ := hp.cell t htn
    have ht0 : (0 : Int) ≤ (t : Int) := by omega
    have ht1 : (t : Int) < (n : Int) := by omega
    clear hp5
    go_region_with ((go_at_call 91; (with_reducible refine (pick_any R _ 4 _ hp.rdr (by omega) (by omega) (by omega)).mono ?_); rintro e w6 ⟨u, rfl, hu, hR6, hD6⟩; (replace hp := hp.pick hR6 hD6 (by omega) hRlt (by omega) (by omega)); (have q1 := (hp.cell t htn).1); (have q2 := (hp.cell t htn).2); (have hsum : IntKind.i64.wrap (nth ps t + (u : Int)) = nth ps t + (u : Int) := IntWalk.i64_in _ (by omega))))
    all_goals
      clear hR6 hD6
      have hpf := ((hp.wide (M' := 1000) (by omega)).set t (nth ps t + (u : Int)) (by omega) (by omega) (by omega) (by omega) (by omega))
      obtain ⟨wf, hwf⟩ : ∃ wf, wf = w6.setCell ⟨w.heap.size + 1, t, none⟩ (.int .i64 (nth ps t + (u : Int))) := ⟨_, rfl⟩
      rw [← hwf] at hpf ⊢
      obtain ⟨pz, hps⟩ : ∃ pz, pz = ps.set t (nth ps t + (u : Int)) := ⟨_, rfl⟩
      rw [← hps] at hpf
      clear hwf q1 q2 hp hps hsum
      clear f1 f2 q1 q2
      have hpe := hpf.more (P' := P + 20) (by omega)
      have hsure := sure_massB (a := t) h1 h4 HN.out (by omega)
      obtain ⟨pl, pa, po, pv, pr, pd, plt⟩ := hpe
      have HA := Lib.hid (allB_wider pa (low' := 0) (high' := 4611686018427387904) (by omega) (by omega))
      have HPL := Lib.hid pl
      have HSU := Lib.hid hsure
      clear hpf pa pl hsure
      go_wp2_with fail
      refine (l3Made_n _ _ _ _ pz wf HPL.out po.reads (by rw [HPL.out]; omega) HA.out).mono ?_
      rintro e wm ⟨v, rfl, om, bm⟩
      have vm := pv.later bm
      have rm := pr.later bm
      have dm := pd.thenB (by omega) bm
      have zm := bm.size
      obtain ⟨pv2, kv2, rfl, rv2⟩ := om.shape
      clear pv pr pd bm rv2 po
      cases hok : mkOk (S : Int) pz
      · have b2 := belowAlloc wm (.cells #[.int .i64 (mkS S pz), .slice pv2 (mkL S pz).length kv2] 27)
        have vm2 := vm.later b2
        have rm2 := rm.later b2
        have dm2 := dm.thenB (by omega) b2
        have mm := newCell0 wm (.int .i64 (mkS S pz)) (.slice pv2 (mkL S pz).length kv2) 27
        clear vm rm dm b2 om
        go_wp2_with fail
        refine (l3Sure_v (S : Int) _ t n _ (by omega) h1 h4 HN.out (by omega) (by omega)).mono ?_
        rintro e wq ⟨vq, rfl, oq, bq⟩
        obtain ⟨pq, kq, rfl, rq⟩ := oq.shape
        have vq := vm2.later bq
        have rdq := rm2.later bq
        have dq := dm2.thenB (by simp; omega) bq
        have zq := bq.size
        simp at zq
        have s0 := vq.c0
        have s1 := vq.c1
        have s2 := vq.f0
        have s3 := vq.f1
        clear vm2 rm2 dm2 vq bq rq
        go_wp2
        refine bodyPost_ret (v := .agg #[.int .i64 S, .slice pq (sureL n t).length kq]) (by simp [results, Try.results108, go_sem, s0, s1, s2, s3]) rfl ⟨_, _, rfl, HSU.out, ?_, ?_, ?_⟩
        · exact ((oq.setBelow (by show w.heap.size < _; simp; omega) _).setBelow (by show w.heap.size < _; simp; omega) _).mono (by simp; omega)
        · exact (rdq.setCell _ hRlt _).setCell _ hRlt _
        · exact (dq.setCell _ (.inl (Nat.le_refl _)) _).setCell _ (.inl (Nat.le_refl _)) _
      · obtain ⟨hmb, hms⟩ := mk_massB hok
        have HMB := Lib.hid hmb
        have HMS := Lib.hid hms
        have mm := VarInv.made wm (mkS S pz) (.slice pv2 (mkL S pz).length kv2) 27
        have b2 := belowAlloc wm (.cells #[.int .i64 (mkS S pz), .slice pv2 (mkL S pz).length kv2] 27)
        have om2 := om.later b2
        have vm2 := vm.later b2
        have rm2 := rm.later b2
        have dm2 := dm.thenB (by omega) b2
        have t0 := mm.c0
        have t1 := mm.c1
        have s0 := vm2.c0
        have s1 := vm2.c1
        have s2 := vm2.f0
        have s3 := vm2.f1
        clear vm rm dm b2 om mm vm2 hmb hms
        go_wp2
        refine bodyPost_ret (v := .agg #[.int .i64 (mkS S pz), .slice pv2 (mkL S pz).length kv2]) (by simp [results, Try.results108, go_sem, s0, s1, s2, s3]) rfl ⟨_, _, by rw [HMS.out], HMB.out, ?_, ?_, ?_⟩
        · exact ((om2.setBelow (by show w.heap.size < _; omega) _).setBelow (by show w.heap.size < _; omega) _).mono (by omega)
        · exact (rm2.setCell _ hRlt _).setCell _ hRlt _
        · exact (dm2.setCell _ (.inl (Nat.le_refl _)) _).setCell _ (.inl (Nat.le_refl _)) _
  · have t0 : ((x : Int) == 0) = false := by simp; omega
    have t1 : ((x : Int) == 1) = false := by simp; omega
    have t2 : ((x : Int) == 2) = false := by simp; omega
    go_wp2_with fail
    refine (pick_any R _ 3 w2 hp2.rdr (by omega) (by omega) (by omega)).mono ?_
    rintro e w3 ⟨y, rfl, hy, hR3, hD3⟩
    have hp3 := hp2.pick hR3 hD3 (by omega) hRlt (by omega) (by omega)
    clear hp2 hR3 hD3
    go_wp2
    go_loopw [10] (fun i wr => ∃ (k : Nat) (ps : List Int), k ≤ 4 ∧ i = .int .i64 k ∧ Parts 4 R (P + 10 - 2 * k) w.heap.size (w.heap.size + 1) n w.heap.size w wr ps) (fun i _ => (intOf i).toNat)
    case atStart => exact ⟨2 + y, _, by omega, by simp, (hp3.wide (by omega)).more (by omega)⟩
    case round =>
      clear hp3
      obtain ⟨k, ps, hk, rfl, hp⟩ := hrel
      by_cases hlt : 0 < k
      · go_wp2_with fail
        refine (pick_any R _ (n : Int) wr hp.rdr (by omega) (by omega) (by omega)).mono ?_
        rintro e w4 ⟨z, rfl, hz, hR4, hD4⟩
        have hp4 := hp.pick hR4 hD4 (by omega) hRlt (by omega) (by omega)
        clear hp hR4 hD4
        go_wp2_with fail
        refine (pick_any R _ 5 w4 hp4.rdr (by omega) (by omega) (by omega)).mono ?_
        rintro e w5 ⟨u, rfl, hu, hR5, hD5⟩
        have hp5 := hp4.pick hR5 hD5 (by omega) hRlt (by omega) (by omega)
        clear hp4 hR5 hD5
        have hzn : z < n := by omega
        obtain ⟨q1, q2⟩ := hp5.cell z hzn
        have hp6 := Lib.hid (hp5.set z (u : Int) (by omega) (by omega) (by omega) (by omega) (by omega))
        clear hp5
        go_wp2
        exact ⟨⟨k - 1, _, by omega, congrArg (Value.int .i64) (by omega), hp6.out.more (by omega)⟩, by simp [intOf]; omega⟩
      · go_wp2_with fail
        refine (pick_any R _ 3 wr hp.rdr (by omega) (by omega) (by omega)).mono ?_
        rintro e w4 ⟨z, rfl, hz, hR4, hD4⟩
        have hp4 := hp.pick hR4 hD4 (by omega) hRlt (by omega) (by omega)
        clear hp hR4 hD4
        by_cases hz0 : z = 0
        · subst hz0
          obtain ⟨wf, rfl⟩ : ∃ wf, wf = w4 := ⟨_, rfl⟩
          have hpf := hp4.wide (M' := 1000) (by omega)
          clear hp4
          obtain ⟨pz, hpz⟩ : ∃ pz, pz = ps := ⟨_, rfl⟩
          rw [← hpz] at hpf
          clear hpz
          have hpe := hpf.more (P' := P + 20) (by omega)
          have hsure := sure_massB (a := t) h1 h4 HN.out (by omega)
          obtain ⟨pl, pa, po, pv, pr, pd, plt⟩ := hpe
          have HA := Lib.hid (allB_wider pa (low' := 0) (high' := 4611686018427387904) (by omega) (by omega))
          have HPL := Lib.hid pl
          have HSU := Lib.hid hsure
          clear hpf pa pl hsure
          go_wp2_with fail
          refine (l3Made_n _ _ _ _ pz wf HPL.out po.reads (by rw [HPL.out]; omega) HA.out).mono ?_
          rintro e wm ⟨v, rfl, om, bm⟩
          have vm := pv.later bm
          have rm := pr.later bm
          have dm := pd.thenB (by omega) bm
          have zm := bm.size
          obtain ⟨pv2, kv2, rfl, rv2⟩ := om.shape
          clear pv pr pd bm rv2 po
          cases hok : mkOk (S : Int) pz
          · have b2 := belowAlloc wm (.cells #[.int .i64 (mkS S pz), .slice pv2 (mkL S pz).length kv2] 27)
            have vm2 := vm.later b2
            have rm2 := rm.later b2
            have dm2 := dm.thenB (by omega) b2
            have mm := newCell0 wm (.int .i64 (mkS S pz)) (.slice pv2 (mkL S pz).length kv2) 27
            clear vm rm dm b2 om
            go_wp2_with fail
            refine (l3Sure_v (S : Int) _ t n _ (by omega) h1 h4 HN.out (by omega) (by omega)).mono ?_
            rintro e wq ⟨vq, rfl, oq, bq⟩
            obtain ⟨pq, kq, rfl, rq⟩ := oq.shape
            have vq := vm2.later bq
            have rdq := rm2.later bq
            have dq := dm2.thenB (by simp; omega) bq
            have zq := bq.size
            simp at zq
            have s0 := vq.c0
            have s1 := vq.c1
            have s2 := vq.f0
            have s3 := vq.f1
            clear vm2 rm2 dm2 vq bq rq
            go_wp2
            refine bodyPost_ret (v := .agg #[.int .i64 S, .slice pq (sureL n t).length kq]) (by simp [results, Try.results108, go_sem, s0, s1, s2, s3]) rfl ⟨_, _, rfl, HSU.out, ?_, ?_, ?_⟩
            · exact ((oq.setBelow (by show w.heap.size < _; simp; omega) _).setBelow (by show w.heap.size < _; simp; omega) _).mono (by simp; omega)
            · exact (rdq.setCell _ hRlt _).setCell _ hRlt _
            · exact (dq.setCell _ (.inl (Nat.le_refl _)) _).setCell _ (.inl (Nat.le_refl _)) _
          · obtain ⟨hmb, hms⟩ := mk_massB hok
            have HMB := Lib.hid hmb
            have HMS := Lib.hid hms
            have mm := VarInv.made wm (mkS S pz) (.slice pv2 (mkL S pz).length kv2) 27
            have b2 := belowAlloc wm (.cells #[.int .i64 (mkS S pz), .slice pv2 (mkL S pz).length kv2] 27)
            have om2 := om.later b2
            have vm2 := vm.later b2
            have rm2 := rm.later b2
            have dm2 := dm.thenB (by omega) b2
            have t0 := mm.c0
            have t1 := mm.c1
            have s0 := vm2.c0
            have s1 := vm2.c1
            have s2 := vm2.f0
            have s3 := vm2.f1
            clear vm rm dm b2 om mm vm2 hmb hms
            go_wp2
            refine bodyPost_ret (v := .agg #[.int .i64 (mkS S pz), .slice pv2 (mkL S pz).length kv2]) (by simp [results, Try.results108, go_sem, s0, s1, s2, s3]) rfl ⟨_, _, by rw [HMS.out], HMB.out, ?_, ?_, ?_⟩
            · exact ((om2.setBelow (by show w.heap.size < _; omega) _).setBelow (by show w.heap.size < _; omega) _).mono (by omega)
            · exact (rm2.setCell _ hRlt _).setCell _ hRlt _
            · exact (dm2.setCell _ (.inl (Nat.le_refl _)) _).setCell _ (.inl (Nat.le_refl _)) _
        · have hz1 : (0 : Int) < z := by omega
          have h0n : 0 < n := by omega
          obtain ⟨q1, q2⟩ := hp4.cell 0 h0n
          have hpf := (hp4.wide (M' := 1000) (by omega)).set 0 0 (by omega) (by omega) (by omega) (by omega) (by omega)
          clear hp4
          go_wp2_with fail
          obtain ⟨wf, hwf⟩ : ∃ wf, wf = w4.setCell ⟨w.heap.size + 1, 0, none⟩ (.int .i64 0) := ⟨_, rfl⟩
          rw [← hwf] at hpf ⊢
          clear hwf q1 q2
          obtain ⟨pz, hps⟩ : ∃ pz, pz = ps.set 0 0 := ⟨_, rfl⟩
          rw [← hps] at hpf
          clear hps
          have hpe := hpf.more (P' := P + 20) (by omega)
          have hsure := sure_massB (a := t) h1 h4 HN.out (by omega)
          obtain ⟨pl, pa, po, pv, pr, pd, plt⟩ := hpe
          have HA := Lib.hid (allB_wider pa (low' := 0) (high' := 4611686018427387904) (by omega) (by omega))
          have HPL := Lib.hid pl
          have HSU := Lib.hid hsure
          clear hpf pa pl hsure
          go_wp2_with fail
          refine (l3Made_n _ _ _ _ pz wf HPL.out po.reads (by rw [HPL.out]; omega) HA.out).mono ?_
          rintro e wm ⟨v, rfl, om, bm⟩
          have vm := pv.later bm
          have rm := pr.later bm
          have dm := pd.thenB (by omega) bm
          have zm := bm.size
          obtain ⟨pv2, kv2, rfl, rv2⟩ := om.shape
          clear pv pr pd bm rv2 po
          cases hok : mkOk (S : Int) pz
          · have b2 := belowAlloc wm (.cells #[.int .i64 (mkS S pz), .slice pv2 (mkL S pz).length kv2] 27)
            have vm2 := vm.later b2
            have rm2 := rm.later b2
            have dm2 := dm.thenB (by omega) b2
            have mm := newCell0 wm (.int .i64 (mkS S pz)) (.slice pv2 (mkL S pz).length kv2) 27
            clear vm rm dm b2 om
            go_wp2_with fail
            refine (l3Sure_v (S : Int) _ t n _ (by omega) h1 h4 HN.out (by omega) (by omega)).mono ?_
            rintro e wq ⟨vq, rfl, oq, bq⟩
            obtain ⟨pq, kq, rfl, rq⟩ := oq.shape
            have vq := vm2.later bq
            have rdq := rm2.later bq
            have dq := dm2.thenB (by simp; omega) bq
            have zq := bq.size
            simp at zq
            have s0 := vq.c0
            have s1 := vq.c1
            have s2 := vq.f0
            have s3 := vq.f1
            clear vm2 rm2 dm2 vq bq rq
            go_wp2
            refine bodyPost_ret (v := .agg #[.int .i64 S, .slice pq (sureL n t).length kq]) (by simp [results, Try.results108, go_sem, s0, s1, s2, s3]) rfl ⟨_, _, rfl, HSU.out, ?_, ?_, ?_⟩
            · exact ((oq.setBelow (by show w.heap.size < _; simp; omega) _).setBelow (by show w.heap.size < _; simp; omega) _).mono (by simp; omega)
            · exact (rdq.setCell _ hRlt _).setCell _ hRlt _
            · exact (dq.setCell _ (.inl (Nat.le_refl _)) _).setCell _ (.inl (Nat.le_refl _)) _
          · obtain ⟨hmb, hms⟩ := mk_massB hok
            have HMB := Lib.hid hmb
            have HMS := Lib.hid hms
            have mm := VarInv.made wm (mkS S pz) (.slice pv2 (mkL S pz).length kv2) 27
            have b2 := belowAlloc wm (.cells #[.int .i64 (mkS S pz), .slice pv2 (mkL S pz).length kv2] 27)
            have om2 := om.later b2
            have vm2 := vm.later b2
            have rm2 := rm.later b2
            have dm2 := dm.thenB (by omega) b2
            have t0 := mm.c0
            have t1 := mm.c1
            have s0 := vm2.c0
            have s1 := vm2.c1
            have s2 := vm2.f0
            have s3 := vm2.f1
            clear vm rm dm b2 om mm vm2 hmb hms
            go_wp2
            refine bodyPost_ret (v := .agg #[.int .i64 (mkS S pz), .slice pv2 (mkL S pz).length kv2]) (by simp [results, Try.results108, go_sem, s0, s1, s2, s3]) rfl ⟨_, _, by rw [HMS.out], HMB.out, ?_, ?_, ?_⟩
            · exact ((om2.setBelow (by show w.heap.size < _; omega) _).setBelow (by show w.heap.size < _; omega) _).mono (by omega)
            · exact (rm2.setCell _ hRlt _).setCell _ hRlt _
            · exact (dm2.setCell _ (.inl (Nat.le_refl _)) _).setCell _ (.inl (Nat.le_refl _)) _

end Go.Proofs.Ytjmfjgoehicgcaa
