/- How parts are moved: the program. -/
import Derived.Test.YtjmfjgoehicgcaaIK
import Derived.Test.YtjmfjgoehicgcaaIH
import Derived.Test.YtjmfjgoehicgcaaJK
set_option linter.unusedVariables false
set_option linter.unusedSimpArgs false
namespace Go.Proofs.Ytjmfjgoehicgcaa
open Go.RowKit

/-- What is fixed when so many places are done. -/
def fxB (N i : Nat) : Nat → Nat → Bool := fun b a => subB a b && bef N i b a
theorem op_fx (N i : Nat) : opB (fxB N i) = opI N i := by funext b a; rfl

theorem fx_same {N i b a : Nat} (ha : a < N) (hi : i = N * b + a) (hs : subB a b = false) : ∀ b' a', b' < N → a' < N → fxB N i b' a' = fxB N (i + 1) b' a' := fun b' a' hb' ha' => by
  unfold fxB bef
  by_cases e : N * b' + a' = i
  · obtain ⟨e1, e2⟩ := tab_inj ha ha' (e.trans hi)
    rw [e1, e2, hs]; rfl
  · rw [show decide (N * b' + a' < i + 1) = decide (N * b' + a' < i) by rw [decide_eq_decide]; omega]
theorem fx_next {N i b a : Nat} (ha : a < N) (hi : i = N * b + a) (hs : subB a b = true) : ∀ b' a', b' < N → a' < N → updX (fxB N i) b a true b' a' = fxB N (i + 1) b' a' := fun b' a' hb' ha' => by
  unfold updX
  by_cases c : b' = b ∧ a' = a
  · obtain ⟨rfl, rfl⟩ := c
    rw [if_pos ⟨rfl, rfl⟩]
    unfold fxB bef
    rw [hs, hi]; simp
  · rw [if_neg c]
    unfold fxB bef
    have e : N * b' + a' ≠ i := fun e => c (by obtain ⟨e1, e2⟩ := tab_inj ha ha' (e.trans hi); exact ⟨e1, e2⟩)
    rw [show decide (N * b' + a' < i + 1) = decide (N * b' + a' < i) by rw [decide_eq_decide]; omega]

/-- The program's state between two places. -/
structure OM (L : Lay) (sup dem : Nat → Int) (B : Nat) (w wr : World) (v : Value) (i : Nat) : Prop where
  ex : ∃ (F : Nat → Nat → Int) (lf du : Nat → Int) (xs : List Int), MV L wr F (fxB L.N i) lf du ∧ Flow L.N sup dem F ∧ Fst L.N sup dem i F ∧ Own B wr v xs ∧ xs.length = i ∧ ∀ k, k < i → nth xs k = F (k / L.N) (k % L.N)
  lt : L.Lt B
  mu : ∀ z, L.Mut z → w.heap.size ≤ z
  wb : w.heap.size ≤ B
  bl : Below w.heap.size w wr
  bs : B ≤ wr.heap.size

theorem nth_snoc (xs : List Int) (y : Int) (k : Nat) : nth (xs ++ [y]) k = if k < xs.length then nth xs k else if k = xs.length then y else 0 := by
  unfold nth
  simp only [List.getD, List.getElem?_append]
  split
  · rfl
  · split
    · rename_i h; subst h; simp
    · rename_i h1 h2; rw [List.getElem?_eq_none (by simp; omega)]; rfl

theorem newCellH (w : World) (x : Value) (t : TypeId) (H : Nat) (hH : w.heap.size = H) : (w.alloc (.cells #[x] t)).cell? ⟨H, 0, none⟩ = some x := by subst hH; exact newCell _ _ _

theorem Flow.cong2 {N : Nat} {sup dem : Nat → Int} {F F' : Nat → Nat → Int} (h : Flow N sup dem F) (e : ∀ b a, b < N → a < N → F' b a = F b a) : Flow N sup dem F' :=
  ⟨fun b a hb ha => by rw [e b a hb ha]; exact h.nn b a hb ha, fun b a hb ha q => by rw [e b a hb ha]; exact h.sub b a hb ha q, fun b hb => by rw [← h.row b hb]; exact sm_congr fun a ha => e b a hb ha, fun a ha => by rw [← h.col a ha]; exact sm_congr fun b hb => e b a hb ha⟩

set_option maxHeartbeats 8000000 in
set_option maxRecDepth 100000 in
theorem iMovedParts_any (s : Int) (p : Option Addr) (c : Nat) (xs : List Int) (t : Int) (q : Option Addr) (d : Nat) (ys : List Int) (w : World) (hx : Reads w p xs) (hy : Reads w q ys) (hxm : xs.length ≤ 1048576) (hym : ys.length ≤ 1048576) :
    Calls Try.prog 35 #[.agg #[.int .i64 s, .slice p xs.length c], .agg #[.int .i64 t, .slice q ys.length d]] w fun e w' => ∃ v, e = .returned (.tuple #[v, .bool (spB s xs t ys)]) ∧ Own w.heap.size w' v (mvL s xs t ys) ∧ Below w.heap.size w w' := by
  obtain ⟨W, hW, hbW, hsz, c0, c1, c2, c3⟩ := box2 w s t p q xs.length ys.length c d
  have HW := Lib.hid hW
  clear hW
  have HB := Lib.hid (ofOneQuestion_any s t p q c d xs ys W (hx.below hbW) (hy.below hbW) hxm hym)
  have HX := Lib.hid hx
  have HY := Lib.hid hy
  clear hx hy
  cases hb : bothB s xs t ys
  · have hr : Hid (spB s xs t ys = false) := Lib.hid (by rw [spB, hb]; rfl)
    have hm : Hid (mvL s xs t ys = []) := Lib.hid (by rw [mvL, hr.out]; rfl)
    rw [hb] at HB
    clear hb
    go_enter Try.func35, Try.ntmps35
    go_wp2_with fail
    rw [← HW.out]
    refine HB.out.mono ?_
    rintro e w1 ⟨rfl, b1⟩
    go_wp2
    go_ret2
    exact ⟨.slice none 0 0, by (first | (rw [hr.out]; done) | (rw [hr.out]; rfl)), by rw [hm.out]; exact Own.nil _ _, hbW.thenB b1⟩
  · have ht := two_of hb
    have hr : Hid (spB s xs t ys = flB xs.length (supS xs ys) (demS xs ys)) := Lib.hid (by rw [spB, hb]; rfl)
    rw [hb] at HB
    have HT := Lib.hid ht
    clear hb ht
    go_enter Try.func35, Try.ntmps35
    go_wp2_with fail
    rw [← HW.out]
    refine HB.out.mono ?_
    rintro e w1 ⟨rfl, b1⟩
    replace c0 := cellKeep b1 c0
    replace c1 := cellKeep b1 c1
    replace c2 := cellKeep b1 c2
    replace c3 := cellKeep b1 c3
    replace hbW := hbW.thenB b1
    clear b1 HB HW
    have hyl : ys.length = xs.length := HT.out.yl
    have HN := Lib.hid (newMoves_any xs.length s t p q c d xs ys w1 (HX.out.below hbW) (HY.out.below hbW) HT.out)
    rw [hyl] at c3
    clear hyl
    go_wp2_with fail
    refine HN.out.mono ?_
    rintro e w2 ⟨b2, ⟨rfl, hno⟩ | ⟨L, F, lf, du, rfl, hLN, hM, hfl, hmu⟩⟩
    · have hf : Hid (spB s xs t ys = false) := Lib.hid (by rw [hr.out]; exact flB_no.2 hno)
      have hm : Hid (mvL s xs t ys = []) := Lib.hid (by rw [mvL, hf.out]; rfl)
      clear hno c0 c1 c2 c3
      go_wp2
      go_ret2
      exact ⟨.slice none 0 0, by (first | (rw [hf.out]; done) | (rw [hf.out]; rfl)), by rw [hm.out]; exact Own.nil _ _, hbW.thenB b2⟩
    · have hf : spB s xs t ys = true := by rw [hr.out]; exact flB_iff.2 ⟨F, by rw [← hLN]; exact (hLN ▸ hfl)⟩
      have hm : Hid (mvL s xs t ys = firstL L.N (supS xs ys) (demS xs ys)) := Lib.hid (by rw [mvL, if_pos hf, hLN])
      have HF := Lib.hid hf
      have HT2 : Hid (∀ x, x < L.N → 0 ≤ supS xs ys x ∧ supS xs ys x ≤ 1000000000000) := Lib.hid (by rw [hLN]; exact HT.out.sup.1)
      rw [← hLN] at hfl
      have hz1 := hbW.size
      have hz2 := b2.size
      have bA := belowAlloc w2 (.cells #[] 3)
      have hom : OM L (supS xs ys) (demS xs ys) w2.heap.size w (w2.alloc (.cells #[] 3)) (.slice (some ⟨w2.heap.size, 0, none⟩) 0 0) (L.N * 0) :=
        ⟨⟨F, lf, du, [], (hM.congX (X' := fxB L.N 0) (fun b a _ _ => by unfold fxB bef; simp)).later bA, hfl, Fst.zero _ _ _ _, Own.made w2 w2.heap.size (Nat.le_refl _), rfl, fun k hk => absurd hk (Nat.not_lt_zero _)⟩, hM.lts, fun z hz => Nat.le_trans hz1 (hmu z hz), by omega, (hbW.thenB b2).thenB bA, by simp⟩
      have HOM := Lib.hid hom
      have c5 := (hM.later bA).c0
      have n16 := hM.ok.n16
      have n1 := hM.ok.n1
      have HLN := Lib.hid hLN
      clear hom hfl hM hmu hf b2 bA c0 c1 c2 c3 HN hLN
      go_wp2_with fail
      obtain ⟨BB, hBB⟩ : ∃ x, x = w2.heap.size := ⟨_, rfl⟩
      rw [← hBB] at HOM
      obtain ⟨v0, hv0⟩ : ∃ x, x = Value.slice (some ⟨w2.heap.size, 0, none⟩) 0 0 := ⟨_, rfl⟩
      rw [show (Value.slice (some ⟨BB, 0, none⟩) 0 0) = v0 by rw [hv0, hBB]] at HOM
      clear c5 hBB
      go_loopw [29, 8] (fun i v wr => ∃ b : Nat, b ≤ L.N ∧ i = .int .i64 b ∧ OM L (supS xs ys) (demS xs ys) BB w wr v (L.N * b)) (fun i _ _ => L.N - (intOf i).toNat)
      case atStart => exact ⟨0, Nat.zero_le _, rfl, by rw [← hv0]; exact HOM.out⟩
      case round =>
        clear HOM hv0
        obtain ⟨b, hbN, rfl, hom⟩ := hrel
        by_cases hlt : b < L.N
        · have hbz : (b : Int) < (L.N : Int) := by omega
          have HO1 := Lib.hid (show OM L (supS xs ys) (demS xs ys) BB w wr _ (L.N * b + 0) from hom)
          obtain ⟨F, lf, du, zs, hM, -⟩ := hom.ex
          have c0 := hM.c0
          clear hM hom
          go_wp2_with fail
          clear c0
          go_loopw [37, 8] (fun i v wr => ∃ a : Nat, a ≤ L.N ∧ i = .int .i64 a ∧ OM L (supS xs ys) (demS xs ys) BB w wr v (L.N * b + a)) (fun i _ _ => L.N - (intOf i).toNat)
          case atStart => exact ⟨0, Nat.zero_le _, rfl, HO1.out⟩
          case round =>
            clear HO1
            obtain ⟨a, haN, rfl, hom⟩ := hrel
            by_cases hla : a < L.N
            · have haz : (a : Int) < (L.N : Int) := by omega
              obtain ⟨⟨F, lf, du, zs, hM, hfl, hfs, hown, hzl, hzn⟩, hLt, hmu, hwb, hbl, hbs⟩ := hom
              have hop := isOpen_any L wr F (fxB L.N (L.N * b + a)) lf du hM b a hlt hla
              have HOP := Lib.hid hop
              have hpl := pl_lt hla hlt
              have hN2 : L.N * L.N ≤ 16 * 16 := Nat.mul_le_mul n16 n16
              have hz8 : zs.length ≤ 1000 := by omega
              cases hs : subB a b
              · rw [show opB (fxB L.N (L.N * b + a)) b a = false from op_sub hs] at HOP
                have c0 := hM.c0
                have c1 := hM.fl b hlt
                have c2 := hM.fr b a hlt hla
                obtain ⟨V, hV⟩ : ∃ x, x = F b a := ⟨_, rfl⟩
                rw [← hV] at c2
                have HNX : Hid (∀ (v' : Value) (wA w9 : World), Own BB w9 v' (zs ++ [V]) → Below wr.heap.size wr wA → Below BB wA w9 → OM L (supS xs ys) (demS xs ys) BB w w9 v' (L.N * b + (a + 1))) := Lib.hid (fun v' wA w9 ho hA h9 => by
                  refine ⟨⟨F, lf, du, zs ++ [V], ((hM.congX (fx_same hla rfl hs)).later hA).same hLt (fun z hz => h9.block z hz), hfl, hfs.shut hlt hla hfl hs, ho, by simp [hzl]; omega, fun k hk => ?_⟩, hLt, hmu, hwb, (hbl.thenB hA).trans (h9.mono hwb), Nat.le_trans (Nat.le_trans hbs hA.size) h9.size⟩
                  rw [nth_snoc, hzl]
                  by_cases e : k < L.N * b + a
                  · rw [if_pos e]; exact hzn k e
                  · rw [if_neg e, if_pos (by omega), show k = L.N * b + a by omega, pl_div hla, pl_mod hla]; exact hV)
                have HOWN := Lib.hid hown
                have HBS := Lib.hid hbs
                obtain ⟨pz, kz, hvz, hrz⟩ := hown.shape
                subst hvz
                clear hM hfl hfs hown hzl hzn hLt hmu hbl hbs hop hV hrz
                go_wp2_with fail
                refine HOP.out.mono ?_
                rintro e w3 ⟨rfl, rfl⟩
                go_wp2_with (at_builtin; refine wpList_append1 _ rfl _ _ (by rfl) BB _ _ (by rfl) (Own.later HOWN.out (belowAlloc _ _)) ⟨wr.heap.size, 0, none⟩ 1 V (by rfl) (newCell _ _ _) (by omega) (by have hq := HBS.out; simp at hq ⊢; omega) ?_)
                intro v' w9 ho9 hb9
                have HOM2 : Hid (OM L (supS xs ys) (demS xs ys) BB w w9 v' (L.N * b + (a + 1))) := Lib.hid (HNX.out v' _ w9 ho9 (belowAlloc _ _) hb9)
                clear HNX ho9 hb9 c0 c1 c2
                go_wp2
                first | exact ⟨⟨a + 1, by omega, by go_num, HOM2.out⟩, by simp [intOf]; omega⟩ | (refine And.intro ?_ (by simp [intOf]; omega); (repeat apply Exists.intro); refine And.intro ?_ rfl; exact ⟨a + 1, by omega, by go_num, HOM2.out⟩)
              · have hoi : opB (fxB L.N (L.N * b + a)) b a = true := by rw [op_fx]; exact opI_iff.2 ⟨hs, Nat.le_refl _⟩
                rw [hoi] at HOP
                have hra := raise_any L wr F (fxB L.N (L.N * b + a)) lf du (supS xs ys) (demS xs ys) hM hfl (fun x hx => (HT2.out x hx).2) b a hlt hla hoi
                have HRA := Lib.hid hra
                have HOWN := Lib.hid hown
                have HBS := Lib.hid hbs
                have c0 := hM.c0
                obtain ⟨pz, kz, hvz, hrz⟩ := hown.shape
                subst hvz
                have HS0 := Lib.hid (And.intro hfl (And.intro hfs (And.intro hzl (And.intro hzn (And.intro hLt (And.intro hmu (And.intro hbl hM.lts)))))))
                clear hM hfl hfs hown hzl hzn hLt hmu hbl hbs hop hra hrz c0
                go_wp2_with fail
                refine HOP.out.mono ?_
                rintro e w3 ⟨rfl, rfl⟩
                go_wp2_with fail
                refine HRA.out.mono ?_
                rintro e w4 ⟨rfl, F', hM4, hE4, hfl4, hoff, hmax⟩
                obtain ⟨hfl, hfs, hzl, hzn, hLt, hmu, hbl, hlw⟩ := HS0.out
                have hws := hbl.size
                have hb4 : Below w.heap.size w w4 := hbl.trans ((hE4.mono hws).below (fun z hz => hmu z hz))
                have ho4 : Own BB w4 _ zs := HOWN.out.ex hE4 (fun z hz hm => by have q1 := (HOWN.out.blockLt z hz).1; have q2 := hLt.mut hm; omega)
                have c1 := hM4.c1
                have c2 := hM4.fx b hlt
                have c3 := hM4.xr b a hlt hla
                have c4 := hM4.zx b a hlt
                have hM5 := (hM4.setX b a hlt hla true).congX (fx_next hla rfl hs)
                have hlx : L.x b < BB := hLt.z b hlt
                have ho5 : Own BB (w4.setCell ⟨L.x b, a, none⟩ (.bool true)) _ zs := ho4.setBelow (a := ⟨L.x b, a, none⟩) hlx _
                have hb5 : Below w.heap.size w (w4.setCell ⟨L.x b, a, none⟩ (.bool true)) := hb4.setCell (p := ⟨L.x b, a, none⟩) (hmu _ (hM4.ok.mx hlt)) _
                have hs5 : BB ≤ (w4.setCell ⟨L.x b, a, none⟩ (.bool true)).heap.size := by have := HBS.out; have := hE4.size; simp; omega
                have hfs5 : Fst L.N (supS xs ys) (demS xs ys) (L.N * b + a + 1) F' := hfs.raised hlt hla hfl hfl4 (fun x y hx hy h => hoff x y hx hy (by rw [op_fx]; exact h)) (fun G g hag => hmax G g (fun x y hx hy h => hag x y hx hy (by rw [op_fx] at h; exact h)))
                have hzn5 : ∀ k, k < L.N * b + a → nth zs k = F' (k / L.N) (k % L.N) := fun k hk => by
                  obtain ⟨k1, k2, k3⟩ := pl_of (show 0 < L.N by omega) (Nat.lt_trans hk hpl)
                  rw [hzn k hk, hoff _ _ k1 k2]
                  rw [op_fx]
                  cases e : opI L.N (L.N * b + a) (k / L.N) (k % L.N)
                  · rfl
                  · have := (opI_iff.1 e).2; omega
                have d0 := hM5.c0
                have d1 := hM5.fl b hlt
                have d2 := hM5.fr b a hlt hla
                obtain ⟨V, hV⟩ : ∃ x, x = F' b a := ⟨_, rfl⟩
                rw [← hV] at d2
                have HNX : Hid (∀ (v' : Value) (wA w9 : World), Own BB w9 v' (zs ++ [V]) → Below (w4.setCell ⟨L.x b, a, none⟩ (.bool true)).heap.size (w4.setCell ⟨L.x b, a, none⟩ (.bool true)) wA → Below BB wA w9 → OM L (supS xs ys) (demS xs ys) BB w w9 v' (L.N * b + (a + 1))) := Lib.hid (fun v' wA w9 ho hA h9 => by
                  refine ⟨⟨F', lf, du, zs ++ [V], (hM5.later hA).same hLt (fun z hz => h9.block z hz), hfl4, hfs5, ho, by simp [hzl]; omega, fun k hk => ?_⟩, hLt, hmu, hwb, (hb5.thenB hA).trans (h9.mono hwb), Nat.le_trans (Nat.le_trans hs5 hA.size) h9.size⟩
                  rw [nth_snoc, hzl]
                  by_cases e : k < L.N * b + a
                  · rw [if_pos e]; exact hzn5 k e
                  · rw [if_neg e, if_pos (by omega), show k = L.N * b + a by omega, pl_div hla, pl_mod hla]; exact hV)
                replace HOWN := Lib.hid ho5
                replace HBS := Lib.hid hs5
                have c0 := hM4.c0
                clear hM4 hE4 hfl4 hoff hmax hfl hfs hzl hzn hLt hmu hbl hlw hws hb4 ho4 hM5 hlx ho5 hb5 hs5 hfs5 hzn5 hV HRA HS0
                go_wp2_with (at_builtin; refine wpList_append1 _ rfl _ _ (by rfl) BB _ _ (by rfl) (Own.later HOWN.out (belowAlloc _ _)) ⟨w4.heap.size, 0, none⟩ 1 V (by rfl) (newCellH _ _ _ _ (by simp)) (by omega) (by have hq := HBS.out; simp at hq ⊢; omega) ?_)
                intro v' w9 ho9 hb9
                have HOM2 : Hid (OM L (supS xs ys) (demS xs ys) BB w w9 v' (L.N * b + (a + 1))) := Lib.hid (HNX.out v' _ w9 ho9 (belowAlloc _ _) hb9)
                clear HNX ho9 hb9 c0 c1 c2 c3 c4 d0 d1 d2
                go_wp2
                first | exact ⟨⟨a + 1, by omega, by go_num, HOM2.out⟩, by simp [intOf]; omega⟩ | (refine And.intro ?_ (by simp [intOf]; omega); (repeat apply Exists.intro); refine And.intro ?_ rfl; exact ⟨a + 1, by omega, by go_num, HOM2.out⟩)
            · have haE : L.N = a := by omega
              have HO2 := Lib.hid (show OM L (supS xs ys) (demS xs ys) BB w wr _ (L.N * (b + 1)) from by rw [Nat.mul_succ]; rw [← haE] at hom; exact hom)
              clear hom
              subst haE
              go_wp2
              first | exact ⟨⟨b + 1, by omega, by go_num, HO2.out⟩, by simp [intOf]; omega⟩ | (refine And.intro ?_ (by simp [intOf]; omega); (repeat apply Exists.intro); refine And.intro ?_ rfl; exact ⟨b + 1, by omega, by go_num, HO2.out⟩)
        · have hbE : L.N = b := by omega
          rw [← hbE] at hom
          obtain ⟨⟨F, lf, du, zs, hM, hfl, hfs, hown, hzl, hzn⟩, hLt, hmu, hwb, hbl, hbs⟩ := hom
          have hfi := hfs.first hfl
          have htb : First L.N (supS xs ys) (demS xs ys) (tab L.N zs) := by
            have e : ∀ b a, b < L.N → a < L.N → tab L.N zs b a = F b a := fun b a hb ha => by
              rw [tab_at hb ha, hzn _ (pl_lt ha hb), pl_div ha, pl_mod ha]
            exact ⟨hfl.cong2 e, fun G g i hi hag => by
              obtain ⟨i1, i2, i3⟩ := pl_of (by omega) hi
              rw [e _ _ i1 i2]
              refine hfi.top G g i hi fun j hj => ?_
              obtain ⟨j1, j2, j3⟩ := pl_of (show 0 < L.N by omega) (Nat.lt_trans hj hi)
              rw [hag j hj, e _ _ j1 j2]⟩
          have hze := firstL_is hzl n1 htb
          have HZ := Lib.hid (And.intro hze (And.intro (hown.mono hwb) hbl))
          clear hM hfl hfs hown hzl hzn hLt hmu hbl hfi htb hze
          go_wp2
          go_ret2
          obtain ⟨z1, z2, z3⟩ := HZ.out
          exact ⟨_, by (first | (rw [HF.out]; done) | (rw [HF.out]; rfl)), by rw [hm.out, ← z1]; exact z2, z3⟩

end Go.Proofs.Ytjmfjgoehicgcaa
