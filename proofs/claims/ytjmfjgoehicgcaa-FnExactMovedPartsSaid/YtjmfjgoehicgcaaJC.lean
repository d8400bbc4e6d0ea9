/- Parts are sent as long as possible: the reference. -/
import Derived.Test.YtjmfjgoehicgcaaJB
set_option linter.unusedVariables false
set_option linter.unusedSimpArgs false
namespace Go.Proofs.Ytjmfjgoehicgcaa
open Go.RowKit

def doneB (N : Nat) (du : List Int) : Bool := (List.range N).all fun a => decide (nth du a ≤ 0)
theorem doneB_iff {N : Nat} {du : List Int} : doneB N du = true ↔ ∀ a, a < N → nth du a ≤ 0 := by
  unfold doneB
  rw [List.all_eq_true]
  constructor
  · intro h a ha; exact of_decide_eq_true (h a (List.mem_range.2 ha))
  · intro h a ha; exact decide_eq_true (h a (List.mem_range.1 ha))

set_option maxHeartbeats 4000000 in
theorem l8Done_any (N : Nat) (w : World) (h16 : N ≤ 16) (v1 v2 : Value) (h1c : v1.oneCell' = true) (h2c : v2.oneCell' = true) (pD : Option Addr) (cD : Nat) (du : List Int) (hD : Reads w pD du) (hdl : du.length = N) :
    Calls Try.prog 55 #[.agg #[.int .i64 (N : Int), v1, v2, .slice pD N cD]] w fun e w' => e = .returned (.bool (doneB N du)) ∧ Below w.heap.size w w' := by
  have HDL := Lib.hid hdl
  have HD := Lib.hid hD
  have c0 := newAt w #[.int .i64 (N : Int), v1, v2, .slice pD N cD] 64 0 _ rfl
  have c3 := newAt w #[.int .i64 (N : Int), v1, v2, .slice pD N cD] 64 3 _ rfl
  have hb := belowAlloc w (.cells #[.int .i64 (N : Int), v1, v2, .slice pD N cD] 64)
  have HB := Lib.hid hb
  clear hdl hD hb
  go_enter Try.func55, Try.ntmps55
  go_wp2_with fail
  generalize w.alloc (.cells #[.int .i64 (N : Int), v1, v2, .slice pD N cD] 64) = W at *
  go_loop [3] (fun i => ∃ k : Nat, k ≤ N ∧ i = .int .i64 k ∧ Hid (∀ x, x < k → nth du x ≤ 0)) (fun i => N - (intOf i).toNat)
  case atStart => exact ⟨0, Nat.zero_le _, rfl, Lib.hid (fun x hx => absurd hx (Nat.not_lt_zero _))⟩
  case round =>
    obtain ⟨k, hk, rfl, hall⟩ := hrel
    by_cases hkN : k < N
    · have hkz : (k : Int) < (N : Int) := by omega
      obtain ⟨bb, oo, rfl, hlt, hc⟩ := (HD.out.below HB.out) k (by rw [HDL.out]; exact hkN)
      obtain ⟨V, hV⟩ : ∃ x, x = nth du k := ⟨_, rfl⟩
      rw [← hV] at hc
      have HV := Lib.hid hV
      clear hV
      by_cases hv : 0 < V
      · have hr : Hid (doneB N du = false) := Lib.hid (by
          cases e : doneB N du
          · rfl
          · have := doneB_iff.1 e k hkN; rw [← HV.out] at this; omega)
        go_wp2
        go_ret
        exact ⟨ret_bool hr.out.symm, HB.out⟩
      · go_wp2
        go_round
        case rel => exact ⟨k + 1, by omega, by go_num, Lib.hid (fun x hx => by
          by_cases e : x = k
          · subst e; rw [← HV.out]; omega
          · exact hall.out x (by omega))⟩
        case measure => simp [intOf]; omega
    · have hkE : N = k := by omega
      subst hkE
      have hr : Hid (doneB N du = true) := Lib.hid (doneB_iff.2 hall.out)
      go_wp2
      go_ret
      exact ⟨ret_bool hr.out.symm, HB.out⟩

/-- What is to go, and how it can: what a run leaves. -/
def RunPost (B N nn fb lb db cf cl cd : Nat) (sup dem : Nat → Int) (w : World) (e : Ending) (w' : World) : Prop :=
  ∃ (Fl lf du : List Int), e = .returned (.agg #[.int .i64 (N : Int), .slice (some ⟨fb, 0, none⟩) nn cf, .slice (some ⟨lb, 0, none⟩) N cl, .slice (some ⟨db, 0, none⟩) N cd]) ∧ FM B w' N nn fb lb db cf cl cd Fl lf du ∧
    PFlow N sup dem (tab N Fl) (nth lf) (nth du) ∧ ((∀ a, a < N → nth du a ≤ 0) → Flow N sup dem (tab N Fl)) ∧ ((∃ a, a < N ∧ 0 < nth du a) → ¬ ∃ G, Flow N sup dem G) ∧ Ex3 fb lb db w w'

theorem l8Reach_at (N nn : Nat) (w : World) (h1 : 1 ≤ N) (h16 : N ≤ 16) (pF pL pD : Option Addr) (cF cL cD nD : Nat) (Fl Lf : List Int) (hF : Reads w pF Fl) (hL : Reads w pL Lf) (hn : nn = N * N) (hFl : Fl.length = nn) (hLl : Lf.length = N) (hs : ∀ b a, b < N → a < N → subB a b = false → tab N Fl b a = 0) :
    Calls Try.prog 94 #[.agg #[.int .i64 N, .slice pF nn cF, .slice pL N cL, .slice pD nD cD]] w (ReachPost N (tab N Fl) (nth Lf) w) := by
  have h := l8Reach_any N w h1 h16 pF pL pD cF cL cD nD Fl Lf hF hL (by rw [hFl, hn]) hLl hs
  rw [hFl, hLl] at h
  exact h

/-- The memory of a run. -/
structure RN (B N nn fb lb db cf cl cd : Nat) (w wr : World) (Fl lf du : List Int) : Prop where
  fm : FM B wr N nn fb lb db cf cl cd Fl lf du
  bx : Bx wr w.heap.size (.int .i64 (N : Int)) (.slice (some ⟨fb, 0, none⟩) nn cf) (.slice (some ⟨lb, 0, none⟩) N cl) (.slice (some ⟨db, 0, none⟩) N cd)
  bf : ∀ o, wr.frozen? ⟨w.heap.size, o, none⟩ = false
  rx : Bx wr (w.heap.size + 1) (.int .i64 0) (.slice none 0 0) (.slice none 0 0) (.slice none 0 0)
  rf : ∀ o, wr.frozen? ⟨w.heap.size + 1, o, none⟩ = false
  ex : Ex3 fb lb db w wr
  lt : fb < w.heap.size ∧ lb < w.heap.size ∧ db < w.heap.size

section
variable {B N nn fb lb db cf cl cd : Nat} {w wr wr' : World} {Fl lf du : List Int}
theorem Bx.ex3 {b : Nat} {v0 v1 v2 v3 : Value} {f l d : Nat} {w w' : World} (h : Bx w b v0 v1 v2 v3) (e : Ex3 f l d w w') (h1 : b ≠ f) (h2 : b ≠ l) (h3 : b ≠ d) : Bx w' b v0 v1 v2 v3 := ⟨e.cell h.c0 h1 h2 h3, e.cell h.c1 h1 h2 h3, e.cell h.c2 h1 h2 h3, e.cell h.c3 h1 h2 h3⟩
theorem RN.step {Fl' lf' du' : List Int} (h : RN B N nn fb lb db cf cl cd w wr Fl lf du) (e : Ex3 fb lb db wr wr') (hf : FM B wr' N nn fb lb db cf cl cd Fl' lf' du') : RN B N nn fb lb db cf cl cd w wr' Fl' lf' du' := by
  obtain ⟨l1, l2, l3⟩ := h.lt
  have z0 := h.bx.lt
  have z1 := h.rx.lt
  exact ⟨hf, h.bx.ex3 e (by omega) (by omega) (by omega), fun o => e.froz z0 (h.bf o) (by omega) (by omega) (by omega), h.rx.ex3 e (by omega) (by omega) (by omega), fun o => e.froz z1 (h.rf o) (by omega) (by omega) (by omega), h.ex.trans e, h.lt⟩
theorem RN.later (h : RN B N nn fb lb db cf cl cd w wr Fl lf du) (e : Below wr.heap.size wr wr') : RN B N nn fb lb db cf cl cd w wr' Fl lf du := h.step (Ex3.ofBelow e) (h.fm.later e)
end

theorem Bx.put4 {w : World} {b : Nat} {v0 v1 v2 v3 u0 u1 u2 u3 : Value} (h : Bx w b v0 v1 v2 v3) : Bx ((((w.setCell ⟨b, 0, none⟩ u0).setCell ⟨b, 1, none⟩ u1).setCell ⟨b, 2, none⟩ u2).setCell ⟨b, 3, none⟩ u3) b u0 u1 u2 u3 := by
  have ne : ∀ i j : Nat, i ≠ j → (⟨b, i, none⟩ : Addr) ≠ ⟨b, j, none⟩ := fun i j h e => h (by injection e)
  refine ⟨?_, ?_, ?_, ?_⟩
  · exact cellOff (cellOff (cellOff (World.cell?_setCell_same _ _ _ h.c0) (ne _ _ (by decide))) (ne _ _ (by decide))) (ne _ _ (by decide))
  · exact cellOff (cellOff (World.cell?_setCell_same _ _ _ (cellOff h.c1 (ne _ _ (by decide)))) (ne _ _ (by decide))) (ne _ _ (by decide))
  · exact cellOff (World.cell?_setCell_same _ _ _ (cellOff (cellOff h.c2 (ne _ _ (by decide))) (ne _ _ (by decide)))) (ne _ _ (by decide))
  · exact World.cell?_setCell_same _ _ _ (cellOff (cellOff (cellOff h.c3 (ne _ _ (by decide))) (ne _ _ (by decide))) (ne _ _ (by decide)))

theorem FM.other4 {B : Nat} {w : World} {N nn fb lb db cf cl cd : Nat} {Fl lf du : List Int} (h : FM B w N nn fb lb db cf cl cd Fl lf du) (b : Nat) (h1 : b ≠ fb) (h2 : b ≠ lb) (h3 : b ≠ db) (u0 u1 u2 u3 : Value) :
    FM B ((((w.setCell ⟨b, 0, none⟩ u0).setCell ⟨b, 1, none⟩ u1).setCell ⟨b, 2, none⟩ u2).setCell ⟨b, 3, none⟩ u3) N nn fb lb db cf cl cd Fl lf du :=
  (((h.other _ h1 h2 h3 _).other _ h1 h2 h3 _).other _ h1 h2 h3 _).other _ h1 h2 h3 _

theorem Ex3.put4 {f l d : Nat} {a w : World} (h : Ex3 f l d a w) (b : Nat) (hb : a.heap.size ≤ b) (u0 u1 u2 u3 : Value) : Ex3 f l d a ((((w.setCell ⟨b, 0, none⟩ u0).setCell ⟨b, 1, none⟩ u1).setCell ⟨b, 2, none⟩ u2).setCell ⟨b, 3, none⟩ u3) :=
  (((h.setCell _ (.inr (.inr (.inr hb))) _).setCell _ (.inr (.inr (.inr hb))) _).setCell _ (.inr (.inr (.inr hb))) _).setCell _ (.inr (.inr (.inr hb))) _

theorem RN.reput {B N nn fb lb db cf cl cd : Nat} {w wr : World} {Fl lf du : List Int} (h : RN B N nn fb lb db cf cl cd w wr Fl lf du) :
    RN B N nn fb lb db cf cl cd w ((((wr.setCell ⟨w.heap.size, 0, none⟩ (.int .i64 (N : Int))).setCell ⟨w.heap.size, 1, none⟩ (.slice (some ⟨fb, 0, none⟩) nn cf)).setCell ⟨w.heap.size, 2, none⟩ (.slice (some ⟨lb, 0, none⟩) N cl)).setCell ⟨w.heap.size, 3, none⟩ (.slice (some ⟨db, 0, none⟩) N cd)) Fl lf du := by
  obtain ⟨l1, l2, l3⟩ := h.lt
  have ne : ∀ o, (⟨w.heap.size, o, none⟩ : Addr).block ≠ w.heap.size + 1 := fun o => by show w.heap.size ≠ _; omega
  exact ⟨h.fm.other4 _ (by omega) (by omega) (by omega) _ _ _ _, h.bx.put4, fun o => by simp only [World.frozen?_setCell]; exact h.bf o,
    ⟨cellOf (cellOf (cellOf (cellOf h.rx.c0 (ne _)) (ne _)) (ne _)) (ne _), cellOf (cellOf (cellOf (cellOf h.rx.c1 (ne _)) (ne _)) (ne _)) (ne _), cellOf (cellOf (cellOf (cellOf h.rx.c2 (ne _)) (ne _)) (ne _)) (ne _), cellOf (cellOf (cellOf (cellOf h.rx.c3 (ne _)) (ne _)) (ne _)) (ne _)⟩,
    fun o => by simp only [World.frozen?_setCell]; exact h.rf o, h.ex.put4 _ (Nat.le_refl _) _ _ _ _, h.lt⟩

theorem sent_R {N : Nat} {sup dem : Nat → Int} {F F' : Nat → Nat → Int} {lf du : List Int} {en bn : Nat} {m : Int} (h : PFlow N sup dem F (nth lf) (nth du)) (p : PushEnd N subO F en m bn F') (hl : lf.length = N) (hd : du.length = N) (he : en < N) (h1 : m ≤ nth lf bn) (h2 : m ≤ nth du en) :
    PFlow N sup dem F' (nth (lf.set bn (nth lf bn - m))) (nth (du.set en (nth du en - m))) ∧ sm N (nth (du.set en (nth du en - m))) = sm N (nth du) - m := by
  have e1 : nth (lf.set bn (nth lf bn - m)) = fun k => if k = bn then nth lf k - m else nth lf k := by
    rw [nth_setv _ _ _ (by rw [hl]; exact p.bn)]
    funext x
    by_cases e : x = bn
    · subst e; rw [upv_same, if_pos rfl]
    · rw [upv_off _ _ _ _ e, if_neg e]
  have e2 : nth (du.set en (nth du en - m)) = fun k => if k = en then nth du k - m else nth du k := by
    rw [nth_setv _ _ _ (by rw [hd]; exact he)]
    funext x
    by_cases e : x = en
    · subst e; rw [upv_same, if_pos rfl]
    · rw [upv_off _ _ _ _ e, if_neg e]
  rw [e1, e2]
  exact ⟨h.sent (op := subO) (fun _ _ q => q) p he h1 h2, PFlow.less he⟩

set_option maxHeartbeats 16000000 in
theorem l8Run_any (B N nn fb lb db cf cl cd : Nat) (Fl lf du : List Int) (w : World) (h1 : 1 ≤ N) (h16 : N ≤ 16) (hfm : FM B w N nn fb lb db cf cl cd Fl lf du) (sup dem : Nat → Int) (hpf : PFlow N sup dem (tab N Fl) (nth lf) (nth du)) (hsm : sm N sup = sm N dem)
    (hsb : ∀ b, b < N → sup b ≤ 10000000000000) (hdb : ∀ b, b < N → dem b ≤ 10000000000000) :
    Calls Try.prog 56 #[.agg #[.int .i64 (N : Int), .slice (some ⟨fb, 0, none⟩) nn cf, .slice (some ⟨lb, 0, none⟩) N cl, .slice (some ⟨db, 0, none⟩) N cd]] w (RunPost B N nn fb lb db cf cl cd sup dem w) := by
  obtain ⟨W, hW⟩ : ∃ W : World, W = (w.alloc (.cells #[.int .i64 (N : Int), .slice (some ⟨fb, 0, none⟩) nn cf, .slice (some ⟨lb, 0, none⟩) N cl, .slice (some ⟨db, 0, none⟩) N cd] 64)).alloc (.cells #[.int .i64 0, .slice none 0 0, .slice none 0 0, .slice none 0 0] 64) := ⟨_, rfl⟩
  have hrn : RN B N nn fb lb db cf cl cd w W Fl lf du := by
    obtain ⟨⟨-, l1⟩, ⟨-, l2⟩, -, l3⟩ := hfm.lts
    have e1 := belowAlloc w (.cells #[.int .i64 (N : Int), .slice (some ⟨fb, 0, none⟩) nn cf, .slice (some ⟨lb, 0, none⟩) N cl, .slice (some ⟨db, 0, none⟩) N cd] 64)
    have e2 := belowAlloc (w.alloc (.cells #[.int .i64 (N : Int), .slice (some ⟨fb, 0, none⟩) nn cf, .slice (some ⟨lb, 0, none⟩) N cl, .slice (some ⟨db, 0, none⟩) N cd] 64)) (.cells #[.int .i64 0, .slice none 0 0, .slice none 0 0, .slice none 0 0] 64)
    have b1 := Bx.made w (.int .i64 (N : Int)) (.slice (some ⟨fb, 0, none⟩) nn cf) (.slice (some ⟨lb, 0, none⟩) N cl) (.slice (some ⟨db, 0, none⟩) N cd) 64
    have b3 := Bx.made (w.alloc (.cells #[.int .i64 (N : Int), .slice (some ⟨fb, 0, none⟩) nn cf, .slice (some ⟨lb, 0, none⟩) N cl, .slice (some ⟨db, 0, none⟩) N cd] 64)) (.int .i64 0) (.slice none 0 0) (.slice none 0 0) (.slice none 0 0) 64
    have f1 := newFroz w #[.int .i64 (N : Int), .slice (some ⟨fb, 0, none⟩) nn cf, .slice (some ⟨lb, 0, none⟩) N cl, .slice (some ⟨db, 0, none⟩) N cd] 64
    have f3 := newFroz (w.alloc (.cells #[.int .i64 (N : Int), .slice (some ⟨fb, 0, none⟩) nn cf, .slice (some ⟨lb, 0, none⟩) N cl, .slice (some ⟨db, 0, none⟩) N cd] 64)) #[.int .i64 0, .slice none 0 0, .slice none 0 0, .slice none 0 0] 64
    simp only [allocSz] at b3 f3
    have ex := e1.thenB e2
    rw [hW]
    exact ⟨hfm.later ex, b1.later e2, fun o => frozKeep e2 (by simp) (f1 o), b3, f3, Ex3.ofBelow ex, ⟨l1, l2, l3⟩⟩
  have HRN := Lib.hid hrn
  have HW := Lib.hid hW
  have HPF := Lib.hid hpf
  have HSM := Lib.hid hsm
  have HSB := Lib.hid hsb
  have HDB := Lib.hid hdb
  clear hrn hW hpf hsm hsb hdb hfm
  go_enter Try.func56, Try.ntmps56
  go_wp2_with fail
  rw [← HW.out]
  clear HW
  go_loopg [4] ((sm N (nth du)).toNat + 1) (fun gm i wr => ∃ (Fl lf du : List Int), RN B N nn fb lb db cf cl cd w wr Fl lf du ∧ PFlow N sup dem (tab N Fl) (nth lf) (nth du) ∧ (sm N (nth du)).toNat ≤ gm)
  case atStart => exact ⟨Fl, lf, du, HRN.out, HPF.out, by omega⟩
  case round =>
    clear HRN HPF
    obtain ⟨Fl, lf, du, hrn, hpf, hgm⟩ := hrel
    have c0 := hrn.bx.c0
    have c1 := hrn.bx.c1
    have c2 := hrn.bx.c2
    have c3 := hrn.bx.c3
    have HRN := Lib.hid hrn
    have HPF := Lib.hid hpf
    have HGM := Lib.hid hgm
    clear hrn hpf hgm
    go_wp2_with fail
    refine (l8Reach_at N nn wr h1 h16 _ _ _ cf cl cd N Fl lf HRN.out.fm.of.reads HRN.out.fm.ol.reads HRN.out.fm.hn HRN.out.fm.fl HRN.out.fm.ll HPF.out.sub).mono ?_
    rintro e w1 ⟨G, T, pf, pt, rfl, hgl, htl, hog, hot, hrd, hb⟩
    have zg := hog.blockLt G rfl
    have zt := hot.blockLt T rfl
    have hrn2 := (HRN.out.later hb).later (belowAlloc w1 (.cells #[.slice (some ⟨G, 0, none⟩) N N, .slice (some ⟨T, 0, none⟩) N N] 97))
    have hG := hog.reads.below (belowAlloc w1 (.cells #[.slice (some ⟨G, 0, none⟩) N N, .slice (some ⟨T, 0, none⟩) N N] 97))
    have hT := hot.reads.below (belowAlloc w1 (.cells #[.slice (some ⟨G, 0, none⟩) N N, .slice (some ⟨T, 0, none⟩) N N] 97))
    have d0 := newCell0 w1 (.slice (some ⟨G, 0, none⟩) N N) (.slice (some ⟨T, 0, none⟩) N N) 97
    have d1 := newCell1 w1 (.slice (some ⟨G, 0, none⟩) N N) (.slice (some ⟨T, 0, none⟩) N N) 97
    have hzz := HRN.out.ex.size
    obtain ⟨l1, l2, l3⟩ := HRN.out.lt
    have HNG : Hid (G ≠ fb ∧ G ≠ lb ∧ G ≠ db) := Lib.hid (by omega)
    have HNT : Hid (T ≠ fb ∧ T ≠ lb ∧ T ≠ db) := Lib.hid (by omega)
    have HGL := Lib.hid hgl
    have HTL := Lib.hid htl
    have HRD := Lib.hid hrd
    have hP : ∃ P : Nat, P = w1.heap.size := ⟨_, rfl⟩
    obtain ⟨P, hP⟩ := hP
    rw [← hP] at d0 d1
    have HRN2 := Lib.hid hrn2
    have HG := Lib.hid hG
    have HT := Lib.hid hT
    clear hgl htl hog hot hrd hb zg zt hrn2 hG hT hzz l1 l2 l3 c0 c1 c2 c3 HRN
    go_wp2_with fail
    rw [← hP]
    clear hP
    generalize w1.alloc (.cells #[.slice (some ⟨G, 0, none⟩) N N, .slice (some ⟨T, 0, none⟩) N N] 97) = w2 at *
    have hrn := HRN2.out
    have c0 := hrn.bx.c0
    have c1 := hrn.bx.c1
    have c2 := hrn.bx.c2
    have c3 := hrn.bx.c3
    clear hrn
    go_loop [4] (fun i => ∃ k : Nat, k ≤ N ∧ i = .int .i64 k ∧ Hid (∀ x, x < k → nth pt x = 0 ∨ nth du x = 0)) (fun i => N - (intOf i).toNat)
    case atStart => exact ⟨0, Nat.zero_le _, rfl, Lib.hid (fun x hx => absurd hx (Nat.not_lt_zero _))⟩
    case round =>
      obtain ⟨k, hk, rfl, hall⟩ := hrel
      have hkz : (k : Int) ≤ (N : Int) := by omega
      have finish : True := trivial
      by_cases hkN : k < N
      · have hkz2 : (k : Int) < (N : Int) := by omega
        have t1 := rdAt HT.out k (by rw [HTL.out]; exact hkN)
        obtain ⟨q1, q2⟩ := HRN2.out.fm.od.cellAt HRN2.out.fm.dl k hkN
        obtain ⟨tg, tc, TT, hrc⟩ := HRD.out.rch
        have hPT0 := hrc.tb2 k hkN
        have hDU0 := HPF.out.dn k hkN
        obtain ⟨PT, hPT⟩ : ∃ x, x = nth pt k := ⟨_, rfl⟩
        obtain ⟨DU, hDU⟩ : ∃ x, x = nth du k := ⟨_, rfl⟩
        rw [← hPT] at t1 hPT0
        rw [← hDU] at q1 hDU0
        have HPT := Lib.hid hPT
        have HDU := Lib.hid hDU
        clear hPT hDU hrc
        rcases (show PT = 0 ∨ 0 < PT by omega) with rfl | hp
        · go_wp2
          go_round
          case rel => exact ⟨k + 1, by omega, by go_num, Lib.hid (fun x hx => by
            by_cases e : x = k
            · subst e; exact .inl HPT.out.symm
            · exact hall.out x (by omega))⟩
          case measure => simp [intOf]; omega
        · have ep : (PT == 0) = false := by simp; omega
          rcases (show DU = 0 ∨ 0 < DU by omega) with rfl | hd
          · go_wp2
            go_round
            case rel => exact ⟨k + 1, by omega, by go_num, Lib.hid (fun x hx => by
              by_cases e : x = k
              · subst e; exact .inr HDU.out.symm
              · exact hall.out x (by omega))⟩
            case measure => simp [intOf]; omega
          · have ed : (DU == 0) = false := by simp; omega
            have ek : ((k : Int) == (N : Int)) = false := by simp; omega
            have hDUb : nth du k ≤ 10000000000000 := by
              have a1 := HPF.out.col k hkN
              have a2 := HDB.out k hkN
              have a3 : 0 ≤ sm N (fun b => tab N Fl b k) := sm_nonneg fun b hb => HPF.out.nn b k hb hkN
              omega
            have hrow : ∀ b, b < N → sm N (fun a => tab N Fl b a) ≤ 10000000000000 ∧ nth lf b ≤ 10000000000000 := fun b hb => by
              have a1 := HPF.out.row b hb
              have a2 := HSB.out b hb
              have a3 : 0 ≤ sm N (fun a => tab N Fl b a) := sm_nonneg fun a ha => HPF.out.nn b a hb ha
              have a4 := HPF.out.ln b hb
              omega
            have hpu := l8Push_any B N nn fb lb db cf cl cd Fl lf du w2 h16 HRN2.out.fm G T pf pt HG.out HT.out HGL.out HTL.out HNG.out HNT.out HRD.out k hkN (by rw [← HPT.out]; exact hp) (by rw [← HDU.out]; exact hd) hDUb (fun b hb => (hrow b hb).2) HPF.out.nn (fun b hb => (hrow b hb).1)
            have HPU := Lib.hid hpu
            clear hpu hDUb hrow
            go_wp2_with fail
            refine HPU.out.mono ?_
            rintro e w3 ⟨m, bn, Fl2, rfl, hm1, hm2, hm3, hpe, hfm, hex⟩
            have hse := sent_R HPF.out hpe HRN2.out.fm.ll HRN2.out.fm.dl hkN hm2 hm3
            have hrn3 := HRN2.out.step hex hfm
            have b0 := hrn3.bx.c0
            have b1 := hrn3.bx.c1
            have b2 := hrn3.bx.c2
            have b3 := hrn3.bx.c3
            have f0 := hrn3.bf 0
            have f1 := hrn3.bf 1
            have f2 := hrn3.bf 2
            have f3 := hrn3.bf 3
            have HSE := Lib.hid hse
            have HRN3 := Lib.hid hrn3
            have HM1 := Lib.hid hm1
            have HM3 := Lib.hid hm3
            clear HPU hpe hfm hex hse hrn3 hm1 hm2 hm3 c0 c1 c2 c3 t1 q1 q2 d0 d1
            go_wp2_with fail
            go_roundg (sm N (nth (du.set k (nth du k - m)))).toNat
            case measure =>
              have e1 := HSE.out.2
              have e2 := HGM.out
              have e3 := HM1.out
              have e4 : nth du k ≤ sm N (nth du) := sm_pick (f := nth du) (fun a ha => HPF.out.dn a ha) k hkN
              have e5 := HM3.out
              omega
            case rel => exact ⟨Fl2, _, _, HRN3.out.reput, HSE.out.1, Nat.le_refl _⟩
      · have hkE : N = k := by omega
        subst hkE
        have ek : ((N : Int) == (N : Int)) = true := by simp
        have hre := run_end HPF.out HSM.out HRD.out hall.out
        have HRE := Lib.hid hre
        have r0 := HRN2.out.rx.c0
        have r1 := HRN2.out.rx.c1
        have r2 := HRN2.out.rx.c2
        have r3 := HRN2.out.rx.c3
        have f0 := HRN2.out.rf 0
        have f1 := HRN2.out.rf 1
        have f2 := HRN2.out.rf 2
        have f3 := HRN2.out.rf 3
        obtain ⟨l1, l2, l3⟩ := HRN2.out.lt
        clear hre d0 d1
        go_wp2
        refine bodyPost_ret (v := .agg #[.int .i64 (N : Int), .slice (some ⟨fb, 0, none⟩) nn cf, .slice (some ⟨lb, 0, none⟩) N cl, .slice (some ⟨db, 0, none⟩) N cd]) (by simp [results, Try.results56, go_sem, r0, r1, r2, r3, f0, f1, f2, f3]) rfl ⟨Fl, lf, du, rfl, ?_, HPF.out, HRE.out.1, HRE.out.2, ?_⟩
        · exact (((HRN2.out.fm.other ⟨w.heap.size + 1, 0, none⟩ (by show w.heap.size + 1 ≠ _; omega) (by show w.heap.size + 1 ≠ _; omega) (by show w.heap.size + 1 ≠ _; omega) _).other ⟨w.heap.size + 1, 1, none⟩ (by show w.heap.size + 1 ≠ _; omega) (by show w.heap.size + 1 ≠ _; omega) (by show w.heap.size + 1 ≠ _; omega) _).other ⟨w.heap.size + 1, 2, none⟩ (by show w.heap.size + 1 ≠ _; omega) (by show w.heap.size + 1 ≠ _; omega) (by show w.heap.size + 1 ≠ _; omega) _).other ⟨w.heap.size + 1, 3, none⟩ (by show w.heap.size + 1 ≠ _; omega) (by show w.heap.size + 1 ≠ _; omega) (by show w.heap.size + 1 ≠ _; omega) _
        · exact (((HRN2.out.ex.setCell ⟨w.heap.size + 1, 0, none⟩ (.inr (.inr (.inr (by show _ ≤ w.heap.size + 1; omega)))) _).setCell ⟨w.heap.size + 1, 1, none⟩ (.inr (.inr (.inr (by show _ ≤ w.heap.size + 1; omega)))) _).setCell ⟨w.heap.size + 1, 2, none⟩ (.inr (.inr (.inr (by show _ ≤ w.heap.size + 1; omega)))) _).setCell ⟨w.heap.size + 1, 3, none⟩ (.inr (.inr (.inr (by show _ ≤ w.heap.size + 1; omega)))) _

end Go.Proofs.Ytjmfjgoehicgcaa
