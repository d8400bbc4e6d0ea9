/- A way that goes round: the program. -/
import Derived.Test.YtjmfjgoehicgcaaMgIH
set_option linter.unusedVariables false
set_option linter.unusedSimpArgs false
namespace Go.Proofs.Ytjmfjgoehicgcaa
open Go.RowKit

/-- What has been shut so far. -/
structure Sv (N : Nat) (X Xi : Nat → Nat → Bool) (b0 a0 i j : Nat) (ps : List (Nat × Nat)) : Prop where
  p : ∀ b a, (b, a) ∈ ps → X b a = false ∧ b < N ∧ a < N
  off : ∀ b a, (b, a) ∉ ps → Xi b a = X b a
  on : ∀ b a, (b, a) ∈ ps → Xi b a = true
  d1 : ∀ a, a < i → Xi b0 a = true
  d2 : ∀ b, b < j → Xi b a0 = true
  inn : ∀ b a, (b, a) ∈ ps → b = b0 ∨ a = a0
  len : ps.length ≤ i + j

theorem Sv.start (N : Nat) (X : Nat → Nat → Bool) (b0 a0 : Nat) : Sv N X X b0 a0 0 0 [] :=
  ⟨fun b a h => by simp at h, fun _ _ _ => rfl, fun b a h => by simp at h, fun a h => absurd h (Nat.not_lt_zero _), fun a h => absurd h (Nat.not_lt_zero _), fun b a h => by simp at h, Nat.zero_le _⟩

section
variable {N : Nat} {X Xi : Nat → Nat → Bool} {b0 a0 i j : Nat} {ps : List (Nat × Nat)}
theorem Sv.was (h : Sv N X Xi b0 a0 i j ps) {b a : Nat} (hx : Xi b a = false) : (b, a) ∉ ps ∧ X b a = false := by
  have hn : (b, a) ∉ ps := fun hm => by rw [h.on b a hm] at hx; cases hx
  exact ⟨hn, by rw [← h.off b a hn]; exact hx⟩

theorem Sv.put (h : Sv N X Xi b0 a0 i j ps) {b a : Nat} (hb : b < N) (ha : a < N) (hin : b = b0 ∨ a = a0) (hx : Xi b a = false) :
    (∀ b' a', (b', a') ∈ ps ++ [(b, a)] → X b' a' = false ∧ b' < N ∧ a' < N) ∧ (∀ b' a', (b', a') ∉ ps ++ [(b, a)] → updX Xi b a true b' a' = X b' a') ∧ (∀ b' a', (b', a') ∈ ps ++ [(b, a)] → updX Xi b a true b' a' = true) ∧ (∀ b' a', Xi b' a' = true → updX Xi b a true b' a' = true) ∧ (∀ b' a', (b', a') ∈ ps ++ [(b, a)] → b' = b0 ∨ a' = a0) ∧ (ps ++ [(b, a)]).length = ps.length + 1 ∧ updX Xi b a true b a = true := by
  obtain ⟨hn, hX⟩ := h.was hx
  have mem : ∀ b' a', (b', a') ∈ ps ++ [(b, a)] ↔ (b', a') ∈ ps ∨ (b' = b ∧ a' = a) := fun b' a' => by simp
  refine ⟨fun b' a' hm => ?_, fun b' a' hm => ?_, fun b' a' hm => ?_, fun b' a' hm => ?_, fun b' a' hm => ?_, by simp, by simp [updX]⟩
  · rcases (mem b' a').1 hm with q | ⟨rfl, rfl⟩
    · exact h.p b' a' q
    · exact ⟨hX, hb, ha⟩
  · have q := fun z => hm ((mem b' a').2 z)
    unfold updX
    rw [if_neg (fun z => q (.inr z))]
    exact h.off b' a' (fun z => q (.inl z))
  · unfold updX
    rcases (mem b' a').1 hm with q | q
    · split
      · rfl
      · exact h.on b' a' q
    · rw [if_pos q]
  · unfold updX; split
    · rfl
    · exact hm
  · rcases (mem b' a').1 hm with q | ⟨rfl, rfl⟩
    · exact h.inn b' a' q
    · exact hin

theorem Sv.row (h : Sv N X Xi b0 a0 i j ps) (hb : b0 < N) (ha : i < N) : (Xi b0 i = true → Sv N X Xi b0 a0 (i + 1) j ps) ∧ (Xi b0 i = false → Sv N X (updX Xi b0 i true) b0 a0 (i + 1) j (ps ++ [(b0, i)])) := by
  refine ⟨fun hx => ⟨h.p, h.off, h.on, fun a q => ?_, h.d2, h.inn, by have := h.len; omega⟩, fun hx => ?_⟩
  · by_cases e : a = i
    · rw [e]; exact hx
    · exact h.d1 a (by omega)
  · obtain ⟨p1, p2, p3, p4, p5, p6, p7⟩ := h.put hb ha (.inl rfl) hx
    refine ⟨p1, p2, p3, fun a q => ?_, fun b q => p4 _ _ (h.d2 b q), p5, by have := h.len; omega⟩
    by_cases e : a = i
    · rw [e]; exact p7
    · exact p4 _ _ (h.d1 a (by omega))

theorem Sv.col (h : Sv N X Xi b0 a0 i j ps) (hb : j < N) (ha : a0 < N) : (Xi j a0 = true → Sv N X Xi b0 a0 i (j + 1) ps) ∧ (Xi j a0 = false → Sv N X (updX Xi j a0 true) b0 a0 i (j + 1) (ps ++ [(j, a0)])) := by
  refine ⟨fun hx => ⟨h.p, h.off, h.on, h.d1, fun b q => ?_, h.inn, by have := h.len; omega⟩, fun hx => ?_⟩
  · by_cases e : b = j
    · rw [e]; exact hx
    · exact h.d2 b (by omega)
  · obtain ⟨p1, p2, p3, p4, p5, p6, p7⟩ := h.put hb ha (.inr rfl) hx
    refine ⟨p1, p2, p3, fun a q => p4 _ _ (h.d1 a q), fun b q => ?_, p5, by have := h.len; omega⟩
    by_cases e : b = j
    · rw [e]; exact p7
    · exact p4 _ _ (h.d2 b (by omega))

theorem Sv.all (h : Sv N X Xi b0 a0 N N ps) : ∀ b a, b < N → a < N → Xi b a = shutX X b0 a0 b a := fun b a hb ha => by
  unfold shutX
  by_cases e : b = b0
  · subst e; rw [h.d1 a ha]; simp
  · by_cases e2 : a = a0
    · subst e2; rw [h.d2 b hb]; simp
    · rw [h.off b a (fun hm => by rcases h.inn b a hm with q | q; exact e q; exact e2 q)]; simp [e, e2]
end

/-- What is taken back so far. -/
structure Bk (Xi Xk : Nat → Nat → Bool) (ps : List (Nat × Nat)) (k : Nat) : Prop where
  y : ∀ b a, (b, a) ∈ ps.take k → Xk b a = false
  n : ∀ b a, (b, a) ∉ ps.take k → Xk b a = Xi b a
theorem Bk.start (Xi : Nat → Nat → Bool) (ps : List (Nat × Nat)) : Bk Xi Xi ps 0 := ⟨fun b a h => by simp at h, fun _ _ _ => rfl⟩
theorem Bk.next {Xi Xk : Nat → Nat → Bool} {ps : List (Nat × Nat)} {k b0 a0 : Nat} (h : Bk Xi Xk ps k) (hk : ps[k]? = some (b0, a0)) : Bk Xi (updX Xk b0 a0 false) ps (k + 1) := by
  have hl : k < ps.length := by
    rcases Nat.lt_or_ge k ps.length with q | q
    · exact q
    · rw [List.getElem?_eq_none q] at hk; cases hk
  have mem : ∀ b a, (b, a) ∈ ps.take (k + 1) ↔ (b, a) ∈ ps.take k ∨ (b = b0 ∧ a = a0) := fun b a => by
    rw [List.take_add_one, hk]; simp
  refine ⟨fun b a hm => ?_, fun b a hm => ?_⟩
  · unfold updX; split
    · rfl
    · rename_i q
      rcases (mem b a).1 hm with z | z
      · exact h.y b a z
      · exact absurd z q
  · have q := fun z => hm ((mem b a).2 z)
    unfold updX
    rw [if_neg (fun z => q (.inr z))]
    exact h.n b a (fun z => q (.inl z))
theorem Bk.all {N : Nat} {X Xi Xk : Nat → Nat → Bool} {b0 a0 i j : Nat} {ps : List (Nat × Nat)} (h : Bk Xi Xk ps ps.length) (s : Sv N X Xi b0 a0 i j ps) : ∀ b a, Xk b a = X b a := fun b a => by
  have e : ps.take ps.length = ps := List.take_length
  by_cases hm : (b, a) ∈ ps
  · rw [h.y b a (by rw [e]; exact hm), (s.p b a hm).1]
  · rw [h.n b a (by rw [e]; exact hm), s.off b a hm]

/-- What a way round gives. -/
def AroundPost (L : Lay) (F : Nat → Nat → Int) (X : Nat → Nat → Bool) (lf du : Nat → Int) (fr b0 a0 : Nat) (w : World) (e : Ending) (w' : World) : Prop :=
  MV L w' F X lf du ∧ Ex L w.heap.size w w' ∧ ((e = .returned (.tuple #[.slice none 0 0, .slice none 0 0, .int .i64 (-1)]) ∧ ∃ R S, NoWay L.N (opX (opB X) b0 a0) F fr (endX (opB X) F b0 a0) R S) ∨
    ∃ (G T n : Nat) (giv get : List Int) (tg tc : Nat → Nat), e = .returned (.tuple #[.slice (some ⟨G, 0, none⟩) L.N L.N, .slice (some ⟨T, 0, none⟩) L.N L.N, .int .i64 n]) ∧ giv.length = L.N ∧ get.length = L.N ∧ Reads w' (some ⟨G, 0, none⟩) giv ∧ Reads w' (some ⟨T, 0, none⟩) get ∧ w.heap.size ≤ G ∧ w.heap.size ≤ T ∧
      Found L.N (opX (opB X) b0 a0) F fr (endX (opB X) F b0 a0) (nth giv) (nth get) tg tc n)

def boolsV (E : Nat → Bool) (k : Nat) : List Value := (List.range k).map fun a => .bool (E a)
theorem boolsV_len (E : Nat → Bool) (k : Nat) : (boolsV E k).length = k := by simp [boolsV]
theorem boolsV_succ (E : Nat → Bool) (k : Nat) : boolsV E (k + 1) = boolsV E k ++ [.bool (E k)] := by simp [boolsV, List.range_succ]
theorem boolsV_at (E : Nat → Bool) (k a : Nat) (ha : a < k) : (boolsV E k)[a]? = some (.bool (E a)) := by simp [boolsV, ha]

/-- The memory while the ends are told. -/
structure PH (L : Lay) (VB SB OB : Nat) (E : Nat → Bool) (w wr : World) (vO : Value) (k : Nat) : Prop where
  cv : wr.cell? ⟨VB, 0, none⟩ = some (.pointer (some ⟨L.MB, 0, none⟩))
  cs : ∃ v, wr.cell? ⟨SB, 0, none⟩ = some v ∧ wr.ownsRow w.heap.size T2 2 v 0 [] ∧ v.ownBlock ≠ some VB ∧ v.ownBlock ≠ some SB ∧ v.ownBlock ≠ some OB ∧ (∀ g, vO.ownBlock = some g → v.ownBlock ≠ some g)
  fs : wr.frozen? ⟨SB, 0, none⟩ = false
  co : wr.cell? ⟨OB, 0, none⟩ = some vO
  fo : wr.frozen? ⟨OB, 0, none⟩ = false
  oo : wr.ownsRow w.heap.size 4 1 vO k (boolsV E k)
  ne : VB ≠ SB ∧ VB ≠ OB ∧ SB ≠ OB
  no : vO.ownBlock ≠ some VB ∧ vO.ownBlock ≠ some SB ∧ vO.ownBlock ≠ some OB
  bv : w.heap.size ≤ VB ∧ w.heap.size ≤ SB ∧ w.heap.size ≤ OB
  bl : Below w.heap.size w wr

theorem PH.later {L : Lay} {VB SB OB : Nat} {E : Nat → Bool} {w wr wr' : World} {vO : Value} {k : Nat} (h : PH L VB SB OB E w wr vO k) (hb : Below wr.heap.size wr wr') : PH L VB SB OB E w wr' vO k := by
  obtain ⟨v, v1, v2, v3⟩ := h.cs
  exact ⟨cellKeep hb h.cv, ⟨v, cellKeep hb v1, ownsLater v2 hb, v3⟩, frozKeep hb (World.block_lt_of_cell? wr _ v1) h.fs, cellKeep hb h.co, frozKeep hb (World.block_lt_of_cell? wr _ h.co) h.fo, ownsLater h.oo hb, h.ne, h.no, h.bv, h.bl.thenB hb⟩

theorem PH.put {L : Lay} {VB SB OB g cap : Nat} {E : Nat → Bool} {w wr w4 : World} {vO : Value} {k : Nat} (h : PH L VB SB OB E w wr vO k) (hg : wr.grownBy w4 vO.ownBlock) (ho : w4.ownsRow w.heap.size 4 1 (.slice (some ⟨g, 0, none⟩) (k + 1) cap) (k + 1) (boolsV E (k + 1))) (hl : vO.ownBlock = some g ∨ g = wr.heap.size) :
    PH L VB SB OB E w (w4.setCell ⟨OB, 0, none⟩ (.slice (some ⟨g, 0, none⟩) (k + 1) cap)) (.slice (some ⟨g, 0, none⟩) (k + 1) cap) (k + 1) := by
  obtain ⟨v, v1, v2, v3, v4, v5, v6⟩ := h.cs
  obtain ⟨n1, n2, n3⟩ := h.ne
  obtain ⟨o1, o2, o3⟩ := h.no
  obtain ⟨b1, b2, b3⟩ := h.bv
  have lV := World.block_lt_of_cell? wr _ h.cv
  have lS := World.block_lt_of_cell? wr _ v1
  have lO := World.block_lt_of_cell? wr _ h.co
  have hne : ∀ z, z < wr.heap.size → vO.ownBlock ≠ some z → g ≠ z := fun z hz h2 e => by
    rcases hl with hl | hl
    · exact h2 (by rw [hl, e])
    · omega
  have hvo : v.ownBlock = none ∨ v.ownBlock ≠ vO.ownBlock := by
    cases e : v.ownBlock with
    | none => exact .inl rfl
    | some z => exact .inr fun e2 => v6 z e2.symm e
  refine ⟨cellOf (farCell hg h.cv o1) n2.symm, ⟨v, cellOf (farCell hg v1 o2) n3.symm, ownsSet (v2.kept hg hvo) ⟨OB, 0, none⟩ v5 _, v3, v4, v5, fun z e => ?_⟩, by rw [World.frozen?_setCell]; exact farFroz hg lS h.fs o2, World.cell?_setCell_same _ _ _ (farCell hg h.co o3), by rw [World.frozen?_setCell]; exact farFroz hg lO h.fo o3,
    ownsSet ho ⟨OB, 0, none⟩ (fun e => hne OB lO o3 (by injection e)) _, h.ne, ⟨fun e => hne VB lV o1 (by injection e), fun e => hne SB lS o2 (by injection e), fun e => hne OB lO o3 (by injection e)⟩, h.bv, ?_⟩
  · injection e with e
    subst e
    intro e2
    rcases hl with hl | hl
    · exact v6 g hl e2
    · have := (World.ownsRow.lt v2 g e2).2; omega
  · exact (h.bl.trans (belowRow hg h.bl.size fun z e => (World.ownsRow.lt h.oo z e).1)).setCell (p := ⟨OB, 0, none⟩) b3 _

set_option maxHeartbeats 8000000 in
set_option maxRecDepth 100000 in
theorem wayAround_any (L : Lay) (w : World) (F : Nat → Nat → Int) (X : Nat → Nat → Bool) (lf du : Nat → Int) (h : MV L w F X lf du) (fr b0 a0 : Nat) (hf : fr < L.N) (hb0 : b0 < L.N) (ha0 : a0 < L.N) (pa pv' pb : Nat) (h1 : w.cell? ⟨pa, 0, none⟩ = some (.int .i64 a0)) (h2 : w.cell? ⟨pv', 0, none⟩ = some (.pointer (some ⟨L.MB, 0, none⟩))) (h3 : w.cell? ⟨pb, 0, none⟩ = some (.int .i64 b0)) :
    Calls Try.prog 119 #[.pointer (some ⟨L.MB, 0, none⟩), .int .i64 fr, .int .i64 b0, .int .i64 a0, .func (Fn.func 118) #[] #[.pointer (some ⟨pa, 0, none⟩), .pointer (some ⟨pv', 0, none⟩), .pointer (some ⟨pb, 0, none⟩)]] w (AroundPost L F X lf du fr b0 a0 w) := by
  obtain ⟨E, hE⟩ : ∃ E, E = endX (opB X) F b0 a0 := ⟨_, rfl⟩
  obtain ⟨W, hW⟩ : ∃ W : World, W = ((((w.alloc (.cells #[.pointer (some ⟨L.MB, 0, none⟩)] 68)).alloc (.cells #[] 121)).alloc (.cells #[.slice (some ⟨w.heap.size + 1, 0, none⟩) 0 0] 120)).alloc (.cells #[] 4)).alloc (.cells #[.slice (some ⟨w.heap.size + 1 + 1 + 1, 0, none⟩) 0 0] 90) := ⟨_, rfl⟩
  have hph : PH L w.heap.size (w.heap.size + 1 + 1) (w.heap.size + 1 + 1 + 1 + 1) E w W (.slice (some ⟨w.heap.size + 1 + 1 + 1, 0, none⟩) 0 0) 0 := by
    have e1 := belowAlloc w (.cells #[.pointer (some ⟨L.MB, 0, none⟩)] 68)
    have e2 := belowAlloc (w.alloc (.cells #[.pointer (some ⟨L.MB, 0, none⟩)] 68)) (.cells #[] 121)
    have e3 := belowAlloc ((w.alloc (.cells #[.pointer (some ⟨L.MB, 0, none⟩)] 68)).alloc (.cells #[] 121)) (.cells #[.slice (some ⟨w.heap.size + 1, 0, none⟩) 0 0] 120)
    have e4 := belowAlloc (((w.alloc (.cells #[.pointer (some ⟨L.MB, 0, none⟩)] 68)).alloc (.cells #[] 121)).alloc (.cells #[.slice (some ⟨w.heap.size + 1, 0, none⟩) 0 0] 120)) (.cells #[] 4)
    have e5 := belowAlloc ((((w.alloc (.cells #[.pointer (some ⟨L.MB, 0, none⟩)] 68)).alloc (.cells #[] 121)).alloc (.cells #[.slice (some ⟨w.heap.size + 1, 0, none⟩) 0 0] 120)).alloc (.cells #[] 4)) (.cells #[.slice (some ⟨w.heap.size + 1 + 1 + 1, 0, none⟩) 0 0] 90)
    have c1 := newCell w (.pointer (some ⟨L.MB, 0, none⟩)) 68
    have o2 := World.ownsRow_made (e := 121) (size := 2) (w.alloc (.cells #[.pointer (some ⟨L.MB, 0, none⟩)] 68)) #[] 0 (base := w.heap.size) (by simp) (Nat.zero_le _) rfl
    have c3 := newCell ((w.alloc (.cells #[.pointer (some ⟨L.MB, 0, none⟩)] 68)).alloc (.cells #[] 121)) (.slice (some ⟨w.heap.size + 1, 0, none⟩) 0 0) 120
    have f3 := newFroz ((w.alloc (.cells #[.pointer (some ⟨L.MB, 0, none⟩)] 68)).alloc (.cells #[] 121)) #[.slice (some ⟨w.heap.size + 1, 0, none⟩) 0 0] 120 0
    have o4 := World.ownsRow_made (e := 4) (size := 1) (((w.alloc (.cells #[.pointer (some ⟨L.MB, 0, none⟩)] 68)).alloc (.cells #[] 121)).alloc (.cells #[.slice (some ⟨w.heap.size + 1, 0, none⟩) 0 0] 120)) #[] 0 (base := w.heap.size) (by simp; omega) (Nat.zero_le _) rfl
    have c5 := newCell ((((w.alloc (.cells #[.pointer (some ⟨L.MB, 0, none⟩)] 68)).alloc (.cells #[] 121)).alloc (.cells #[.slice (some ⟨w.heap.size + 1, 0, none⟩) 0 0] 120)).alloc (.cells #[] 4)) (.slice (some ⟨w.heap.size + 1 + 1 + 1, 0, none⟩) 0 0) 90
    have f5 := newFroz ((((w.alloc (.cells #[.pointer (some ⟨L.MB, 0, none⟩)] 68)).alloc (.cells #[] 121)).alloc (.cells #[.slice (some ⟨w.heap.size + 1, 0, none⟩) 0 0] 120)).alloc (.cells #[] 4)) #[.slice (some ⟨w.heap.size + 1 + 1 + 1, 0, none⟩) 0 0] 90 0
    simp only [allocSz] at o2 c3 f3 o4 c5 f5
    have e45 := e4.thenB e5
    rw [hW]
    refine ⟨cellKeep (((e2.thenB e3).thenB e4).thenB e5) c1, ⟨.slice (some ⟨w.heap.size + 1, 0, none⟩) 0 0, cellKeep e45 c3, ownsLater ((ownsLater o2 e3)) e45, fun e => ?_, fun e => ?_, fun e => ?_, fun g e => ?_⟩, frozKeep e45 (by simp) f3, c5, f5, ownsLater o4 e5, ⟨by omega, by omega, by omega⟩, ⟨fun e => ?_, fun e => ?_, fun e => ?_⟩, ⟨Nat.le_refl _, by omega, by omega⟩, (((e1.thenB e2).thenB e3).thenB e4).thenB e5⟩
    · have z : w.heap.size + 1 = w.heap.size := by injection e
      omega
    · have z : w.heap.size + 1 = w.heap.size + 1 + 1 := by injection e
      omega
    · have z : w.heap.size + 1 = w.heap.size + 1 + 1 + 1 + 1 := by injection e
      omega
    · have z : w.heap.size + 1 + 1 + 1 = g := by injection e
      intro e2
      have z2 : w.heap.size + 1 = g := by injection e2
      omega
    · have z : w.heap.size + 1 + 1 + 1 = w.heap.size := by injection e
      omega
    · have z : w.heap.size + 1 + 1 + 1 = w.heap.size + 1 + 1 := by injection e
      omega
    · have z : w.heap.size + 1 + 1 + 1 = w.heap.size + 1 + 1 + 1 + 1 := by injection e
      omega
  have n16 := h.ok.n16
  have HM := Lib.hid h
  have HPH := Lib.hid hph
  have HW := Lib.hid hW
  have HE := Lib.hid hE
  have H123 := Lib.hid (And.intro h1 (And.intro h2 h3))
  have c0 := (h.later hph.bl).c0
  have n1 := h.ok.n1
  clear h hph hW h1 h2 h3 hE
  go_enter Try.func119, Try.ntmps119
  go_upto_region 4 with fail
  rw [← HW.out]
  clear HW
  obtain ⟨vO, hvO⟩ : ∃ v, v = Value.slice (some ⟨w.heap.size + 1 + 1 + 1, 0, none⟩) 0 0 := ⟨_, rfl⟩
  rw [← hvO] at HPH
  clear hvO
  obtain ⟨SB, hSB⟩ : ∃ x, x = w.heap.size + 1 + 1 := ⟨_, rfl⟩
  obtain ⟨OB, hOB⟩ : ∃ x, x = w.heap.size + 1 + 1 + 1 + 1 := ⟨_, rfl⟩
  have cv := HPH.out.cv
  go_wp2_with fail
  rw [← hOB, ← hSB] at HPH
  rw [← hOB, ← hSB]
  clear hSB hOB c0 cv
  go_loopw [31] (fun i wr => ∃ (k : Nat) (vO : Value), k ≤ L.N ∧ i = .int .i64 k ∧ PH L w.heap.size SB OB E w wr vO k) (fun i _ => L.N - (intOf i).toNat)
  case atStart => exact ⟨0, vO, Nat.zero_le _, rfl, HPH.out⟩
  case round =>
    clear HPH
    obtain ⟨k, vO, hk, rfl, hph⟩ := hrel
    have cv := hph.cv
    have co := hph.co
    have fo := hph.fo
    have hM := HM.out.later hph.bl
    by_cases hkN : k < L.N
    · have hkz : (k : Int) < (L.N : Int) := by omega
      have hcl := raiseEnd_any L wr.drew F X lf du hM.drew ⟨pa, 0, none⟩ ⟨pv', 0, none⟩ ⟨pb, 0, none⟩ b0 a0 hb0 ha0 (cellDrew (cellKeep hph.bl H123.out.1)) (cellDrew (cellKeep hph.bl H123.out.2.1)) (cellDrew (cellKeep hph.bl H123.out.2.2)) k hkN
      rw [← HE.out] at hcl
      have HCL := Lib.hid hcl
      have HPH := Lib.hid hph
      have hOl := World.block_lt_of_cell? wr _ co
      obtain ⟨V, hV⟩ : ∃ V, V = E k := ⟨_, rfl⟩
      rw [← hV] at HCL
      have HBV : Hid (boolsV E (k + 1) = boolsV E k ++ [.bool V]) := Lib.hid (by rw [boolsV_succ, hV])
      have hzw : Hid (w.heap.size ≤ wr.heap.size) := Lib.hid hph.bl.size
      clear hcl hph hM hV
      go_wp2_with fail
      go_region_law
        (first
          | (refine step_append_v _ (by rfl) _ _ 90 4 (by rfl) (.bool false) 1 Try.underlying90 Try.infoB rfl (by decide) w.heap.size _ (boolsV E k) k (boolsV_len _ _) (by rfl) ((HPH.out.later (belowAlloc _ _)).oo) ⟨w3.heap.size, 0, none⟩ 1 (.bool V) (by rfl) (newCell _ _ _) rfl (by omega) (by have := hzw.out; simp; omega) ?_; intro g cap w4 ow hg hl hlt; (have bA := belowAlloc w3 (.cells #[.bool V] 4)); (have HP2 := Lib.hid (HPH.out.later bA)); (have u1 := farCell hg (cellKeep bA co) HP2.out.no.2.2); (have u2 := farFroz hg (Nat.lt_of_lt_of_le hOl bA.size) (frozKeep bA hOl fo) HP2.out.no.2.2))
          | (go_simp; go_at_call 118; (with_reducible refine HCL.out.mono ?_); rintro e w3 ⟨rfl, b3⟩; (replace b3 := undrew b3); (replace HPH := Lib.hid (HPH.out.later b3)); (replace co := cellKeep b3 co); (replace fo := frozKeep b3 hOl fo); (have hs3 := b3.size); (replace hOl := Nat.lt_of_lt_of_le hOl hs3); (replace hzw := Lib.hid (Nat.le_trans hzw.out hs3)); clear b3 hs3))
      all_goals
        have HQ := Lib.hid (HP2.out.put hg (by rw [HBV.out]; exact ow) hl)
        clear hg ow hl hlt u1 u2 co fo cv HP2
        go_wp2
        exact ⟨⟨k + 1, _, by omega, by go_num, HQ.out⟩, by simp [intOf]; omega⟩
    · have hkE : k = L.N := by omega
      subst hkE
      obtain ⟨og, oc, q1, q2, q3⟩ := World.ownsRow.form hph.oo (by omega)
      subst q1
      obtain ⟨v, v1, v2, v3, v4, v5, v6⟩ := hph.cs
      have hoo := hph.oo
      obtain ⟨nn1, nn2, nn3⟩ := hph.no
      have hsh : SH L w.heap.size SB OB og oc E w wr F X lf du [] := ⟨hM, HM.out.lts, hph.cv, ⟨v, v1, v2, v3, v4, v5, v6 og rfl⟩, hph.fs, hph.co, fun a ha => by rw [World.ownsRow.cellAt hoo a (by omega), boolsV_at _ _ _ ha], Nat.le_refl _, hph.bv.2.1, hph.bv.2.2, q2, hph.ne.1.symm, hph.ne.2.2, (fun e => nn2 (by rw [e]; rfl)), Ex.ofBelow hph.bl⟩
      have HSH := Lib.hid hsh
      have c0 := hM.c0
      clear hsh v1 v2 v3 v4 v5 v6 nn1 nn2 nn3 hoo q2 q3 hph hM co fo
      go_wp2_with fail
      clear c0 cv
      go_loopw [46] (fun i wr => ∃ (k : Nat) (Xi : Nat → Nat → Bool) (ps : List (Nat × Nat)), k ≤ L.N ∧ i = .int .i64 k ∧ SH L w.heap.size SB OB og oc E w wr F Xi lf du ps ∧ Sv L.N X Xi b0 a0 k k ps) (fun i _ => L.N - (intOf i).toNat)
      case atStart => exact ⟨0, X, [], Nat.zero_le _, rfl, HSH.out, Sv.start _ _ _ _⟩
      case round =>
        clear HSH
        obtain ⟨k, Xi, ps, hk, rfl, hsh, hsv⟩ := hrel
        by_cases hkN : k < L.N
        · have hkz : (k : Int) < (L.N : Int) := by omega
          have HS1 := Lib.hid (shut_any L w.heap.size SB OB og oc E w wr F Xi lf du ps hsh (by have := hsv.len; omega) b0 k hb0 hkN)
          have HSV := Lib.hid hsv
          have HSH := Lib.hid hsh
          clear hsh hsv
          go_wp2_with fail
          refine HS1.out.mono ?_
          rintro e w2 ⟨rfl, hcase⟩
          have hnx : ∃ (Xj : Nat → Nat → Bool) (qs : List (Nat × Nat)), SH L w.heap.size SB OB og oc E w w2 F Xj lf du qs ∧ Sv L.N X Xj b0 a0 (k + 1) k qs := by
            rcases hcase with ⟨hx, hw⟩ | ⟨hx, hs⟩
            · rw [hw]; exact ⟨_, _, HSH.out, (HSV.out.row hb0 hkN).1 hx⟩
            · exact ⟨_, _, hs, (HSV.out.row hb0 hkN).2 hx⟩
          obtain ⟨Xj, qs, hsh, hsv⟩ := hnx
          have HS2 := Lib.hid (shut_any L w.heap.size SB OB og oc E w w2 F Xj lf du qs hsh (by have := hsv.len; omega) k a0 hkN ha0)
          clear HSV HSH HS1 hcase
          have HSV := Lib.hid hsv
          have HSH := Lib.hid hsh
          clear hsh hsv
          go_wp2_with fail
          refine HS2.out.mono ?_
          rintro e w3 ⟨rfl, hcase⟩
          have hnx : ∃ (Xj : Nat → Nat → Bool) (qs : List (Nat × Nat)), SH L w.heap.size SB OB og oc E w w3 F Xj lf du qs ∧ Sv L.N X Xj b0 a0 (k + 1) (k + 1) qs := by
            rcases hcase with ⟨hx, hw⟩ | ⟨hx, hs⟩
            · rw [hw]; exact ⟨_, _, HSH.out, (HSV.out.col hkN ha0).1 hx⟩
            · exact ⟨_, _, hs, (HSV.out.col hkN ha0).2 hx⟩
          have HNX := Lib.hid hnx
          clear hnx hcase HSV HSH HS2
          go_wp2
          obtain ⟨Xk, rs, hsh, hsv⟩ := HNX.out
          exact ⟨⟨k + 1, Xk, rs, by omega, by go_num, hsh, hsv⟩, by simp [intOf]; omega⟩
        · have hkE : k = L.N := by omega
          rw [hkE] at hsv
          have hM2 := hsh.mv.congX hsv.all
          have hway := way_any L wr F (shutX X b0 a0) lf du hM2 fr hf 137 (fun _ _ => rfl) ⟨OB, 0, none⟩ E (Lib.hid fun a w' ha hb => openAt_any w' ⟨OB, 0, none⟩ og L.N oc E (cellKeep hb hsh.co) (fun a ha => cellKeep hb (hsh.go a ha)) a ha)
          rw [opB_shut] at hway
          have HWAY := Lib.hid hway
          have HSV := Lib.hid hsv
          have HSH := Lib.hid hsh
          have cv := hsh.cv
          have hwz : Hid (w.heap.size ≤ wr.heap.size) := Lib.hid hsh.ex.size
          clear hway hM2 hsh hsv
          go_wp2_with fail
          refine HWAY.out.mono ?_
          rintro e w5 ⟨b5, hcases⟩
          have hr : ∃ v1 v2 v3, e = .returned (.tuple #[v1, v2, v3]) ∧ ((v1 = .slice none 0 0 ∧ v2 = .slice none 0 0 ∧ v3 = .int .i64 (-1) ∧ ∃ R S, NoWay L.N (opX (opB X) b0 a0) F fr E R S) ∨ ∃ (G T n : Nat) (giv get : List Int) (tg tc : Nat → Nat), v1 = .slice (some ⟨G, 0, none⟩) L.N L.N ∧ v2 = .slice (some ⟨T, 0, none⟩) L.N L.N ∧ v3 = .int .i64 n ∧ giv.length = L.N ∧ get.length = L.N ∧ Reads w5 (some ⟨G, 0, none⟩) giv ∧ Reads w5 (some ⟨T, 0, none⟩) get ∧ w.heap.size ≤ G ∧ w.heap.size ≤ T ∧ Found L.N (opX (opB X) b0 a0) F fr E (nth giv) (nth get) tg tc n) := by
            rcases hcases with ⟨he, hno⟩ | ⟨G, T, n, giv, get, tg, tc, he, l1, l2, o1, o2, hfo⟩
            · exact ⟨_, _, _, he, .inl ⟨rfl, rfl, rfl, hno⟩⟩
            · exact ⟨_, _, _, he, .inr ⟨G, T, n, giv, get, tg, tc, rfl, rfl, rfl, l1, l2, o1.reads, o2.reads, Nat.le_trans hwz.out (o1.blockLt G rfl).1, Nat.le_trans hwz.out (o2.blockLt T rfl).1, hfo⟩⟩
          obtain ⟨r1, r2, r3, rfl, hres⟩ := hr
          have HRES := Lib.hid hres
          have hsh5 := HSH.out.later b5
          obtain ⟨v, v1, v2, v3⟩ := hsh5.vs
          have hvs : ∃ ad cap, v = .slice ad ps.length cap ∧ (0 < ps.length → ∃ g, ad = some ⟨g, 0, none⟩) := by
            rcases v2.2 with ⟨e1, e2⟩ | ⟨g, cap, cur, e1, _⟩
            · exact ⟨none, 0, by rw [e1, e2], fun h => by omega⟩
            · exact ⟨some ⟨g, 0, none⟩, cap, e1, fun _ => ⟨g, rfl⟩⟩
          obtain ⟨ad, cap, rfl, had⟩ := hvs
          have hst : MV L w5 F Xi lf du ∧ w5.cell? ⟨w.heap.size, 0, none⟩ = some (.pointer (some ⟨L.MB, 0, none⟩)) ∧ w5.ownsRow w.heap.size T2 2 (.slice ad ps.length cap) ps.length (pv ps) ∧ Ex L w.heap.size w w5 ∧ Ex L w5.heap.size w5 w5 ∧ Bk Xi Xi ps 0 :=
            ⟨hsh5.mv, hsh5.cv, v2, hsh5.ex, Ex.refl _ _ _, Bk.start _ _⟩
          have HST := Lib.hid hst
          have HLT := Lib.hid hsh5.lt
          have HAD := Lib.hid had
          replace cv := hsh5.cv
          have hpl : ps.length ≤ 600 := by have := HSV.out.len; omega
          clear hres hsh5 v2 v3 had hst hcases HWAY HSH b5
          go_wp2_with fail
          clear v1 cv
          go_loopw [68] (fun i wr => ∃ (k : Nat) (Xk : Nat → Nat → Bool), k ≤ ps.length ∧ i = .int .i64 k ∧ MV L wr F Xk lf du ∧ wr.cell? ⟨w.heap.size, 0, none⟩ = some (.pointer (some ⟨L.MB, 0, none⟩)) ∧ wr.ownsRow w.heap.size T2 2 (.slice ad ps.length cap) ps.length (pv ps) ∧ Ex L w.heap.size w wr ∧ Ex L w5.heap.size w5 wr ∧ Bk Xi Xk ps k) (fun i _ => ps.length - (intOf i).toNat)
          case atStart => exact ⟨0, Xi, Nat.zero_le _, rfl, HST.out⟩
          case round =>
            clear HST
            obtain ⟨k, Xk, hk, rfl, hM, cv, hv, hex, hex5, hbk⟩ := hrel
            by_cases hkp : k < ps.length
            · obtain ⟨g, hg⟩ := HAD.out (by omega)
              obtain ⟨⟨b, a⟩, hpk⟩ : ∃ q, ps[k]? = some q := ⟨ps[k], List.getElem?_eq_getElem hkp⟩
              obtain ⟨pp1, pp2, pp3⟩ := HSV.out.p b a (List.mem_of_getElem? hpk)
              obtain ⟨pc1, pc2⟩ := pv_at ps k (b, a) hpk
              rw [hg] at hv
              have d1 : wr.cell? ⟨g, k * 2, none⟩ = some (.int .i64 b) := by rw [World.ownsRow.cellAt hv (k * 2) (by omega), Nat.mul_comm]; exact pc1
              have d2 : wr.cell? ⟨g, k * 2 + 1, none⟩ = some (.int .i64 a) := by rw [World.ownsRow.cellAt hv (k * 2 + 1) (by omega), Nat.mul_comm]; exact pc2
              have hkz : (k : Int) < (ps.length : Int) := by omega
              have bA := belowAlloc wr (.cells #[.int .i64 b, .int .i64 a] 121)
              have hMA := hM.later bA
              have hbz : (b : Int) < (L.N : Int) := by omega
              have haz : (a : Int) < (L.N : Int) := by omega
              have e1 := cellKeep bA cv
              have e2 := hMA.c1
              have e3 := hMA.fx b pp2
              have e4 := hMA.xr b a pp2 pp3
              have e5 := hMA.zx b a pp2
              have e6 := newCell0 wr (.int .i64 (b : Int)) (.int .i64 (a : Int)) 121
              have e7 := newCell1 wr (.int .i64 (b : Int)) (.int .i64 (a : Int)) 121
              have hxw : L.x b < w.heap.size := HLT.out.z b pp2
              have hws := hex.size
              have HN := Lib.hid (And.intro (hMA.setX b a pp2 pp3 false).drew (And.intro (cellDrew (cellOf (u := .bool false) e1 (show (⟨L.x b, a, none⟩ : Addr).block ≠ w.heap.size by show L.x b ≠ _; omega)))
                (And.intro (ownsSet (ownsLater hv bA) ⟨L.x b, a, none⟩ (fun e => by have := (World.ownsRow.lt hv (L.x b) e).1; omega) (.bool false))
                (And.intro ((hex.trans (Ex.ofBelow (bA.mono hws))).setCell ⟨L.x b, a, none⟩ (.inr (hMA.ok.mx pp2)) (.bool false)).drew (And.intro ((hex5.trans (Ex.ofBelow (bA.mono hex5.size))).setCell ⟨L.x b, a, none⟩ (.inr (hMA.ok.mx pp2)) (.bool false)).drew (hbk.next hpk))))))
              have HG := Lib.hid hg
              clear hM cv hv hex hex5 hbk bA hMA hpk pc1 pc2 pp1 hxw hws
              subst hg
              go_wp2_with fail
              go_region
              all_goals clear d1 d2 e1 e2 e3 e4 e5 e6 e7
              all_goals go_wp2
              all_goals
                obtain ⟨y1, y2, y3, y4, y5, y6⟩ := HN.out
                exact ⟨⟨k + 1, _, by omega, by go_num, y1, y2, y3, y4, y5, y6⟩, by simp [intOf]; omega⟩
            · have hkE : k = ps.length := by omega
              rw [hkE] at hbk
              have HX2 := Lib.hid (hM.congX fun b a _ _ => hbk.all HSV.out b a)
              have HEX := Lib.hid hex
              have HE5 := Lib.hid hex5
              clear hM cv hv hbk hex hex5
              go_wp2
              go_ret3
              refine ⟨HX2.out, HEX.out, ?_⟩
              rw [← HE.out]
              rcases HRES.out with ⟨rfl, rfl, rfl, hno⟩ | ⟨G, T, n, giv, get, tg, tc, rfl, rfl, rfl, l1, l2, o1, o2, gw, tw, hfo⟩
              · exact .inl ⟨rfl, hno⟩
              · exact .inr ⟨G, T, n, giv, get, tg, tc, rfl, l1, l2, o1.ex HE5.out (fun x e => by cases e; exact fun hz => by have : G < w.heap.size := HLT.out.mut hz; omega), o2.ex HE5.out (fun x e => by cases e; exact fun hz => by have : T < w.heap.size := HLT.out.mut hz; omega), gw, tw, hfo⟩

end Go.Proofs.Ytjmfjgoehicgcaa

/- A gift is made as great as it can be: the program. -/
set_option linter.unusedVariables false
set_option linter.unusedSimpArgs false
namespace Go.Proofs.Ytjmfjgoehicgcaa
open Go.RowKit

/-- What 'raise' makes of a table. -/
def RaisePost (L : Lay) (X : Nat → Nat → Bool) (lf du sup dem : Nat → Int) (F : Nat → Nat → Int) (b0 a0 : Nat) (w : World) (e : Ending) (w' : World) : Prop :=
  e = .returned (.tuple #[]) ∧ ∃ F' : Nat → Nat → Int, MV L w' F' X lf du ∧ Ex L w.heap.size w w' ∧ Flow L.N sup dem F' ∧ (∀ x y, x < L.N → y < L.N → opB X x y = false → F' x y = F x y) ∧
    ∀ G, Flow L.N sup dem G → (∀ x y, x < L.N → y < L.N → opB X x y = false → G x y = F' x y) → G b0 a0 ≤ F' b0 a0

theorem sub_op {X : Nat → Nat → Bool} {b a : Nat} (h : opB X b a = true) : subB a b = true := by
  simp only [opB, Bool.and_eq_true] at h; exact h.1
theorem op_sub {X : Nat → Nat → Bool} {b a : Nat} (h : subB a b = false) : opB X b a = false := by simp [opB, h]
theorem opX_of {op : Nat → Nat → Bool} {b0 a0 b a : Nat} (h : op b a = false) : opX op b0 a0 b a = false := by simp [opX, h]
theorem opX_col {op : Nat → Nat → Bool} {b0 a0 b : Nat} : opX op b0 a0 b a0 = false := by simp [opX]
theorem opX_row {op : Nat → Nat → Bool} {b0 a0 a : Nat} : opX op b0 a0 b0 a = false := by simp [opX]

theorem Flow.le {N : Nat} {sup dem : Nat → Int} {F : Nat → Nat → Int} (h : Flow N sup dem F) {b a : Nat} (hb : b < N) (ha : a < N) : 0 ≤ F b a ∧ F b a ≤ sup b := by
  have := sm_pick (f := fun y => F b y) (fun k hk => h.nn b k hb hk) a ha
  rw [h.row b hb] at this
  exact ⟨h.nn b a hb ha, this⟩

/-- Behind a push that goes round. -/
theorem round_done {N : Nat} {sup dem : Nat → Int} {F F' : Nat → Nat → Int} {X : Nat → Nat → Bool} {b0 a0 g e : Nat} {m : Int} (h : Flow N sup dem F) (hb0 : b0 < N) (ha0 : a0 < N) (hgN : g < N) (he : e < N) (ho : opB X b0 a0 = true) (hg : g ≠ b0) (hgo : opB X g a0 = true) (hea : e ≠ a0) (heo : opB X b0 e = true)
    (p : PushEnd N (opX (opB X) b0 a0) F e m g F') (hm : 1 ≤ m) (m1 : m ≤ F g a0) (m2 : m ≤ F b0 e) :
    F' g a0 = F g a0 ∧ upd F' g a0 (F g a0 - m) b0 e = F b0 e ∧ upd (upd F' g a0 (F g a0 - m)) b0 e (F b0 e - m) b0 a0 = F b0 a0 ∧ Flow N sup dem (upd (upd (upd F' g a0 (F g a0 - m)) b0 e (F b0 e - m)) b0 a0 (F b0 a0 + m)) ∧
      (∀ x y, x < N → y < N → opB X x y = false → upd (upd (upd F' g a0 (F g a0 - m)) b0 e (F b0 e - m)) b0 a0 (F b0 a0 + m) x y = F x y) ∧ upd (upd (upd F' g a0 (F g a0 - m)) b0 e (F b0 e - m)) b0 a0 (F b0 a0 + m) b0 a0 = F b0 a0 + m := by
  obtain ⟨q1, q2, q3, q4⟩ := h.raised (op := opX (opB X) b0 a0) (fun b a hs => opX_of (op_sub hs)) p b0 a0 hb0 ha0 he hg hea opX_col opX_row opX_row (sub_op hgo) (sub_op heo) (sub_op ho) (by omega) m1 m2
  rw [q1, q2, q3] at q4
  refine ⟨q1, ?_, ?_, q4, fun x y hx hy hxy => ?_, upd_same _ _ _ _⟩
  · rw [upd_off _ _ _ _ _ _ (fun z => hg z.1.symm), q2]
  · rw [upd_off _ _ _ _ _ _ (fun z => hea z.2.symm), upd_off _ _ _ _ _ _ (fun z => hg z.1.symm), q3]
  · have n1 : ¬ (x = b0 ∧ y = a0) := fun z => by rw [z.1, z.2, ho] at hxy; cases hxy
    have n2 : ¬ (x = b0 ∧ y = e) := fun z => by rw [z.1, z.2, heo] at hxy; cases hxy
    have n3 : ¬ (x = g ∧ y = a0) := fun z => by rw [z.1, z.2, hgo] at hxy; cases hxy
    rw [upd_off _ _ _ _ _ _ n1, upd_off _ _ _ _ _ _ n2, upd_off _ _ _ _ _ _ n3]
    exact p.off x y hx hy (opX_of hxy)

/-- The memory of raising. -/
structure RS (L : Lay) (X : Nat → Nat → Bool) (lf du sup dem : Nat → Int) (F0 : Nat → Nat → Int) (b0 a0 : Nat) (w wr : World) (F : Nat → Nat → Int) : Prop where
  mv : MV L wr F X lf du
  lt : L.Lt w.heap.size
  fl : Flow L.N sup dem F
  off : ∀ x y, x < L.N → y < L.N → opB X x y = false → F x y = F0 x y
  ex : Ex L w.heap.size w wr
  cv : wr.cell? ⟨w.heap.size, 0, none⟩ = some (.pointer (some ⟨L.MB, 0, none⟩))
  cb : wr.cell? ⟨w.heap.size + 1, 0, none⟩ = some (.int .i64 b0)
  ca : wr.cell? ⟨w.heap.size + 1 + 1, 0, none⟩ = some (.int .i64 a0)

section
variable {L : Lay} {X : Nat → Nat → Bool} {lf du sup dem : Nat → Int} {F0 : Nat → Nat → Int} {b0 a0 : Nat} {w wr wr' : World} {F F' : Nat → Nat → Int}
theorem RS.step (h : RS L X lf du sup dem F0 b0 a0 w wr F) (hm : MV L wr' F' X lf du) (hex : Ex L wr.heap.size wr wr') (hf : Flow L.N sup dem F') (ho : ∀ x y, x < L.N → y < L.N → opB X x y = false → F' x y = F0 x y) : RS L X lf du sup dem F0 b0 a0 w wr' F' := by
  have nm : ∀ z, w.heap.size ≤ z → ¬ L.Mut z := fun z hz hm => by have := h.lt.mut hm; omega
  exact ⟨hm, h.lt, hf, ho, h.ex.trans (hex.mono h.ex.size), hex.cell h.cv (nm _ (Nat.le_refl _)), hex.cell h.cb (nm _ (by omega)), hex.cell h.ca (nm _ (by omega))⟩
theorem RS.same (h : RS L X lf du sup dem F0 b0 a0 w wr F) (hm : MV L wr' F X lf du) (hex : Ex L wr.heap.size wr wr') : RS L X lf du sup dem F0 b0 a0 w wr' F := h.step hm hex h.fl h.off
theorem RS.drewN (h : RS L X lf du sup dem F0 b0 a0 w wr F) (n : Nat) : RS L X lf du sup dem F0 b0 a0 w (wr.drewN n) F := h.same (h.mv.drewN n) ((Ex.refl _ _ _).drewN n)
end

theorem hE6T {L : Lay} {a b d : World} {z : Nat} (h : Ex L a.heap.size a b) (k : Ex L (b.drewN z).heap.size (b.drewN z) d) : Ex L a.heap.size a d := (h.drewN z).trans (k.mono h.size)

set_option maxHeartbeats 8000000 in
set_option maxRecDepth 100000 in
theorem raise_any (L : Lay) (w : World) (F0 : Nat → Nat → Int) (X : Nat → Nat → Bool) (lf du sup dem : Nat → Int) (h : MV L w F0 X lf du) (hfl : Flow L.N sup dem F0) (hsb : ∀ b, b < L.N → sup b ≤ 1000000000000) (b0 a0 : Nat) (hb0 : b0 < L.N) (ha0 : a0 < L.N) (ho : opB X b0 a0 = true) :
    Calls Try.prog 88 #[.pointer (some ⟨L.MB, 0, none⟩), .int .i64 b0, .int .i64 a0] w (RaisePost L X lf du sup dem F0 b0 a0 w) := by
  obtain ⟨W, hW⟩ : ∃ W : World, W = ((w.alloc (.cells #[.pointer (some ⟨L.MB, 0, none⟩)] 68)).alloc (.cells #[.int .i64 (b0 : Int)] 3)).alloc (.cells #[.int .i64 (a0 : Int)] 3) := ⟨_, rfl⟩
  have hrs : RS L X lf du sup dem F0 b0 a0 w W F0 := by
    have e1 := belowAlloc w (.cells #[.pointer (some ⟨L.MB, 0, none⟩)] 68)
    have e2 := belowAlloc (w.alloc (.cells #[.pointer (some ⟨L.MB, 0, none⟩)] 68)) (.cells #[.int .i64 (b0 : Int)] 3)
    have e3 := belowAlloc ((w.alloc (.cells #[.pointer (some ⟨L.MB, 0, none⟩)] 68)).alloc (.cells #[.int .i64 (b0 : Int)] 3)) (.cells #[.int .i64 (a0 : Int)] 3)
    have c1 := newCell w (.pointer (some ⟨L.MB, 0, none⟩)) 68
    have c2 := newCell (w.alloc (.cells #[.pointer (some ⟨L.MB, 0, none⟩)] 68)) (.int .i64 (b0 : Int)) 3
    have c3 := newCell ((w.alloc (.cells #[.pointer (some ⟨L.MB, 0, none⟩)] 68)).alloc (.cells #[.int .i64 (b0 : Int)] 3)) (.int .i64 (a0 : Int)) 3
    simp only [allocSz] at c2 c3
    rw [hW]
    exact ⟨((h.later e1).later e2).later e3, h.lts, hfl, fun _ _ _ _ _ => rfl, Ex.ofBelow ((e1.thenB e2).thenB e3), cellKeep (e2.thenB e3) c1, cellKeep e3 c2, c3⟩
  have n16 := h.ok.n16
  have n1 := h.ok.n1
  have HRS := Lib.hid hrs
  have HW := Lib.hid hW
  have HSB := Lib.hid hsb
  have HO := Lib.hid ho
  have hb0z : (b0 : Int) < (L.N : Int) := by omega
  have ha0z : (a0 : Int) < (L.N : Int) := by omega
  clear h hfl hsb ho hrs hW
  go_enter Try.func88, Try.ntmps88
  go_wp2_with fail
  rw [← HW.out]
  clear HW
  go_loopg [14] ((sup b0 - F0 b0 a0).toNat + 1) (fun gm i wr => ∃ F, RS L X lf du sup dem F0 b0 a0 w wr F ∧ (sup b0 - F b0 a0).toNat + 1 ≤ gm)
  case atStart => exact ⟨F0, HRS.out, Nat.le_refl _⟩
  case round =>
    clear HRS
    obtain ⟨F, hrs, hgm⟩ := hrel
    have HGMS := Lib.hid hgm
    have HRS := Lib.hid hrs
    have cv := hrs.cv
    have c0 := hrs.mv.c0
    clear hgm hrs
    go_wp2_with fail
    clear cv c0
    go_loopw [19, 6, 7, 8, 9, 10] (fun i s6 s7 s8 s9 s10 wr => ∃ k : Nat, k ≤ L.N ∧ i = .int .i64 k ∧ s6 = .int .i64 (-1) ∧ s7 = .int .i64 0 ∧ s8 = .slice none 0 0 ∧ s9 = .slice none 0 0 ∧ s10 = .int .i64 (-1) ∧ RS L X lf du sup dem F0 b0 a0 w wr F ∧
      ∀ b2, b2 < k → b2 ≠ b0 → opB X b2 a0 = true → 0 < F b2 a0 → ∃ R S, NoWay L.N (opX (opB X) b0 a0) F b2 (endX (opB X) F b0 a0) R S) (fun i _ _ _ _ _ _ => L.N - (intOf i).toNat)
    case atStart => exact ⟨0, Nat.zero_le _, rfl, rfl, rfl, rfl, rfl, rfl, HRS.out, fun b2 h => absurd h (Nat.not_lt_zero _)⟩
    case round =>
      clear HRS
      obtain ⟨k, hk, rfl, rfl, rfl, rfl, rfl, rfl, hrs, hno⟩ := hrel
      have HRS := Lib.hid hrs
      have HNO := Lib.hid hno
      clear hno
      by_cases hkN : k < L.N
      · have hkz : (k : Int) < (L.N : Int) := by omega
        have cv := hrs.cv
        have cb := hrs.cb
        have ca := hrs.ca
        clear hrs
        by_cases hkb : k = b0
        · have hq : ((k : Int) == (b0 : Int)) = decide (0 = 0) := by simp [hkb]
          have HNX : Hid (∀ b2, b2 < k + 1 → b2 ≠ b0 → opB X b2 a0 = true → 0 < F b2 a0 → ∃ R S, NoWay L.N (opX (opB X) b0 a0) F b2 (endX (opB X) F b0 a0) R S) := Lib.hid (fun b2 h1 h2 h3 h4 =>  HNO.out b2 (by omega) h2 h3 h4)
          clear hkb
          go_wp2_with fail
          go_quiet (fail)
          all_goals go_wp2
          all_goals exact ⟨⟨k + 1, by omega, by go_num, rfl, rfl, rfl, rfl, rfl, HRS.out.drewN _, HNX.out⟩, by simp [intOf]; omega⟩
        · have hq : ((k : Int) == (b0 : Int)) = decide (0 = 1) := by simp; omega
          have HOP := Lib.hid (fun z => isOpen_any L (wr.drewN z) F X lf du (HRS.out.mv.drewN z) k a0 hkN ha0)
          cases hok : opB X k a0
          · rw [hok] at HOP
            have HNX : Hid (∀ b2, b2 < k + 1 → b2 ≠ b0 → opB X b2 a0 = true → 0 < F b2 a0 → ∃ R S, NoWay L.N (opX (opB X) b0 a0) F b2 (endX (opB X) F b0 a0) R S) := Lib.hid (fun b2 h1 h2 h3 h4 =>  by
              by_cases e : b2 = k
              · rw [e, hok] at h3; cases h3
              · exact HNO.out b2 (by omega) h2 h3 h4)
            clear hok
            go_wp2_with fail
            go_quiet ((go_at_call 87; exact Calls.quiet_of_same ((HOP.out _).mono fun _ _ h => ⟨h.1, h.2.symm⟩)))
            all_goals go_wp2
            all_goals exact ⟨⟨k + 1, by omega, by go_num, rfl, rfl, rfl, rfl, rfl, HRS.out.drewN _, HNX.out⟩, by simp [intOf]; omega⟩
          · rw [hok] at HOP
            have HOK := Lib.hid hok
            have c0 := HRS.out.mv.c0
            have c1 := HRS.out.mv.fl k hkN
            have c2 := HRS.out.mv.fr k a0 hkN ha0
            obtain ⟨V, hV⟩ : ∃ x, x = F k a0 := ⟨_, rfl⟩
            have hVb := HRS.out.fl.le hkN ha0
            have hsk := HSB.out k hkN
            rw [← hV] at c2 hVb
            have HV := Lib.hid hV
            clear hV hok
            rcases (show V = 0 ∨ 0 < V by omega) with rfl | hVp
            · have HNX : Hid (∀ b2, b2 < k + 1 → b2 ≠ b0 → opB X b2 a0 = true → 0 < F b2 a0 → ∃ R S, NoWay L.N (opX (opB X) b0 a0) F b2 (endX (opB X) F b0 a0) R S) := Lib.hid (fun b2 h1 h2 h3 h4 =>  by
                by_cases e : b2 = k
                · rw [e, ← HV.out] at h4; exact absurd h4 (by decide)
                · exact HNO.out b2 (by omega) h2 h3 h4)
              go_wp2_with fail
              go_quiet ((go_at_call 87; exact Calls.quiet_of_same ((HOP.out _).mono fun _ _ h => ⟨h.1, h.2.symm⟩)))
              all_goals go_wp2
              all_goals exact ⟨⟨k + 1, by omega, by go_num, rfl, rfl, rfl, rfl, rfl, HRS.out.drewN _, HNX.out⟩, by simp [intOf]; omega⟩
            · have hq2 : (V == 0) = false := by simp; omega
              have HWA := Lib.hid (fun z => wayAround_any L (wr.drewN z) F X lf du (HRS.out.mv.drewN z) k b0 a0 hkN hb0 ha0 (w.heap.size + 1 + 1) w.heap.size (w.heap.size + 1) (HRS.out.drewN z).ca (HRS.out.drewN z).cv (HRS.out.drewN z).cb)
              go_wp2_with fail
              go_quiet ((go_at_call 87; exact Calls.quiet_of_same ((HOP.out _).mono fun _ _ h => ⟨h.1, h.2.symm⟩)))
              revert nq
              intro n0
              clear c0 c1 c2
              go_wp2_with fail
              refine (HWA.out _).mono ?_
              rintro e w2 ⟨hM2, hE2, ⟨rfl, hnw⟩ | ⟨G, T, n, giv, get, tg, tc, rfl, l1, l2, o1, o2, gw, tw, hfo⟩⟩
              · have HNX : Hid (∀ b2, b2 < k + 1 → b2 ≠ b0 → opB X b2 a0 = true → 0 < F b2 a0 → ∃ R S, NoWay L.N (opX (opB X) b0 a0) F b2 (endX (opB X) F b0 a0) R S) := Lib.hid (fun b2 h1 h2 h3 h4 =>  by
                  by_cases e : b2 = k
                  · rw [e]; exact hnw
                  · exact HNO.out b2 (by omega) h2 h3 h4)
                have HR2 := Lib.hid ((HRS.out.drewN n0).same hM2 hE2)
                clear hM2 hE2 hnw HWA cv cb ca
                go_wp2
                exact ⟨⟨k + 1, by omega, by go_num, rfl, rfl, rfl, rfl, rfl, HR2.out, HNX.out⟩, by simp [intOf]; omega⟩
              · have hR2 := (HRS.out.drewN n0).same hM2 hE2
                replace cv := hR2.cv
                replace cb := hR2.cb
                replace ca := hR2.ca
                have c0 := hM2.c0
                have c1 := hM2.fl k hkN
                have c2 := hM2.fr k a0 hkN ha0
                have c3 := hM2.fl b0 hb0
                have hnN := hfo.nN
                have hnz : (n : Int) < (L.N : Int) := by omega
                have c4 := hM2.fr b0 n hb0 hnN
                have hE := endX_iff.1 hfo.nE
                obtain ⟨V2, hV2⟩ : ∃ x, x = F b0 n := ⟨_, rfl⟩
                have hV2b := HRS.out.fl.le hb0 hnN
                have hV2p := hE.2.2
                have hsb0 := HSB.out b0 hb0
                rw [← HV.out] at c2
                rw [← hV2] at c4 hV2b hV2p
                have hws := HRS.out.ex.size
                have HM2 := Lib.hid hM2
                have HE2 := Lib.hid hE2
                have HEN := Lib.hid hE
                have HV2 := Lib.hid hV2
                have HFO := Lib.hid hfo
                have HGL := Lib.hid (And.intro l1 l2)
                have HRD := Lib.hid (And.intro o1 o2)
                have HROW : Hid (∀ b, b < L.N → sm L.N (fun a => F b a) ≤ 10000000000000) := Lib.hid (fun b hb => by rw [HRS.out.fl.row b hb]; have := HSB.out b hb; omega)
                have HGM : Hid ((∀ x, some (⟨G, 0, none⟩ : Addr) = some x → ¬ L.Mut x.block) ∧ (∀ x, some (⟨T, 0, none⟩ : Addr) = some x → ¬ L.Mut x.block)) := Lib.hid
                  ⟨fun x e => by cases e; exact fun hz => by have q1 : G < w.heap.size := HRS.out.lt.mut hz; have q2 : wr.heap.size ≤ G := gw; omega, fun x e => by cases e; exact fun hz => by have q1 : T < w.heap.size := HRS.out.lt.mut hz; have q2 : wr.heap.size ≤ T := tw; omega⟩
                have hHG := HGM
                clear hM2 hE2 hE hV2 hfo l1 l2 o1 o2 gw tw hR2 HWA hws
                go_wp2_with fail
                by_cases hmin : V2 < V
                · have e1 : (V2 < V) = True := by simp [hmin]
                  have e2 : (V < V2) = False := by simp; omega
                  have hm1 : (1 : Int) ≤ V2 := by omega
                  have hm2 : V2 ≤ 10000000000000 := by omega
                  have hpu := fun z => push_any L (w2.drewN z) F X lf du (HM2.out.drewN z) (opX (opB X) b0 a0) k n giv get (some ⟨G, 0, none⟩) (some ⟨T, 0, none⟩) L.N L.N V2 tg tc HRD.out.1 HRD.out.2 hHG.out.1 hHG.out.2 HGL.out.1 HGL.out.2 HFO.out.R HFO.out.nN HFO.out.ng hm1 hm2 HRS.out.fl.nn HROW.out
                  rw [HGL.out.1, HGL.out.2] at hpu
                  have HPU := Lib.hid hpu
                  have HMM : Hid (V2 ≤ F k a0 ∧ V2 ≤ F b0 n) := Lib.hid (by rw [← HV.out, ← HV2.out]; omega)
                  clear hpu hm1 hm2
                  go_quiet (fail)
                  go_wp2_with fail
                  refine (HPU.out _).mono ?_
                  rintro e w3 ⟨m, F', rfl, hm1, hm2, hpe, hM3, hE3, hs3⟩
                  obtain ⟨y1, y2, y3, y4, y5, y6⟩ := round_done HRS.out.fl hb0 ha0 hkN HFO.out.nN HO.out hkb HOK.out HEN.out.1 HEN.out.2.1 hpe hm1 (Int.le_trans hm2 HMM.out.1) (Int.le_trans hm2 HMM.out.2)
                  rw [← HV.out] at y1 y2 y3 y4 y5 y6
                  rw [← HV2.out] at y2 y3 y4 y5 y6
                  have nm : ∀ z, w.heap.size ≤ z → ¬ L.Mut z := fun z hz hm => by have := HRS.out.lt.mut hm; omega
                  replace cv := hE3.cell cv (nm _ (Nat.le_refl _))
                  replace cb := hE3.cell cb (nm _ (by omega))
                  replace ca := hE3.cell ca (nm _ (by omega))
                  have hrk := HRS.out.lt.r k hkN
                  have hrb := HRS.out.lt.r b0 hb0
                  obtain ⟨V3, hV3⟩ : ∃ x, x = F b0 a0 := ⟨_, rfl⟩
                  rw [← hV3] at y3 y4 y5 y6
                  have hV3b := HRS.out.fl.le hb0 ha0
                  have hsb0 := HSB.out b0 hb0
                  rw [← hV3] at hV3b
                  have HV3 := Lib.hid hV3
                  have HY := Lib.hid (And.intro y4 (And.intro y5 y6))
                  have hE3' := Lib.hid hE3
                  have HY2 := Lib.hid y2
                  have HY3 := Lib.hid y3
                  have c0 := hM3.c0
                  have c1 := hM3.fl k hkN
                  have c2 := hM3.fr k a0 hkN ha0
                  have c3 := hM3.zr k a0 hkN
                  rw [y1] at c2
                  have HM3 := Lib.hid hM3
                  have hmz : m ≤ V ∧ m ≤ V2 := ⟨by have := HMM.out.1; have := HV.out; omega, by have := HMM.out.2; have := HV2.out; omega⟩
                  clear y1 y2 y3 y4 y5 y6 nm hV3 hpe hM3 hE3 hs3 hm2 HPU e1 e2
                  go_wp2_with fail
                  go_region
                  have hM4 := (HM3.out.setF2 k a0 hkN ha0 (V - m)).drew
                  have q1 := cellDrew (cellOf (u := .int .i64 (V - m)) cv (show (⟨L.r k, a0, none⟩ : Addr).block ≠ w.heap.size by show L.r k ≠ _; omega))
                  have q2 := cellDrew (cellOf (u := .int .i64 (V - m)) cb (show (⟨L.r k, a0, none⟩ : Addr).block ≠ w.heap.size + 1 by show L.r k ≠ _; omega))
                  have q3 := cellDrew (cellOf (u := .int .i64 (V - m)) ca (show (⟨L.r k, a0, none⟩ : Addr).block ≠ w.heap.size + 1 + 1 by show L.r k ≠ _; omega))
                  have hE4 := Lib.hid (hE3'.out.setCell ⟨L.r k, a0, none⟩ (.inr (HM3.out.ok.mr hkN)) (.int .i64 (V - m))).drew
                  clear cv cb ca c0 c1 c2 c3
                  generalize (w3.setCell ⟨L.r k, a0, none⟩ (.int .i64 (V - m))).drew = w4 at *
                  have c0 := hM4.c0
                  have c1 := hM4.fl b0 hb0
                  have c2 := hM4.fr b0 n hb0 HFO.out.nN
                  have c3 := hM4.zr b0 n hb0
                  rw [HY2.out] at c2
                  have HM4 := Lib.hid hM4
                  clear hM4
                  go_wp2_with fail
                  go_region
                  have hM5 := (HM4.out.setF2 b0 n hb0 HFO.out.nN (V2 - m)).drew
                  have cv := cellDrew (cellOf (u := .int .i64 (V2 - m)) q1 (show (⟨L.r b0, n, none⟩ : Addr).block ≠ w.heap.size by show L.r b0 ≠ _; omega))
                  have cb := cellDrew (cellOf (u := .int .i64 (V2 - m)) q2 (show (⟨L.r b0, n, none⟩ : Addr).block ≠ w.heap.size + 1 by show L.r b0 ≠ _; omega))
                  have ca := cellDrew (cellOf (u := .int .i64 (V2 - m)) q3 (show (⟨L.r b0, n, none⟩ : Addr).block ≠ w.heap.size + 1 + 1 by show L.r b0 ≠ _; omega))
                  have hE5 := Lib.hid (hE4.out.setCell ⟨L.r b0, n, none⟩ (.inr (HM4.out.ok.mr hb0)) (.int .i64 (V2 - m))).drew
                  clear q1 q2 q3 c0 c1 c2 c3
                  generalize (w4.setCell ⟨L.r b0, n, none⟩ (.int .i64 (V2 - m))).drew = w5 at *
                  have c0 := hM5.c0
                  have c1 := hM5.fl b0 hb0
                  have c2 := hM5.fr b0 a0 hb0 ha0
                  have c3 := hM5.zr b0 a0 hb0
                  rw [HY3.out] at c2
                  have HM5 := Lib.hid hM5
                  clear hM5
                  go_wp2_with fail
                  go_region
                  have hM6 := (HM5.out.setF2 b0 a0 hb0 ha0 (V3 + m)).drew
                  have hE6 := (hE5.out.setCell ⟨L.r b0, a0, none⟩ (.inr (HM5.out.ok.mr hb0)) (.int .i64 (V3 + m))).drew
                  obtain ⟨y4, y5, y6⟩ := HY.out
                  have HRS6 := Lib.hid ((HRS.out.drewN n0).step hM6 (hE6T HE2.out hE6) y4 (fun x y hx hy hxy => by rw [y5 x y hx hy hxy]; exact HRS.out.off x y hx hy hxy))
                  have HME := Lib.hid y6
                  clear y4 y5 y6 hM6 hE6 cv cb ca c0 c1 c2 c3
                  go_wp2
                  go_roundg ((sup b0 - (V3 + m)).toNat + 1)
                  case measure =>
                    have z1 := HGMS.out
                    have z2 := HV3.out
                    have z3 := (HRS6.out.fl.le hb0 ha0).2
                    rw [HME.out] at z3
                    omega
                  case rel => exact ⟨_, HRS6.out, by rw [HME.out]; exact Nat.le_refl _⟩
                · have e1 : (V2 < V) = False := by simp [hmin]
                  have hm1 : (1 : Int) ≤ V := by omega
                  have hm2 : V ≤ 10000000000000 := by omega
                  have hpu := fun z => push_any L (w2.drewN z) F X lf du (HM2.out.drewN z) (opX (opB X) b0 a0) k n giv get (some ⟨G, 0, none⟩) (some ⟨T, 0, none⟩) L.N L.N V tg tc HRD.out.1 HRD.out.2 hHG.out.1 hHG.out.2 HGL.out.1 HGL.out.2 HFO.out.R HFO.out.nN HFO.out.ng hm1 hm2 HRS.out.fl.nn HROW.out
                  rw [HGL.out.1, HGL.out.2] at hpu
                  have HPU := Lib.hid hpu
                  have HMM : Hid (V ≤ F k a0 ∧ V ≤ F b0 n) := Lib.hid (by rw [← HV.out, ← HV2.out]; omega)
                  clear hpu hm1 hm2
                  go_quiet (fail)
                  go_wp2_with fail
                  refine (HPU.out _).mono ?_
                  rintro e w3 ⟨m, F', rfl, hm1, hm2, hpe, hM3, hE3, hs3⟩
                  obtain ⟨y1, y2, y3, y4, y5, y6⟩ := round_done HRS.out.fl hb0 ha0 hkN HFO.out.nN HO.out hkb HOK.out HEN.out.1 HEN.out.2.1 hpe hm1 (Int.le_trans hm2 HMM.out.1) (Int.le_trans hm2 HMM.out.2)
                  rw [← HV.out] at y1 y2 y3 y4 y5 y6
                  rw [← HV2.out] at y2 y3 y4 y5 y6
                  have nm : ∀ z, w.heap.size ≤ z → ¬ L.Mut z := fun z hz hm => by have := HRS.out.lt.mut hm; omega
                  replace cv := hE3.cell cv (nm _ (Nat.le_refl _))
                  replace cb := hE3.cell cb (nm _ (by omega))
                  replace ca := hE3.cell ca (nm _ (by omega))
                  have hrk := HRS.out.lt.r k hkN
                  have hrb := HRS.out.lt.r b0 hb0
                  obtain ⟨V3, hV3⟩ : ∃ x, x = F b0 a0 := ⟨_, rfl⟩
                  rw [← hV3] at y3 y4 y5 y6
                  have hV3b := HRS.out.fl.le hb0 ha0
                  have hsb0 := HSB.out b0 hb0
                  rw [← hV3] at hV3b
                  have HV3 := Lib.hid hV3
                  have HY := Lib.hid (And.intro y4 (And.intro y5 y6))
                  have hE3' := Lib.hid hE3
                  have HY2 := Lib.hid y2
                  have HY3 := Lib.hid y3
                  have c0 := hM3.c0
                  have c1 := hM3.fl k hkN
                  have c2 := hM3.fr k a0 hkN ha0
                  have c3 := hM3.zr k a0 hkN
                  rw [y1] at c2
                  have HM3 := Lib.hid hM3
                  have hmz : m ≤ V ∧ m ≤ V2 := ⟨by have := HMM.out.1; have := HV.out; omega, by have := HMM.out.2; have := HV2.out; omega⟩
                  clear y1 y2 y3 y4 y5 y6 nm hV3 hpe hM3 hE3 hs3 hm2 HPU e1
                  go_wp2_with fail
                  go_region
                  have hM4 := (HM3.out.setF2 k a0 hkN ha0 (V - m)).drew
                  have q1 := cellDrew (cellOf (u := .int .i64 (V - m)) cv (show (⟨L.r k, a0, none⟩ : Addr).block ≠ w.heap.size by show L.r k ≠ _; omega))
                  have q2 := cellDrew (cellOf (u := .int .i64 (V - m)) cb (show (⟨L.r k, a0, none⟩ : Addr).block ≠ w.heap.size + 1 by show L.r k ≠ _; omega))
                  have q3 := cellDrew (cellOf (u := .int .i64 (V - m)) ca (show (⟨L.r k, a0, none⟩ : Addr).block ≠ w.heap.size + 1 + 1 by show L.r k ≠ _; omega))
                  have hE4 := Lib.hid (hE3'.out.setCell ⟨L.r k, a0, none⟩ (.inr (HM3.out.ok.mr hkN)) (.int .i64 (V - m))).drew
                  clear cv cb ca c0 c1 c2 c3
                  generalize (w3.setCell ⟨L.r k, a0, none⟩ (.int .i64 (V - m))).drew = w4 at *
                  have c0 := hM4.c0
                  have c1 := hM4.fl b0 hb0
                  have c2 := hM4.fr b0 n hb0 HFO.out.nN
                  have c3 := hM4.zr b0 n hb0
                  rw [HY2.out] at c2
                  have HM4 := Lib.hid hM4
                  clear hM4
                  go_wp2_with fail
                  go_region
                  have hM5 := (HM4.out.setF2 b0 n hb0 HFO.out.nN (V2 - m)).drew
                  have cv := cellDrew (cellOf (u := .int .i64 (V2 - m)) q1 (show (⟨L.r b0, n, none⟩ : Addr).block ≠ w.heap.size by show L.r b0 ≠ _; omega))
                  have cb := cellDrew (cellOf (u := .int .i64 (V2 - m)) q2 (show (⟨L.r b0, n, none⟩ : Addr).block ≠ w.heap.size + 1 by show L.r b0 ≠ _; omega))
                  have ca := cellDrew (cellOf (u := .int .i64 (V2 - m)) q3 (show (⟨L.r b0, n, none⟩ : Addr).block ≠ w.heap.size + 1 + 1 by show L.r b0 ≠ _; omega))
                  have hE5 := Lib.hid (hE4.out.setCell ⟨L.r b0, n, none⟩ (.inr (HM4.out.ok.mr hb0)) (.int .i64 (V2 - m))).drew
                  clear q1 q2 q3 c0 c1 c2 c3
                  generalize (w4.setCell ⟨L.r b0, n, none⟩ (.int .i64 (V2 - m))).drew = w5 at *
                  have c0 := hM5.c0
                  have c1 := hM5.fl b0 hb0
                  have c2 := hM5.fr b0 a0 hb0 ha0
                  have c3 := hM5.zr b0 a0 hb0
                  rw [HY3.out] at c2
                  have HM5 := Lib.hid hM5
                  clear hM5
                  go_wp2_with fail
                  go_region
                  have hM6 := (HM5.out.setF2 b0 a0 hb0 ha0 (V3 + m)).drew
                  have hE6 := (hE5.out.setCell ⟨L.r b0, a0, none⟩ (.inr (HM5.out.ok.mr hb0)) (.int .i64 (V3 + m))).drew
                  obtain ⟨y4, y5, y6⟩ := HY.out
                  have HRS6 := Lib.hid ((HRS.out.drewN n0).step hM6 (hE6T HE2.out hE6) y4 (fun x y hx hy hxy => by rw [y5 x y hx hy hxy]; exact HRS.out.off x y hx hy hxy))
                  have HME := Lib.hid y6
                  clear y4 y5 y6 hM6 hE6 cv cb ca c0 c1 c2 c3
                  go_wp2
                  go_roundg ((sup b0 - (V3 + m)).toNat + 1)
                  case measure =>
                    have z1 := HGMS.out
                    have z2 := HV3.out
                    have z3 := (HRS6.out.fl.le hb0 ha0).2
                    rw [HME.out] at z3
                    omega
                  case rel => exact ⟨_, HRS6.out, by rw [HME.out]; exact Nat.le_refl _⟩
      · have hkE : k = L.N := by omega
        subst hkE
        have HDN : Hid (∀ G, Flow L.N sup dem G → (∀ x y, x < L.N → y < L.N → opB X x y = false → G x y = F x y) → G b0 a0 ≤ F b0 a0) := Lib.hid (fun G g hag => raise_done HRS.out.fl g (opB X) (fun b a hb ha hop => hag b a hb ha hop) b0 a0 hb0 ha0 (fun b2 h1 h2 h3 h4 => HNO.out b2 h1 h2 h3 h4))
        clear hrs
        go_wp2
        refine bodyPost_ret (results_none rfl _ _ _) rfl ⟨rfl, F, HRS.out.mv, HRS.out.ex, HRS.out.fl, HRS.out.off, HDN.out⟩

end Go.Proofs.Ytjmfjgoehicgcaa
