/-
  posternlaw02.lent: a value in lists of its own, each with a mark behind it.
-/
import Derived.Test.YtapfmfihhpafcaaD3
import Derived.Test.YtapfmfihhpafcaaB9
import Derived.Test.YtapfmfihhpafcaaB3
import Derived.Deep.DeepCutAuto
import Derived.Deep.CutBlock
import Derived.Deep.Cut
import Derived.Deep.RegionLawGrows
namespace Go.Proofs.Ytapfmfihhpafcaa
open Go.RowKit
set_option linter.unusedVariables false

/-- The cells of values, one behind the other, each value's list in the world. -/
def Lie (w : World) (ok : Nat → Prop) (m : Bool) : List T → List Value → Prop
  | [], xs => xs = []
  | t :: ts, xs => ∃ a c ys, T.In w ok m t a c ∧ xs = t.cells5 a c ++ ys ∧ Lie w ok m ts ys

theorem Lie.keep {w w' : World} {ok ok' : Nat → Prop} {m : Bool} (h : ∀ b, ok b → w'.heap[b]? = w.heap[b]?) (h' : ∀ b, ok b → ok' b) : ∀ {l : List T} {xs : List Value}, Lie w ok m l xs → Lie w' ok' m l xs
  | [], xs, hi => hi
  | t :: ts, xs, hi => by
    obtain ⟨a, c, ys, h1, h2, h3⟩ := hi
    exact ⟨a, c, ys, T.In.keep h h' id h1, h2, Lie.keep h h' h3⟩
theorem Lie.app {w : World} {ok : Nat → Prop} {m : Bool} : ∀ {l l' : List T} {xs ys : List Value}, Lie w ok m l xs → Lie w ok m l' ys → Lie w ok m (l ++ l') (xs ++ ys)
  | [], l', xs, ys, h, h' => by rw [Lie] at h; subst h; simpa using h'
  | t :: ts, l', xs, ys, h, h' => by
    obtain ⟨a, c, zs, h1, rfl, h3⟩ := h
    rw [List.cons_append]
    exact ⟨a, c, zs ++ ys, h1, by rw [List.append_assoc], Lie.app h3 h'⟩
theorem Lie.one {w : World} {ok : Nat → Prop} {m : Bool} {t : T} {a : Option Addr} {c : Nat} (h : T.In w ok m t a c) : Lie w ok m [t] (t.cells5 a c) := ⟨a, c, [], h, by simp, rfl⟩
theorem Lie.ins {w : World} {ok : Nat → Prop} {m : Bool} : ∀ {l : List T} {xs : List Value} (_ : Lie w ok m l xs) (b o : Nat) (_ : ∀ j u, xs[j]? = some u → w.cell? ⟨b, o + j, none⟩ = some u), T.Ins w ok m l b o
  | [], _, _, _, _, _ => by rw [T.Ins]; trivial
  | t :: ts, xs, h, b, o, hc => by
    rw [T.Ins]
    obtain ⟨a, c, ys, h1, rfl, h3⟩ := h
    refine ⟨⟨a, c, h1, hc 0 _ rfl, hc 1 _ rfl, hc 2 _ rfl, hc 3 _ rfl, hc 4 _ rfl⟩, Lie.ins h3 b (o + 5) fun j u hu => ?_⟩
    have := hc (5 + j) u (by rw [List.getElem?_append_right (by simp [T.cells5])]; simpa [T.cells5] using hu)
    rw [Nat.add_assoc]; exact this
theorem Lie.length {w : World} {ok : Nat → Prop} {m : Bool} : ∀ {l : List T} {xs : List Value}, Lie w ok m l xs → xs.length = l.length * 5
  | [], xs, h => by rw [Lie] at h; subst h; rfl
  | t :: ts, xs, h => by
    obtain ⟨a, c, ys, _, rfl, h3⟩ := h
    have := Lie.length h3
    simp [T.cells5]; omega

/-- What lent hands back. -/
def LentPost (w : World) (m : Bool) (t : T) (e : Ending) (w' : World) : Prop := ∃ a c, e = .returned (t.val a c) ∧ T.In w' (New w.heap.size w') m t a c ∧ Below w.heap.size w w'

theorem three_blk (w : World) (X Y Z : Obj) : (((w.alloc X).alloc Y).alloc Z).heap[w.heap.size]? = some X ∧ (((w.alloc X).alloc Y).alloc Z).heap[w.heap.size + 1]? = some Y ∧ (((w.alloc X).alloc Y).alloc Z).heap[w.heap.size + 1 + 1]? = some Z := by
  refine ⟨?_, ?_, ?_⟩
  · rw [Below.heap_alloc _ _ _ (by simp; omega)]; exact two_blk0 _ _ _
  · rw [Below.heap_alloc _ _ _ (by simp)]; exact two_blk1 _ _ _
  · have := blk_new ((w.alloc X).alloc Y) Z
    simp only [World.size_alloc] at this
    exact this

theorem set3 {w : World} {b : Nat} {v0 v1 v2 v3 v4 : Value} {e : TypeId} (h : w.heap[b]? = some (.cells #[v0, v1, v2, v3, v4] e (0, 0))) (u : Value) : (w.setCell ⟨b, 3, none⟩ u).heap[b]? = some (.cells #[v0, v1, v2, u, v4] e (0, 0)) ∧
    (∀ k, k ≠ b → (w.setCell ⟨b, 3, none⟩ u).heap[k]? = w.heap[k]?) ∧ (w.setCell ⟨b, 3, none⟩ u).heap.size = w.heap.size ∧ Below b w (w.setCell ⟨b, 3, none⟩ u) := by
  refine ⟨?_, fun k hk => Below.heap_setCell _ _ _ _ hk, by simp [World.setCell], (Below.refl b w).setCell (p := ⟨b, 3, none⟩) (Nat.le_refl _) u⟩
  simp [World.setCell, Array.getElem?_modify, h]

theorem ownsRow_of_block' {w w' : World} {base : Nat} {v : Value} {n : Nat} {xs : List Value} (h : w.ownsRow base 26 5 v n xs) (hk : ∀ g, v.ownBlock = some g → w'.heap[g]? = w.heap[g]?) : w'.ownsRow base 26 5 v n xs := by
  refine ⟨h.1, ?_⟩
  rcases h.2 with h0 | ⟨g, cap, cur, hv, hb, hg, r⟩
  · exact .inl h0
  · exact .inr ⟨g, cap, cur, hv, hb, by rw [hk g (by rw [hv]; rfl)]; exact hg, r⟩

theorem below_undrew {w w' : World} (h : Below w.drew.heap.size w.drew w') : Below w.heap.size w w' := ⟨h.os, h.tape, h.output, h.size, h.block⟩

/-- One more value behind a list of the call's own, whose variable lies at ob. -/
theorem lie_step {w wr w4 w5 : World} {m : Bool} {ob base i g cap : Nat} {v u0 u1 u2 u4 : Value} {xs : List Value} {l0 : List T} {t : T} {a2 : Option Addr} {c2 : Nat} {X : Obj}
    (hb : Below w.heap.size w wr) (hob : w.heap.size ≤ ob) (hbase : ob < base) (hbz : base ≤ wr.heap.size) (hb4 : Below wr.heap.size wr w4)
    (hown : wr.ownsRow base 26 5 v i xs) (hlie : Lie wr (fun b => base ≤ b ∧ b < wr.heap.size ∧ v.ownBlock ≠ some b) m l0 xs) (hi2 : T.In w4 (New wr.heap.size w4) m t a2 c2)
    (hown5 : w5.ownsRow base 26 5 (.slice (some ⟨g, 0, none⟩) (i + 1) cap) (i + 1) (xs ++ t.cells5 a2 c2)) (hgrow5 : (w4.alloc X).grownBy w5 v.ownBlock) (hat : v.ownBlock = some g ∨ g = (w4.alloc X).heap.size)
    (C2 : wr.heap[ob]? = some (.cells #[u0, u1, u2, v, u4] 26 (0, 0))) :
    Below w.heap.size w (w5.setCell ⟨ob, 3, none⟩ (.slice (some ⟨g, 0, none⟩) (i + 1) cap)) ∧ (∀ q, q < base → q ≠ ob → (w5.setCell ⟨ob, 3, none⟩ (.slice (some ⟨g, 0, none⟩) (i + 1) cap)).heap[q]? = wr.heap[q]?) ∧
      (w5.setCell ⟨ob, 3, none⟩ (.slice (some ⟨g, 0, none⟩) (i + 1) cap)).heap[ob]? = some (.cells #[u0, u1, u2, .slice (some ⟨g, 0, none⟩) (i + 1) cap, u4] 26 (0, 0)) ∧
      (w5.setCell ⟨ob, 3, none⟩ (.slice (some ⟨g, 0, none⟩) (i + 1) cap)).ownsRow base 26 5 (.slice (some ⟨g, 0, none⟩) (i + 1) cap) (i + 1) (xs ++ t.cells5 a2 c2) ∧
      Lie (w5.setCell ⟨ob, 3, none⟩ (.slice (some ⟨g, 0, none⟩) (i + 1) cap)) (fun b => base ≤ b ∧ b < (w5.setCell ⟨ob, 3, none⟩ (.slice (some ⟨g, 0, none⟩) (i + 1) cap)).heap.size ∧ (Value.slice (some ⟨g, 0, none⟩) (i + 1) cap).ownBlock ≠ some b) m (l0 ++ [t]) (xs ++ t.cells5 a2 c2) := by
  have hvl := hown.lt
  have z4 := hb4.size
  have z5 := hgrow5.size
  simp only [World.size_alloc] at z5 hat
  have hk5 : ∀ q, q < wr.heap.size → v.ownBlock ≠ some q → w5.heap[q]? = wr.heap[q]? := fun q hq hne =>
    (hgrow5.block q (by simp; omega) (fun e => hne e.symm)).trans ((Below.heap_alloc _ _ _ (by omega)).trans (hb4.block q hq))
  have hlow : ∀ q, q < base → v.ownBlock ≠ some q := fun q hq e => by have := (hvl q e).1; omega
  have G : w5.heap[ob]? = some (.cells #[u0, u1, u2, v, u4] 26 (0, 0)) := (hk5 ob (by omega) (hlow ob hbase)).trans C2
  obtain ⟨G1, hoth, hsz, hbo⟩ := set3 G (.slice (some ⟨g, 0, none⟩) (i + 1) cap)
  have hb5 : Below w.heap.size w w5 := Below.grown ((hb.trans (hb4.mono hb.size)).alloc (by have := hb.size; omega) X) hgrow5 (by simp; have := hb.size; omega) (fun k hk => by have := (hvl k hk).1; omega)
  have hne1 : ∀ b, base ≤ b ∧ b < wr.heap.size ∧ v.ownBlock ≠ some b → (Value.slice (some ⟨g, 0, none⟩) (i + 1) cap).ownBlock ≠ some b := fun b hb e => by
    have e : g = b := by simpa [Value.ownBlock] using e
    rcases hat with h | h
    · exact hb.2.2 (e ▸ h)
    · have := hb.2.1; omega
  have hne2 : ∀ b, wr.heap.size ≤ b ∧ b < w4.heap.size → (Value.slice (some ⟨g, 0, none⟩) (i + 1) cap).ownBlock ≠ some b := fun b hb e => by
    have e : g = b := by simpa [Value.ownBlock] using e
    rcases hat with h | h
    · have := (hvl g h).2; omega
    · omega
  refine ⟨hb5.trans (hbo.mono hob), fun q hq hne => (hoth q hne).trans (hk5 q (by omega) (hlow q hq)), G1, ownsRow_of_block' hown5 (fun g' hg' => hoth g' (by have := (hown5.lt g' hg').1; omega)),
    Lie.app (Lie.keep (fun b hb => (hoth b (by have := hb.1; omega)).trans (hk5 b hb.2.1 hb.2.2)) (fun b hb => ⟨hb.1, by rw [hsz]; have := hb.2.1; omega, hne1 b hb⟩) hlie)
      (Lie.one (T.In.keep (fun b hb => (hoth b (by have := hb.1; omega)).trans ((hgrow5.block b (by have := hb.2; simp; omega) (fun e => by have := (hvl b e.symm).2; have := hb.1; omega)).trans (Below.heap_alloc _ _ _ hb.2))) (fun b hb => ⟨by have := hb.1; omega, by rw [hsz]; have := hb.2; omega, hne2 b hb⟩) id hi2))⟩

theorem own_cap {w : World} {base g n cap : Nat} {xs : List Value} {e : TypeId} {sz : Nat} (h : w.ownsRow base e sz (.slice (some ⟨g, 0, none⟩) n cap) n xs) : n ≤ cap := by
  rcases h.2 with ⟨h0, _⟩ | ⟨g', cap', cur, hv, _, _, hle, _⟩
  · cases h0
  · injection hv with _ _ hc; omega

/-- The list as it lies when the mark is behind it. -/
theorem lent_end {w wr w4 w5 W : World} {ob g cap : Nat} {v : Value} {xs : List Value} {l : List T} {X : Obj} (hvl : ∀ k, v.ownBlock = some k → w.heap.size + 3 ≤ k ∧ k < wr.heap.size) (hz : w.heap.size ≤ wr.heap.size) (_ : w.heap.size ≤ wr.heap.size) (hob : ob < w.heap.size + 3)
    (hb4 : Below wr.heap.size wr w4) (hown : wr.ownsRow (w.heap.size + 3) 26 5 v l.length xs) (hlie : Lie wr (fun b => w.heap.size + 3 ≤ b ∧ b < wr.heap.size ∧ v.ownBlock ≠ some b) true l xs)
    (hown5 : w5.ownsRow (w.heap.size + 3) 26 5 (.slice (some ⟨g, 0, none⟩) (l.length + 1) cap) (l.length + 1) (xs ++ [.int .u8 1, .int .i64 77, .string ⟨#[]⟩, .slice none 0 0, .int .i64 0])) (hgrow5 : (w4.alloc X).grownBy w5 v.ownBlock) (hat : v.ownBlock = some g ∨ g = (w4.alloc X).heap.size)
    (hoth : ∀ k, k ≠ ob → W.heap[k]? = w5.heap[k]?) (hsz : W.heap.size = w5.heap.size) : ∀ k n s r, T.In W (fun b => w.heap.size + 3 ≤ b ∧ b < W.heap.size) true (.mk k n s l r) (some ⟨g, 0, none⟩) cap := by
  intro k n s r
  have z4 := hb4.size
  have z5 := hgrow5.size
  simp only [World.size_alloc] at z5 hat
  have hcap := own_cap hown5
  have hg := (hown5.lt g rfl)
  have hl := hlie.length
  have hown6 : W.ownsRow (w.heap.size + 3) 26 5 (.slice (some ⟨g, 0, none⟩) (l.length + 1) cap) (l.length + 1) (xs ++ [.int .u8 1, .int .i64 77, .string ⟨#[]⟩, .slice none 0 0, .int .i64 0]) := ownsRow_of_block' hown5 (fun g' hg' => hoth g' (by have := (hown5.lt g' hg').1; omega))
  have hcell : ∀ j u, (xs ++ [.int .u8 1, .int .i64 77, .string ⟨#[]⟩, .slice none 0 0, .int .i64 0])[j]? = some u → W.cell? ⟨g, j, none⟩ = some u := fun j u hu => by
    have hj : j < (l.length + 1) * 5 := by
      have := (List.getElem?_eq_some_iff.1 hu).1
      simp [hl] at this; omega
    exact (hown6.cellAt j hj).trans hu
  rw [T.In]
  refine ⟨by omega, .inr ⟨g, 0, rfl, ⟨hg.1, by omega⟩, fun _ => ⟨hcap, ?_⟩, Lie.ins (Lie.keep (fun b hb => ?_) (fun b hb => ⟨hb.1, by have := hb.2.1; omega⟩) hlie) g 0 (fun j u hu => ?_)⟩⟩
  · rw [Nat.zero_add]
    refine hcell _ _ ?_
    rw [List.getElem?_append_right (by omega), hl]
    have : l.length * 5 + 1 - l.length * 5 = 1 := by omega
    rw [this]; rfl
  · exact (hoth b (by have := hb.1; omega)).trans ((hgrow5.block b (by have := hb.2.1; simp; omega) (fun e => hb.2.2 e.symm)).trans ((Below.heap_alloc _ _ _ (by have := hb.2.1; omega)).trans (hb4.block b hb.2.1)))
  · rw [Nat.zero_add]
    refine hcell _ _ ?_
    rw [List.getElem?_append_left ((List.getElem?_eq_some_iff.1 hu).1)]
    exact hu

set_option maxRecDepth 100000 in
set_option maxHeartbeats 4000000 in
theorem lent_walk (t : T) : ∀ (a : Option Addr) (c : Nat) (w : World) (B : Nat), T.At w B t a c → B ≤ w.heap.size → t.wf →
    Calls Try.prog 16 #[t.val a c] w (LentPost w true t) := by
  induction t using T.induct with
  | h k n s l r ih =>
  intro a c w B hin hB hwf
  rw [T.wf, T.wfs_iff] at hwf
  obtain ⟨⟨_, _, _, _, _, _, _, hll⟩, hwl⟩ := hwf
  unfold T.val
  simp only [T.k, T.n, T.s, T.l, T.r]
  obtain ⟨w1, hw1⟩ : ∃ w1, w1 = ((w.alloc (.cells #[.int .u8 k, .int .i64 n, .string s, .slice a l.length c, .int .i64 r] 26 (0, 0))).alloc (.cells #[.int .u8 0, .int .i64 0, .string ⟨#[]⟩, .slice none 0 0, .int .i64 0] 26 (0, 0))).alloc (.cells #[.int .u8 k, .int .i64 n, .string s, .slice a l.length c, .int .i64 r] 26 (0, 0)) := ⟨_, rfl⟩
  have hb1 : Below w.heap.size w w1 := by rw [hw1]; exact (two_boxes _ _ _).alloc (by simp; omega) _
  obtain ⟨D0, D1, D2⟩ : w1.heap[w.heap.size]? = _ ∧ w1.heap[w.heap.size + 1]? = _ ∧ w1.heap[w.heap.size + 1 + 1]? = _ := by rw [hw1]; exact three_blk _ _ _ _
  have z1 : w1.heap.size = w.heap.size + 3 := by rw [hw1]; simp
  have Z1 := Lib.hid z1
  clear z1
  by_cases hl : l.length = 0
  · have hl' : l = [] := List.length_eq_zero_iff.1 hl
    subst hl'
    have hin0 : T.In w1 (New w.heap.size w1) true (.mk k n s [] r) a c := by rw [T.In]; exact ⟨Nat.zero_le _, .inl rfl⟩
    simp only [List.length_nil] at D0 D1 D2 hw1 ⊢
    have E0 := Lib.hid D0
    have E1 := Lib.hid D1
    obtain ⟨x0, x1, x2, x3, x4⟩ := blk5cc D0
    obtain ⟨y0, y1, y2, y3, y4⟩ := blk5cc D2
    clear D0 D1 D2
    go_enter Try.func16, Try.ntmps16
    go_upto_region 2 with fail
    rw [← hw1]
    clear hw1
    go_wp2_with (refine wpList_put _ rfl _ _ rfl (w.heap.size + 1) _ _ _ _ _ _ _ _ _ _ (by rfl) (by rfl) (by simp [Value.oneCell']) E1.out ?_; rintro wP hP)
    obtain ⟨g0, g1, g2, g3, g4⟩ := blk5cc hP.at_
    refine post_cell26 Try.results16 rfl rfl g0 g1 g2 g3 g4 ⟨a, c, rfl, ?_, hb1.trans (hP.below (by omega))⟩
    rw [T.In]; exact ⟨Nat.zero_le _, .inl rfl⟩
  have hl1 : ((l.length : Int) == 0) = false := by simpa using hl
  obtain ⟨i0, hi, hz0, hz1, hz2⟩ := info_parts info26
  have hin1 := T.At.below hb1 hB hin
  obtain ⟨x0, x1, x2, x3, x4⟩ := blk5cc D0
  obtain ⟨y0, y1, y2, y3, y4, f0, f1, f2, f3, f4⟩ := blk5 D2
  have E0 := Lib.hid D0
  have E1 := Lib.hid D1
  have E2 := Lib.hid D2
  have hll' : (l.length : Int) ≤ 2199023255488 := by omega
  clear D0 D1 D2
  go_enter Try.func16, Try.ntmps16
  go_upto_region 2 with fail
  rw [← hw1]
  clear hw1
  go_upto_region 5 with (at_make; refine wpList_make_own _ rfl _ _ 23 rfl (w.heap.size + 3) 26 i0 _ 5 Try.underlying23 hi hz0 hz1 .i64 .i64 _ (l.length + 1) rfl rfl (by omega) (by rw [hz2]; omega) (by unfold maxLen; omega) (by rw [Z1.out]; omega) ?_; intro w2 hown2 hgrow2; have C2 := (hgrow2.block (w.heap.size + 1 + 1) (by rw [Z1.out]; omega) (by simp)).trans E2.out; clear x0 x1 x2 x3 x4 y0 y1 y2 y3 y4 f0 f1 f2 f3 f4; obtain ⟨y0, y1, y2, y3, y4, f0, f1, f2, f3, f4⟩ := blk5 C2)
  obtain ⟨C2', hk2, hs2, hz2'⟩ := set3 C2 (.slice (some ⟨w1.heap.size, 0, none⟩) 0 (l.length + 1))
  obtain ⟨w3, hw3⟩ : ∃ w3, w3 = w2.setCell ⟨w.heap.size + 1 + 1, 3, none⟩ (.slice (some ⟨w1.heap.size, 0, none⟩) 0 (l.length + 1)) := ⟨_, rfl⟩
  rw [← hw3] at C2' hk2 hs2 hz2' ⊢
  have z2 := hgrow2.size
  have hb2 : Below w1.heap.size w1 w2 := ⟨hgrow2.os, hgrow2.tape, hgrow2.output, hgrow2.size, fun q hq => hgrow2.block q hq (by simp)⟩
  have C0' := (hk2 w.heap.size (by omega)).trans ((hb2.block w.heap.size (by rw [Z1.out]; omega)).trans E0.out)
  have C1' := (hk2 (w.heap.size + 1) (by omega)).trans ((hb2.block (w.heap.size + 1) (by rw [Z1.out]; omega)).trans E1.out)
  have hown3 : w3.ownsRow (w.heap.size + 3) 26 5 (.slice (some ⟨w1.heap.size, 0, none⟩) 0 (l.length + 1)) 0 [] := ownsRow_of_block' hown2 (fun g hg => hk2 g (by have := (hown2.lt g hg).1; omega))
  have hb3 : Below w.heap.size w w3 := by
    have h1 : Below w.heap.size w w2 := hb1.trans (hb2.mono (by rw [Z1.out]; omega))
    exact h1.trans (hz2'.mono (by omega))
  clear hown2 hgrow2 C2 y0 y1 y2 y3 y4 f0 f1 f2 f3 f4 hw3 hk2 hz2' hb2 hb1 hin1
  go_wp2_with fail
  go_loopg [4] l.length (fun gg vi wr => ∃ (i : Nat) (v : Value) (xs : List Value), vi = .int .i64 i ∧ i + gg = l.length ∧ Below w.heap.size w wr ∧
    wr.heap[w.heap.size]? = some (.cells #[.int .u8 k, .int .i64 n, .string s, .slice a l.length c, .int .i64 r] 26 (0, 0)) ∧
    wr.heap[w.heap.size + 1]? = some (.cells #[.int .u8 0, .int .i64 0, .string ⟨#[]⟩, .slice none 0 0, .int .i64 0] 26 (0, 0)) ∧
    wr.heap[w.heap.size + 1 + 1]? = some (.cells #[.int .u8 k, .int .i64 n, .string s, v, .int .i64 r] 26 (0, 0)) ∧
    wr.ownsRow (w.heap.size + 3) 26 5 v i xs ∧ Lie wr (fun b => w.heap.size + 3 ≤ b ∧ b < wr.heap.size ∧ v.ownBlock ≠ some b) true (l.take i) xs)
  case atStart => exact ⟨0, _, [], rfl, by simp, hb3, C0', C1', C2', hown3, by simp [Lie]⟩
  case round =>
    obtain ⟨i, v, xs, rfl, hgi, hb, C0, C1, C2, hown, hlie⟩ := hrel
    by_cases h : i < l.length
    · obtain ⟨b, o, a', c', rfl, hbB, ht, e0, e1, e2, e3, e4⟩ := (T.At.below hb hB hin).elem i h
      have hzr := hb.size
      have z0 : w.heap.size + 1 + 1 < wr.heap.size := (Array.getElem?_eq_some_iff.1 C2).1
      have hvl := hown.lt
      have mC := ih l[i] (List.getElem_mem h) a' c' wr.drew B (T.At.below ((Below.refl wr.heap.size wr).drew) (by omega) ht) (by show B ≤ wr.heap.size; omega) (hwl _ (List.getElem_mem h))
      unfold T.val at mC
      have hbz : b < wr.heap.size := by omega
      have KS : ∀ W : World, (W.heap[w.heap.size]? = wr.heap[w.heap.size]?) → W.heap[w.heap.size + 1 + 1]? = wr.heap[w.heap.size + 1 + 1]? → W.heap[b]? = wr.heap[b]? →
        (W.cell? ⟨w.heap.size + 1 + 1, 3, none⟩ = some v ∧ W.cell? ⟨w.heap.size, 3, none⟩ = some (.slice (some ⟨b, o, none⟩) l.length c) ∧ W.cell? ⟨b, o + i * 5, none⟩ = some (.int .u8 l[i].k) ∧ W.cell? ⟨b, o + i * 5 + 1, none⟩ = some (.int .i64 l[i].n) ∧
          W.cell? ⟨b, o + i * 5 + 2, none⟩ = some (.string l[i].s) ∧ W.cell? ⟨b, o + i * 5 + 3, none⟩ = some (.slice a' l[i].l.length c') ∧ W.cell? ⟨b, o + i * 5 + 4, none⟩ = some (.int .i64 l[i].r)) := fun W h0 h2 h3 => by
        rw [cell_of_heap h2, cell_of_heap h0, cell_of_heap h3, cell_of_heap h3, cell_of_heap h3, cell_of_heap h3, cell_of_heap h3]
        exact ⟨(blk5cc C2).2.2.2.1, (blk5cc C0).2.2.2.1, e0, e1, e2, e3, e4⟩
      have HKS := Lib.hid KS
      obtain ⟨x0, x1, x2, x3, x4⟩ := blk5cc C0
      obtain ⟨y0, y1, y2, y3, y4⟩ := blk5cc C2
      have HC0 := Lib.hid C0
      have HC1 := Lib.hid C1
      have HC2 := Lib.hid C2
      have HL := Lib.hid hlie
      have HO := Lib.hid hown
      have HB := Lib.hid hb
      clear ih KS C0 C1 C2 hlie hown hb ht hin y0 y1 y2 y4 x0 x1 x2 x4 C0' C1' C2' hown3 hb3
      go_upto_region 8 with fail
      go_region_law (first
          | (go_simp; go_at_call 16; refine mC.mono ?_; clear mC; rintro e w4 ⟨a2, c2, he, hi2, hb4⟩; unfold T.val at he; subst he; obtain ⟨k40, k41, k42, k43, k44, k45, k46⟩ := HKS.out w4 (hb4.block _ (by show _ < wr.heap.size; omega)) (hb4.block _ (by show _ < wr.heap.size; omega)) (hb4.block _ (by show _ < wr.heap.size; omega)); have hown4 := ownsRow_of_block' (w' := w4) HO.out (fun g hg => hb4.block g (hvl g hg).2); obtain ⟨k50, k51, k52, k53, k54, k55, k56⟩ := HKS.out (w4.alloc (.cells #[.int .u8 l[i].k, .int .i64 l[i].n, .string l[i].s, .slice a2 l[i].l.length c2, .int .i64 l[i].r] 26)) ((Below.heap_alloc _ _ _ (by have := hb4.size; have : wr.drew.heap.size = wr.heap.size := rfl; omega)).trans (hb4.block _ (by show _ < wr.heap.size; omega))) ((Below.heap_alloc _ _ _ (by have := hb4.size; have : wr.drew.heap.size = wr.heap.size := rfl; omega)).trans (hb4.block _ (by show _ < wr.heap.size; omega))) ((Below.heap_alloc _ _ _ (by have := hb4.size; have : wr.drew.heap.size = wr.heap.size := rfl; omega)).trans (hb4.block _ (by show _ < wr.heap.size; omega))))
          | (refine step_append_lies _ rfl _ _ 23 rfl (w.heap.size + 3) 26 i0 _ 5 64 Try.underlying23 hi hz0 hz1 hz2 rfl (by decide) v i xs (by rfl) (hown4.alloc _) ⟨w4.heap.size, 0, none⟩ 1 1 [.int .u8 l[i].k, .int .i64 l[i].n, .string l[i].s, .slice a2 l[i].l.length c2, .int .i64 l[i].r] (by rfl) rfl (World.news_of_block (cs := #[.int .u8 l[i].k, .int .i64 l[i].n, .string l[i].s, .slice a2 l[i].l.length c2, .int .i64 l[i].r]) (t := 26) (fr := (0, 0)) (blk_new _ _)) (by simp [Value.oneCell']) (by omega) (by unfold maxLen; omega) (by omega) (by have := hb4.size; have : wr.drew.heap.size = wr.heap.size := rfl; simp; omega) _ rfl ?_; intro g cap w5 hown5 hgrow5 hat5 hlt5; have hk5 : ∀ q, q < w.heap.size + 3 → q < wr.heap.size → w5.heap[q]? = wr.heap[q]? := (fun q hq hq2 => (hgrow5.block q (by have := hb4.size; have : wr.drew.heap.size = wr.heap.size := rfl; simp; omega) (fun e => by have := (hvl q e.symm).1; omega)).trans ((Below.heap_alloc _ _ _ (by have := hb4.size; have : wr.drew.heap.size = wr.heap.size := rfl; omega)).trans (hb4.block q hq2))); have G6 := (hk5 _ (by omega) z0).trans HC2.out; have c6 : w5.cell? ⟨w.heap.size + 1 + 1, 3, none⟩ = some v := (blk5cc G6).2.2.2.1; have F6 : w5.frozen? ⟨w.heap.size + 1 + 1, 3, none⟩ = false := (blk5 G6).2.2.2.2.2.2.2.2.1; have HK5 := Lib.hid hk5; have HG6 := Lib.hid G6; clear hk5 G6))
      all_goals
        obtain ⟨r1, r2, r3, r4, r5⟩ := lie_step HB.out (by omega) (by omega) (by omega) (below_undrew hb4) HO.out HL.out hi2 hown5 hgrow5 hat5 HC2.out
        have Q0 := (r2 w.heap.size (by omega) (by omega)).trans HC0.out
        have Q1 := (r2 (w.heap.size + 1) (by omega) (by omega)).trans HC1.out
        clear hown5 hgrow5 hat5 hown4
        go_wp2_with fail
        go_roundg (gk - 1)
        case measure => omega
        case rel =>
          refine ⟨i + 1, _, _, by go_num, by omega, r1, Q0, Q1, r3, r4, ?_⟩
          rw [List.take_succ_eq_append_getElem h]
          exact r5
    · have hil : i = l.length := by omega
      subst hil
      have hzr := hb.size
      have z0 : w.heap.size + 1 + 1 < wr.heap.size := (Array.getElem?_eq_some_iff.1 C2).1
      have hvl := hown.lt
      rw [List.take_of_length_le (Nat.le_refl _)] at hlie
      have mN := fun w' => num_walk 77 w'
      unfold T.val at mN
      simp only [T.k, T.n, T.s, T.l, T.r, List.length_nil] at mN
      obtain ⟨x0, x1, x2, x3, x4⟩ := blk5cc C0
      obtain ⟨y0, y1, y2, y3, y4⟩ := blk5cc C2
      have HC0 := Lib.hid C0
      have HC1 := Lib.hid C1
      have HC2 := Lib.hid C2
      have HL := Lib.hid hlie
      have HO := Lib.hid hown
      have HB := Lib.hid hb
      clear ih C0 C1 C2 hlie hown hb hin y0 y1 y2 y4 x0 x1 x2 x4 C0' C1' C2' hown3 hb3
      go_upto_region 9 with fail
      go_region_held3 (fun W => W.cell? ⟨w.heap.size + 1 + 1, 3, none⟩ = some v)
        (first | with_reducible exact K4 | with_reducible exact K5 | with_reducible exact K6 | go_keep)
        (first
          | (go_simp; go_at_call 55; refine (mN _).mono ?_; clear mN; rintro e w4 ⟨rfl, hb4⟩; have G4 := (hb4.block (w.heap.size + 1 + 1) (by show _ < wr.heap.size; omega)).trans HC2.out; have K4 := (blk5cc G4).2.2.2.1; have hown4 := ownsRow_of_block' (w' := w4) HO.out (fun g hg => hb4.block g (hvl g hg).2); have K5 := (blk5cc ((Below.heap_alloc w4 (.cells #[.int .u8 1, .int .i64 77, .string ⟨#[]⟩, .slice none 0 0, .int .i64 0] 26) _ (by have := hb4.size; have : wr.drew.heap.size = wr.heap.size := rfl; omega)).trans G4)).2.2.2.1; clear G4)
          | (refine step_append_lies _ rfl _ _ 23 rfl (w.heap.size + 3) 26 i0 _ 5 64 Try.underlying23 hi hz0 hz1 hz2 rfl (by decide) v l.length xs (by rfl) (hown4.alloc _) ⟨w4.heap.size, 0, none⟩ 1 1 [.int .u8 1, .int .i64 77, .string ⟨#[]⟩, .slice none 0 0, .int .i64 0] (by rfl) rfl (World.news_of_block (cs := #[.int .u8 1, .int .i64 77, .string ⟨#[]⟩, .slice none 0 0, .int .i64 0]) (t := 26) (fr := (0, 0)) (blk_new _ _)) (by simp [Value.oneCell']) (by omega) (by unfold maxLen; omega) (by omega) (by have := hb4.size; have : wr.drew.heap.size = wr.heap.size := rfl; simp; omega) _ rfl ?_; intro g cap w5 hown5 hgrow5 hat5 hlt5; have hk5 : ∀ q, q < w.heap.size + 3 → q < wr.heap.size → w5.heap[q]? = wr.heap[q]? := (fun q hq hq2 => (hgrow5.block q (by have := hb4.size; have : wr.drew.heap.size = wr.heap.size := rfl; simp; omega) (fun e => by have := (hvl q e.symm).1; omega)).trans ((Below.heap_alloc _ _ _ (by have := hb4.size; have : wr.drew.heap.size = wr.heap.size := rfl; omega)).trans (hb4.block q hq2))); have G6 := (hk5 _ (by omega) z0).trans HC2.out; obtain ⟨c0, c1, c2', K6, c4, F0, F1, F2, F3, F4⟩ := blk5 G6; have G7 := (hk5 w.heap.size (by omega) (by omega)).trans HC0.out; have d3 := (blk5cc G7).2.2.2.1; have HK5 := Lib.hid hk5; have HG6 := Lib.hid G6; clear hk5 G6 G7))
      have hcap := own_cap hown5
      have hcapI : (l.length : Int) ≤ (cap : Int) := by omega
      have G1 := (HK5.out (w.heap.size + 1) (by omega) (by omega)).trans HC1.out
      obtain ⟨S1, hoth, hsz, hbo⟩ := set3 HG6.out (.slice (some ⟨g, 0, none⟩) l.length cap)
      have hlies := lent_end hvl (HB.out.size) hzr (by omega) (below_undrew hb4) HO.out HL.out hown5 hgrow5 hat5 hoth hsz
      have hb5 : Below w.heap.size w w5 := Below.grown ((HB.out.trans ((below_undrew hb4).mono hzr)).alloc (by have := hb4.size; have : wr.drew.heap.size = wr.heap.size := rfl; omega) _) hgrow5 (by have := hb4.size; have : wr.drew.heap.size = wr.heap.size := rfl; simp; omega) (fun k hk => by have := (hvl k hk).1; omega)
      have HS1 := Lib.hid S1
      have HG1 := Lib.hid ((hoth (w.heap.size + 1) (by omega)).trans G1)
      have HH := Lib.hid hoth
      have HZ := Lib.hid hsz
      have HBO := Lib.hid (hb5.trans (hbo.mono (by omega)))
      have HLI := Lib.hid hlies
      clear G1 S1 hoth hsz hbo hb5 hlies hown5 hgrow5 hat5 hown4 K4 K5
      go_upto_region 11 with fail
      obtain ⟨W, hW⟩ : ∃ W, W = w5.setCell ⟨w.heap.size + 1 + 1, 3, none⟩ (.slice (some ⟨g, 0, none⟩) l.length cap) := ⟨_, rfl⟩
      rw [← hW] at HS1 HG1 HH HZ HBO HLI ⊢
      clear hW c0 c1 c2' K6 c4 F0 F1 F2 F3 F4
      obtain ⟨c0, c1, c2, c3, c4⟩ := blk5cc HS1.out
      go_wp2_with (refine wpList_put _ rfl _ _ rfl (w.heap.size + 1) _ _ _ _ _ _ _ _ _ _ (by rfl) (by rfl) (by simp [Value.oneCell']) HG1.out ?_; rintro wP hP)
      obtain ⟨g0, g1, g2, g3, g4⟩ := blk5cc hP.at_
      refine post_cell26 Try.results16 rfl rfl g0 g1 g2 g3 g4 ⟨some ⟨g, 0, none⟩, cap, rfl, ?_, HBO.out.trans (hP.below (by omega))⟩
      exact T.In.keep (fun b hb => hP.other b (by have := hb.1; omega)) (fun b hb => ⟨by have := hb.1; omega, by rw [hP.size]; exact hb.2⟩) id (HLI.out k n s r)
end Go.Proofs.Ytapfmfihhpafcaa
