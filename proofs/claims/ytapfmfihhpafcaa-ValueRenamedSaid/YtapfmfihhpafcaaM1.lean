/-
  A copy whose lists share no block; a value laid at a place; value.With.
-/
import Derived.Test.YtapfmfihhpafcaaD3
import Derived.Test.YtapfmfihhpafcaaB1
import Derived.Test.YtapfmfihhpafcaaD5
namespace Go.Proofs.Ytapfmfihhpafcaa
open Go.RowKit
set_option linter.unusedVariables false

mutual
/-- A tree of rows of its own, between two bounds, none of them shared. -/
def T.Sep (w : World) (lo hi : Nat) : T → Option Addr → Nat → Prop
  | .mk _ _ _ l _, a, c => ∃ m xs, w.ownsRow 0 26 5 (.slice a l.length c) l.length xs ∧ (∀ g, (Value.slice a l.length c).ownBlock = some g → lo ≤ g ∧ g < m) ∧ lo ≤ m ∧ m ≤ hi ∧ T.Seps w m hi l xs
def T.Seps (w : World) (lo hi : Nat) : List T → List Value → Prop
  | [], xs => xs = []
  | t :: ts, xs => ∃ m a c ys, T.Sep w lo m t a c ∧ xs = t.cells5 a c ++ ys ∧ lo ≤ m ∧ m ≤ hi ∧ T.Seps w m hi ts ys
end

mutual
theorem T.Sep.mut {w w' : World} {lo hi : Nat} {S : Nat → Prop} (h : ∀ b, lo ≤ b → b < hi → w'.heap[b]? = w.heap[b]? ∧ S b) : ∀ {t : T} {a : Option Addr} {c : Nat}, T.Sep w lo hi t a c → T.Mut w' S t a c
  | .mk _ _ _ l _, a, c, hs => by
    rw [T.Sep] at hs
    rw [T.Mut]
    obtain ⟨m, xs, h1, h2, h3, h4, h5⟩ := hs
    exact ⟨xs, ownsRow_of_block h1 (fun g hg => (h g (h2 g hg).1 (by have := (h2 g hg).2; omega)).1), fun g hg => (h g (h2 g hg).1 (by have := (h2 g hg).2; omega)).2, T.Seps.muts (fun b hb => h b (by omega)) h5⟩
theorem T.Seps.muts {w w' : World} {lo hi : Nat} {S : Nat → Prop} (h : ∀ b, lo ≤ b → b < hi → w'.heap[b]? = w.heap[b]? ∧ S b) : ∀ {l : List T} {xs : List Value}, T.Seps w lo hi l xs → T.Muts w' S l xs
  | [], xs, hs => by rw [T.Seps] at hs; rw [T.Muts]; exact hs
  | t :: ts, xs, hs => by
    rw [T.Seps] at hs
    rw [T.Muts]
    obtain ⟨m, a, c, ys, h1, h2, h3, h4, h5⟩ := hs
    exact ⟨a, c, ys, T.Sep.mut (fun b hb hb' => h b hb (by omega)) h1, h2, T.Seps.muts (fun b hb hb' => h b (by omega) hb') h5⟩
end

mutual
theorem T.Sep.keep {w w' : World} {lo hi : Nat} (h : ∀ b, lo ≤ b → b < hi → w'.heap[b]? = w.heap[b]?) : ∀ {t : T} {a : Option Addr} {c : Nat}, T.Sep w lo hi t a c → T.Sep w' lo hi t a c
  | .mk _ _ _ l _, a, c, hs => by
    rw [T.Sep] at hs ⊢
    obtain ⟨m, xs, h1, h2, h3, h4, h5⟩ := hs
    exact ⟨m, xs, ownsRow_of_block h1 (fun g hg => h g (h2 g hg).1 (by have := (h2 g hg).2; omega)), h2, h3, h4, T.Seps.keep (fun b hb => h b (by omega)) h5⟩
theorem T.Seps.keep {w w' : World} {lo hi : Nat} (h : ∀ b, lo ≤ b → b < hi → w'.heap[b]? = w.heap[b]?) : ∀ {l : List T} {xs : List Value}, T.Seps w lo hi l xs → T.Seps w' lo hi l xs
  | [], xs, hs => by rw [T.Seps] at hs ⊢; exact hs
  | t :: ts, xs, hs => by
    rw [T.Seps] at hs ⊢
    obtain ⟨m, a, c, ys, h1, h2, h3, h4, h5⟩ := hs
    exact ⟨m, a, c, ys, T.Sep.keep (fun b hb hb' => h b hb (by omega)) h1, h2, h3, h4, T.Seps.keep (fun b hb hb' => h b (by omega) hb') h5⟩
end

/-- A wider upper bound. -/
theorem T.Seps.top {w : World} {lo hi hi' : Nat} (h : hi ≤ hi') : ∀ {l : List T} {xs : List Value}, T.Seps w lo hi l xs → T.Seps w lo hi' l xs
  | [], xs, hs => by rw [T.Seps] at hs ⊢; exact hs
  | t :: ts, xs, hs => by
    rw [T.Seps] at hs ⊢
    obtain ⟨m, a, c, ys, h1, h2, h3, h4, h5⟩ := hs
    exact ⟨m, a, c, ys, h1, h2, h3, by omega, T.Seps.top h h5⟩
/-- Another one behind them. -/
theorem T.Seps.snoc {w : World} : ∀ {l : List T} {lo hi hi' : Nat} {xs : List Value} (_ : lo ≤ hi) (_ : hi ≤ hi') {t : T} {a : Option Addr} {c : Nat}, T.Seps w lo hi l xs → T.Sep w hi hi' t a c → T.Seps w lo hi' (l ++ [t]) (xs ++ t.cells5 a c)
  | [], lo, hi, hi', xs, h, h', t, a, c, hs, ht => by
    rw [T.Seps] at hs
    subst hs
    rw [List.nil_append, List.nil_append, T.Seps]
    cases t with
    | mk k n s l r =>
      rw [T.Sep] at ht
      obtain ⟨m, xs, h1, h2, h3, h4, h5⟩ := ht
      refine ⟨hi', a, c, [], ?_, by simp, by omega, by omega, by rw [T.Seps]⟩
      rw [T.Sep]
      exact ⟨m, xs, h1, fun g hg => ⟨by have := h2 g hg; omega, (h2 g hg).2⟩, by omega, h4, h5⟩
  | t' :: ts, lo, hi, hi', xs, h, h', t, a, c, hs, ht => by
    rw [T.Seps] at hs
    rw [List.cons_append, T.Seps]
    obtain ⟨m, a', c', ys, h1, h2, h3, h4, h5⟩ := hs
    exact ⟨m, a', c', ys ++ t.cells5 a c, h1, by rw [h2, List.append_assoc], h3, by omega, T.Seps.snoc h4 h' h5 ht⟩

/-- The one at place i, and those about it. -/
theorem T.Seps.get {w : World} : ∀ {l : List T} {lo hi : Nat} {xs : List Value} (_ : T.Seps w lo hi l xs) (i : Nat) (hi' : i < l.length), ∃ m m' a c, lo ≤ m ∧ m ≤ m' ∧ m' ≤ hi ∧ T.Sep w m m' l[i] a c ∧
    xs = xs.take (i * 5) ++ (l[i].cells5 a c ++ xs.drop (i * 5 + 5)) ∧ (i * 5 + 5 ≤ xs.length) ∧ T.Seps w lo m (l.take i) (xs.take (i * 5)) ∧ T.Seps w m' hi (l.drop (i + 1)) (xs.drop (i * 5 + 5))
  | [], _, _, _, _, _, hi' => absurd hi' (by simp)
  | t :: ts, lo, hi, xs, h, 0, _ => by
    rw [T.Seps] at h
    obtain ⟨m, a, c, ys, h1, rfl, h3, h4, h5⟩ := h
    refine ⟨lo, m, a, c, Nat.le_refl _, h3, h4, h1, ?_, by simp [T.cells5], ?_, ?_⟩
    · simp [T.cells5]
    · simp [T.Seps]
    · simpa [T.cells5] using h5
  | t :: ts, lo, hi, xs, h, i + 1, hi' => by
    rw [T.Seps] at h
    obtain ⟨m, a, c, ys, h1, rfl, h3, h4, h5⟩ := h
    obtain ⟨m1, m2, a', c', g1, g2, g3, g4, g5, g6, g7, g8⟩ := T.Seps.get h5 i (by simpa using hi')
    have hl : (t.cells5 a c).length = 5 := rfl
    have e : (i + 1) * 5 = 5 + i * 5 := by omega
    have e1 : (t.cells5 a c ++ ys).take ((i + 1) * 5) = t.cells5 a c ++ ys.take (i * 5) := by
      rw [List.take_append, hl, List.take_of_length_le (by rw [hl]; omega), e, Nat.add_sub_cancel_left]
    have e2 : (t.cells5 a c ++ ys).drop ((i + 1) * 5 + 5) = ys.drop (i * 5 + 5) := by
      rw [List.drop_append, hl, List.drop_of_length_le (by rw [hl]; omega), List.nil_append]
      congr 1; omega
    refine ⟨m1, m2, a', c', by omega, g2, g3, g4, ?_, by simp [hl]; omega, ?_, ?_⟩
    · rw [e1, e2, List.append_assoc]
      exact congrArg _ g5
    · rw [e1, List.take_succ_cons, T.Seps]
      exact ⟨m, a, c, ys.take (i * 5), h1, rfl, h3, g1, g7⟩
    · rw [e2]
      exact g8

/-- Five cells laid over the ones that were. -/
def laidCells (xs : List Value) (off : Nat) (vs : List Value) : List Value := xs.take off ++ (vs ++ xs.drop (off + 5))

theorem sets_laid {xs : List Value} {off : Nat} (h : off + 5 ≤ xs.length) (v0 v1 v2 v3 v4 : Value) : ((((xs.set off v0).set (off + 1) v1).set (off + 2) v2).set (off + 3) v3).set (off + 4) v4 = laidCells xs off [v0, v1, v2, v3, v4] := by
  unfold laidCells
  have hl1 : (xs.take off).length = off := by rw [List.length_take]; omega
  have hl2 : 5 ≤ (xs.drop off).length := by rw [List.length_drop]; omega
  have hx : xs = xs.take off ++ xs.drop off := (List.take_append_drop _ _).symm
  have hd : xs.drop (off + 5) = (xs.drop off).drop 5 := by rw [List.drop_drop]
  rw [hd]
  generalize xs.take off = p at hx hl1 ⊢
  generalize xs.drop off = q at hx hl2 ⊢
  rw [hx]
  match q, hl2 with
  | q0 :: q1 :: q2 :: q3 :: q4 :: q', _ =>
    have hm : ∀ (j : Nat) (v : Value) (r : List Value), (p ++ r).set (off + j) v = p ++ r.set j v := fun j v r => by
      rw [List.set_append, if_neg (by omega), hl1, Nat.add_sub_cancel_left]
    have hm0 := fun v r => hm 0 v r
    simp only [Nat.add_zero] at hm0
    rw [hm0, hm, hm, hm, hm]
    rfl

theorem take_laid {xs : List Value} {off : Nat} {vs : List Value} (h : off ≤ xs.length) (hv : vs.length = 5) : (laidCells xs off vs).take (off + 5) = xs.take off ++ vs := by
  unfold laidCells
  have hl1 : (xs.take off).length = off := by rw [List.length_take]; omega
  rw [List.take_append, hl1, Nat.add_sub_cancel_left, List.take_of_length_le (l := xs.take off) (by rw [hl1]; omega), List.take_append, hv, Nat.sub_self, List.take_zero, List.append_nil, List.take_of_length_le (l := vs) (by omega)]

/-- One more of a row is filled. -/
theorem store5s {w : World} {g n c i lo hi : Nat} {xs : List Value} (h : w.ownsRow 0 26 5 (.slice (some ⟨g, 0, none⟩) n c) n xs) {l : List T} {S : Nat → Prop} (hm : T.Muts w S l xs) (hS : ∀ b, S b → b ≠ g)
    {t : T} {a' : Option Addr} {c' : Nat} (ht : T.Sep w hi w.heap.size t a' c') (hSn : ∀ b, hi ≤ b → b < w.heap.size → S b) (hg : g < lo) (hlo : lo ≤ hi) (hhi : hi ≤ w.heap.size) (hi' : i < l.length) {l' : List T} (hs : T.Seps w lo hi l' (xs.take (i * 5))) :
    ∃ ys, (((((w.setCell ⟨g, i * 5, none⟩ (.int .u8 t.k)).setCell ⟨g, i * 5 + 1, none⟩ (.int .i64 t.n)).setCell ⟨g, i * 5 + 2, none⟩ (.string t.s)).setCell ⟨g, i * 5 + 3, none⟩ (.slice a' t.l.length c')).setCell ⟨g, i * 5 + 4, none⟩ (.int .i64 t.r)).ownsRow 0 26 5 (.slice (some ⟨g, 0, none⟩) n c) n ys ∧
    T.Muts (((((w.setCell ⟨g, i * 5, none⟩ (.int .u8 t.k)).setCell ⟨g, i * 5 + 1, none⟩ (.int .i64 t.n)).setCell ⟨g, i * 5 + 2, none⟩ (.string t.s)).setCell ⟨g, i * 5 + 3, none⟩ (.slice a' t.l.length c')).setCell ⟨g, i * 5 + 4, none⟩ (.int .i64 t.r)) S (l.set i t) ys ∧
    (∀ k, k ≠ g → (((((w.setCell ⟨g, i * 5, none⟩ (.int .u8 t.k)).setCell ⟨g, i * 5 + 1, none⟩ (.int .i64 t.n)).setCell ⟨g, i * 5 + 2, none⟩ (.string t.s)).setCell ⟨g, i * 5 + 3, none⟩ (.slice a' t.l.length c')).setCell ⟨g, i * 5 + 4, none⟩ (.int .i64 t.r)).heap[k]? = w.heap[k]?) ∧
    T.Seps (((((w.setCell ⟨g, i * 5, none⟩ (.int .u8 t.k)).setCell ⟨g, i * 5 + 1, none⟩ (.int .i64 t.n)).setCell ⟨g, i * 5 + 2, none⟩ (.string t.s)).setCell ⟨g, i * 5 + 3, none⟩ (.slice a' t.l.length c')).setCell ⟨g, i * 5 + 4, none⟩ (.int .i64 t.r)) lo w.heap.size (l' ++ [t]) (ys.take ((i + 1) * 5)) := by
  have h0 := (h.stored (i * 5) (.int .u8 t.k)).1
  have h1 := (h0.stored (i * 5 + 1) (.int .i64 t.n)).1
  have h2 := (h1.stored (i * 5 + 2) (.string t.s)).1
  have h3 := (h2.stored (i * 5 + 3) (.slice a' t.l.length c')).1
  have h4 := (h3.stored (i * 5 + 4) (.int .i64 t.r)).1
  have hk : ∀ k, k ≠ g → (((((w.setCell ⟨g, i * 5, none⟩ (.int .u8 t.k)).setCell ⟨g, i * 5 + 1, none⟩ (.int .i64 t.n)).setCell ⟨g, i * 5 + 2, none⟩ (.string t.s)).setCell ⟨g, i * 5 + 3, none⟩ (.slice a' t.l.length c')).setCell ⟨g, i * 5 + 4, none⟩ (.int .i64 t.r)).heap[k]? = w.heap[k]? := fun k hk => by
    rw [Below.heap_setCell _ _ _ _ hk, Below.heap_setCell _ _ _ _ hk, Below.heap_setCell _ _ _ _ hk, Below.heap_setCell _ _ _ _ hk, Below.heap_setCell _ _ _ _ hk]
  have hlen : xs.length = l.length * 5 := hm.length
  refine ⟨_, h4, T.Muts.keep (fun b hb => hk b (hS b hb)) (fun _ h => h) (hm.set (T.Sep.mut (fun b hb hb' => ⟨rfl, hSn b hb hb'⟩) ht) i hi'), hk, ?_⟩
  have e : (i + 1) * 5 = i * 5 + 5 := by omega
  rw [sets_laid (by omega), e, take_laid (by omega) rfl]
  exact T.Seps.keep (fun b hb _ => hk b (by omega)) (hs.snoc hlo hhi ht)

/-- What own hands back, said more closely. -/
def OwnSep (w : World) (t : T) (e : Ending) (w' : World) : Prop :=
  ∃ a c, e = .returned (t.val a c) ∧ T.Sep w' w.heap.size w'.heap.size t a c ∧ Below w.heap.size w w'

theorem T.Sep.leaf (w : World) (lo hi : Nat) (h : lo ≤ hi) (k n r : Int) (s : ByteArray) : T.Sep w lo hi (.mk k n s [] r) none 0 := by
  rw [T.Sep]
  exact ⟨lo, [], World.ownsRow_nil _ _ _ _, by simp [Value.ownBlock], Nat.le_refl _, h, by rw [T.Seps]⟩

set_option maxRecDepth 100000 in
set_option maxHeartbeats 4000000 in
theorem ownSep_walk (t : T) : ∀ (a : Option Addr) (c : Nat) (w : World) (B : Nat), T.At w B t a c → B ≤ w.heap.size → t.wf →
    Calls Try.prog 59 #[t.val a c] w (OwnSep w t) := by
  induction t using T.induct with
  | h k n s l r ih =>
  intro a c w B hin hB hwf
  rw [T.wf, T.wfs_iff] at hwf
  obtain ⟨⟨_, _, _, _, _, _, _, hll⟩, hwl⟩ := hwf
  unfold T.val
  simp only [T.k, T.n, T.s, T.l, T.r]
  by_cases hl : l.length = 0
  · have hl' : l = [] := List.length_eq_zero_iff.1 hl
    subst hl'
    go_enter Try.func59, Try.ntmps59
    go_wp2_with fail
    refine bodyPost_ret (v := .agg #[.int .u8 k, .int .i64 n, .string s, .slice none 0 0, .int .i64 r]) (by simp [results, Try.results59, go_sem]) rfl ⟨none, 0, rfl, ?_, ((Below.refl _ _).alloc (Nat.le_refl _) _).alloc (by simp) _⟩
    exact T.Sep.leaf _ _ _ (by simp; omega) _ _ _ _
  have hl1 : ((l.length : Int) == 0) = false := by simpa using hl
  obtain ⟨i0, hi, hz0, hz1, hz2⟩ := info_parts info26
  have HLL := Lib.hid hll
  clear hll
  go_enter Try.func59, Try.ntmps59
  go_wp2_with (first | (at_make; refine wpList_make_full _ rfl _ _ 23 rfl 0 26 i0 _ 5 Try.underlying23 hi hz0 hz1 .i64 .i64 _ _ l.length rfl rfl rfl rfl (by rw [hz2]; have := HLL.out; omega) (by have := HLL.out; unfold maxLen; omega) (by simp) ?_; intro w1 hown1 hgrow1; have B0 := (hgrow1.block w.heap.size (by simp; omega) (by simp)).trans (two_blk0 _ _ _); have B1 := (hgrow1.block (w.heap.size + 1) (by simp) (by simp)).trans (two_blk1 _ _ _); obtain ⟨x0, x1, x2, x3, x4, y0, y1, y2, y3, y4⟩ := blk5 B0))
  clear x0 x1 x2 x3 x4 y0 y1 y2 y3 y4
  have hown2 : w1.ownsRow 0 26 5 (.slice (some ⟨w.heap.size + 1 + 1, 0, none⟩) l.length l.length) l.length (List.replicate l.length (T.zero.cells5 none 0)).flatten := by
    rw [← madeCells_zero]
    have h := hown1
    rw [World.size_alloc, World.size_alloc] at h
    exact h
  have hm0 := T.Muts.zeros w1 (New (w.heap.size + 3) w1) l.length
  rw [← filled_zero] at hm0
  have hz1' : w.heap.size + 2 < w1.heap.size := (hown2.lt (w.heap.size + 2) rfl).2
  have hb1 : Below w.heap.size w w1 := by
    refine ⟨hgrow1.os, hgrow1.tape, hgrow1.output, by omega, fun k hk => (hgrow1.block k (by simp; omega) (by simp)).trans ?_⟩
    rw [Below.heap_alloc _ _ _ (by simp; omega), Below.heap_alloc _ _ _ hk]
  go_loopg [19] l.length (fun g vi wr => ∃ (i : Nat) (xs : List Value), vi = .int .i64 i ∧ i + g = l.length ∧ Below w.heap.size w wr ∧ w.heap.size + 2 < wr.heap.size ∧
    wr.heap[w.heap.size]? = some (.cells #[.int .u8 k, .int .i64 n, .string s, .slice a l.length c, .int .i64 r] 26 (0, 0)) ∧
    wr.heap[w.heap.size + 1]? = some (.cells #[.int .u8 0, .int .i64 0, .string ⟨#[]⟩, .slice none 0 0, .int .i64 0] 26 (0, 0)) ∧
    wr.ownsRow 0 26 5 (.slice (some ⟨w.heap.size + 1 + 1, 0, none⟩) l.length l.length) l.length xs ∧ T.Muts wr (New (w.heap.size + 3) wr) (filled l i) xs ∧ T.Seps wr (w.heap.size + 3) wr.heap.size (l.take i) (xs.take (i * 5)))
  case atStart => exact ⟨0, _, rfl, by simp, hb1, hz1', B0, B1, hown2, hm0, by simp [T.Seps]⟩
  case round =>
    obtain ⟨i, xs, rfl, hgi, hb, hz, C0, C1, hown, hm, hsp⟩ := hrel
    have hll := HLL.out
    by_cases h : i < l.length
    · obtain ⟨b, o, a', c', rfl, hbB, ht, e0, e1, e2, e3, e4⟩ := (T.At.below hb hB hin).elem i h
      obtain ⟨wX, hwX⟩ : ∃ wX, wX = wr.alloc (.cells #[.int .u8 l[i].k, .int .i64 l[i].n, .string l[i].s, .slice a' l[i].l.length c', .int .i64 l[i].r] 26 (0, 0)) := ⟨_, rfl⟩
      have hbX : Below wr.heap.size wr wX := by rw [hwX]; exact (Below.refl _ _).alloc (Nat.le_refl _) _
      have HSP := Lib.hid hsp
      clear hsp
      have ih' := ih l[i] (List.getElem_mem h) a' c' wX B (T.At.below hbX (by omega) ht) (by have := hbX.size; omega) (hwl _ (List.getElem_mem h))
      unfold T.val at ih'
      have HX := Lib.hid hbX
      clear ih hbX
      rw [hwX] at ih' HX
      clear hwX hin
      go_wp2_with (go_at_call 59; refine ih'.mono ?_; clear ih'; rintro e w' ⟨a2, c2, he, hm2, hb2⟩; unfold T.val at he; subst he; have HM2 := Lib.hid hm2; clear hm2; have own2 := ownsRow_of_block (w' := w') hown (fun g hg => by injection hg with hg; rw [← hg]; exact (hb2.block _ (by simp; omega)).trans (HX.out.block _ (by omega))); obtain ⟨v0, v1, v2, v3, v4, q0, q1, q2, q3, q4, g0, g1, g2, g3, g4⟩ := slot5 own2 hm (filled_length l i (by omega)) h)
      have hz2 := hb2.size
      simp only [World.size_alloc] at hz2
      have hm' : T.Muts w' (New (w.heap.size + 3) w') (filled l i) xs := T.Muts.keep (fun b hb => (hb2.block b (by have := hb.2; simp; omega)).trans (HX.out.block b hb.2)) (fun b hb => ⟨hb.1, by have := hb.2; omega⟩) hm
      have hsp' : T.Seps w' (w.heap.size + 3) (wr.heap.size + 1) (l.take i) (xs.take (i * 5)) := T.Seps.top (by omega) (T.Seps.keep (fun b _ hb => (hb2.block b (by simp; omega)).trans (HX.out.block b hb)) HSP.out)
      have hm2' : T.Sep w' (wr.heap.size + 1) w'.heap.size l[i] a2 c2 := by have h9 := HM2.out; rw [World.size_alloc] at h9; exact h9
      obtain ⟨ys, own3, mut3, hk3, sep3⟩ := store5s own2 hm' (fun b hb => by have h1 := hb.1; omega) (t := l[i]) hm2' (fun b hb hb' => ⟨by omega, hb'⟩) (by omega) (by omega) (by omega) (i := i) (by rw [filled_length l i (by omega)]; exact h) hsp'
      rw [filled_set l i h] at mut3
      have D0 := (hk3 w.heap.size (by omega)).trans ((hb2.block _ (by simp; omega)).trans ((HX.out.block _ (by omega)).trans C0))
      have D1 := (hk3 (w.heap.size + 1) (by omega)).trans ((hb2.block _ (by simp; omega)).trans ((HX.out.block _ (by omega)).trans C1))
      have hb3 : Below w.heap.size w w' := hb.trans ((HX.out.trans (hb2.mono (by simp))).mono hb.size)
      go_roundg (gk - 1)
      case measure => omega
      case rel =>
        refine ⟨i + 1, ys, by go_num, by omega, ⟨hb3.os, hb3.tape, hb3.output, by simp [World.setCell]; exact hb3.size, fun k hk => (hk3 k (by omega)).trans (hb3.block k hk)⟩, by simp [World.setCell]; omega, D0, D1, own3, ?_⟩
        refine ⟨T.Muts.keep (fun _ _ => rfl) (fun b hb => ⟨hb.1, by have := hb.2; simpa [World.setCell] using this⟩) mut3, ?_⟩
        rw [List.take_succ_eq_append_getElem h]
        exact T.Seps.top (by simp [World.setCell]) sep3
    · have hil : i = l.length := by omega
      subst hil
      rw [filled_end] at hm
      have hxl : xs.length = l.length * 5 := hown.1
      rw [List.take_of_length_le (Nat.le_refl _), List.take_of_length_le (by omega)] at hsp
      obtain ⟨x0, x1, x2, x3, x4, y0, y1, y2, y3, y4⟩ := blk5 C0
      obtain ⟨z0, z1, z2, z3, z4, u0, u1, u2, u3, u4⟩ := blk5 C1
      clear ih hin hwl
      go_wp2_with fail
      obtain ⟨wy, hwy⟩ : ∃ wy, wy = wr.setCell ⟨w.heap.size, 3, none⟩ (.slice (some ⟨w.heap.size + 1 + 1, 0, none⟩) l.length l.length) := ⟨_, rfl⟩
      have hy : ∀ q, q ≠ w.heap.size → wy.heap[q]? = wr.heap[q]? := fun q hq => by rw [hwy]; exact Below.heap_setCell _ _ _ _ hq
      have hyz : wy.heap.size = wr.heap.size := by rw [hwy]; simp [World.setCell]
      have hyb : Below w.heap.size w wy := ⟨by rw [hwy]; exact hb.os, by rw [hwy]; exact hb.tape, by rw [hwy]; exact hb.output, by rw [hyz]; exact hb.size, fun q hq => (hy q (by omega)).trans (hb.block q hq)⟩
      rw [← hwy]
      obtain ⟨f1, f2, f3⟩ := fill5 (v0 := .int .u8 k) (v1 := .int .i64 n) (v2 := .string s) (v3 := .slice (some ⟨w.heap.size + 1 + 1, 0, none⟩) l.length l.length) (v4 := .int .i64 r) ((hy _ (by omega)).trans C1)
      obtain ⟨wz, hwz⟩ : ∃ wz, wz = ((((wy.setCell ⟨w.heap.size + 1, 0, none⟩ (.int .u8 k)).setCell ⟨w.heap.size + 1, 1, none⟩ (.int .i64 n)).setCell ⟨w.heap.size + 1, 2, none⟩ (.string s)).setCell ⟨w.heap.size + 1, 3, none⟩ (.slice (some ⟨w.heap.size + 1 + 1, 0, none⟩) l.length l.length)).setCell ⟨w.heap.size + 1, 4, none⟩ (.int .i64 r) := ⟨_, rfl⟩
      have hzb : wz.os = wy.os ∧ wz.tape = wy.tape ∧ wz.output = wy.output := by rw [hwz]; exact ⟨rfl, rfl, rfl⟩
      rw [← hwz] at f1 f2 f3 ⊢
      clear hwz hwy
      obtain ⟨g0, g1, g2, g3, g4, _⟩ := blk5 f1
      refine post_cell26 Try.results59 rfl rfl g0 g1 g2 g3 g4 ⟨_, _, rfl, ?_, ?_⟩
      · rw [T.Sep]
        have hk : ∀ q, w.heap.size + 1 < q → wz.heap[q]? = wr.heap[q]? := fun q hq => (f2 q (by omega)).trans (hy q (by omega))
        refine ⟨w.heap.size + 3, xs, ownsRow_of_block hown (fun g hg => hk g (by injection hg with hg; simp at hg; omega)), fun g hg => ?_, by omega, by omega, T.Seps.top (by omega) (T.Seps.keep (fun b hb _ => hk b (by omega)) hsp)⟩
        injection hg with hg
        simp at hg
        exact ⟨by omega, by omega⟩
      · exact hyb.trans ⟨hzb.1, hzb.2.1, hzb.2.2, by omega, fun q hq => f2 q (by omega)⟩

/-- The tree in which v stands at a place. -/
def T.put : List Int → T → T → T
  | [], v, _ => v
  | i :: is, v, .mk k n s l r => .mk k n s (l.set i.toNat (T.put is v (l[i.toNat]?.getD T.zero))) r

theorem T.put_step (i : Int) (is : List Int) (v t : T) (h1 : i.toNat < t.l.length) : T.put (i :: is) v t = .mk t.k t.n t.s (t.l.set i.toNat (T.put is v t.l[i.toNat])) t.r := by
  obtain ⟨k, n, s, l, r⟩ := t
  have h1' : i.toNat < l.length := h1
  rw [T.put, List.getElem?_eq_getElem h1']
  rfl

theorem T.put_wf {v : T} (hv : v.wf) : ∀ {p : List Int} {t : T}, t.wf → T.find p t ≠ none → (T.put p v t).wf
  | [], t, h, _ => by rw [T.put]; exact hv
  | i :: is, .mk k n s l r, h, hf => by
    rw [T.wf, T.wfs_iff] at h
    rw [T.put, T.wf, T.wfs_iff]
    rw [T.find] at hf
    by_cases h0 : 0 ≤ i
    · rw [if_pos h0] at hf
      by_cases h1 : i.toNat < l.length
      · rw [List.getElem?_eq_getElem h1] at hf ⊢
        refine ⟨by rw [List.length_set]; exact h.1, fun x hx => ?_⟩
        rcases List.mem_or_eq_of_mem_set hx with hx | hx
        · exact h.2 x hx
        · subst hx
          exact T.put_wf hv (h.2 _ (List.getElem_mem h1)) hf
      · rw [List.getElem?_eq_none (by omega)] at hf
        exact absurd rfl hf
    · rw [if_neg h0] at hf
      exact absurd rfl hf

theorem laid_assoc (xs : List Value) (off : Nat) (vs : List Value) : xs.take off ++ vs ++ xs.drop (off + 5) = laidCells xs off vs := by rw [laidCells, List.append_assoc]

theorem laid_get {xs : List Value} {off : Nat} {vs : List Value} (h : laidCells xs off vs = xs) (ho : off ≤ xs.length) (j : Nat) (hj : j < vs.length) : xs[off + j]? = vs[j]? := by
  have hl1 : (xs.take off).length = off := by rw [List.length_take]; omega
  conv => lhs; rw [← h]
  unfold laidCells
  rw [List.getElem?_append_right (by omega), hl1, Nat.add_sub_cancel_left, List.getElem?_append_left hj]

theorem laid_cells {w : World} {g off : Nat} {cur : Array Value} {v0 v1 v2 v3 v4 : Value} (D : w.heap[g]? = some (.cells cur 26 (0, 0))) (h : laidCells cur.toList off [v0, v1, v2, v3, v4] = cur.toList) (ho : off + 5 ≤ cur.size) :
    w.cell? ⟨g, off, none⟩ = some v0 ∧ w.cell? ⟨g, off + 1, none⟩ = some v1 ∧ w.cell? ⟨g, off + 2, none⟩ = some v2 ∧ w.cell? ⟨g, off + 3, none⟩ = some v3 ∧ w.cell? ⟨g, off + 4, none⟩ = some v4 := by
  have hc : ∀ j, w.cell? ⟨g, j, none⟩ = cur[j]? := fun j => by simp [World.cell?, D]
  have hg := fun j hj => laid_get (xs := cur.toList) h (by rw [Array.length_toList]; omega) j hj
  simp only [Array.getElem?_toList] at hg
  rw [hc, hc, hc, hc, hc]
  exact ⟨hg 0 (by simp), hg 1 (by simp), hg 2 (by simp), hg 3 (by simp), hg 4 (by simp)⟩

theorem laid_over {xs vs vs' : List Value} {off : Nat} (h : laidCells xs off vs = xs) (e : vs = vs') : laidCells xs off vs' = xs := e ▸ h

/-- What stands at ⟨pb, po⟩ is laid into the whole, which a box holds. -/
def Plug (w : World) (lo hi pb po : Nat) (cur : Array Value) (box base : Nat) (F : T → T) : Prop :=
  ∀ (W : World) (u' : T) (a' : Option Addr) (c' : Nat), (∀ b, base ≤ b → b < w.heap.size → b ≠ pb → ¬ (lo ≤ b ∧ b < hi) → W.heap[b]? = w.heap[b]?) →
    W.heap[pb]? = some (.cells (laidCells cur.toList po (u'.cells5 a' c')).toArray 26 (0, 0)) → w.heap.size ≤ W.heap.size → T.Mut W (New base W) u' a' c' →
    ∃ a'' c'', W.heap[box]? = some (.cells ((F u').cells5 a'' c'').toArray 26 (0, 0)) ∧ T.Mut W (New base W) (F u') a'' c''

theorem Plug.box {w : World} {lo hi box base : Nat} {t : T} {a : Option Addr} {c : Nat} : Plug w lo hi box 0 (t.cells5 a c).toArray box base id := by
  intro W u' a' c' _ h _ hm
  refine ⟨a', c', ?_, hm⟩
  rw [h]
  rfl

theorem Plug.step {w : World} {lo hi pb po box base : Nat} {cur : Array Value} {F : T → T} {u : T} {ua : Option Addr} {uc : Nat} (h : Plug w lo hi pb po cur box base F) (hcur : w.heap[pb]? = some (.cells cur 26 (0, 0)))
    (hgrp : laidCells cur.toList po (u.cells5 ua uc) = cur.toList) (hsep : T.Sep w lo hi u ua uc) (hpb : pb < lo ∨ hi ≤ pb) (hb : base ≤ lo) (hbp : base ≤ pb) (hhi : hi ≤ w.heap.size) (hpz : pb < w.heap.size) (q : Nat) (hq : q < u.l.length) :
    ∃ g lo' hi' cur' a' c', ua = some ⟨g, 0, none⟩ ∧ u.l.length ≤ uc ∧ w.heap[g]? = some (.cells cur' 26 (0, 0)) ∧ q * 5 + 5 ≤ cur'.size ∧ laidCells cur'.toList (q * 5) (u.l[q].cells5 a' c') = cur'.toList ∧ T.Sep w lo' hi' u.l[q] a' c' ∧
      (g < lo' ∨ hi' ≤ g) ∧ base ≤ lo' ∧ base ≤ g ∧ hi' ≤ w.heap.size ∧ g < w.heap.size ∧ Plug w lo' hi' g (q * 5) cur' box base (fun u' => F (.mk u.k u.n u.s (u.l.set q u') u.r)) := by
  obtain ⟨k, n, s, l, r⟩ := u
  simp only [T.k, T.n, T.s, T.l, T.r] at hq ⊢
  rw [T.Sep] at hsep
  obtain ⟨m, xs, h1, h2, h3, h4, h5⟩ := hsep
  have hx1 := h1
  rcases h1.2 with ⟨_, hn⟩ | ⟨g, cap, cur', hv, hb0, hg, hle, hcm, hcs, htake⟩
  · omega
  · simp only [Value.slice.injEq, true_and] at hv
    obtain ⟨rfl, rfl⟩ := hv
    have hgr := h2 g rfl
    have hgz : g < w.heap.size := (Array.getElem?_eq_some_iff.1 hg).1
    obtain ⟨m1, m2, a', c', g1, g2, g3, g4, g5, g6, g7, g8⟩ := h5.get q hq
    have hxl : xs.length = l.length * 5 := h1.1
    have hcl : cur'.toList.length = uc * 5 := by rw [Array.length_toList]; exact hcs
    have htail : ∀ vs : List Value, vs.length = 5 → laidCells cur'.toList (q * 5) vs = laidCells xs (q * 5) vs ++ cur'.toList.drop (l.length * 5) := fun vs hvl => by
      unfold laidCells
      rw [← htake, List.take_take, Nat.min_eq_left (by omega), List.drop_take, List.append_assoc, List.append_assoc]
      congr 2
      have e := (List.take_append_drop (l.length * 5 - (q * 5 + 5)) (cur'.toList.drop (q * 5 + 5))).symm
      rw [List.drop_drop] at e
      have e2 : q * 5 + 5 + (l.length * 5 - (q * 5 + 5)) = l.length * 5 := by omega
      rw [e2] at e
      exact e
    refine ⟨g, m1, m2, cur', a', c', rfl, hle, hg, by omega, ?_, g4, by omega, by omega, by omega, by omega, hgz, ?_⟩
    · rw [htail _ rfl]
      have e : laidCells xs (q * 5) (l[q].cells5 a' c') = xs := g5.symm
      rw [e, ← htake]
      exact List.take_append_drop _ _
    · intro W u' b' d' hW hWg hWz hmt
      have hWs : ∀ b, lo ≤ b → b < hi → b ≠ g → ¬ (m1 ≤ b ∧ b < m2) → W.heap[b]? = w.heap[b]? := fun b hb1 hb2 hb3 hb4 => hW b (by omega) (by omega) hb3 hb4
      refine h W (.mk k n s (l.set q u') r) (some ⟨g, 0, none⟩) uc (fun b hb1 hb2 hb3 hb4 => hW b hb1 hb2 (fun e => by subst e; exact hb4 ⟨by omega, by omega⟩) (fun hc => hb4 ⟨by omega, by omega⟩)) ?_ hWz ?_
      · rw [hW pb hbp hpz (by omega) (by omega), hcur]
        have e := laid_over hgrp (vs' := (T.mk k n s (l.set q u') r).cells5 (some ⟨g, 0, none⟩) uc) (by simp [T.cells5, T.k, T.n, T.s, T.l, T.r])
        rw [e]
      · rw [T.Mut]
        have hset : l.set q u' = l.take q ++ ([u'] ++ l.drop (q + 1)) := by
          rw [List.set_eq_take_append_cons_drop, if_pos hq]; rfl
        refine ⟨laidCells xs (q * 5) (u'.cells5 b' d'), ⟨?_, .inr ⟨g, uc, _, by rw [List.length_set], Nat.zero_le _, hWg, by rw [List.length_set]; exact hle, hcm, ?_, ?_⟩⟩, fun g' hg' => ?_, ?_⟩
        · rw [List.length_set]
          unfold laidCells
          simp [T.cells5]
          omega
        · unfold laidCells
          simp [T.cells5]
          omega
        · rw [List.length_set]
          show List.take _ (laidCells cur'.toList (q * 5) (u'.cells5 b' d')) = _
          rw [htail _ rfl, List.take_append_of_le_length (by unfold laidCells; simp [T.cells5]; omega), List.take_of_length_le (by unfold laidCells; simp [T.cells5]; omega)]
        · injection hg' with hg'
          simp at hg'
          exact ⟨by omega, by omega⟩
        · rw [hset]
          unfold laidCells
          exact (T.Seps.muts (fun b hb1 hb2 => ⟨hWs b (by omega) (by omega) (by omega) (by omega), by omega, by omega⟩) g7).app ((T.Muts.one hmt).app (T.Seps.muts (fun b hb1 hb2 => ⟨hWs b (by omega) (by omega) (by omega) (by omega), by omega, by omega⟩) g8))

/-- What With hands back. -/
def WithPost (w : World) (t v : T) (p : List Int) (e : Ending) (w' : World) : Prop :=
  ((t.may = true ∧ v.may = true ∧ T.find p t ≠ none ∧ (T.put p v t).may = true ∧ ∃ a c, e = .returned (.tuple #[(T.put p v t).val a c, .int .i64 0]) ∧ T.Mut w' (New w.heap.size w') (T.put p v t) a c) ∨
    (t.may = true ∧ v.may = true ∧ T.find p t ≠ none ∧ (T.put p v t).may = false ∧ e = .returned (.tuple #[T.zero.val none 0, .int .i64 4])) ∨
    (t.may = true ∧ v.may = true ∧ T.find p t = none ∧ e = .returned (.tuple #[T.zero.val none 0, .int .i64 22])) ∨
    ((t.may && v.may) = false ∧ e = .returned (.tuple #[T.zero.val none 0, .int .i64 2]))) ∧ Below w.heap.size w w'

theorem post_cell26w {fn : Func} {R : Ending → World → Prop} {a : Act} {w : World} {b : Nat} {v0 v1 v2 v3 v4 u : Value} (hr : fn.results = #[.cell 6 26, .tmp 7]) (hp : a.tmps[6]?.getD undef = .pointer (some ⟨b, 0, none⟩)) (hu : a.tmps[7]?.getD undef = u) (hd : a.defers = [])
    (C : w.heap[b]? = some (.cells #[v0, v1, v2, v3, v4] 26 (0, 0))) (h : R (.returned (.tuple #[.agg #[v0, v1, v2, v3, v4], u])) w) : bodyPost Try.prog fn R .ret a w := by
  obtain ⟨c0, c1, c2, c3, c4, _⟩ := blk5 C
  refine bodyPost_ret (v := .tuple #[.agg #[v0, v1, v2, v3, v4], u]) ?_ hd h
  simp only [results, hr]
  simp [hp, hu, go_sem, c0, c1, c2, c3, c4]

set_option maxRecDepth 100000 in
set_option maxHeartbeats 4000000 in
theorem with_walk (t v : T) (p : List Int) (a : Option Addr) (c : Nat) (a' : Option Addr) (c' : Nat) (pa : Option Addr) (pc : Nat) (w : World) (B : Nat) (hin : T.At w B t a c) (hin' : T.At w B v a' c') (hp : Ints w (· < B) p pa pc) (hB : B ≤ w.heap.size) (hw : t.wf) (hw' : v.wf) (hpl : p.length ≤ 1000000) :
    Calls Try.prog 46 #[t.val a c, v.val a' c', .slice pa p.length pc] w (WithPost w t v p) := by
  obtain ⟨w1, hw1⟩ : ∃ w1, w1 = ((w.alloc (.cells #[.int .u8 t.k, .int .i64 t.n, .string t.s, .slice a t.l.length c, .int .i64 t.r] 26 (0, 0))).alloc (.cells #[.int .u8 v.k, .int .i64 v.n, .string v.s, .slice a' v.l.length c', .int .i64 v.r] 26 (0, 0))).alloc (.cells #[.int .u8 0, .int .i64 0, .string ⟨#[]⟩, .slice none 0 0, .int .i64 0] 26 (0, 0)) := ⟨_, rfl⟩
  have hb1 : Below w.heap.size w w1 := by rw [hw1]; exact (two_boxes _ _ _).alloc (by simp; omega) _
  obtain ⟨D0, D1, D2⟩ : w1.heap[w.heap.size]? = _ ∧ w1.heap[w.heap.size + 1]? = _ ∧ w1.heap[w.heap.size + 1 + 1]? = _ := by rw [hw1]; exact three_blk _ _ _ _
  have z1 : w1.heap.size = w.heap.size + 3 := by rw [hw1]; simp
  have i1 := T.At.below hb1 hB hin
  have i1' := T.At.below hb1 hB hin'
  have p1 := Ints.below hb1 hB hp
  have m1 := fun w' (hb : Below w1.heap.size w1 w') => may_walk t a c w' B (T.At.below hb (by omega) i1) (by have := hb.size; omega) hw
  have m2 := fun w' (hb : Below w1.heap.size w1 w') => may_walk v a' c' w' B (T.At.below hb (by omega) i1') (by have := hb.size; omega) hw'
  have m3 := fun w' (hb : Below w1.heap.size w1 w') => find_walk t p a c pa pc w' B (T.At.below hb (by omega) i1) (Ints.below hb (by omega) p1) (by have := hb.size; omega) hw hpl
  have m4 := fun w' (hb : Below w1.heap.size w1 w') => ownSep_walk t a c w' B (T.At.below hb (by omega) i1) (by have := hb.size; omega) hw
  have m5 := fun w' (hb : Below w1.heap.size w1 w') => own_walk v a' c' w' B (T.At.below hb (by omega) i1') (by have := hb.size; omega) hw'
  have P1 := Lib.hid p1
  clear hin hin' hp i1 i1' p1
  have HW := Lib.hid hw
  have HW' := Lib.hid hw'
  unfold T.val at m1 m2 m3 m4 m5 ⊢
  obtain ⟨x0, x1, x2, x3, x4⟩ := blk5cc D0
  have E0 := Lib.hid D0
  have E1 := Lib.hid D1
  have E2 := Lib.hid D2
  have Z1 := Lib.hid z1
  have HB1 := Lib.hid hb1
  clear D0 D1 D2 hw hw' hb1 z1
  cases hm : t.may with
  | false =>
    rw [hm] at m1
    have HM := Lib.hid hm
    clear hm m2 m3 m4 m5
    go_enter Try.func46, Try.ntmps46
    go_upto_region 1 with (fail)
    rw [← hw1]
    clear hw1
    go_wp2_with (first
      | (go_at_call 34; refine (m1 _ (Below.refl _ _)).mono ?_; clear m1; rintro e w2 ⟨rfl, hb2⟩; have G2 := Lib.hid ((hb2.block _ (by rw [Z1.out]; omega)).trans E2.out))
      | (refine wpList_put _ rfl _ _ rfl (w.heap.size + 1 + 1) _ _ _ _ _ _ _ _ _ _ (by rfl) (by rfl) (by simp [Value.oneCell']) G2.out ?_; rintro wP hP))
    exact post_cell26w Try.results46 rfl rfl rfl hP.at_ ⟨.inr (.inr (.inr ⟨by rw [HM.out]; rfl, rfl⟩)), HB1.out.trans ((hb2.mono (by rw [Z1.out]; omega)).trans (hP.below (by omega)))⟩
  | true =>
    rw [hm] at m1
    have HM := Lib.hid hm
    clear hm
    cases hv : v.may with
    | false =>
      rw [hv] at m2
      have HV := Lib.hid hv
      clear hv m3 m4 m5
      go_enter Try.func46, Try.ntmps46
      go_upto_region 1 with (fail)
      rw [← hw1]
      clear hw1
      go_wp2_with (first
        | (go_at_call 34; refine (m1 _ (Below.refl _ _)).mono ?_; clear m1; rintro e w2 ⟨rfl, hb2⟩; have G1 := (hb2.block _ (by rw [Z1.out]; omega)).trans E1.out; clear x0 x1 x2 x3 x4; obtain ⟨x0, x1, x2, x3, x4⟩ := blk5cc G1; clear G1)
        | (go_at_call 34; refine (m2 _ hb2).mono ?_; clear m2; rintro e w3 ⟨rfl, hb3⟩; have hb23 := hb2.trans (hb3.mono hb2.size); have G2 := Lib.hid ((hb23.block _ (by rw [Z1.out]; omega)).trans E2.out))
        | (refine wpList_put _ rfl _ _ rfl (w.heap.size + 1 + 1) _ _ _ _ _ _ _ _ _ _ (by rfl) (by rfl) (by simp [Value.oneCell']) G2.out ?_; rintro wP hP))
      exact post_cell26w Try.results46 rfl rfl rfl hP.at_ ⟨.inr (.inr (.inr ⟨by rw [HM.out, HV.out]; rfl, rfl⟩)), HB1.out.trans ((hb23.mono (by rw [Z1.out]; omega)).trans (hP.below (by omega)))⟩
    | true =>
      rw [hv] at m2
      have HV := Lib.hid hv
      clear hv
      cases hf : T.find p t with
      | none =>
        have HF := Lib.hid hf
        have m3' : ∀ w' (hb : Below w1.heap.size w1 w'), Calls Try.prog 81 #[.agg #[.int .u8 t.k, .int .i64 t.n, .string t.s, .slice a t.l.length c, .int .i64 t.r], .slice pa p.length pc] w' fun e w'' => e = .returned (.tuple #[.agg #[.int .u8 0, .int .i64 0, .string ⟨#[]⟩, .slice none 0 0, .int .i64 0], .bool false]) ∧ Below w'.heap.size w' w'' := fun w' hb => (m3 w' hb).mono fun e w'' hp => by
          rcases hp with ⟨⟨u, ua, uc, h1, _⟩ | ⟨_, h2⟩, hb2⟩
          · rw [hf] at h1; cases h1
          · exact ⟨h2, hb2⟩
        clear hf m3 m4 m5
        go_enter Try.func46, Try.ntmps46
        go_upto_region 1 with (fail)
        rw [← hw1]
        clear hw1
        go_wp2_with (first
          | (go_at_call 34; refine (m1 _ (Below.refl _ _)).mono ?_; clear m1; rintro e w2 ⟨rfl, hb2⟩; have G1 := (hb2.block _ (by rw [Z1.out]; omega)).trans E1.out; clear x0 x1 x2 x3 x4; obtain ⟨x0, x1, x2, x3, x4⟩ := blk5cc G1; clear G1)
          | (go_at_call 34; refine (m2 _ hb2).mono ?_; clear m2; rintro e w3 ⟨rfl, hb3⟩; have hb23 := hb2.trans (hb3.mono hb2.size); have G0 := (hb23.block _ (by rw [Z1.out]; omega)).trans E0.out; clear x0 x1 x2 x3 x4; obtain ⟨x0, x1, x2, x3, x4⟩ := blk5cc G0; clear G0)
          | (go_at_call 81; refine (m3' _ hb23).mono ?_; clear m3'; rintro e w4 ⟨rfl, hb4⟩; have hb24 := hb23.trans (hb4.mono hb23.size); have zz4 := hb24.size; have G2 := (hb24.block (w.heap.size + 1 + 1) (by rw [Z1.out]; omega)).trans E2.out; have z24 : w.heap.size + 1 + 1 < w4.heap.size := (by have := Z1.out; omega); have G3 := Lib.hid ((Below.heap_alloc w4 (.cells #[.int .u8 0, .int .i64 0, .string ⟨#[]⟩, .slice none 0 0, .int .i64 0] 26) _ z24).trans G2); clear G2)
          | (refine wpList_put _ rfl _ _ rfl (w.heap.size + 1 + 1) _ _ _ _ _ _ _ _ _ _ (by rfl) (by rfl) (by simp [Value.oneCell']) G3.out ?_; rintro wP hP))
        exact post_cell26w Try.results46 rfl rfl rfl hP.at_ ⟨.inr (.inr (.inl ⟨HM.out, HV.out, HF.out, rfl⟩)), HB1.out.trans (((hb24.mono (by rw [Z1.out]; omega)).alloc (by omega) _).trans (hP.below (by omega)))⟩
      | some u0 =>
        have HF := Lib.hid hf
        have m3' : ∀ w' (hb : Below w1.heap.size w1 w'), Calls Try.prog 81 #[.agg #[.int .u8 t.k, .int .i64 t.n, .string t.s, .slice a t.l.length c, .int .i64 t.r], .slice pa p.length pc] w' fun e w'' => (∃ k n r s la ll lc, e = .returned (.tuple #[.agg #[.int .u8 k, .int .i64 n, .string s, .slice la ll lc, .int .i64 r], .bool true])) ∧ Below w'.heap.size w' w'' := fun w' hb => (m3 w' hb).mono fun e w'' hp => by
          rcases hp with ⟨⟨u, ua, uc, h1, _, _, h4⟩ | ⟨h1, _⟩, hb2⟩
          · exact ⟨⟨_, _, _, _, _, _, _, h4⟩, hb2⟩
          · rw [hf] at h1; cases h1
        clear hf m3
        go_enter Try.func46, Try.ntmps46
        go_upto_region 1 with (fail)
        rw [← hw1]
        clear hw1
        go_upto_region 7 with (first
          | (go_at_call 34; refine (m1 _ (Below.refl _ _)).mono ?_; clear m1; rintro e w2 ⟨rfl, hb2⟩; have G1 := (hb2.block _ (by rw [Z1.out]; omega)).trans E1.out; clear x0 x1 x2 x3 x4; obtain ⟨x0, x1, x2, x3, x4⟩ := blk5cc G1; clear G1)
          | (go_at_call 34; refine (m2 _ hb2).mono ?_; clear m2; rintro e w3 ⟨rfl, hb3⟩; have hb23 := hb2.trans (hb3.mono hb2.size); have G0 := (hb23.block _ (by rw [Z1.out]; omega)).trans E0.out; clear x0 x1 x2 x3 x4; obtain ⟨x0, x1, x2, x3, x4⟩ := blk5cc G0; clear G0)
          | (go_at_call 81; refine (m3' _ hb23).mono ?_; clear m3'; rintro e w4 ⟨⟨k4, n4, r4, s4, la4, ll4, lc4, rfl⟩, hb4⟩; have hb24 := hb23.trans (hb4.mono hb23.size); have hb25 : Below w1.heap.size w1 (w4.alloc (.cells #[.int .u8 k4, .int .i64 n4, .string s4, .slice la4 ll4 lc4, .int .i64 r4] 26)) := hb24.alloc hb24.size _; have G0 := (hb25.block _ (by rw [Z1.out]; omega)).trans E0.out; clear x0 x1 x2 x3 x4; obtain ⟨x0, x1, x2, x3, x4⟩ := blk5cc G0; clear G0)
          | (go_at_call 59; refine (m4 _ hb25).mono ?_; clear m4; rintro e w6 ⟨a6, c6, he, hs6, hb6⟩; unfold T.val at he; subst he))
        obtain ⟨w5, hw5⟩ : ∃ w5, w5 = w4.alloc (.cells #[.int .u8 k4, .int .i64 n4, .string s4, .slice la4 ll4 lc4, .int .i64 r4] 26) := ⟨_, rfl⟩
        rw [← hw5] at hs6 hb6 hb25
        clear x0 x1 x2 x3 x4 hw5
        obtain ⟨wL, hwL⟩ : ∃ wL, wL = w6.alloc (.cells #[.int .u8 t.k, .int .i64 t.n, .string t.s, .slice a6 t.l.length c6, .int .i64 t.r] 26) := ⟨_, rfl⟩
        rw [← hwL]
        have hb6L : Below w6.heap.size w6 wL := by rw [hwL]; exact (Below.refl _ _).alloc (Nat.le_refl _) _
        have OL : wL.heap[w6.heap.size]? = some (.cells #[.int .u8 t.k, .int .i64 t.n, .string t.s, .slice a6 t.l.length c6, .int .i64 t.r] 26 (0, 0)) := by rw [hwL]; exact blk_new _ _
        have zL : w6.heap.size < wL.heap.size := (Array.getElem?_eq_some_iff.1 OL).1
        have sL : T.Sep wL w5.heap.size w6.heap.size t a6 c6 := T.Sep.keep (fun b _ hb => hb6L.block b hb) hs6
        have z56 := hb6.size
        have z15 := hb25.size
        have hbL : Below w1.heap.size w1 wL := hb25.trans ((hb6.trans (hb6L.mono z56)).mono z15)
        have PL : Plug wL w5.heap.size w6.heap.size w6.heap.size 0 (t.cells5 a6 c6).toArray w6.heap.size w5.heap.size id := Plug.box
        have pL := Ints.below hbL (by have := Z1.out; omega) P1.out
        clear hwL hs6 hb6 hb6L hb25 hb24 hb4 hb23 hb3 hb2
        go_wp2_with fail
        go_loopg [36, 11] p.length (fun gg vi vp wr => ∃ (i : Nat) (u : T) (ua : Option Addr) (uc pb po lo hi : Nat) (cur : Array Value) (F : T → T), vi = .int .i64 i ∧ vp = .pointer (some ⟨pb, po, none⟩) ∧ i + gg = p.length ∧ wr = wL ∧
          Aside (T.find (p.drop i) u ≠ none) ∧ Aside (T.put p v t = F (T.put (p.drop i) v u)) ∧ wL.heap[pb]? = some (.cells cur 26 (0, 0)) ∧ po + 5 ≤ cur.size ∧ laidCells cur.toList po (u.cells5 ua uc) = cur.toList ∧ T.Sep wL lo hi u ua uc ∧
          (pb < lo ∨ hi ≤ pb) ∧ w5.heap.size ≤ lo ∧ w5.heap.size ≤ pb ∧ hi ≤ wL.heap.size ∧ pb < wL.heap.size ∧ Plug wL lo hi pb po cur w6.heap.size w5.heap.size F)
        case atStart => exact ⟨0, t, a6, c6, w6.heap.size, 0, w5.heap.size, w6.heap.size, (t.cells5 a6 c6).toArray, id, rfl, rfl, by simp, rfl, by show T.find p t ≠ none; rw [HF.out]; simp, rfl, OL, by simp [T.cells5], by simp [laidCells, T.cells5], sL, .inr (Nat.le_refl _), Nat.le_refl _, z56, by omega, zL, PL⟩
        case round =>
          obtain ⟨i, u, ua, uc, pb, po, lo, hi, cur, F, rfl, rfl, hi0, rfl, hfn, hpt, hcur, hpo, hgrp, hsp, hpb, hlo, hbp, hhi, hpz, hpl2⟩ := hrel
          by_cases h : i < p.length
          · obtain ⟨b, o, rfl, hbB, he⟩ := pL.elem i h
            have hd : p.drop i = p[i] :: p.drop (i + 1) := List.drop_eq_getElem_cons h
            have hfn' := hfn.out
            rw [hd] at hfn'
            have hpt' := hpt.out
            rw [hd] at hpt'
            obtain ⟨q, hq⟩ : ∃ q, p[i] = q := ⟨_, rfl⟩
            rw [hq] at he hfn' hpt'
            clear hq
            have hq12 : ¬ (q < 0 ∨ (u.l.length : Int) ≤ q) := fun hc => hfn' (T.find_none _ _ _ hc)
            have hq1 : 0 ≤ q := by omega
            have hq2 : q < (u.l.length : Int) := by omega
            have hq3 : q.toNat < u.l.length := by omega
            clear hq12
            rw [T.find_step _ _ _ hq1 hq3] at hfn'
            rw [T.put_step _ _ _ _ hq3] at hpt'
            have hfn2 : Aside _ := hfn'
            have hpt2 : Aside _ := hpt'
            obtain ⟨g, lo', hi', cur', a'', c'', rfl, hle, hg, hgs, hgl, hgsp, hgb, hglo, hgp, hghi, hgz, hplug⟩ := Plug.step hpl2 hcur hgrp hsp hpb hlo hbp hhi hpz q.toNat hq3
            have y3 := (laid_cells hcur hgrp hpo).2.2.2.1
            have R1 := Lib.hid hplug
            have R2 := Lib.hid hgsp
            have R3 := Lib.hid hgl
            have R4 := Lib.hid hg
            have R5 := Lib.hid hgb
            clear hplug hgsp hgl hg hgb hfn hpt hfn' hpt' hpl2 hgrp hsp hpb hcur m5 pL
            go_wp2_with fail
            go_roundg (gk - 1)
            case measure => omega
            case rel =>
              exact ⟨i + 1, u.l[q.toNat], a'', c'', g, q.toNat * 5, lo', hi', cur', _, by go_num, rfl, by omega, rfl, hfn2, hpt2, R4.out, hgs, R3.out, R2.out, R5.out, hglo, hgp, hghi, hgz, R1.out⟩
          · have hT : T.put p v t = F v := by rw [hpt.out, List.drop_of_length_le (by omega), T.put]
            have hwF : (F v).wf := by rw [← hT]; exact T.put_wf HW'.out HW.out (by rw [HF.out]; simp)
            have y := (hbL.block _ (by rw [Z1.out]; omega)).trans E1.out
            obtain ⟨y0, y1, y2, y3, y4⟩ := blk5cc y
            have m5' := m5 _ hbL
            have m6 := fun (W : World) (b9 : Option Addr) (d9 : Nat) (hm : T.Mut W (New w5.heap.size W) (F v) b9 d9) => may_walk (F v) b9 d9 W W.heap.size (T.In.keep (fun _ _ => rfl) (fun b hb => hb.2) id (T.Mut.lies hm)) (Nat.le_refl _) hwF
            have HT := Lib.hid hT
            have HP := Lib.hid hpl2
            have HC := Lib.hid hcur
            have HL := Lib.hid hbL
            have Z5 := Lib.hid z15
            have Z6 := Lib.hid z56
            have HFN : Hid (T.find p t ≠ none) := Lib.hid (by rw [HF.out]; simp)
            unfold T.val at m6
            clear y m5 pL PL sL hfn hpt hgrp hsp hpb hpl2 hcur hbL z15 z56
            cases hmF : (F v).may with
            | false =>
              rw [hmF] at m6
              have HMF : Hid ((T.put p v t).may = false) := Lib.hid (by rw [hT]; exact hmF)
              clear hmF hT
              go_wp2_with (first
                | (go_at_call 59; refine m5'.mono ?_; clear m5'; rintro e w8 ⟨a8, c8, he, hm8, hb8⟩; unfold T.val at he; subst he; have HM8 := Lib.hid hm8; clear hm8; have G8 := (hb8.block pb hpz).trans HC.out)
                | (refine wpList_store26 _ rfl _ _ rfl pb po _ _ _ _ _ (by rfl) (by rfl) (by simp [Value.oneCell']) cur G8 hpo ?_; rintro wP hP; obtain ⟨b9, d9, hbox, hm9⟩ := HP.out wP v a8 c8 (fun b _ hb hb' _ => (hP.other b hb').trans (hb8.block b hb)) (by rw [← laid_assoc]; exact hP.at_) (by rw [hP.size]; exact hb8.size) (T.Mut.keep (fun b hb => hP.other b (by have := hb.1; omega)) (fun b hb => ⟨by have := hb.1; omega, by rw [hP.size]; exact hb.2⟩) HM8.out); have hb1P : Below w1.heap.size w1 wP := HL.out.trans ((hb8.mono (by have := HL.out.size; omega)).trans (hP.below (by have := Z5.out; omega))); obtain ⟨x0, x1, x2, x3, x4⟩ := blk5cc (v0 := .int .u8 (F v).k) (v1 := .int .i64 (F v).n) (v2 := .string (F v).s) (v3 := .slice b9 (F v).l.length d9) (v4 := .int .i64 (F v).r) hbox; have HM9 := Lib.hid hm9; clear hbox hm9 y0 y1 y2 y3 y4)
                | (go_at_call 34; refine (m6 _ _ _ HM9.out).mono ?_; clear m6; rintro e wQ ⟨rfl, hbQ⟩; have hb1Q := hb1P.trans (hbQ.mono hb1P.size); have G2 := Lib.hid ((hb1Q.block (w.heap.size + 1 + 1) (by rw [Z1.out]; omega)).trans E2.out))
                | (refine wpList_put _ rfl _ _ rfl (w.heap.size + 1 + 1) _ _ _ _ _ _ _ _ _ _ (by rfl) (by rfl) (by simp [Value.oneCell']) G2.out ?_; rintro wR hR))
              exact post_cell26w Try.results46 rfl rfl rfl hR.at_ ⟨.inr (.inl ⟨HM.out, HV.out, HFN.out, HMF.out, rfl⟩), HB1.out.trans ((hb1Q.mono (by rw [Z1.out]; omega)).trans (hR.below (by omega)))⟩
            | true =>
              rw [hmF] at m6
              have HMF : Hid ((T.put p v t).may = true) := Lib.hid (by rw [hT]; exact hmF)
              clear hmF hT
              go_wp2_with (first
                | (go_at_call 59; refine m5'.mono ?_; clear m5'; rintro e w8 ⟨a8, c8, he, hm8, hb8⟩; unfold T.val at he; subst he; have HM8 := Lib.hid hm8; clear hm8; have G8 := (hb8.block pb hpz).trans HC.out)
                | (refine wpList_store26 _ rfl _ _ rfl pb po _ _ _ _ _ (by rfl) (by rfl) (by simp [Value.oneCell']) cur G8 hpo ?_; rintro wP hP; obtain ⟨b9, d9, hbox, hm9⟩ := HP.out wP v a8 c8 (fun b _ hb hb' _ => (hP.other b hb').trans (hb8.block b hb)) (by rw [← laid_assoc]; exact hP.at_) (by rw [hP.size]; exact hb8.size) (T.Mut.keep (fun b hb => hP.other b (by have := hb.1; omega)) (fun b hb => ⟨by have := hb.1; omega, by rw [hP.size]; exact hb.2⟩) HM8.out); have hb1P : Below w1.heap.size w1 wP := HL.out.trans ((hb8.mono (by have := HL.out.size; omega)).trans (hP.below (by have := Z5.out; omega))); obtain ⟨x0, x1, x2, x3, x4⟩ := blk5cc (v0 := .int .u8 (F v).k) (v1 := .int .i64 (F v).n) (v2 := .string (F v).s) (v3 := .slice b9 (F v).l.length d9) (v4 := .int .i64 (F v).r) hbox; have hz6 : w6.heap.size < wP.heap.size := (by have := (Array.getElem?_eq_some_iff.1 hbox).1; exact this); have HBX := Lib.hid hbox; have HM9 := Lib.hid hm9; clear hbox hm9 y0 y1 y2 y3 y4)
                | (go_at_call 34; refine (m6 _ _ _ HM9.out).mono ?_; clear m6; rintro e wQ ⟨rfl, hbQ⟩; have hb1Q := hb1P.trans (hbQ.mono hb1P.size); have G2 := Lib.hid ((hb1Q.block (w.heap.size + 1 + 1) (by rw [Z1.out]; omega)).trans E2.out); have G6 := (hbQ.block w6.heap.size hz6).trans HBX.out; clear x0 x1 x2 x3 x4; obtain ⟨x0, x1, x2, x3, x4⟩ := blk5cc (v0 := .int .u8 (F v).k) (v1 := .int .i64 (F v).n) (v2 := .string (F v).s) (v3 := .slice b9 (F v).l.length d9) (v4 := .int .i64 (F v).r) G6; clear G6)
                | (refine wpList_put _ rfl _ _ rfl (w.heap.size + 1 + 1) _ _ _ _ _ _ _ _ _ _ (by rfl) (by rfl) (by simp [Value.oneCell']) G2.out ?_; rintro wR hR))
              refine post_cell26w Try.results46 rfl rfl rfl hR.at_ ⟨.inl ⟨HM.out, HV.out, HFN.out, HMF.out, b9, d9, ?_, ?_⟩, HB1.out.trans ((hb1Q.mono (by rw [Z1.out]; omega)).trans (hR.below (by omega)))⟩
              · rw [HT.out]; rfl
              · rw [HT.out]
                have hz5 := Z5.out
                have hz1 := Z1.out
                exact T.Mut.keep (fun b hb => (hR.other b (by have := hb.1; omega)).trans (hbQ.block b hb.2)) (fun b hb => ⟨by have := hb.1; omega, by rw [hR.size]; have := hb.2; have := hbQ.size; omega⟩) HM9.out

end Go.Proofs.Ytapfmfihhpafcaa
