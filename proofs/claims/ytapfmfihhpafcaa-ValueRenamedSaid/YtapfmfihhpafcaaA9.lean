/-
  value.own: a value in memory of its own; num, ref, list.
-/
import Derived.Test.YtapfmfihhpafcaaMut
namespace Go.Proofs.Ytapfmfihhpafcaa
open Go.RowKit
set_option linter.unusedVariables false

theorem madeCells_zero (n : Nat) : (madeCells #[.int .u8 0, .int .i64 0, .string ⟨#[]⟩, .slice none 0 0, .int .i64 0] (n * 5)).toList = (List.replicate n (T.zero.cells5 none 0)).flatten := by
  unfold madeCells
  rw [Array.toList_map, Array.toList_range]
  induction n with
  | zero => rfl
  | succ n ih =>
    have e : (n + 1) * 5 = 5 + n * 5 := by omega
    rw [e, List.range_add, List.map_append, List.replicate_succ, List.flatten_cons, ← ih, List.map_map]
    congr 1
    apply List.map_congr_left
    intro x _
    show #[_, _, _, _, _][(5 + x) % 5]! = #[_, _, _, _, _][x % 5]!
    rw [Nat.add_mod_left]

theorem info26 : (Try.prog.info? 26).map (fun i => (i.zero, i.size, i.bytes)) = some (some (.agg #[.int .u8 0, .int .i64 0, .string ⟨#[]⟩, .slice none 0 0, .int .i64 0]), 5, 64) := by kernel_rfl

/-- The cells of a block that is known whole. -/
theorem blk5 {w : World} {b : Nat} {v0 v1 v2 v3 v4 : Value} {e : TypeId} (h : w.heap[b]? = some (.cells #[v0, v1, v2, v3, v4] e (0, 0))) :
    w.cell? ⟨b, 0, none⟩ = some v0 ∧ w.cell? ⟨b, 1, none⟩ = some v1 ∧ w.cell? ⟨b, 2, none⟩ = some v2 ∧ w.cell? ⟨b, 3, none⟩ = some v3 ∧ w.cell? ⟨b, 4, none⟩ = some v4 ∧
    w.frozen? ⟨b, 0, none⟩ = false ∧ w.frozen? ⟨b, 1, none⟩ = false ∧ w.frozen? ⟨b, 2, none⟩ = false ∧ w.frozen? ⟨b, 3, none⟩ = false ∧ w.frozen? ⟨b, 4, none⟩ = false := by
  refine ⟨?_, ?_, ?_, ?_, ?_, ?_, ?_, ?_, ?_, ?_⟩ <;> simp [World.cell?, World.frozen?, h]

theorem blk_new (w : World) (X : Obj) : (w.alloc X).heap[w.heap.size]? = some X := heap_alloc_new w X
theorem two_blk0 (w : World) (X Y : Obj) : ((w.alloc X).alloc Y).heap[w.heap.size]? = some X := by
  rw [Below.heap_alloc _ _ _ (by simp)]; exact heap_alloc_new w X
theorem two_blk1 (w : World) (X Y : Obj) : ((w.alloc X).alloc Y).heap[w.heap.size + 1]? = some Y := by
  have := heap_alloc_new (w.alloc X) Y
  rwa [World.size_alloc] at this

/-- A function whose one result is a value in a cell of its own. -/
theorem post_cell26 {fn : Func} {R : Ending → World → Prop} {a : Act} {w : World} {b : Nat} {v0 v1 v2 v3 v4 : Value} (hr : fn.results = #[.cell 2 26]) (hp : a.tmps[2]?.getD undef = .pointer (some ⟨b, 0, none⟩)) (hd : a.defers = [])
    (c0 : w.cell? ⟨b, 0, none⟩ = some v0) (c1 : w.cell? ⟨b, 1, none⟩ = some v1) (c2 : w.cell? ⟨b, 2, none⟩ = some v2) (c3 : w.cell? ⟨b, 3, none⟩ = some v3) (c4 : w.cell? ⟨b, 4, none⟩ = some v4)
    (h : R (.returned (.agg #[v0, v1, v2, v3, v4])) w) : bodyPost Try.prog fn R .ret a w := by
  refine bodyPost_ret (v := .agg #[v0, v1, v2, v3, v4]) ?_ hd h
  simp only [results, hr]
  simp [hp, go_sem, c0, c1, c2, c3, c4]

/-- The five cells of a block, filled. -/
theorem fill5 {w : World} {b : Nat} {u0 u1 u2 u3 u4 v0 v1 v2 v3 v4 : Value} {e : TypeId} (h : w.heap[b]? = some (.cells #[u0, u1, u2, u3, u4] e (0, 0))) :
    (((((w.setCell ⟨b, 0, none⟩ v0).setCell ⟨b, 1, none⟩ v1).setCell ⟨b, 2, none⟩ v2).setCell ⟨b, 3, none⟩ v3).setCell ⟨b, 4, none⟩ v4).heap[b]? = some (.cells #[v0, v1, v2, v3, v4] e (0, 0)) ∧
    (∀ k, k ≠ b → (((((w.setCell ⟨b, 0, none⟩ v0).setCell ⟨b, 1, none⟩ v1).setCell ⟨b, 2, none⟩ v2).setCell ⟨b, 3, none⟩ v3).setCell ⟨b, 4, none⟩ v4).heap[k]? = w.heap[k]?) ∧
    (((((w.setCell ⟨b, 0, none⟩ v0).setCell ⟨b, 1, none⟩ v1).setCell ⟨b, 2, none⟩ v2).setCell ⟨b, 3, none⟩ v3).setCell ⟨b, 4, none⟩ v4).heap.size = w.heap.size := by
  refine ⟨?_, fun k hk => ?_, ?_⟩
  · simp [World.setCell, Array.getElem?_modify, h]
  · rw [Below.heap_setCell _ _ _ _ hk, Below.heap_setCell _ _ _ _ hk, Below.heap_setCell _ _ _ _ hk, Below.heap_setCell _ _ _ _ hk, Below.heap_setCell _ _ _ _ hk]
  · simp [World.setCell]

theorem slot5 {w w1 : World} {g n c i : Nat} {xs : List Value} (h : w1.ownsRow 0 26 5 (.slice (some ⟨g, 0, none⟩) n c) n xs) {l : List T} {S : Nat → Prop} (hm : T.Muts w S l xs) (hl : l.length = n) (hi : i < n) :
    ∃ v0 v1 v2 v3 v4, w1.cell? ⟨g, i * 5, none⟩ = some v0 ∧ w1.cell? ⟨g, i * 5 + 1, none⟩ = some v1 ∧ w1.cell? ⟨g, i * 5 + 2, none⟩ = some v2 ∧ w1.cell? ⟨g, i * 5 + 3, none⟩ = some v3 ∧ w1.cell? ⟨g, i * 5 + 4, none⟩ = some v4 ∧
    w1.frozen? ⟨g, i * 5, none⟩ = false ∧ w1.frozen? ⟨g, i * 5 + 1, none⟩ = false ∧ w1.frozen? ⟨g, i * 5 + 2, none⟩ = false ∧ w1.frozen? ⟨g, i * 5 + 3, none⟩ = false ∧ w1.frozen? ⟨g, i * 5 + 4, none⟩ = false := by
  obtain ⟨a, c', _, e0, e1, e2, e3, e4⟩ := hm.get i (by omega)
  exact ⟨_, _, _, _, _, (h.cellAt _ (by omega)).trans e0, (h.cellAt _ (by omega)).trans e1, (h.cellAt _ (by omega)).trans e2, (h.cellAt _ (by omega)).trans e3, (h.cellAt _ (by omega)).trans e4,
    h.frozenAt _, h.frozenAt _, h.frozenAt _, h.frozenAt _, h.frozenAt _⟩

theorem store5 {w : World} {g n c i : Nat} {xs : List Value} (h : w.ownsRow 0 26 5 (.slice (some ⟨g, 0, none⟩) n c) n xs) {l : List T} {S : Nat → Prop} (hm : T.Muts w S l xs) (hS : ∀ b, S b → b ≠ g)
    {t : T} {a' : Option Addr} {c' : Nat} (ht : T.Mut w S t a' c') (hi : i < l.length) :
    ∃ ys, (((((w.setCell ⟨g, i * 5, none⟩ (.int .u8 t.k)).setCell ⟨g, i * 5 + 1, none⟩ (.int .i64 t.n)).setCell ⟨g, i * 5 + 2, none⟩ (.string t.s)).setCell ⟨g, i * 5 + 3, none⟩ (.slice a' t.l.length c')).setCell ⟨g, i * 5 + 4, none⟩ (.int .i64 t.r)).ownsRow 0 26 5 (.slice (some ⟨g, 0, none⟩) n c) n ys ∧
    T.Muts (((((w.setCell ⟨g, i * 5, none⟩ (.int .u8 t.k)).setCell ⟨g, i * 5 + 1, none⟩ (.int .i64 t.n)).setCell ⟨g, i * 5 + 2, none⟩ (.string t.s)).setCell ⟨g, i * 5 + 3, none⟩ (.slice a' t.l.length c')).setCell ⟨g, i * 5 + 4, none⟩ (.int .i64 t.r)) S (l.set i t) ys ∧
    (∀ k, k ≠ g → (((((w.setCell ⟨g, i * 5, none⟩ (.int .u8 t.k)).setCell ⟨g, i * 5 + 1, none⟩ (.int .i64 t.n)).setCell ⟨g, i * 5 + 2, none⟩ (.string t.s)).setCell ⟨g, i * 5 + 3, none⟩ (.slice a' t.l.length c')).setCell ⟨g, i * 5 + 4, none⟩ (.int .i64 t.r)).heap[k]? = w.heap[k]?) := by
  have h0 := (h.stored (i * 5) (.int .u8 t.k)).1
  have h1 := (h0.stored (i * 5 + 1) (.int .i64 t.n)).1
  have h2 := (h1.stored (i * 5 + 2) (.string t.s)).1
  have h3 := (h2.stored (i * 5 + 3) (.slice a' t.l.length c')).1
  have h4 := (h3.stored (i * 5 + 4) (.int .i64 t.r)).1
  have hk : ∀ k, k ≠ g → (((((w.setCell ⟨g, i * 5, none⟩ (.int .u8 t.k)).setCell ⟨g, i * 5 + 1, none⟩ (.int .i64 t.n)).setCell ⟨g, i * 5 + 2, none⟩ (.string t.s)).setCell ⟨g, i * 5 + 3, none⟩ (.slice a' t.l.length c')).setCell ⟨g, i * 5 + 4, none⟩ (.int .i64 t.r)).heap[k]? = w.heap[k]? := fun k hk => by
    rw [Below.heap_setCell _ _ _ _ hk, Below.heap_setCell _ _ _ _ hk, Below.heap_setCell _ _ _ _ hk, Below.heap_setCell _ _ _ _ hk, Below.heap_setCell _ _ _ _ hk]
  exact ⟨_, h4, T.Muts.keep (fun b hb => hk b (hS b hb)) (fun _ h => h) (hm.set ht i hi), hk⟩

/-- What is filled so far, zeros behind it. -/
def filled (l : List T) (i : Nat) : List T := l.take i ++ List.replicate (l.length - i) T.zero
theorem filled_length (l : List T) (i : Nat) (h : i ≤ l.length) : (filled l i).length = l.length := by simp [filled]; omega
theorem filled_set (l : List T) (i : Nat) (h : i < l.length) : (filled l i).set i l[i] = filled l (i + 1) := by
  unfold filled
  have e : l.length - i = (l.length - (i + 1)) + 1 := by omega
  rw [List.set_append, if_neg (by simp; omega), List.length_take, Nat.min_eq_left (by omega), Nat.sub_self, e, List.replicate_succ, List.set_cons_zero, List.take_succ_eq_append_getElem h, List.append_assoc]
  rfl
theorem filled_end (l : List T) : filled l l.length = l := by simp [filled]
theorem filled_zero (l : List T) : filled l 0 = List.replicate l.length T.zero := by simp [filled]

set_option maxRecDepth 100000 in
theorem num_walk (n : Int) (w : World) : Calls Try.prog 55 #[.int .i64 n] w fun e w' => e = .returned ((T.mk 1 n ⟨#[]⟩ [] 0).val none 0) ∧ Below w.heap.size w w' := by
  go_enter Try.func55, Try.ntmps55
  go_wp2_with fail
  exact bodyPost_ret (v := .agg #[.int .u8 1, .int .i64 n, .string ⟨#[]⟩, .slice none 0 0, .int .i64 0]) (by simp [results, Try.results55, go_sem]) rfl ⟨rfl, (Below.refl _ _).alloc (Nat.le_refl _) _⟩

set_option maxRecDepth 100000 in
theorem ref_walk (n : Int) (w : World) : Calls Try.prog 57 #[.int .i64 n] w fun e w' => e = .returned ((T.mk 4 0 ⟨#[]⟩ [] n).val none 0) ∧ Below w.heap.size w w' := by
  go_enter Try.func57, Try.ntmps57
  go_wp2_with fail
  exact bodyPost_ret (v := .agg #[.int .u8 4, .int .i64 0, .string ⟨#[]⟩, .slice none 0 0, .int .i64 n]) (by simp [results, Try.results57, go_sem]) rfl ⟨rfl, (Below.refl _ _).alloc (Nat.le_refl _) _⟩

set_option maxRecDepth 100000 in
theorem list_walk (l : List T) (a : Option Addr) (c : Nat) (w : World) : Calls Try.prog 56 #[.slice a l.length c] w fun e w' => e = .returned ((T.mk 3 0 ⟨#[]⟩ l 0).val a c) ∧ Below w.heap.size w w' := by
  go_enter Try.func56, Try.ntmps56
  go_wp2_with fail
  exact bodyPost_ret (v := .agg #[.int .u8 3, .int .i64 0, .string ⟨#[]⟩, .slice a l.length c, .int .i64 0]) (by simp [results, Try.results56, go_sem]) rfl ⟨rfl, (Below.refl _ _).alloc (Nat.le_refl _) _⟩

/-- Blocks from lo on that there are. -/
def New (lo : Nat) (w : World) (b : Nat) : Prop := lo ≤ b ∧ b < w.heap.size

/-- What own hands back. -/
def OwnPost (w : World) (t : T) (e : Ending) (w' : World) : Prop :=
  ∃ a c, e = .returned (t.val a c) ∧ T.Mut w' (New w.heap.size w') t a c ∧ Below w.heap.size w w'

set_option maxRecDepth 100000 in
set_option maxHeartbeats 4000000 in
theorem own_walk (t : T) : ∀ (a : Option Addr) (c : Nat) (w : World) (B : Nat), T.At w B t a c → B ≤ w.heap.size → t.wf →
    Calls Try.prog 59 #[t.val a c] w (OwnPost w t) := by
  induction t using T.induct with
  | h k n s l r ih =>
  intro a c w B hin hB hwf
  rw [T.wf, T.wfs_iff] at hwf
  obtain ⟨⟨_, _, _, _, _, _, _, hll⟩, hwl⟩ := hwf
  unfold T.val
  simp only [T.k, T.n, T.s, T.l, T.r]
  by_cases hl : l.length = 0
  · have hl' : l = [] := List.length_eq_zero_iff.1 hl
    subst hl'
    go_enter Try.func59, Try.ntmps59
    go_wp2_with fail
    refine bodyPost_ret (v := .agg #[.int .u8 k, .int .i64 n, .string s, .slice none 0 0, .int .i64 r]) (by simp [results, Try.results59, go_sem]) rfl ⟨none, 0, rfl, ?_, ((Below.refl _ _).alloc (Nat.le_refl _) _).alloc (by simp) _⟩
    rw [T.Mut]
    exact ⟨[], World.ownsRow_nil _ _ _ _, by simp [Value.ownBlock], by rw [T.Muts]⟩
  have hl1 : ((l.length : Int) == 0) = false := by simpa using hl
  obtain ⟨i0, hi, hz0, hz1, hz2⟩ := info_parts info26
  have HLL := Lib.hid hll
  clear hll
  go_enter Try.func59, Try.ntmps59
  go_wp2_with (first | (at_make; refine wpList_make_full _ rfl _ _ 23 rfl 0 26 i0 _ 5 Try.underlying23 hi hz0 hz1 .i64 .i64 _ _ l.length rfl rfl rfl rfl (by rw [hz2]; have := HLL.out; omega) (by have := HLL.out; unfold maxLen; omega) (by simp) ?_; intro w1 hown1 hgrow1; have B0 := (hgrow1.block w.heap.size (by simp; omega) (by simp)).trans (two_blk0 _ _ _); have B1 := (hgrow1.block (w.heap.size + 1) (by simp) (by simp)).trans (two_blk1 _ _ _); obtain ⟨x0, x1, x2, x3, x4, y0, y1, y2, y3, y4⟩ := blk5 B0))
  clear x0 x1 x2 x3 x4 y0 y1 y2 y3 y4
  have hown2 : w1.ownsRow 0 26 5 (.slice (some ⟨w.heap.size + 1 + 1, 0, none⟩) l.length l.length) l.length (List.replicate l.length (T.zero.cells5 none 0)).flatten := by
    rw [← madeCells_zero]
    have h := hown1
    rw [World.size_alloc, World.size_alloc] at h
    exact h
  have hm0 := T.Muts.zeros w1 (New (w.heap.size + 3) w1) l.length
  rw [← filled_zero] at hm0
  have hz1' : w.heap.size + 2 < w1.heap.size := (hown2.lt (w.heap.size + 2) rfl).2
  have hb1 : Below w.heap.size w w1 := by
    refine ⟨hgrow1.os, hgrow1.tape, hgrow1.output, by omega, fun k hk => (hgrow1.block k (by simp; omega) (by simp)).trans ?_⟩
    rw [Below.heap_alloc _ _ _ (by simp; omega), Below.heap_alloc _ _ _ hk]
  go_loopg [19] l.length (fun g vi wr => ∃ (i : Nat) (xs : List Value), vi = .int .i64 i ∧ i + g = l.length ∧ Below w.heap.size w wr ∧ w.heap.size + 2 < wr.heap.size ∧
    wr.heap[w.heap.size]? = some (.cells #[.int .u8 k, .int .i64 n, .string s, .slice a l.length c, .int .i64 r] 26 (0, 0)) ∧
    wr.heap[w.heap.size + 1]? = some (.cells #[.int .u8 0, .int .i64 0, .string ⟨#[]⟩, .slice none 0 0, .int .i64 0] 26 (0, 0)) ∧
    wr.ownsRow 0 26 5 (.slice (some ⟨w.heap.size + 1 + 1, 0, none⟩) l.length l.length) l.length xs ∧ T.Muts wr (New (w.heap.size + 3) wr) (filled l i) xs)
  case atStart => exact ⟨0, _, rfl, by simp, hb1, hz1', B0, B1, hown2, hm0⟩
  case round =>
    obtain ⟨i, xs, rfl, hgi, hb, hz, C0, C1, hown, hm⟩ := hrel
    have hll := HLL.out
    by_cases h : i < l.length
    · obtain ⟨b, o, a', c', rfl, hbB, ht, e0, e1, e2, e3, e4⟩ := (T.At.below hb hB hin).elem i h
      obtain ⟨wX, hwX⟩ : ∃ wX, wX = wr.alloc (.cells #[.int .u8 l[i].k, .int .i64 l[i].n, .string l[i].s, .slice a' l[i].l.length c', .int .i64 l[i].r] 26 (0, 0)) := ⟨_, rfl⟩
      have hbX : Below wr.heap.size wr wX := by rw [hwX]; exact (Below.refl _ _).alloc (Nat.le_refl _) _
      have ih' := ih l[i] (List.getElem_mem h) a' c' wX B (T.At.below hbX (by omega) ht) (by have := hbX.size; omega) (hwl _ (List.getElem_mem h))
      unfold T.val at ih'
      have HX := Lib.hid hbX
      clear ih hbX
      rw [hwX] at ih' HX
      clear hwX hin
      go_wp2_with (go_at_call 59; refine ih'.mono ?_; clear ih'; rintro e w' ⟨a2, c2, he, hm2, hb2⟩; unfold T.val at he; subst he; have HM2 := Lib.hid hm2; clear hm2; have own2 := ownsRow_of_block (w' := w') hown (fun g hg => by injection hg with hg; rw [← hg]; exact (hb2.block _ (by simp; omega)).trans (HX.out.block _ (by omega))); obtain ⟨v0, v1, v2, v3, v4, q0, q1, q2, q3, q4, g0, g1, g2, g3, g4⟩ := slot5 own2 hm (filled_length l i (by omega)) h)
      have hz2 := hb2.size
      simp only [World.size_alloc] at hz2
      have hm' : T.Muts w' (New (w.heap.size + 3) w') (filled l i) xs := T.Muts.keep (fun b hb => (hb2.block b (by have := hb.2; simp; omega)).trans (HX.out.block b hb.2)) (fun b hb => ⟨hb.1, by have := hb.2; omega⟩) hm
      obtain ⟨ys, own3, mut3, hk3⟩ := store5 own2 hm' (fun b hb => by have h1 := hb.1; omega) (t := l[i]) (T.Mut.keep (fun _ _ => rfl) (fun b hb => ⟨by have := hb.1; simp at this; omega, hb.2⟩) HM2.out) (i := i) (by rw [filled_length l i (by omega)]; exact h)
      rw [filled_set l i h] at mut3
      have D0 := (hk3 w.heap.size (by omega)).trans ((hb2.block _ (by simp; omega)).trans ((HX.out.block _ (by omega)).trans C0))
      have D1 := (hk3 (w.heap.size + 1) (by omega)).trans ((hb2.block _ (by simp; omega)).trans ((HX.out.block _ (by omega)).trans C1))
      have hb3 : Below w.heap.size w w' := hb.trans ((HX.out.trans (hb2.mono (by simp))).mono hb.size)
      go_roundg (gk - 1)
      case measure => omega
      case rel =>
        refine ⟨i + 1, ys, by go_num, by omega, ⟨hb3.os, hb3.tape, hb3.output, by simp [World.setCell]; exact hb3.size, fun k hk => (hk3 k (by omega)).trans (hb3.block k hk)⟩, by simp [World.setCell]; omega, D0, D1, own3, ?_⟩
        exact T.Muts.keep (fun _ _ => rfl) (fun b hb => ⟨hb.1, by have := hb.2; simpa [World.setCell] using this⟩) mut3
    · have hil : i = l.length := by omega
      subst hil
      rw [filled_end] at hm
      obtain ⟨x0, x1, x2, x3, x4, y0, y1, y2, y3, y4⟩ := blk5 C0
      obtain ⟨z0, z1, z2, z3, z4, u0, u1, u2, u3, u4⟩ := blk5 C1
      clear ih hin hwl
      go_wp2_with fail
      obtain ⟨wy, hwy⟩ : ∃ wy, wy = wr.setCell ⟨w.heap.size, 3, none⟩ (.slice (some ⟨w.heap.size + 1 + 1, 0, none⟩) l.length l.length) := ⟨_, rfl⟩
      have hy : ∀ q, q ≠ w.heap.size → wy.heap[q]? = wr.heap[q]? := fun q hq => by rw [hwy]; exact Below.heap_setCell _ _ _ _ hq
      have hyz : wy.heap.size = wr.heap.size := by rw [hwy]; simp [World.setCell]
      have hyb : Below w.heap.size w wy := ⟨by rw [hwy]; exact hb.os, by rw [hwy]; exact hb.tape, by rw [hwy]; exact hb.output, by rw [hyz]; exact hb.size, fun q hq => (hy q (by omega)).trans (hb.block q hq)⟩
      rw [← hwy]
      obtain ⟨f1, f2, f3⟩ := fill5 (v0 := .int .u8 k) (v1 := .int .i64 n) (v2 := .string s) (v3 := .slice (some ⟨w.heap.size + 1 + 1, 0, none⟩) l.length l.length) (v4 := .int .i64 r) ((hy _ (by omega)).trans C1)
      obtain ⟨wz, hwz⟩ : ∃ wz, wz = ((((wy.setCell ⟨w.heap.size + 1, 0, none⟩ (.int .u8 k)).setCell ⟨w.heap.size + 1, 1, none⟩ (.int .i64 n)).setCell ⟨w.heap.size + 1, 2, none⟩ (.string s)).setCell ⟨w.heap.size + 1, 3, none⟩ (.slice (some ⟨w.heap.size + 1 + 1, 0, none⟩) l.length l.length)).setCell ⟨w.heap.size + 1, 4, none⟩ (.int .i64 r) := ⟨_, rfl⟩
      have hzb : wz.os = wy.os ∧ wz.tape = wy.tape ∧ wz.output = wy.output := by rw [hwz]; exact ⟨rfl, rfl, rfl⟩
      rw [← hwz] at f1 f2 f3 ⊢
      clear hwz hwy
      obtain ⟨g0, g1, g2, g3, g4, _⟩ := blk5 f1
      refine post_cell26 Try.results59 rfl rfl g0 g1 g2 g3 g4 ⟨_, _, rfl, ?_, ?_⟩
      · rw [T.Mut]
        have hk : ∀ q, w.heap.size + 1 < q → wz.heap[q]? = wr.heap[q]? := fun q hq => (f2 q (by omega)).trans (hy q (by omega))
        refine ⟨xs, ownsRow_of_block hown (fun g hg => hk g (by injection hg with hg; simp at hg; omega)), fun g hg => ?_, T.Muts.keep (fun b hb => hk b (by have h1 := hb.1; omega)) (fun b hb => ⟨by have h1 := hb.1; omega, by have h1 := hb.2; omega⟩) hm⟩
        injection hg with hg
        simp at hg
        exact ⟨by omega, by omega⟩
      · exact hyb.trans ⟨hzb.1, hzb.2.1, hzb.2.2, by omega, fun q hq => f2 q (by omega)⟩
end Go.Proofs.Ytapfmfihhpafcaa
