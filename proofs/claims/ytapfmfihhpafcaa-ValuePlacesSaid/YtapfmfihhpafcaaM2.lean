/-
  posternref02.Own, said more closely; posternref02.laid.
-/
import Derived.Test.YtapfmfihhpafcaaI1
import Derived.Test.YtapfmfihhpafcaaM1
import Derived.Test.YtapfmfihhpafcaaD4
import Derived.RegionTactic
namespace Go.Proofs.Ytapfmfihhpafcaa
open Go.RowKit
set_option linter.unusedVariables false

/-- What the document's Own hands back, said more closely. -/
def OwnRow (w : World) (t : T) (e : Ending) (w' : World) : Prop :=
  ∃ a c xs, e = .returned (t.val a c) ∧ w'.ownsRow (w.heap.size + 1) 26 5 (.slice a t.l.length c) t.l.length xs ∧ Lie w' (fun b => w.heap.size + 1 ≤ b ∧ b < w'.heap.size ∧ (Value.slice a t.l.length c).ownBlock ≠ some b) false t.l xs ∧ Below w.heap.size w w'

theorem OwnRow.lent {w w' : World} {t : T} {e : Ending} (h : OwnRow w t e w') : LentPost w false t e w' := by
  obtain ⟨a, c, xs, h1, h2, h3, h4⟩ := h
  refine ⟨a, c, h1, ?_, h4⟩
  obtain ⟨k, n, s, l, r⟩ := t
  exact T.In.keep (fun _ _ => rfl) (fun b hb => ⟨by omega, hb.2⟩) id (own_lies h2 h3 (B := w.heap.size) (by omega) k n s r)

theorem Lie.parts {w : World} {ok : Nat → Prop} {m : Bool} : ∀ {l : List T} {xs : List Value} (_ : Lie w ok m l xs) (i : Nat) (hi : i < l.length), ∃ a c, T.In w ok m l[i] a c ∧
    xs = xs.take (i * 5) ++ (l[i].cells5 a c ++ xs.drop (i * 5 + 5)) ∧ Lie w ok m (l.take i) (xs.take (i * 5)) ∧ Lie w ok m (l.drop (i + 1)) (xs.drop (i * 5 + 5))
  | [], _, _, _, hi => absurd hi (by simp)
  | t :: ts, xs, h, 0, _ => by
    obtain ⟨a, c, ys, h1, rfl, h3⟩ := h
    refine ⟨a, c, h1, by simp [T.cells5], by simp [Lie], by simpa [T.cells5] using h3⟩
  | t :: ts, xs, h, i + 1, hi => by
    obtain ⟨a, c, ys, h1, rfl, h3⟩ := h
    obtain ⟨a', c', g4, g5, g7, g8⟩ := Lie.parts h3 i (by simpa using hi)
    have hl : (t.cells5 a c).length = 5 := rfl
    have e : (i + 1) * 5 = 5 + i * 5 := by omega
    have e1 : (t.cells5 a c ++ ys).take ((i + 1) * 5) = t.cells5 a c ++ ys.take (i * 5) := by
      rw [List.take_append, hl, List.take_of_length_le (by rw [hl]; omega), e, Nat.add_sub_cancel_left]
    have e2 : (t.cells5 a c ++ ys).drop ((i + 1) * 5 + 5) = ys.drop (i * 5 + 5) := by
      rw [List.drop_append, hl, List.drop_of_length_le (by rw [hl]; omega), List.nil_append]
      congr 1; omega
    refine ⟨a', c', g4, ?_, ?_, ?_⟩
    · rw [e1, e2, List.append_assoc]
      exact congrArg _ g5
    · rw [e1, List.take_succ_cons]
      exact ⟨a, c, ys.take (i * 5), h1, rfl, g7⟩
    · rw [e2]
      exact g8

/-- A value is laid over one of a list. -/
theorem laid_in {w w' : World} {g cap i : Nat} {cur : Array Value} {xs : List Value} {l : List T} {ok1 ok2 ok : Nat → Prop} {u : T} {a : Option Addr} {c : Nat} (hle : l.length ≤ cap) (hcs : cur.size = cap * 5) (htake : cur.toList.take (l.length * 5) = xs)
    (hlie : Lie w ok1 false l xs) (hi : i < l.length) (hput : Put w g (laidCells cur.toList (i * 5) (u.cells5 a c)).toArray w') (hu : T.In w ok2 false u a c) (h1 : ∀ b, ok1 b → b ≠ g ∧ ok b) (h2 : ∀ b, ok2 b → b ≠ g ∧ ok b) (h3 : ok g) (k n r : Int) (s : ByteArray) :
    T.In w' ok false (.mk k n s (l.set i u) r) (some ⟨g, 0, none⟩) cap := by
  rw [T.In]
  have hcl : cur.toList.length = cap * 5 := by rw [Array.length_toList]; exact hcs
  have hxl := hlie.length
  have hlaid : laidCells cur.toList (i * 5) (u.cells5 a c) = laidCells xs (i * 5) (u.cells5 a c) ++ cur.toList.drop (l.length * 5) := by
    unfold laidCells
    rw [← htake, List.take_take, Nat.min_eq_left (by omega), List.drop_take, List.append_assoc, List.append_assoc]
    congr 2
    have e := (List.take_append_drop (l.length * 5 - (i * 5 + 5)) (cur.toList.drop (i * 5 + 5))).symm
    rw [List.drop_drop] at e
    have e2 : i * 5 + 5 + (l.length * 5 - (i * 5 + 5)) = l.length * 5 := by omega
    rw [e2] at e
    exact e
  obtain ⟨a', c', g4, g5, g7, g8⟩ := hlie.parts i hi
  have hset : l.set i u = l.take i ++ ([u] ++ l.drop (i + 1)) := by
    rw [List.set_eq_take_append_cons_drop, if_pos hi]; rfl
  have hk1 : ∀ b, ok1 b → w'.heap[b]? = w.heap[b]? := fun b hb => hput.other b (h1 b hb).1
  have hnew : Lie w' ok false (l.set i u) (laidCells xs (i * 5) (u.cells5 a c)) := by
    rw [hset]
    unfold laidCells
    exact (Lie.keep hk1 (fun b hb => (h1 b hb).2) g7).app ((Lie.one (T.In.keep (fun b hb => hput.other b (h2 b hb).1) (fun b hb => (h2 b hb).2) id hu)).app (Lie.keep hk1 (fun b hb => (h1 b hb).2) g8))
  refine ⟨by rw [List.length_set]; exact hle, .inr ⟨g, 0, rfl, h3, by simp, hnew.ins g 0 fun j v hv => ?_⟩⟩
  rw [Nat.zero_add, cell_of_row w' g _ _ 26 (0, 0) hput.at_, List.getElem?_toArray, hlaid, List.getElem?_append_left (List.getElem?_eq_some_iff.1 hv).1]
  exact hv

theorem ownsRow_lower {w : World} {base base' e sz n : Nat} {v : Value} {xs : List Value} (h : base' ≤ base) (h1 : w.ownsRow base e sz v n xs) : w.ownsRow base' e sz v n xs := by
  refine ⟨h1.1, ?_⟩
  rcases h1.2 with h0 | ⟨g, cap, cur, hv, hb, r⟩
  · exact .inl h0
  · exact .inr ⟨g, cap, cur, hv, by omega, r⟩

set_option maxRecDepth 100000 in
set_option maxHeartbeats 4000000 in
theorem ownRow_walk (t : T) : ∀ (a : Option Addr) (c : Nat) (w : World) (B : Nat), T.At w B t a c → B ≤ w.heap.size → t.wf →
    Calls Try.prog 80 #[t.val a c] w (OwnRow w t) := by
  induction t using T.induct with
  | h k n s l r ih =>
  intro a c w B hin hB hwf
  rw [T.wf, T.wfs_iff] at hwf
  obtain ⟨⟨_, _, _, _, _, _, _, hll⟩, hwl⟩ := hwf
  unfold T.val
  simp only [T.k, T.n, T.s, T.l, T.r]
  obtain ⟨w1, hw1⟩ : ∃ w1, w1 = ((w.alloc (.cells #[.int .u8 k, .int .i64 n, .string s, .slice a l.length c, .int .i64 r] 26 (0, 0))).alloc (.cells #[.int .u8 0, .int .i64 0, .string ⟨#[]⟩, .slice none 0 0, .int .i64 0] 26 (0, 0))).alloc (.cells #[.int .u8 k, .int .i64 n, .string s, .slice none 0 0, .int .i64 r] 26 (0, 0)) := ⟨_, rfl⟩
  have hb1 : Below w.heap.size w w1 := by rw [hw1]; exact (two_boxes _ _ _).alloc (by simp; omega) _
  obtain ⟨D0, D1, D2⟩ : w1.heap[w.heap.size]? = _ ∧ w1.heap[w.heap.size + 1]? = _ ∧ w1.heap[w.heap.size + 1 + 1]? = _ := by rw [hw1]; exact three_blk _ _ _ _
  have z1 : w1.heap.size = w.heap.size + 3 := by rw [hw1]; simp
  have Z1 := Lib.hid z1
  clear z1
  obtain ⟨i0, hi, hz0, hz1, hz2⟩ := info_parts info26
  have hll' : (l.length : Int) ≤ 2199023255488 := by omega
  obtain ⟨x0, x1, x2, x3, x4⟩ := blk5cc D0
  obtain ⟨y0, y1, y2, y3, y4, f0, f1, f2, f3, f4⟩ := blk5 D2
  have C0' := D0
  have C1' := D1
  have C2' := D2
  have hb3 := hb1
  go_enter Try.func80, Try.ntmps80
  go_upto_region 3 with fail
  rw [← hw1]
  clear hw1 D0 D1 D2 hb1
  clear x0 x1 x2 x3 x4 y0 y1 y2 y3 y4 f0 f1 f2 f3 f4
  go_wp2_with fail
  go_loopg [4] l.length (fun gg vi wr => ∃ (i : Nat) (v : Value) (xs : List Value), vi = .int .i64 i ∧ i + gg = l.length ∧ Below w.heap.size w wr ∧
    wr.heap[w.heap.size]? = some (.cells #[.int .u8 k, .int .i64 n, .string s, .slice a l.length c, .int .i64 r] 26 (0, 0)) ∧
    wr.heap[w.heap.size + 1]? = some (.cells #[.int .u8 0, .int .i64 0, .string ⟨#[]⟩, .slice none 0 0, .int .i64 0] 26 (0, 0)) ∧
    wr.heap[w.heap.size + 1 + 1]? = some (.cells #[.int .u8 k, .int .i64 n, .string s, v, .int .i64 r] 26 (0, 0)) ∧
    wr.ownsRow (w.heap.size + 3) 26 5 v i xs ∧ Lie wr (fun b => w.heap.size + 3 ≤ b ∧ b < wr.heap.size ∧ v.ownBlock ≠ some b) false (l.take i) xs)
  case atStart => exact ⟨0, _, [], rfl, by simp, hb3, C0', C1', C2', World.ownsRow_nil _ _ _ _, by simp [Lie]⟩
  case round =>
    obtain ⟨i, v, xs, rfl, hgi, hb, C0, C1, C2, hown, hlie⟩ := hrel
    by_cases h : i < l.length
    · obtain ⟨b, o, a', c', rfl, hbB, ht, e0, e1, e2, e3, e4⟩ := (T.At.below hb hB hin).elem i h
      have hzr := hb.size
      have z0 : w.heap.size + 1 + 1 < wr.heap.size := (Array.getElem?_eq_some_iff.1 C2).1
      have hvl := hown.lt
      have mC := Calls.mono (ih l[i] (List.getElem_mem h) a' c' wr.drew B (T.At.below ((Below.refl wr.heap.size wr).drew) (by omega) ht) (by show B ≤ wr.heap.size; omega) (hwl _ (List.getElem_mem h))) (fun _ _ hp => hp.lent)
      unfold T.val at mC
      have hbz : b < wr.heap.size := by omega
      have KS : ∀ W : World, (W.heap[w.heap.size]? = wr.heap[w.heap.size]?) → W.heap[w.heap.size + 1 + 1]? = wr.heap[w.heap.size + 1 + 1]? → W.heap[b]? = wr.heap[b]? →
        (W.cell? ⟨w.heap.size + 1 + 1, 3, none⟩ = some v ∧ W.cell? ⟨w.heap.size, 3, none⟩ = some (.slice (some ⟨b, o, none⟩) l.length c) ∧ W.cell? ⟨b, o + i * 5, none⟩ = some (.int .u8 l[i].k) ∧ W.cell? ⟨b, o + i * 5 + 1, none⟩ = some (.int .i64 l[i].n) ∧
          W.cell? ⟨b, o + i * 5 + 2, none⟩ = some (.string l[i].s) ∧ W.cell? ⟨b, o + i * 5 + 3, none⟩ = some (.slice a' l[i].l.length c') ∧ W.cell? ⟨b, o + i * 5 + 4, none⟩ = some (.int .i64 l[i].r)) := fun W h0 h2 h3 => by
        rw [cell_of_heap h2, cell_of_heap h0, cell_of_heap h3, cell_of_heap h3, cell_of_heap h3, cell_of_heap h3, cell_of_heap h3]
        exact ⟨(blk5cc C2).2.2.2.1, (blk5cc C0).2.2.2.1, e0, e1, e2, e3, e4⟩
      have HKS := Lib.hid KS
      obtain ⟨x0, x1, x2, x3, x4⟩ := blk5cc C0
      obtain ⟨y0, y1, y2, y3, y4⟩ := blk5cc C2
      have HC0 := Lib.hid C0
      have HC1 := Lib.hid C1
      have HC2 := Lib.hid C2
      have HL := Lib.hid hlie
      have HO := Lib.hid hown
      have HB := Lib.hid hb
      clear ih KS C0 C1 C2 hlie hown hb ht hin y0 y1 y2 y4 x0 x1 x2 x4 C0' C1' C2' hb3
      go_upto_region 6 with fail
      go_region_law (first
          | (go_simp; go_at_call 80; refine mC.mono ?_; clear mC; rintro e w4 ⟨a2, c2, he, hi2, hb4⟩; unfold T.val at he; subst he; obtain ⟨k40, k41, k42, k43, k44, k45, k46⟩ := HKS.out w4 (hb4.block _ (by show _ < wr.heap.size; omega)) (hb4.block _ (by show _ < wr.heap.size; omega)) (hb4.block _ (by show _ < wr.heap.size; omega)); have hown4 := ownsRow_of_block' (w' := w4) HO.out (fun g hg => hb4.block g (hvl g hg).2); obtain ⟨k50, k51, k52, k53, k54, k55, k56⟩ := HKS.out (w4.alloc (.cells #[.int .u8 l[i].k, .int .i64 l[i].n, .string l[i].s, .slice a2 l[i].l.length c2, .int .i64 l[i].r] 26)) ((Below.heap_alloc _ _ _ (by have := hb4.size; have : wr.drew.heap.size = wr.heap.size := rfl; omega)).trans (hb4.block _ (by show _ < wr.heap.size; omega))) ((Below.heap_alloc _ _ _ (by have := hb4.size; have : wr.drew.heap.size = wr.heap.size := rfl; omega)).trans (hb4.block _ (by show _ < wr.heap.size; omega))) ((Below.heap_alloc _ _ _ (by have := hb4.size; have : wr.drew.heap.size = wr.heap.size := rfl; omega)).trans (hb4.block _ (by show _ < wr.heap.size; omega))))
          | (refine step_append_lies _ rfl _ _ 23 rfl (w.heap.size + 3) 26 i0 _ 5 64 Try.underlying23 hi hz0 hz1 hz2 rfl (by decide) v i xs (by rfl) (hown4.alloc _) ⟨w4.heap.size, 0, none⟩ 1 1 [.int .u8 l[i].k, .int .i64 l[i].n, .string l[i].s, .slice a2 l[i].l.length c2, .int .i64 l[i].r] (by rfl) rfl (World.news_of_block (cs := #[.int .u8 l[i].k, .int .i64 l[i].n, .string l[i].s, .slice a2 l[i].l.length c2, .int .i64 l[i].r]) (t := 26) (fr := (0, 0)) (blk_new _ _)) (by simp [Value.oneCell']) (by omega) (by unfold maxLen; omega) (by omega) (by have := hb4.size; have : wr.drew.heap.size = wr.heap.size := rfl; simp; omega) _ rfl ?_; intro g cap w5 hown5 hgrow5 hat5 hlt5; have hk5 : ∀ q, q < w.heap.size + 3 → q < wr.heap.size → w5.heap[q]? = wr.heap[q]? := (fun q hq hq2 => (hgrow5.block q (by have := hb4.size; have : wr.drew.heap.size = wr.heap.size := rfl; simp; omega) (fun e => by have := (hvl q e.symm).1; omega)).trans ((Below.heap_alloc _ _ _ (by have := hb4.size; have : wr.drew.heap.size = wr.heap.size := rfl; omega)).trans (hb4.block q hq2))); have G6 := (hk5 _ (by omega) z0).trans HC2.out; have c6 : w5.cell? ⟨w.heap.size + 1 + 1, 3, none⟩ = some v := (blk5cc G6).2.2.2.1; have F6 : w5.frozen? ⟨w.heap.size + 1 + 1, 3, none⟩ = false := (blk5 G6).2.2.2.2.2.2.2.2.1; have HK5 := Lib.hid hk5; have HG6 := Lib.hid G6; clear hk5 G6))
      all_goals
        obtain ⟨r1, r2, r3, r4, r5⟩ := lie_step HB.out (by omega) (by omega) (by omega) (below_undrew hb4) HO.out HL.out hi2 hown5 hgrow5 hat5 HC2.out
        have Q0 := (r2 w.heap.size (by omega) (by omega)).trans HC0.out
        have Q1 := (r2 (w.heap.size + 1) (by omega) (by omega)).trans HC1.out
        clear hown5 hgrow5 hat5 hown4
        go_wp2_with fail
        go_roundg (gk - 1)
        case measure => omega
        case rel =>
          refine ⟨i + 1, _, _, by go_num, by omega, r1, Q0, Q1, r3, r4, ?_⟩
          rw [List.take_succ_eq_append_getElem h]
          exact r5
    · have hil : i = l.length := by omega
      subst hil
      rw [List.take_of_length_le (Nat.le_refl _)] at hlie
      obtain ⟨va, vc, rfl⟩ := own_form hown
      have hlies : wr.ownsRow (w.heap.size + 3) 26 5 (.slice va l.length vc) l.length xs ∧ Lie wr (fun b => w.heap.size + 3 ≤ b ∧ b < wr.heap.size ∧ (Value.slice va l.length vc).ownBlock ≠ some b) false l xs := ⟨hown, hlie⟩
      have hvl := hown.lt
      obtain ⟨y0, y1, y2, y3, y4⟩ := blk5cc C2
      have HC1 := Lib.hid C1
      have HB := Lib.hid hb
      have HLI := Lib.hid hlies
      obtain ⟨x0, x1, x2, x3, x4⟩ := blk5cc C0
      clear ih C0 C1 C2 hlie hown hb hin x0 x1 x2 x4 C0' C1' C2' hb3 hlies
      go_wp2_with (refine wpList_put _ rfl _ _ rfl (w.heap.size + 1) _ _ _ _ _ _ _ _ _ _ (by rfl) (by rfl) (by simp [Value.oneCell']) HC1.out ?_; rintro wP hP)
      obtain ⟨g0, g1, g2, g3, g4⟩ := blk5cc hP.at_
      have hrow := ownsRow_of_block' (w' := wP) HLI.out.1 (fun g hg => hP.other g (by have := hvl g hg; omega))
      refine post_cell26 Try.results80 rfl rfl g0 g1 g2 g3 g4 ⟨va, vc, xs, rfl, ownsRow_lower (by omega) hrow, ?_, HB.out.trans (hP.below (by omega))⟩
      exact Lie.keep (fun b hb => hP.other b (by have := hb.1; omega)) (fun b hb => ⟨by have := hb.1; omega, by rw [hP.size]; exact hb.2.1, hb.2.2⟩) HLI.out.2

theorem post_cell26l {fn : Func} {R : Ending → World → Prop} {a : Act} {w : World} {b : Nat} {v0 v1 v2 v3 v4 : Value} (hr : fn.results = #[.cell 6 26]) (hp : a.tmps[6]?.getD undef = .pointer (some ⟨b, 0, none⟩)) (hd : a.defers = [])
    (C : w.heap[b]? = some (.cells #[v0, v1, v2, v3, v4] 26 (0, 0))) (h : R (.returned (.agg #[v0, v1, v2, v3, v4])) w) : bodyPost Try.prog fn R .ret a w := by
  obtain ⟨c0, c1, c2, c3, c4, _⟩ := blk5 C
  refine bodyPost_ret (v := .agg #[v0, v1, v2, v3, v4]) ?_ hd h
  simp only [results, hr]
  simp [hp, go_sem, c0, c1, c2, c3, c4]

theorem keep5 {w : World} {g off : Nat} {u0 u1 u2 u3 u4 : Value} (k : Nat) (h : k ≠ g) :
    (((((w.setCell ⟨g, off, none⟩ u0).setCell ⟨g, off + 1, none⟩ u1).setCell ⟨g, off + 2, none⟩ u2).setCell ⟨g, off + 3, none⟩ u3).setCell ⟨g, off + 4, none⟩ u4).heap[k]? = w.heap[k]? := by
  rw [Below.heap_setCell _ _ _ _ h, Below.heap_setCell _ _ _ _ h, Below.heap_setCell _ _ _ _ h, Below.heap_setCell _ _ _ _ h, Below.heap_setCell _ _ _ _ h]

/-- What laid hands back. -/
def LaidPost (w : World) (B : Nat) (t v : T) (p : List Int) (e : Ending) (w' : World) : Prop :=
  ∃ a c, e = .returned ((T.put p v t).val a c) ∧ T.In w' (fun b => b < B ∨ New w.heap.size w' b) false (T.put p v t) a c ∧ Below w.heap.size w w'

set_option maxRecDepth 100000 in
set_option maxHeartbeats 40000000 in
theorem laid_walk (v : T) (hwv : v.wf) : ∀ (p : List Int) (t : T) (a : Option Addr) (c : Nat) (a' : Option Addr) (c' : Nat) (pa : Option Addr) (pc : Nat) (w : World) (B : Nat), T.At w B t a c → T.At w B v a' c' → Ints w (· < B) p pa pc → B ≤ w.heap.size → t.wf → p.length ≤ 1000000 → T.find p t ≠ none →
    Calls Try.prog 82 #[t.val a c, v.val a' c', .slice pa p.length pc] w (LaidPost w B t v p) := by
  intro p
  induction p with
  | nil =>
    intro t a c a' c' pa pc w B hin hin' hp hB hw hpl hf
    obtain ⟨w1, hw1⟩ : ∃ w1, w1 = ((w.alloc (.cells #[.int .u8 t.k, .int .i64 t.n, .string t.s, .slice a t.l.length c, .int .i64 t.r] 26 (0, 0))).alloc (.cells #[.int .u8 v.k, .int .i64 v.n, .string v.s, .slice a' v.l.length c', .int .i64 v.r] 26 (0, 0))).alloc (.cells #[.int .u8 0, .int .i64 0, .string ⟨#[]⟩, .slice none 0 0, .int .i64 0] 26 (0, 0)) := ⟨_, rfl⟩
    have hb1 : Below w.heap.size w w1 := by rw [hw1]; exact (two_boxes _ _ _).alloc (by simp; omega) _
    obtain ⟨D0, D1, D2⟩ : w1.heap[w.heap.size]? = _ ∧ w1.heap[w.heap.size + 1]? = _ ∧ w1.heap[w.heap.size + 1 + 1]? = _ := by rw [hw1]; exact three_blk _ _ _ _
    obtain ⟨y0, y1, y2, y3, y4⟩ := blk5cc D1
    unfold T.val
    go_enter Try.func82, Try.ntmps82
    go_upto_region 1 with (fail)
    rw [← hw1]
    clear hw1
    go_wp2_with (refine wpList_put _ rfl _ _ rfl (w.heap.size + 1 + 1) _ _ _ _ _ _ _ _ _ _ (by rfl) (by rfl) (by simp [Value.oneCell']) D2 ?_; rintro wP hP)
    refine post_cell26l Try.results82 rfl rfl hP.at_ ⟨a', c', by rw [T.put]; rfl, ?_, hb1.trans (hP.below (by omega))⟩
    rw [T.put]
    exact T.In.keep (fun b hb => (hP.other b (by omega)).trans (hb1.block b (by omega))) (fun b hb => .inl hb) id hin'
  | cons i is ih =>
    intro t a c a' c' pa pc w B hin hin' hp hB hw hpl hf
    have hq12 : ¬ (i < 0 ∨ (t.l.length : Int) ≤ i) := fun hc => hf (T.find_none _ _ _ hc)
    have hq1 : 0 ≤ i := by omega
    have hq2 : i < (t.l.length : Int) := by omega
    have hq3 : i.toNat < t.l.length := by omega
    rw [T.find_step _ _ _ hq1 hq3] at hf
    have hput := T.put_step i is v t hq3
    have hcap := hp.1
    obtain ⟨pb, po, rfl, hpb, pe⟩ := hp.elem 0 (by simp)
    rw [Nat.add_zero] at pe
    have pe' : w.cell? ⟨pb, po, none⟩ = some (.int .i64 i) := pe
    have htail : Ints w (· < B) is (if pc = 1 then some ⟨pb, po, none⟩ else some ⟨pb, po + 1, none⟩) (pc - 1) := by
      by_cases hpc : pc = 1
      · have : is = [] := List.length_eq_zero_iff.1 (by simp at hcap; omega)
        exact ⟨by simp at hcap; omega, .inl this⟩
      rw [if_neg hpc]
      refine ⟨by simp at hcap; omega, .inr ⟨pb, po + 1, rfl, hpb, fun j hj => ?_⟩⟩
      obtain ⟨b, o, e, _, h⟩ := hp.elem (j + 1) (by simp; omega)
      injection e with e
      injection e with e1 e2
      subst e1 e2
      have e3 : po + 1 + j = po + (j + 1) := by omega
      rw [e3]
      exact h
    obtain ⟨b, o, a2, c2, rfl, hbB, ht, e0, e1, e2, e3, e4⟩ := hin.elem' i.toNat hq3
    obtain ⟨w1, hw1⟩ : ∃ w1, w1 = ((w.alloc (.cells #[.int .u8 t.k, .int .i64 t.n, .string t.s, .slice (some ⟨b, o, none⟩) t.l.length c, .int .i64 t.r] 26 (0, 0))).alloc (.cells #[.int .u8 v.k, .int .i64 v.n, .string v.s, .slice a' v.l.length c', .int .i64 v.r] 26 (0, 0))).alloc (.cells #[.int .u8 0, .int .i64 0, .string ⟨#[]⟩, .slice none 0 0, .int .i64 0] 26 (0, 0)) := ⟨_, rfl⟩
    have hb1 : Below w.heap.size w w1 := by rw [hw1]; exact (two_boxes _ _ _).alloc (by simp; omega) _
    obtain ⟨D0, D1, D2⟩ : w1.heap[w.heap.size]? = _ ∧ w1.heap[w.heap.size + 1]? = _ ∧ w1.heap[w.heap.size + 1 + 1]? = _ := by rw [hw1]; exact three_blk _ _ _ _
    have z1 : w1.heap.size = w.heap.size + 3 := by rw [hw1]; simp
    have m1 := ownRow_walk t (some ⟨b, o, none⟩) c w1 B (T.At.below hb1 hB hin) (by omega) hw
    have m2 := fun W (hb : Below w.heap.size w W) => ih t.l[i.toNat] a2 c2 a' c' (if pc = 1 then some ⟨pb, po, none⟩ else some ⟨pb, po + 1, none⟩) (pc - 1) W B (T.At.below hb hB ht) (T.At.below hb hB hin') (Ints.below hb hB htail) (by have := hb.size; omega) (T.wf_elem hw _ hq3) (by simp at hpl; omega) hf
    have M2 := Lib.hid m2
    have HPUT := Lib.hid hput
    have E0 := Lib.hid D0
    have E1 := Lib.hid D1
    have E2 := Lib.hid D2
    have Z1 := Lib.hid z1
    have HB1 := Lib.hid hb1
    obtain ⟨x0, x1, x2, x3, x4⟩ := blk5cc D0
    have hlen : (i :: is).length = is.length + 1 := rfl
    unfold T.val at m1 ⊢
    rw [hlen] at hpl hcap ⊢
    clear D0 D1 D2 m2 ih hput hf hin hin' hp htail hb1 z1 hq12 ht hw
    go_enter Try.func82, Try.ntmps82
    go_upto_region 1 with (fail)
    rw [← hw1]
    clear hw1
    go_upto_region 4 with (go_at_call 80; refine m1.mono ?_; clear m1; rintro e w2 ⟨a3, c3, xs, he, hown, hlie, hb2⟩; unfold T.val at he; subst he)
    rcases hown.2 with ⟨_, hn⟩ | ⟨g, cap, cur, hv, hb0, hg, hle, hcm, hcs, htake⟩
    · omega
    simp only [Value.slice.injEq, true_and] at hv
    obtain ⟨rfl, rfl⟩ := hv
    obtain ⟨w3, hw3⟩ : ∃ w3, w3 = w2.alloc (.cells #[.int .u8 t.k, .int .i64 t.n, .string t.s, .slice (some ⟨g, 0, none⟩) t.l.length c3, .int .i64 t.r] 26) := ⟨_, rfl⟩
    rw [← hw3]
    have z2 := hb2.size
    have zg : g < w2.heap.size := (Array.getElem?_eq_some_iff.1 hg).1
    have hb3 : Below w2.heap.size w2 w3 := by rw [hw3]; exact (Below.refl _ _).alloc (Nat.le_refl _) _
    have O3 : w3.heap[w2.heap.size]? = some (.cells #[.int .u8 t.k, .int .i64 t.n, .string t.s, .slice (some ⟨g, 0, none⟩) t.l.length c3, .int .i64 t.r] 26 (0, 0)) := by rw [hw3]; exact blk_new _ _
    have z3 : w2.heap.size < w3.heap.size := (Array.getElem?_eq_some_iff.1 O3).1
    have hb13 : Below w1.heap.size w1 w3 := hb2.trans (hb3.mono z2)
    have hbw3 : Below w.heap.size w w3 := HB1.out.trans (hb13.mono HB1.out.size)
    have hz1 := Z1.out
    have KS : ∀ W : World, W.heap[w.heap.size]? = w3.heap[w.heap.size]? → W.heap[w.heap.size + 1]? = w3.heap[w.heap.size + 1]? → W.heap[w2.heap.size]? = w3.heap[w2.heap.size]? → W.heap[b]? = w3.heap[b]? → W.heap[pb]? = w3.heap[pb]? →
        W.cell? ⟨w.heap.size, 3, none⟩ = some (.slice (some ⟨b, o, none⟩) t.l.length c) ∧ W.cell? ⟨w2.heap.size, 3, none⟩ = some (.slice (some ⟨g, 0, none⟩) t.l.length c3) ∧ W.cell? ⟨pb, po, none⟩ = some (.int .i64 i) ∧
        (W.cell? ⟨w.heap.size + 1, 0, none⟩ = some (.int .u8 v.k) ∧ W.cell? ⟨w.heap.size + 1, 1, none⟩ = some (.int .i64 v.n) ∧ W.cell? ⟨w.heap.size + 1, 2, none⟩ = some (.string v.s) ∧ W.cell? ⟨w.heap.size + 1, 3, none⟩ = some (.slice a' v.l.length c') ∧ W.cell? ⟨w.heap.size + 1, 4, none⟩ = some (.int .i64 v.r)) ∧
        (W.cell? ⟨b, o + i.toNat * 5, none⟩ = some (.int .u8 t.l[i.toNat].k) ∧ W.cell? ⟨b, o + i.toNat * 5 + 1, none⟩ = some (.int .i64 t.l[i.toNat].n) ∧ W.cell? ⟨b, o + i.toNat * 5 + 2, none⟩ = some (.string t.l[i.toNat].s) ∧
          W.cell? ⟨b, o + i.toNat * 5 + 3, none⟩ = some (.slice a2 t.l[i.toNat].l.length c2) ∧ W.cell? ⟨b, o + i.toNat * 5 + 4, none⟩ = some (.int .i64 t.l[i.toNat].r)) := fun W h0 h1 h2 h3 h4 => by
      have k3 := h3.trans (hbw3.block b (by omega))
      have k4 := h4.trans (hbw3.block pb (by omega))
      rw [cell_of_heap k3, cell_of_heap k3, cell_of_heap k3, cell_of_heap k3, cell_of_heap k3, cell_of_heap k4]
      exact ⟨(blk5cc (h0.trans ((hb13.block _ (by omega)).trans E0.out))).2.2.2.1, (blk5cc (h2.trans O3)).2.2.2.1, pe', blk5cc (h1.trans ((hb13.block _ (by omega)).trans E1.out)), e0, e1, e2, e3, e4⟩
    have HKS := Lib.hid KS
    have K0 := Lib.hid (KS w3.drew rfl rfl rfl rfl rfl)
    have HO3 := Lib.hid O3
    have HL := Lib.hid hlie
    have HG := Lib.hid hg
    have HBW := Lib.hid hbw3
    have HB3 := Lib.hid hb3
    have HB13 := Lib.hid hb13
    have HTK := Lib.hid htake
    have mN := fun W (hb : Below w3.heap.size w3 W) => M2.out W (hbw3.trans (hb.mono hbw3.size))
    unfold T.val at mN
    have hfit : i.toNat * 5 + 5 ≤ cur.size := by omega
    have i1 : (1 : Int) ≤ (is.length : Int) + 1 := by omega
    have i2 : (is.length : Int) + 1 ≤ (pc : Int) := by omega
    have i3 : (0 : Int) < (is.length : Int) + 1 := by omega
    have i4 : (1 : Int) ≤ (pc : Int) := by omega
    have n0 : w.heap.size ≠ g := by omega
    have n1 : w.heap.size + 1 ≠ g := by omega
    have n2 : w2.heap.size ≠ g := by omega
    have n3 : b ≠ g := by omega
    have n4 : pb ≠ g := by omega
    have l0 : w.heap.size < w3.heap.size := by omega
    have l1 : w.heap.size + 1 < w3.heap.size := by omega
    have l2 : w2.heap.size < w3.heap.size := by omega
    have l3 : b < w3.heap.size := by omega
    have l4 : pb < w3.heap.size := by omega
    clear e0 e1 e2 e3 e4 pe pe' x0 x1 x2 x3 x4 KS O3 hlie hg hbw3 hb3 hb13 hown htake hw3 hb2
    by_cases hpc : pc = 1
    · subst hpc
      obtain rfl : is = [] := List.length_eq_zero_iff.1 (by omega)
      rw [if_pos rfl, Nat.sub_self] at mN
      simp only [List.length_nil] at mN ⊢
      go_region_held3 (fun W => W.cell? ⟨w.heap.size, 3, none⟩ = some (.slice (some ⟨b, o, none⟩) t.l.length c) ∧ W.cell? ⟨w2.heap.size, 3, none⟩ = some (.slice (some ⟨g, 0, none⟩) t.l.length c3) ∧ W.cell? ⟨pb, po, none⟩ = some (.int .i64 i) ∧
          (W.cell? ⟨w.heap.size + 1, 0, none⟩ = some (.int .u8 v.k) ∧ W.cell? ⟨w.heap.size + 1, 1, none⟩ = some (.int .i64 v.n) ∧ W.cell? ⟨w.heap.size + 1, 2, none⟩ = some (.string v.s) ∧ W.cell? ⟨w.heap.size + 1, 3, none⟩ = some (.slice a' v.l.length c') ∧ W.cell? ⟨w.heap.size + 1, 4, none⟩ = some (.int .i64 v.r)) ∧
          (W.cell? ⟨b, o + i.toNat * 5, none⟩ = some (.int .u8 t.l[i.toNat].k) ∧ W.cell? ⟨b, o + i.toNat * 5 + 1, none⟩ = some (.int .i64 t.l[i.toNat].n) ∧ W.cell? ⟨b, o + i.toNat * 5 + 2, none⟩ = some (.string t.l[i.toNat].s) ∧
            W.cell? ⟨b, o + i.toNat * 5 + 3, none⟩ = some (.slice a2 t.l[i.toNat].l.length c2) ∧ W.cell? ⟨b, o + i.toNat * 5 + 4, none⟩ = some (.int .i64 t.l[i.toNat].r)))
        (first | with_reducible exact K0.out | with_reducible exact K1.out | with_reducible exact HKS.out _ ((keep5 _ n0).trans (HB4.out _ l0)) ((keep5 _ n1).trans (HB4.out _ l1)) ((keep5 _ n2).trans (HB4.out _ l2)) ((keep5 _ n3).trans (HB4.out _ l3)) ((keep5 _ n4).trans (HB4.out _ l4)) | go_keep)
        (first
          | (go_simp; go_at_call 82; refine (mN _ ((Below.refl _ _).drew)).mono ?_; clear mN; rintro e w4 ⟨a5, c5, he, hin5, hb4⟩; unfold T.val at he; subst he; have HB4 : Hid (∀ k, k < w3.heap.size → w4.heap[k]? = w3.heap[k]?) := Lib.hid (fun k hk => hb4.block k hk); have K1 := Lib.hid (HKS.out w4 (HB4.out _ l0) (HB4.out _ l1) (HB4.out _ l2) (HB4.out _ l3) (HB4.out _ l4)); have G4 := (HB4.out g (by omega)).trans ((HB3.out.block g zg).trans HG.out); obtain ⟨⟨q0, f0⟩, ⟨q1, f1⟩, ⟨q2, f2⟩, ⟨q3, f3⟩, ⟨q4, f4⟩⟩ := rowcells G4 hfit))
      have hP := row5 G4 hfit (.int .u8 (T.put [] v t.l[i.toNat]).k) (.int .i64 (T.put [] v t.l[i.toNat]).n) (.string (T.put [] v t.l[i.toNat]).s) (.slice a5 (T.put [] v t.l[i.toNat]).l.length c5) (.int .i64 (T.put [] v t.l[i.toNat]).r)
      obtain ⟨W5, hW5⟩ : ∃ W5, W5 = (((((w4.setCell ⟨g, i.toNat * 5, none⟩ (.int .u8 (T.put [] v t.l[i.toNat]).k)).setCell ⟨g, i.toNat * 5 + 1, none⟩ (.int .i64 (T.put [] v t.l[i.toNat]).n)).setCell ⟨g, i.toNat * 5 + 2, none⟩ (.string (T.put [] v t.l[i.toNat]).s)).setCell ⟨g, i.toNat * 5 + 3, none⟩ (.slice a5 (T.put [] v t.l[i.toNat]).l.length c5)).setCell ⟨g, i.toNat * 5 + 4, none⟩ (.int .i64 (T.put [] v t.l[i.toNat]).r)) := ⟨_, rfl⟩
      rw [← hW5] at hP ⊢
      have z4 : w3.heap.size ≤ w4.heap.size := hb4.size
      have N7 := (hP.other _ n2).trans ((HB4.out _ l2).trans HO3.out)
      have N6 := (hP.other (w.heap.size + 1 + 1) (by omega)).trans ((HB4.out _ (by omega)).trans ((HB13.out.block _ (by omega)).trans E2.out))
      have hbw5 : Below w.heap.size w W5 := HBW.out.trans (((below_undrew hb4).mono (by omega)).trans (hP.below (by omega)))
      obtain ⟨x0, x1, x2, x3, x4⟩ := blk5cc N7
      have N6 := Lib.hid N6
      have HP := Lib.hid hP
      have HIN5 := Lib.hid hin5
      have HBW5 := Lib.hid hbw5
      clear hW5 q0 f0 q1 f1 q2 f2 q3 f3 q4 f4 hP hin5 hbw5 K0 K1 N7
      go_wp2_with (refine wpList_put _ rfl _ _ rfl (w.heap.size + 1 + 1) _ _ _ _ _ _ _ _ _ _ (by rfl) (by rfl) (by simp [Value.oneCell']) N6.out ?_; rintro wP hQ)
      have hP := HP.out
      have zP := hP.size
      refine post_cell26l Try.results82 rfl rfl hQ.at_ ⟨some ⟨g, 0, none⟩, c3, ?_, ?_, HBW5.out.trans (hQ.below (by omega))⟩
      · rw [HPUT.out]
        simp [T.val, T.k, T.n, T.s, T.l, T.r]
      · rw [HPUT.out]
        have hl4 : Lie w4 (fun q => w1.heap.size + 1 ≤ q ∧ q < w2.heap.size ∧ q ≠ g) false t.l xs := Lie.keep (fun q hq => (HB4.out q (by omega)).trans (HB3.out.block q hq.2.1)) (fun q hq => ⟨hq.1, hq.2.1, fun e => hq.2.2 (by subst e; rfl)⟩) HL.out
        refine T.In.keep (ok := fun q => q ≠ w.heap.size + 1 + 1 ∧ (q < B ∨ (w.heap.size ≤ q ∧ q < W5.heap.size))) (fun q hq => hQ.other q hq.1) (fun q hq => hq.2.imp id (fun h => ⟨h.1, by rw [hQ.size]; exact h.2⟩)) id
          (laid_in hle hcs HTK.out hl4 hq3 (by rw [← laid_assoc]; exact hP) HIN5.out (fun q hq => ⟨hq.2.2, by omega, .inr ⟨by omega, by omega⟩⟩) (fun q hq => ?_) ⟨by omega, .inr ⟨by omega, by omega⟩⟩ t.k t.n t.r t.s)
        rcases hq with hq | hq
        · exact ⟨by omega, by omega, .inl hq⟩
        · have h1 : w3.heap.size ≤ q := hq.1
          have h2 := hq.2
          exact ⟨by omega, by omega, .inr ⟨by omega, by omega⟩⟩
    · rw [if_neg hpc] at mN
      go_region_held3 (fun W => W.cell? ⟨w.heap.size, 3, none⟩ = some (.slice (some ⟨b, o, none⟩) t.l.length c) ∧ W.cell? ⟨w2.heap.size, 3, none⟩ = some (.slice (some ⟨g, 0, none⟩) t.l.length c3) ∧ W.cell? ⟨pb, po, none⟩ = some (.int .i64 i) ∧
          (W.cell? ⟨w.heap.size + 1, 0, none⟩ = some (.int .u8 v.k) ∧ W.cell? ⟨w.heap.size + 1, 1, none⟩ = some (.int .i64 v.n) ∧ W.cell? ⟨w.heap.size + 1, 2, none⟩ = some (.string v.s) ∧ W.cell? ⟨w.heap.size + 1, 3, none⟩ = some (.slice a' v.l.length c') ∧ W.cell? ⟨w.heap.size + 1, 4, none⟩ = some (.int .i64 v.r)) ∧
          (W.cell? ⟨b, o + i.toNat * 5, none⟩ = some (.int .u8 t.l[i.toNat].k) ∧ W.cell? ⟨b, o + i.toNat * 5 + 1, none⟩ = some (.int .i64 t.l[i.toNat].n) ∧ W.cell? ⟨b, o + i.toNat * 5 + 2, none⟩ = some (.string t.l[i.toNat].s) ∧
            W.cell? ⟨b, o + i.toNat * 5 + 3, none⟩ = some (.slice a2 t.l[i.toNat].l.length c2) ∧ W.cell? ⟨b, o + i.toNat * 5 + 4, none⟩ = some (.int .i64 t.l[i.toNat].r)))
        (first | with_reducible exact K0.out | with_reducible exact K1.out | with_reducible exact HKS.out _ ((keep5 _ n0).trans (HB4.out _ l0)) ((keep5 _ n1).trans (HB4.out _ l1)) ((keep5 _ n2).trans (HB4.out _ l2)) ((keep5 _ n3).trans (HB4.out _ l3)) ((keep5 _ n4).trans (HB4.out _ l4)) | go_keep)
        (first
          | (go_simp; go_at_call 82; refine (mN _ ((Below.refl _ _).drew)).mono ?_; clear mN; rintro e w4 ⟨a5, c5, he, hin5, hb4⟩; unfold T.val at he; subst he; have HB4 : Hid (∀ k, k < w3.heap.size → w4.heap[k]? = w3.heap[k]?) := Lib.hid (fun k hk => hb4.block k hk); have K1 := Lib.hid (HKS.out w4 (HB4.out _ l0) (HB4.out _ l1) (HB4.out _ l2) (HB4.out _ l3) (HB4.out _ l4)); have G4 := (HB4.out g (by omega)).trans ((HB3.out.block g zg).trans HG.out); obtain ⟨⟨q0, f0⟩, ⟨q1, f1⟩, ⟨q2, f2⟩, ⟨q3, f3⟩, ⟨q4, f4⟩⟩ := rowcells G4 hfit))
      have hP := row5 G4 hfit (.int .u8 (T.put is v t.l[i.toNat]).k) (.int .i64 (T.put is v t.l[i.toNat]).n) (.string (T.put is v t.l[i.toNat]).s) (.slice a5 (T.put is v t.l[i.toNat]).l.length c5) (.int .i64 (T.put is v t.l[i.toNat]).r)
      obtain ⟨W5, hW5⟩ : ∃ W5, W5 = (((((w4.setCell ⟨g, i.toNat * 5, none⟩ (.int .u8 (T.put is v t.l[i.toNat]).k)).setCell ⟨g, i.toNat * 5 + 1, none⟩ (.int .i64 (T.put is v t.l[i.toNat]).n)).setCell ⟨g, i.toNat * 5 + 2, none⟩ (.string (T.put is v t.l[i.toNat]).s)).setCell ⟨g, i.toNat * 5 + 3, none⟩ (.slice a5 (T.put is v t.l[i.toNat]).l.length c5)).setCell ⟨g, i.toNat * 5 + 4, none⟩ (.int .i64 (T.put is v t.l[i.toNat]).r)) := ⟨_, rfl⟩
      rw [← hW5] at hP ⊢
      have z4 : w3.heap.size ≤ w4.heap.size := hb4.size
      have N7 := (hP.other _ n2).trans ((HB4.out _ l2).trans HO3.out)
      have N6 := (hP.other (w.heap.size + 1 + 1) (by omega)).trans ((HB4.out _ (by omega)).trans ((HB13.out.block _ (by omega)).trans E2.out))
      have hbw5 : Below w.heap.size w W5 := HBW.out.trans (((below_undrew hb4).mono (by omega)).trans (hP.below (by omega)))
      obtain ⟨x0, x1, x2, x3, x4⟩ := blk5cc N7
      have N6 := Lib.hid N6
      have HP := Lib.hid hP
      have HIN5 := Lib.hid hin5
      have HBW5 := Lib.hid hbw5
      clear hW5 q0 f0 q1 f1 q2 f2 q3 f3 q4 f4 hP hin5 hbw5 K0 K1 N7
      go_wp2_with (refine wpList_put _ rfl _ _ rfl (w.heap.size + 1 + 1) _ _ _ _ _ _ _ _ _ _ (by rfl) (by rfl) (by simp [Value.oneCell']) N6.out ?_; rintro wP hQ)
      have hP := HP.out
      have zP := hP.size
      refine post_cell26l Try.results82 rfl rfl hQ.at_ ⟨some ⟨g, 0, none⟩, c3, ?_, ?_, HBW5.out.trans (hQ.below (by omega))⟩
      · rw [HPUT.out]
        simp [T.val, T.k, T.n, T.s, T.l, T.r]
      · rw [HPUT.out]
        have hl4 : Lie w4 (fun q => w1.heap.size + 1 ≤ q ∧ q < w2.heap.size ∧ q ≠ g) false t.l xs := Lie.keep (fun q hq => (HB4.out q (by omega)).trans (HB3.out.block q hq.2.1)) (fun q hq => ⟨hq.1, hq.2.1, fun e => hq.2.2 (by subst e; rfl)⟩) HL.out
        refine T.In.keep (ok := fun q => q ≠ w.heap.size + 1 + 1 ∧ (q < B ∨ (w.heap.size ≤ q ∧ q < W5.heap.size))) (fun q hq => hQ.other q hq.1) (fun q hq => hq.2.imp id (fun h => ⟨h.1, by rw [hQ.size]; exact h.2⟩)) id
          (laid_in hle hcs HTK.out hl4 hq3 (by rw [← laid_assoc]; exact hP) HIN5.out (fun q hq => ⟨hq.2.2, by omega, .inr ⟨by omega, by omega⟩⟩) (fun q hq => ?_) ⟨by omega, .inr ⟨by omega, by omega⟩⟩ t.k t.n t.r t.s)
        rcases hq with hq | hq
        · exact ⟨by omega, by omega, .inl hq⟩
        · have h1 : w3.heap.size ≤ q := hq.1
          have h2 := hq.2
          exact ⟨by omega, by omega, .inr ⟨by omega, by omega⟩⟩

end Go.Proofs.Ytapfmfihhpafcaa
