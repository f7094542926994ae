/-
  posternref02.Own: a value in memory of its own.
-/
import Derived.Test.YtapfmfihhpafcaaD5
namespace Go.Proofs.Ytapfmfihhpafcaa
open Go.RowKit
set_option linter.unusedVariables false

theorem own_form {w : World} {base e sz n : Nat} {v : Value} {xs : List Value} (h : w.ownsRow base e sz v n xs) : ∃ a c, v = .slice a n c := by
  rcases h.2 with ⟨rfl, rfl⟩ | ⟨g, cap, cur, hv, _⟩
  · exact ⟨none, 0, rfl⟩
  · exact ⟨_, _, hv⟩

/-- A list of the call's own lies in the world as any list does. -/
theorem own_lies {w : World} {base B : Nat} {a : Option Addr} {c : Nat} {xs : List Value} {l : List T} (hown : w.ownsRow base 26 5 (.slice a l.length c) l.length xs) (hlie : Lie w (fun b => base ≤ b ∧ b < w.heap.size ∧ (Value.slice a l.length c).ownBlock ≠ some b) false l xs) (hB : B < base) :
    ∀ k n s r, T.In w (fun b => B < b ∧ b < w.heap.size) false (.mk k n s l r) a c := by
  intro k n s r
  rw [T.In]
  rcases hown.2 with ⟨h0, hn⟩ | ⟨g, cap, cur, hv, hb, hg, hle, _⟩
  · injection h0 with _ _ hc
    exact ⟨by omega, .inl (List.length_eq_zero_iff.1 hn)⟩
  · injection hv with ha _ hc
    subst ha hc
    have hlt := hown.lt g rfl
    refine ⟨hle, .inr ⟨g, 0, rfl, ⟨by omega, hlt.2⟩, by simp, Lie.ins (Lie.keep (fun _ _ => rfl) (fun b hb => ⟨by omega, hb.2.1⟩) hlie) g 0 fun j u hu => ?_⟩⟩
    have hj : j < l.length * 5 := by have := (List.getElem?_eq_some_iff.1 hu).1; rw [hlie.length] at this; exact this
    rw [Nat.zero_add, hown.cellAt j hj]
    exact hu

set_option maxRecDepth 100000 in
set_option maxHeartbeats 4000000 in
theorem refOwn_walk (t : T) : ∀ (a : Option Addr) (c : Nat) (w : World) (B : Nat), T.At w B t a c → B ≤ w.heap.size → t.wf →
    Calls Try.prog 80 #[t.val a c] w (LentPost w false t) := by
  induction t using T.induct with
  | h k n s l r ih =>
  intro a c w B hin hB hwf
  rw [T.wf, T.wfs_iff] at hwf
  obtain ⟨⟨_, _, _, _, _, _, _, hll⟩, hwl⟩ := hwf
  unfold T.val
  simp only [T.k, T.n, T.s, T.l, T.r]
  obtain ⟨w1, hw1⟩ : ∃ w1, w1 = ((w.alloc (.cells #[.int .u8 k, .int .i64 n, .string s, .slice a l.length c, .int .i64 r] 26 (0, 0))).alloc (.cells #[.int .u8 0, .int .i64 0, .string ⟨#[]⟩, .slice none 0 0, .int .i64 0] 26 (0, 0))).alloc (.cells #[.int .u8 k, .int .i64 n, .string s, .slice none 0 0, .int .i64 r] 26 (0, 0)) := ⟨_, rfl⟩
  have hb1 : Below w.heap.size w w1 := by rw [hw1]; exact (two_boxes _ _ _).alloc (by simp; omega) _
  obtain ⟨D0, D1, D2⟩ : w1.heap[w.heap.size]? = _ ∧ w1.heap[w.heap.size + 1]? = _ ∧ w1.heap[w.heap.size + 1 + 1]? = _ := by rw [hw1]; exact three_blk _ _ _ _
  have z1 : w1.heap.size = w.heap.size + 3 := by rw [hw1]; simp
  have Z1 := Lib.hid z1
  clear z1
  obtain ⟨i0, hi, hz0, hz1, hz2⟩ := info_parts info26
  have hll' : (l.length : Int) ≤ 2199023255488 := by omega
  obtain ⟨x0, x1, x2, x3, x4⟩ := blk5cc D0
  obtain ⟨y0, y1, y2, y3, y4, f0, f1, f2, f3, f4⟩ := blk5 D2
  have C0' := D0
  have C1' := D1
  have C2' := D2
  have hb3 := hb1
  go_enter Try.func80, Try.ntmps80
  go_upto_region 3 with fail
  rw [← hw1]
  clear hw1 D0 D1 D2 hb1
  clear x0 x1 x2 x3 x4 y0 y1 y2 y3 y4 f0 f1 f2 f3 f4
  go_wp2_with fail
  go_loopg [4] l.length (fun gg vi wr => ∃ (i : Nat) (v : Value) (xs : List Value), vi = .int .i64 i ∧ i + gg = l.length ∧ Below w.heap.size w wr ∧
    wr.heap[w.heap.size]? = some (.cells #[.int .u8 k, .int .i64 n, .string s, .slice a l.length c, .int .i64 r] 26 (0, 0)) ∧
    wr.heap[w.heap.size + 1]? = some (.cells #[.int .u8 0, .int .i64 0, .string ⟨#[]⟩, .slice none 0 0, .int .i64 0] 26 (0, 0)) ∧
    wr.heap[w.heap.size + 1 + 1]? = some (.cells #[.int .u8 k, .int .i64 n, .string s, v, .int .i64 r] 26 (0, 0)) ∧
    wr.ownsRow (w.heap.size + 3) 26 5 v i xs ∧ Lie wr (fun b => w.heap.size + 3 ≤ b ∧ b < wr.heap.size ∧ v.ownBlock ≠ some b) false (l.take i) xs)
  case atStart => exact ⟨0, _, [], rfl, by simp, hb3, C0', C1', C2', World.ownsRow_nil _ _ _ _, by simp [Lie]⟩
  case round =>
    obtain ⟨i, v, xs, rfl, hgi, hb, C0, C1, C2, hown, hlie⟩ := hrel
    by_cases h : i < l.length
    · obtain ⟨b, o, a', c', rfl, hbB, ht, e0, e1, e2, e3, e4⟩ := (T.At.below hb hB hin).elem i h
      have hzr := hb.size
      have z0 : w.heap.size + 1 + 1 < wr.heap.size := (Array.getElem?_eq_some_iff.1 C2).1
      have hvl := hown.lt
      have mC := ih l[i] (List.getElem_mem h) a' c' wr.drew B (T.At.below ((Below.refl wr.heap.size wr).drew) (by omega) ht) (by show B ≤ wr.heap.size; omega) (hwl _ (List.getElem_mem h))
      unfold T.val at mC
      have hbz : b < wr.heap.size := by omega
      have KS : ∀ W : World, (W.heap[w.heap.size]? = wr.heap[w.heap.size]?) → W.heap[w.heap.size + 1 + 1]? = wr.heap[w.heap.size + 1 + 1]? → W.heap[b]? = wr.heap[b]? →
        (W.cell? ⟨w.heap.size + 1 + 1, 3, none⟩ = some v ∧ W.cell? ⟨w.heap.size, 3, none⟩ = some (.slice (some ⟨b, o, none⟩) l.length c) ∧ W.cell? ⟨b, o + i * 5, none⟩ = some (.int .u8 l[i].k) ∧ W.cell? ⟨b, o + i * 5 + 1, none⟩ = some (.int .i64 l[i].n) ∧
          W.cell? ⟨b, o + i * 5 + 2, none⟩ = some (.string l[i].s) ∧ W.cell? ⟨b, o + i * 5 + 3, none⟩ = some (.slice a' l[i].l.length c') ∧ W.cell? ⟨b, o + i * 5 + 4, none⟩ = some (.int .i64 l[i].r)) := fun W h0 h2 h3 => by
        rw [cell_of_heap h2, cell_of_heap h0, cell_of_heap h3, cell_of_heap h3, cell_of_heap h3, cell_of_heap h3, cell_of_heap h3]
        exact ⟨(blk5cc C2).2.2.2.1, (blk5cc C0).2.2.2.1, e0, e1, e2, e3, e4⟩
      have HKS := Lib.hid KS
      obtain ⟨x0, x1, x2, x3, x4⟩ := blk5cc C0
      obtain ⟨y0, y1, y2, y3, y4⟩ := blk5cc C2
      have HC0 := Lib.hid C0
      have HC1 := Lib.hid C1
      have HC2 := Lib.hid C2
      have HL := Lib.hid hlie
      have HO := Lib.hid hown
      have HB := Lib.hid hb
      clear ih KS C0 C1 C2 hlie hown hb ht hin y0 y1 y2 y4 x0 x1 x2 x4 C0' C1' C2' hb3
      go_upto_region 6 with fail
      go_region_law (first
          | (go_simp; go_at_call 80; refine mC.mono ?_; clear mC; rintro e w4 ⟨a2, c2, he, hi2, hb4⟩; unfold T.val at he; subst he; obtain ⟨k40, k41, k42, k43, k44, k45, k46⟩ := HKS.out w4 (hb4.block _ (by show _ < wr.heap.size; omega)) (hb4.block _ (by show _ < wr.heap.size; omega)) (hb4.block _ (by show _ < wr.heap.size; omega)); have hown4 := ownsRow_of_block' (w' := w4) HO.out (fun g hg => hb4.block g (hvl g hg).2); obtain ⟨k50, k51, k52, k53, k54, k55, k56⟩ := HKS.out (w4.alloc (.cells #[.int .u8 l[i].k, .int .i64 l[i].n, .string l[i].s, .slice a2 l[i].l.length c2, .int .i64 l[i].r] 26)) ((Below.heap_alloc _ _ _ (by have := hb4.size; have : wr.drew.heap.size = wr.heap.size := rfl; omega)).trans (hb4.block _ (by show _ < wr.heap.size; omega))) ((Below.heap_alloc _ _ _ (by have := hb4.size; have : wr.drew.heap.size = wr.heap.size := rfl; omega)).trans (hb4.block _ (by show _ < wr.heap.size; omega))) ((Below.heap_alloc _ _ _ (by have := hb4.size; have : wr.drew.heap.size = wr.heap.size := rfl; omega)).trans (hb4.block _ (by show _ < wr.heap.size; omega))))
          | (refine step_append_lies _ rfl _ _ 23 rfl (w.heap.size + 3) 26 i0 _ 5 64 Try.underlying23 hi hz0 hz1 hz2 rfl (by decide) v i xs (by rfl) (hown4.alloc _) ⟨w4.heap.size, 0, none⟩ 1 1 [.int .u8 l[i].k, .int .i64 l[i].n, .string l[i].s, .slice a2 l[i].l.length c2, .int .i64 l[i].r] (by rfl) rfl (World.news_of_block (cs := #[.int .u8 l[i].k, .int .i64 l[i].n, .string l[i].s, .slice a2 l[i].l.length c2, .int .i64 l[i].r]) (t := 26) (fr := (0, 0)) (blk_new _ _)) (by simp [Value.oneCell']) (by omega) (by unfold maxLen; omega) (by omega) (by have := hb4.size; have : wr.drew.heap.size = wr.heap.size := rfl; simp; omega) _ rfl ?_; intro g cap w5 hown5 hgrow5 hat5 hlt5; have hk5 : ∀ q, q < w.heap.size + 3 → q < wr.heap.size → w5.heap[q]? = wr.heap[q]? := (fun q hq hq2 => (hgrow5.block q (by have := hb4.size; have : wr.drew.heap.size = wr.heap.size := rfl; simp; omega) (fun e => by have := (hvl q e.symm).1; omega)).trans ((Below.heap_alloc _ _ _ (by have := hb4.size; have : wr.drew.heap.size = wr.heap.size := rfl; omega)).trans (hb4.block q hq2))); have G6 := (hk5 _ (by omega) z0).trans HC2.out; have c6 : w5.cell? ⟨w.heap.size + 1 + 1, 3, none⟩ = some v := (blk5cc G6).2.2.2.1; have F6 : w5.frozen? ⟨w.heap.size + 1 + 1, 3, none⟩ = false := (blk5 G6).2.2.2.2.2.2.2.2.1; have HK5 := Lib.hid hk5; have HG6 := Lib.hid G6; clear hk5 G6))
      all_goals
        obtain ⟨r1, r2, r3, r4, r5⟩ := lie_step HB.out (by omega) (by omega) (by omega) (below_undrew hb4) HO.out HL.out hi2 hown5 hgrow5 hat5 HC2.out
        have Q0 := (r2 w.heap.size (by omega) (by omega)).trans HC0.out
        have Q1 := (r2 (w.heap.size + 1) (by omega) (by omega)).trans HC1.out
        clear hown5 hgrow5 hat5 hown4
        go_wp2_with fail
        go_roundg (gk - 1)
        case measure => omega
        case rel =>
          refine ⟨i + 1, _, _, by go_num, by omega, r1, Q0, Q1, r3, r4, ?_⟩
          rw [List.take_succ_eq_append_getElem h]
          exact r5
    · have hil : i = l.length := by omega
      subst hil
      rw [List.take_of_length_le (Nat.le_refl _)] at hlie
      obtain ⟨va, vc, rfl⟩ := own_form hown
      have hlies := own_lies hown hlie (B := w.heap.size + 2) (by omega)
      obtain ⟨y0, y1, y2, y3, y4⟩ := blk5cc C2
      have HC1 := Lib.hid C1
      have HB := Lib.hid hb
      have HLI := Lib.hid hlies
      obtain ⟨x0, x1, x2, x3, x4⟩ := blk5cc C0
      clear ih C0 C1 C2 hlie hown hb hin x0 x1 x2 x4 C0' C1' C2' hb3 hlies
      go_wp2_with (refine wpList_put _ rfl _ _ rfl (w.heap.size + 1) _ _ _ _ _ _ _ _ _ _ (by rfl) (by rfl) (by simp [Value.oneCell']) HC1.out ?_; rintro wP hP)
      obtain ⟨g0, g1, g2, g3, g4⟩ := blk5cc hP.at_
      refine post_cell26 Try.results80 rfl rfl g0 g1 g2 g3 g4 ⟨va, vc, rfl, ?_, HB.out.trans (hP.below (by omega))⟩
      exact T.In.keep (fun b hb => hP.other b (by have := hb.1; omega)) (fun b hb => ⟨by have := hb.1; omega, by rw [hP.size]; exact hb.2⟩) id (HLI.out k n s r)
end Go.Proofs.Ytapfmfihhpafcaa
