/-
  posternlaw02.spoil.
-/
import Derived.Test.YtapfmfihhpafcaaD3
import Derived.Test.YtapfmfihhpafcaaB9
import Derived.Test.YtapfmfihhpafcaaB3
import Derived.Deep.RegionLawGrows
namespace Go.Proofs.Ytapfmfihhpafcaa
open Go.RowKit
set_option linter.unusedVariables false

def SpoilPost (w : World) (S : Nat → Prop) (m : Nat) (e : Ending) (w' : World) : Prop := ∃ q : Int, e = .returned (.int .i64 q) ∧ 5 ≤ q ∧ q + 1 ≤ 6 * m ∧ Spoil S w w'

def SpoilCalls (t : T) : Prop := ∀ (k n r : Int) (s : ByteArray) (a : Option Addr) (c : Nat) (w : World) (S : Nat → Prop), T.Sv w S t a c → (∀ b, S b → b < w.heap.size) → t.count ≤ 100000 →
  Calls Try.prog 20 #[.agg #[.int .u8 k, .int .i64 n, .string s, .slice a t.l.length c, .int .i64 r]] w (SpoilPost w S t.count)

theorem T.counts_succ (l : List T) (i : Nat) (h : i < l.length) : T.counts (l.take (i + 1)) = T.counts (l.take i) + T.count l[i] := by
  induction l generalizing i with
  | nil => simp at h
  | cons t ts ih =>
    cases i with
    | zero => simp [T.counts]
    | succ i => simp only [List.take_succ_cons, T.counts, List.getElem_cons_succ]; rw [ih i (by simpa using h), Nat.add_assoc]

theorem T.Sv.own {w : World} {S : Nat → Prop} {k n r : Int} {s : ByteArray} {l : List T} {a : Option Addr} {c : Nat} (h : T.Sv w S (.mk k n s l r) a c) :
    ∃ xs, w.ownsRow 0 26 5 (.slice a l.length c) l.length xs ∧ ∀ g, (Value.slice a l.length c).ownBlock = some g → S g := by
  rw [T.Sv] at h
  rcases h with ⟨rfl, rfl, rfl⟩ | ⟨g, cur, rfl, hS, hg, h1, h2, h3, _⟩
  · exact ⟨[], World.ownsRow_nil _ _ _ _, by simp [Value.ownBlock]⟩
  · refine ⟨cur.toList.take (l.length * 5), ⟨by have h9 : cur.toList.length = cur.size := Array.length_toList; have h8 : l.length * 5 ≤ c * 5 := Nat.mul_le_mul_right _ h1; rw [List.length_take]; omega, .inr ⟨g, c, cur, rfl, Nat.zero_le _, hg, h1, h2, h3, rfl⟩⟩, fun g' hg' => ?_⟩
    have : g = g' := by simpa [Value.ownBlock] using hg'
    exact this ▸ hS

/-- The five cells of a row there are, and may be written. -/
theorem rowcells {w : World} {g off : Nat} {cur : Array Value} (D : w.heap[g]? = some (.cells cur 26 (0, 0))) (hfit : off + 5 ≤ cur.size) :
    (w.cell? ⟨g, off, none⟩ = some (cur[off]'(by omega)) ∧ w.frozen? ⟨g, off, none⟩ = false) ∧ (w.cell? ⟨g, off + 1, none⟩ = some (cur[off + 1]'(by omega)) ∧ w.frozen? ⟨g, off + 1, none⟩ = false) ∧ (w.cell? ⟨g, off + 2, none⟩ = some (cur[off + 2]'(by omega)) ∧ w.frozen? ⟨g, off + 2, none⟩ = false) ∧
    (w.cell? ⟨g, off + 3, none⟩ = some (cur[off + 3]'(by omega)) ∧ w.frozen? ⟨g, off + 3, none⟩ = false) ∧ (w.cell? ⟨g, off + 4, none⟩ = some (cur[off + 4]'(by omega)) ∧ w.frozen? ⟨g, off + 4, none⟩ = false) := by
  refine ⟨⟨?_, ?_⟩, ⟨?_, ?_⟩, ⟨?_, ?_⟩, ⟨?_, ?_⟩, ⟨?_, ?_⟩⟩
  all_goals first | (rw [cell_of_row w g _ cur 26 (0, 0) D]; exact Array.getElem?_eq_getElem _) | simp [World.frozen?, D]

theorem keepb3 {w : World} {b g off : Nat} {v0 v1 v2 v3 v4 u0 u1 u2 u3 u4 : Value} (D : w.heap[b]? = some (.cells #[v0, v1, v2, v3, v4] 26 (0, 0))) (hne : g ≠ b) :
    (((((w.setCell ⟨g, off, none⟩ u0).setCell ⟨g, off + 1, none⟩ u1).setCell ⟨g, off + 2, none⟩ u2).setCell ⟨g, off + 3, none⟩ u3).setCell ⟨g, off + 4, none⟩ u4).cell? ⟨b, 3, none⟩ = some v3 := by
  have hne' : b ≠ g := fun e => hne e.symm
  refine (cell_of_heap ?_ 3).trans (blk5cc D).2.2.2.1
  rw [Below.heap_setCell _ _ _ _ hne', Below.heap_setCell _ _ _ _ hne', Below.heap_setCell _ _ _ _ hne', Below.heap_setCell _ _ _ _ hne', Below.heap_setCell _ _ _ _ hne']

theorem spoil_append {S : Nat → Prop} {w W W' : World} {v v' : Value} {n : Nat} {q : Int} (h : Spoil S w W) (hv : ∀ g, v.ownBlock = some g → S g ∨ w.heap.size ≤ g)
    (alt : (∃ g cap cur, v = .slice (some ⟨g, 0, none⟩) n cap ∧ v' = .slice (some ⟨g, 0, none⟩) (n + 1) cap ∧ n * 5 + 5 ≤ cur.size ∧ W.heap[g]? = some (.cells cur 26 (0, 0)) ∧
        Put W g (cur.toList.take (n * 5) ++ [Value.int .u8 1, .int .i64 q, .string ⟨#[]⟩, .slice none 0 0, .int .i64 0] ++ cur.toList.drop (n * 5 + 5)).toArray W') ∨ (v'.ownBlock = some W.heap.size ∧ Below W.heap.size W W')) :
    Spoil S w W' ∧ ∀ g, v'.ownBlock = some g → S g ∨ w.heap.size ≤ g := by
  rcases alt with ⟨g, cap, cur, rfl, rfl, hfit, hg, hP⟩ | ⟨h1, hb⟩
  · refine ⟨?_, fun g' hg' => hv g' (by simpa [Value.ownBlock] using hg')⟩
    rcases hv g rfl with hS | hz
    · exact h.trans (Spoil.put hP hg hS (flat_put hfit))
    · refine ⟨hP.os.trans h.os, hP.tape.trans h.tape, hP.output.trans h.output, by rw [hP.size]; exact h.size, fun k hk hs => (hP.other k (by omega)).trans (h.block k hk hs), fun k c hk => ?_⟩
      have hlt := (Array.getElem?_eq_some_iff.1 hk).1
      obtain ⟨c1, h1, f1⟩ := h.row k c hk
      exact ⟨c1, (hP.other k (by omega)).trans h1, f1⟩
  · refine ⟨h.trans (Spoil.of_below hb), fun g hg => ?_⟩
    rw [h1] at hg
    injection hg with hg
    exact .inr (by have := h.size; omega)

set_option maxRecDepth 100000 in
set_option maxHeartbeats 4000000 in
theorem spoil_body (l : List T) (ih : ∀ x ∈ l, SpoilCalls x) (ihz : l ≠ [] → SpoilCalls T.zero) (k0 n0 r0 : Int) (s0 : ByteArray) : SpoilCalls (.mk k0 n0 s0 l r0) := by
  intro k n r s a c w S hsv hS hcnt
  simp only [T.l]
  rw [T.count] at hcnt ⊢
  obtain ⟨w1, hw1⟩ : ∃ w1, w1 = w.alloc (.cells #[.int .u8 k, .int .i64 n, .string s, .slice a l.length c, .int .i64 r] 26 (0, 0)) := ⟨_, rfl⟩
  have hb1 : Below w.heap.size w w1 := by rw [hw1]; exact (Below.refl _ _).alloc (Nat.le_refl _) _
  have D0 : w1.heap[w.heap.size]? = some (.cells #[.int .u8 k, .int .i64 n, .string s, .slice a l.length c, .int .i64 r] 26 (0, 0)) := by rw [hw1]; exact blk_new _ _
  have sv1 := T.Sv.keep (Spoil.of_below hb1 (S := S)) hsv
  clear hsv
  go_enter Try.func20, Try.ntmps20
  go_wp2_with fail
  rw [← hw1]
  clear hw1
  go_loopg [3, 4] l.length (fun g vn vi wr => ∃ (m : Int) (i : Nat), vn = .int .i64 m ∧ vi = .int .i64 i ∧ i + g = l.length ∧ 0 ≤ m ∧ m + i ≤ 6 * T.counts (l.take i) ∧ Spoil S w wr ∧
    wr.heap[w.heap.size]? = some (.cells #[.int .u8 k, .int .i64 n, .string s, .slice a l.length c, .int .i64 r] 26 (0, 0)) ∧ T.Sv wr S (.mk k0 n0 s0 l r0) a c)
  case atStart => exact ⟨0, 0, rfl, rfl, by simp, by omega, by simp [T.counts], Spoil.of_below hb1, D0, sv1⟩
  case round =>
    obtain ⟨m, i, rfl, rfl, hi, hm1, hm2, hst, C0, hsv⟩ := hrel
    have hzb : w.heap.size < wr.heap.size := (Array.getElem?_eq_some_iff.1 C0).1
    by_cases h : i < l.length
    · have hsv2 := hsv
      rw [T.Sv] at hsv2
      rcases hsv2 with ⟨_, _, h0⟩ | ⟨g, cur, rfl, hSg, hg, h1, h2, h3, hss⟩
      · subst h0; simp at h
      obtain ⟨k', n', s', r', a', c', len, hgrp, hor⟩ := hss.get i h
      rw [Nat.zero_add] at hgrp
      have hgw : g < wr.heap.size := (Array.getElem?_eq_some_iff.1 hg).1
      have hgl := hS g hSg
      have hrow : ∀ (W : World) (cu : Array Value), W.heap[g]? = some (.cells cu 26 (0, 0)) → ∀ j, W.cell? ⟨g, j, none⟩ = cu[j]? := fun W cu hw j => cell_of_row W g j cu 26 (0, 0) hw
      have e0 := (hrow wr cur hg _).trans hgrp.1
      have e1 := (hrow wr cur hg _).trans hgrp.2.1
      have e2 := (hrow wr cur hg _).trans hgrp.2.2.1
      have e3 := (hrow wr cur hg _).trans hgrp.2.2.2.1
      have e4 := (hrow wr cur hg _).trans hgrp.2.2.2.2
      have hm3 := T.counts_mem l i h
      have mC : Calls Try.prog 20 #[.agg #[.int .u8 k', .int .i64 n', .string s', .slice a' len c', .int .i64 r']] wr (SpoilPost wr S l[i].count) := by
        rcases hor with ⟨rfl, hx⟩ | ⟨rfl, rfl, rfl⟩
        · exact ih l[i] (List.getElem_mem h) k' n' r' s' a' c' wr S hx (fun b hb => by have := hS b hb; omega) (by omega)
        · have := ihz (fun e => by subst e; simp at h) k' n' r' s' none 0 wr S (by unfold T.zero; rw [T.Sv]; exact .inl ⟨rfl, rfl, rfl⟩) (fun b hb => by have := hS b hb; omega) (by simp [T.zero, T.count, T.counts])
          refine this.mono fun e w' ⟨q, h1, h2, h3, h4⟩ => ⟨q, h1, h2, ?_, h4⟩
          have hc : T.zero.count = 1 := by simp [T.zero, T.count, T.counts]
          have : 1 ≤ l[i].count := by obtain ⟨k, n, s, l, r⟩ := l[i]; rw [T.count]; omega
          omega
      obtain ⟨x0, x1, x2, x3, x4⟩ := blk5cc C0
      have C0H := Lib.hid C0
      have HG := Lib.hid hg
      have HSV := Lib.hid hsv
      have HST := Lib.hid hst
      have hsucc := Lib.hid (T.counts_succ l i h)
      have hcs : cur.size = c * 5 := h3
      have hfit : i * 5 + 5 ≤ cur.size := by omega
      clear hgrp hss hor hg hsv hst ih ihz C0 sv1 D0 hb1 h3 hcs hrow
      go_upto_region 6 with (go_at_call 20; refine mC.mono ?_; clear mC; rintro e w2 ⟨q, rfl, hq1, hq2, hs2⟩)
      have hnS : ¬ S w.heap.size := fun hs => by have := hS _ hs; omega
      have B2 := (hs2.block w.heap.size hzb hnS).trans C0H.out
      obtain ⟨cur2, hg2, hf2⟩ := hs2.row g cur HG.out
      have z2 := hs2.size
      have mN := fun w' => num_walk (-5) w'
      unfold T.val at mN
      simp only [T.k, T.n, T.s, T.l, T.r, List.length_nil] at mN
      have hfit2 : i * 5 + 5 ≤ cur2.size := by rw [hf2.1]; exact hfit
      obtain ⟨x0, x1, x2, x3, x4⟩ := blk5cc B2
      have hne : g ≠ w.heap.size := by omega
      have hne2 : ¬ w.heap.size = g := by omega
      have HF2 := Lib.hid hf2
      have HG2 := Lib.hid hg2
      have B2H := Lib.hid B2
      have HS2 := Lib.hid hs2
      clear hf2 hg2 B2 hs2
      go_region_held3 (fun w' => w'.cell? ⟨w.heap.size, 3, none⟩ = some (.slice (some ⟨g, 0, none⟩) l.length c))
        (first | with_reducible exact (blk5cc B3).2.2.2.1 | with_reducible exact keepb3 B3 hne | go_keep)
        (first
          | (go_simp; go_at_call 55; refine (mN _).mono ?_; rintro e w3 ⟨rfl, hb3⟩; have B3 := (hb3.block w.heap.size (by simp; omega)).trans B2H.out; have G3 := (hb3.block g (by simp; omega)).trans HG2.out; obtain ⟨⟨q0, f0⟩, ⟨q1, f1⟩, ⟨q2, f2⟩, ⟨q3, f3⟩, ⟨q4, f4⟩⟩ := rowcells G3 hfit2))
      have hb3' : Below w2.heap.size w2 w3 := ⟨hb3.os, hb3.tape, hb3.output, hb3.size, hb3.block⟩
      have hP := row5 G3 hfit2 (.int .u8 1) (.int .i64 (-5)) (.string ⟨#[]⟩) (.slice none 0 0) (.int .i64 0)
      obtain ⟨W4, hW4⟩ : ∃ W4, W4 = (((((w3.setCell ⟨g, i * 5, none⟩ (.int .u8 1)).setCell ⟨g, i * 5 + 1, none⟩ (.int .i64 (-5))).setCell ⟨g, i * 5 + 2, none⟩ (.string ⟨#[]⟩)).setCell ⟨g, i * 5 + 3, none⟩ (.slice none 0 0)).setCell ⟨g, i * 5 + 4, none⟩ (.int .i64 0)) := ⟨_, rfl⟩
      have sp : Spoil S w2 W4 := by rw [hW4]; exact (Spoil.of_below hb3').trans (Spoil.put hP G3 hSg (flat_put hfit2))
      have spr : Spoil S wr W4 := HS2.out.trans sp
      have C4 := (spr.block w.heap.size hzb hnS).trans C0H.out
      have sv4 := T.Sv.keep spr HSV.out
      have st4 := HST.out.trans spr
      clear hP q0 q1 q2 q3 q4 f0 f1 f2 f3 f4
      have HW4 := Lib.hid hW4
      rw [← hW4]
      clear hW4
      go_wp2_with fail
      go_roundg (gk - 1)
      case measure => omega
      case rel => exact ⟨m + q, i + 1, rfl, by go_num, by omega, by omega, by rw [hsucc.out]; omega, st4, C4, sv4⟩
    · have hil : i = l.length := by omega
      subst hil
      rw [List.take_of_length_le (Nat.le_refl _)] at hm2
      obtain ⟨xs0, hown0, hS0⟩ := hsv.own
      obtain ⟨x0, x1, x2, x3, x4⟩ := blk5cc C0
      have HST := Lib.hid hst
      have hnm : ∀ w', _ := num_walk (-6)
      unfold T.val at hnm
      simp only [T.k, T.n, T.s, T.l, T.r, List.length_nil] at hnm
      clear ih ihz hsv hst C0 sv1 D0 hb1
      go_wp2_with fail
      go_loopg [5, 6] 5 (fun gg vl vi wx => ∃ (j : Nat) (v : Value) (xs : List Value), vl = v ∧ vi = .int .i64 j ∧ j + gg = 5 ∧ wx.ownsRow 0 26 5 v (l.length + j) xs ∧ (∀ g, v.ownBlock = some g → S g ∨ w.heap.size ≤ g) ∧ Spoil S w wx ∧ (j = 0 → v = .slice a l.length c))
      case atStart => exact ⟨0, _, xs0, rfl, rfl, rfl, hown0, fun g hg => .inl (hS0 g hg), HST.out, fun _ => rfl⟩
      case round =>
        obtain ⟨j, v, xs, rfl, rfl, hj, hown, hvS, hsp, hj0⟩ := hrel
        by_cases hlt : j < 5
        · have hlt' : (j : Int) < 5 := by omega
          have hown3 := fun (w3 : World) (hb : Below wr.heap.size wr w3) => ownsRow_of_block (w' := w3) hown (fun g hg => hb.block g (hown.lt g hg).2)
          have HSP := Lib.hid hsp
          have zx := hsp.size
          clear hj0 hown hsp
          go_wp2_with (first
            | (go_at_call 55; refine (hnm _).mono ?_; rintro e w3 ⟨rfl, hb3⟩; have hown4 := (hown3 w3 hb3).alloc (.cells #[.int .u8 1, .int .i64 (-6), .string ⟨#[]⟩, .slice none 0 0, .int .i64 0] 26))
            | (refine wpList_append_five _ rfl _ _ rfl u5 (l.length + j) xs (by rfl) hown4 ⟨w3.heap.size, 0, none⟩ 1 (.int .u8 1) (.int .i64 (-6)) (.string ⟨#[]⟩) (.slice none 0 0) (.int .i64 0) (by rfl) (fun q u hq => (World.news_of_block (cs := #[.int .u8 1, .int .i64 (-6), .string ⟨#[]⟩, .slice none 0 0, .int .i64 0]) (t := 26) (fr := (0, 0)) (blk_new _ _)) q u hq) (by simp [Value.oneCell']) (by omega) ?_; intro v' w4 hown5 halt))
          obtain ⟨sp4, vS4⟩ := spoil_append ((HSP.out.trans (Spoil.of_below hb3)).trans (Spoil.of_below ((Below.refl _ _).alloc (Nat.le_refl _) _))) hvS halt
          clear halt
          go_roundg (gk - 1)
          case measure => omega
          case rel => exact ⟨j + 1, v', _, rfl, by go_num, by omega, by rw [← Nat.add_assoc]; exact hown5, vS4, sp4, fun h => by omega⟩
        · have hj5 : j = 5 := by omega
          subst hj5
          obtain ⟨g5, cap5, rfl, _, _⟩ := hown.form (by omega)
          have HSP := Lib.hid hsp
          clear hj0 hown hsp
          go_wp2_with fail
          go_ret
          exact ⟨m + (l.length + 5), ret_int (by omega), by omega, by omega, HSP.out⟩

theorem spoil_leaf (k n r : Int) (s : ByteArray) : SpoilCalls (.mk k n s [] r) := spoil_body [] (fun x hx => by simp at hx) (fun h => absurd rfl h) k n r s

theorem spoil_walk (t : T) : SpoilCalls t := by
  induction t using T.induct with
  | h k n s l r ih => exact spoil_body l ih (fun _ => spoil_leaf 0 0 0 ⟨#[]⟩) k n r s
end Go.Proofs.Ytapfmfihhpafcaa
