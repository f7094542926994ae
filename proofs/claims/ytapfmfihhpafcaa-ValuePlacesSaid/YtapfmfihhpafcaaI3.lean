/-
  posternref02.Of; posternlaw02.lentAll, keptAll.
-/
import Derived.Test.YtapfmfihhpafcaaI2
import Derived.Test.YtapfmfihhpafcaaD6
namespace Go.Proofs.Ytapfmfihhpafcaa
open Go.RowKit
set_option linter.unusedVariables false

set_option maxRecDepth 100000 in
set_option maxHeartbeats 1000000 in
theorem refOf_walk (l : List T) (a : Option Addr) (c : Nat) (w : World) (B : Nat) (hin : T.At w B (T.lst l) a c) (hB : B ≤ w.heap.size) (hw : (T.lst l).wf) :
    Calls Try.prog 42 #[.slice a l.length c] w (OfPost w l (fun w' a c => T.In w' (New w.heap.size w') false (T.lst l) a c)) := by
  obtain ⟨w1, hw1⟩ : ∃ w1, w1 = w.alloc (.cells #[.int .u8 0, .int .i64 0, .string ⟨#[]⟩, .slice none 0 0, .int .i64 0] 26 (0, 0)) := ⟨_, rfl⟩
  have hb1 : Below w.heap.size w w1 := by rw [hw1]; exact (Below.refl _ _).alloc (Nat.le_refl _) _
  have D0 : w1.heap[w.heap.size]? = some (.cells #[.int .u8 0, .int .i64 0, .string ⟨#[]⟩, .slice none 0 0, .int .i64 0] 26 (0, 0)) := by rw [hw1]; exact blk_new _ _
  have hz1 : w.heap.size < w1.heap.size := (Array.getElem?_eq_some_iff.1 D0).1
  have m0 := mayAll_walk l a c w1 B (T.At.below hb1 hB hin) (by omega) hw
  have m1 := fun (w2 : World) (hb2 : Below w1.heap.size w1 w2) => refMay_walk (T.lst l) a c w2 B (T.At.below hb2 (by omega) (T.At.below hb1 hB hin)) (by have := hb2.size; omega) hw
  have m2 := fun (w2 : World) (hb2 : Below w1.heap.size w1 w2) => refOwn_walk (T.lst l) a c w2 B (T.At.below hb2 (by omega) (T.At.below hb1 hB hin)) (by have := hb2.size; omega) hw
  unfold T.val at m1 m2
  simp only [T.lst, T.k, T.n, T.s, T.l, T.r] at m1 m2
  have E0 := Lib.hid D0
  clear D0 hin
  cases hm : allMay l with
  | false =>
    rw [hm] at m0
    have HM := Lib.hid hm
    clear hm m1 m2
    go_enter Try.func42, Try.ntmps42
    go_upto_region 1 with (fail)
    rw [← hw1]
    clear hw1
    go_wp2_with (first
      | (go_at_call 79; refine m0.mono ?_; clear m0; rintro e w2 ⟨rfl, hb2⟩; have G1 := Lib.hid ((hb2.block w.heap.size hz1).trans E0.out))
      | (refine wpList_put _ rfl _ _ rfl w.heap.size _ _ _ _ _ _ _ _ _ _ (by rfl) (by rfl) (by simp [Value.oneCell']) G1.out ?_; rintro wP hP))
    exact post_cell26o Try.results42 rfl rfl rfl hP.at_ ⟨.inl ⟨HM.out, rfl⟩, hb1.trans ((hb2.mono (by omega)).trans (hP.below (by omega)))⟩
  | true =>
    rw [hm] at m0
    have HM := Lib.hid hm
    clear hm
    go_enter Try.func42, Try.ntmps42
    go_upto_region 1 with (fail)
    rw [← hw1]
    clear hw1
    go_upto_region 4 with (go_at_call 79; refine m0.mono ?_; clear m0; rintro e w2 ⟨rfl, hb2⟩)
    obtain ⟨w3, hw3⟩ : ∃ w3, w3 = w2.alloc (.cells #[.int .u8 3, .int .i64 0, .string ⟨#[]⟩, .slice a l.length c, .int .i64 0] 26 (0, 0)) := ⟨_, rfl⟩
    have hb3 : Below w1.heap.size w1 w3 := by rw [hw3]; exact hb2.trans ((Below.refl _ _).alloc hb2.size _)
    have C3 : w3.heap[w2.heap.size]? = some (.cells #[.int .u8 3, .int .i64 0, .string ⟨#[]⟩, .slice a l.length c, .int .i64 0] 26 (0, 0)) := by rw [hw3]; exact blk_new _ _
    have hz3 : w2.heap.size < w3.heap.size := (Array.getElem?_eq_some_iff.1 C3).1
    rw [← hw3]
    have hz13 := hb3.size
    obtain ⟨x0, x1, x2, x3, x4, _⟩ := blk5 C3
    have C3 := Lib.hid C3
    have mm := m1 w3 hb3
    clear hw3 hb2 m1
    cases hm : (T.lst l).may with
    | false =>
      rw [show (T.mk 3 0 ⟨#[]⟩ l 0).may = false from hm] at mm
      have HM2 := Lib.hid hm
      clear hm m2
      go_wp2_with (first
        | (go_at_call 64; refine mm.mono ?_; clear mm; rintro e w4 ⟨rfl, hb4⟩; have G1 := Lib.hid ((hb4.block w.heap.size (by omega)).trans ((hb3.block w.heap.size hz1).trans E0.out)))
        | (refine wpList_put _ rfl _ _ rfl w.heap.size _ _ _ _ _ _ _ _ _ _ (by rfl) (by rfl) (by simp [Value.oneCell']) G1.out ?_; rintro wP hP))
      exact post_cell26o Try.results42 rfl rfl rfl hP.at_ ⟨.inr (.inl ⟨HM.out, HM2.out, rfl⟩), hb1.trans ((hb3.mono (by omega)).trans ((hb4.mono (by omega)).trans (hP.below (by omega))))⟩
    | true =>
      rw [show (T.mk 3 0 ⟨#[]⟩ l 0).may = true from hm] at mm
      have HM2 := Lib.hid hm
      clear hm
      go_wp2_with (first
        | (go_at_call 64; refine mm.mono ?_; clear mm; rintro e w4 ⟨rfl, hb4⟩; have hb14 := hb3.trans (hb4.mono hz13); have mo := m2 w4 hb14; clear m2; have G1 := Lib.hid ((hb14.block w.heap.size hz1).trans E0.out); have G2 := (hb4.block w2.heap.size hz3).trans C3.out; clear x0 x1 x2 x3 x4; obtain ⟨x0, x1, x2, x3, x4, _⟩ := blk5 G2; clear G2; have hz4 := hb14.size)
        | (go_at_call 80; refine mo.mono ?_; clear mo; rintro e w5 ⟨a5, c5, he, hmt, hb5⟩; unfold T.val at he; subst he; have G5 := Lib.hid ((hb5.block w.heap.size (by omega)).trans G1.out))
        | (refine wpList_put _ rfl _ _ rfl w.heap.size _ _ _ _ _ _ _ _ _ _ (by rfl) (by rfl) (by simp [Value.oneCell']) G5.out ?_; rintro wP hP))
      exact post_cell26o Try.results42 rfl rfl rfl hP.at_ ⟨.inr (.inr ⟨HM.out, HM2.out, a5, c5, rfl, T.In.keep (fun b hb => hP.other b (by have := hb.1; omega)) (fun b hb => ⟨by have := hb.1; omega, by rw [hP.size]; exact hb.2⟩) id hmt⟩), hb1.trans ((hb14.mono (by omega)).trans ((hb5.mono (by omega)).trans (hP.below (by omega))))⟩

/-- One more value behind a list of the call's own, which lies in a slot. -/
theorem lie_step2 {w wr w4 w5 : World} {m : Bool} {i g cap : Nat} {v : Value} {xs : List Value} {l0 : List T} {t : T} {a2 : Option Addr} {c2 : Nat} {X : Obj}
    (hb : Below w.heap.size w wr) (hb4 : Below wr.heap.size wr w4) (hown : wr.ownsRow w.heap.size 26 5 v i xs) (hlie : Lie wr (fun b => w.heap.size ≤ b ∧ b < wr.heap.size ∧ v.ownBlock ≠ some b) m l0 xs) (hi2 : T.In w4 (New wr.heap.size w4) m t a2 c2)
    (hown5 : w5.ownsRow w.heap.size 26 5 (.slice (some ⟨g, 0, none⟩) (i + 1) cap) (i + 1) (xs ++ t.cells5 a2 c2)) (hgrow5 : (w4.alloc X).grownBy w5 v.ownBlock) (hat : v.ownBlock = some g ∨ g = (w4.alloc X).heap.size) :
    Below w.heap.size w w5 ∧ Lie w5 (fun b => w.heap.size ≤ b ∧ b < w5.heap.size ∧ (Value.slice (some ⟨g, 0, none⟩) (i + 1) cap).ownBlock ≠ some b) m (l0 ++ [t]) (xs ++ t.cells5 a2 c2) := by
  have hvl := hown.lt
  have z0 := hb.size
  have z4 := hb4.size
  have z5 := hgrow5.size
  simp only [World.size_alloc] at z5 hat
  have hk5 : ∀ q, q < wr.heap.size → v.ownBlock ≠ some q → w5.heap[q]? = wr.heap[q]? := fun q hq hne =>
    (hgrow5.block q (by simp; omega) (fun e => hne e.symm)).trans ((Below.heap_alloc _ _ _ (by omega)).trans (hb4.block q hq))
  have hne1 : ∀ b, w.heap.size ≤ b ∧ b < wr.heap.size ∧ v.ownBlock ≠ some b → (Value.slice (some ⟨g, 0, none⟩) (i + 1) cap).ownBlock ≠ some b := fun b hb e => by
    have e : g = b := by simpa [Value.ownBlock] using e
    rcases hat with h | h
    · exact hb.2.2 (e ▸ h)
    · have := hb.2.1; omega
  have hne2 : ∀ b, wr.heap.size ≤ b ∧ b < w4.heap.size → (Value.slice (some ⟨g, 0, none⟩) (i + 1) cap).ownBlock ≠ some b := fun b hb e => by
    have e : g = b := by simpa [Value.ownBlock] using e
    rcases hat with h | h
    · have := (hvl g h).2; omega
    · omega
  refine ⟨Below.grown ((hb.trans (hb4.mono z0)).alloc (by omega) X) hgrow5 (by simp; omega) (fun k hk => (hvl k hk).1), Lie.app (Lie.keep (fun b hb => hk5 b hb.2.1 hb.2.2) (fun b hb => ⟨hb.1, by have := hb.2.1; omega, hne1 b hb⟩) hlie)
    (Lie.one (T.In.keep (fun b hb => (hgrow5.block b (by have := hb.2; simp; omega) (fun e => by have := (hvl b e.symm).2; have := hb.1; omega)).trans (Below.heap_alloc _ _ _ hb.2)) (fun b hb => ⟨by have := hb.1; omega, by have := hb.2; omega, hne2 b hb⟩) id hi2))⟩

/-- A list that has a mark behind it. -/
def MarkAll (w : World) (ok : Nat → Prop) (l : List T) (a : Option Addr) (c : Nat) : Prop :=
  ∃ g, a = some ⟨g, 0, none⟩ ∧ ok g ∧ l.length + 1 ≤ c ∧ w.cell? ⟨g, l.length * 5 + 1, none⟩ = some (.int .i64 78) ∧ T.Ins w ok true l g 0

theorem MarkAll.keep {w w' : World} {ok ok' : Nat → Prop} {l : List T} {a : Option Addr} {c : Nat} (h : ∀ b, ok b → w'.heap[b]? = w.heap[b]?) (h' : ∀ b, ok b → ok' b) (hm : MarkAll w ok l a c) : MarkAll w' ok' l a c := by
  obtain ⟨g, h1, h2, h3, h4, h5⟩ := hm
  exact ⟨g, h1, h' g h2, h3, (cell_of_heap (h g h2) _).trans h4, T.Ins.keep h h' id h2 h5⟩

theorem MarkAll.lies {w : World} {ok : Nat → Prop} {l : List T} {a : Option Addr} {c : Nat} (hm : MarkAll w ok l a c) : T.In w ok false (T.lst l) a c := by
  obtain ⟨g, rfl, h2, h3, h4, h5⟩ := hm
  rw [T.In]
  exact ⟨by omega, .inr ⟨g, 0, rfl, h2, by simp, T.Ins.keep (fun _ _ => rfl) (fun _ h => h) (fun h => by cases h) h2 h5⟩⟩

def LentAllPost (w : World) (l : List T) (e : Ending) (w' : World) : Prop := ∃ a c, e = .returned (.slice a l.length c) ∧ MarkAll w' (New w.heap.size w') l a c ∧ Below w.heap.size w w'

set_option maxRecDepth 100000 in
set_option maxHeartbeats 1000000 in
theorem lentAll_walk (l : List T) (a : Option Addr) (c : Nat) (w : World) (B : Nat) (hin : T.At w B (T.lst l) a c) (hB : B ≤ w.heap.size) (hw : (T.lst l).wf) :
    Calls Try.prog 40 #[.slice a l.length c] w (LentAllPost w l) := by
  rw [T.wf, T.wfs_iff] at hw
  obtain ⟨⟨_, _, _, _, _, _, _, hll⟩, hwl⟩ := hw
  obtain ⟨i0, hi, hz0, hz1, hz2⟩ := info_parts info26
  have hll' : (l.length : Int) ≤ 2199023255488 := by omega
  go_enter Try.func40, Try.ntmps40
  go_wp2_with (at_make; refine wpList_make_own _ rfl _ _ 23 rfl w.heap.size 26 i0 _ 5 Try.underlying23 hi hz0 hz1 .i64 .i64 _ (l.length + 1) rfl rfl (by omega) (by rw [hz2]; omega) (by unfold maxLen; omega) (Nat.le_refl _) ?_; intro w2 hown2 hgrow2)
  have hb2 : Below w.heap.size w w2 := ⟨hgrow2.os, hgrow2.tape, hgrow2.output, hgrow2.size, fun q hq => hgrow2.block q hq (by simp)⟩
  go_loopg [3, 4] l.length (fun gg vo vi wr => ∃ (i : Nat) (v : Value) (xs : List Value), vo = v ∧ vi = .int .i64 i ∧ i + gg = l.length ∧ Below w.heap.size w wr ∧ wr.ownsRow w.heap.size 26 5 v i xs ∧
    Lie wr (fun b => w.heap.size ≤ b ∧ b < wr.heap.size ∧ v.ownBlock ≠ some b) true (l.take i) xs)
  case atStart => exact ⟨0, _, [], rfl, rfl, by simp, hb2, hown2, by simp [Lie]⟩
  case round =>
    obtain ⟨i, v, xs, rfl, rfl, hgi, hb, hown, hlie⟩ := hrel
    by_cases h : i < l.length
    · obtain ⟨b, o, a', c', rfl, hbB, ht, e0, e1, e2, e3, e4⟩ := (T.At.below hb hB hin).elem i h
      have hzr := hb.size
      have hvl := hown.lt
      have mC := lent_walk l[i] a' c' wr B ht (by omega) (hwl _ (List.getElem_mem h))
      unfold T.val at mC
      have HL := Lib.hid hlie
      have HO := Lib.hid hown
      have HB := Lib.hid hb
      clear hlie hown hb ht hin hown2 hgrow2 hb2
      go_wp2_with (first
        | (go_at_call 16; refine mC.mono ?_; clear mC; rintro e w4 ⟨a2, c2, he, hi2, hb4⟩; unfold T.val at he; subst he; have hown4 := ownsRow_of_block' (w' := w4) HO.out (fun g hg => hb4.block g (hvl g hg).2); have z4 := hb4.size)
        | (at_builtin; refine wpList_append_lies _ rfl _ _ 23 rfl w.heap.size 26 i0 _ 5 64 Try.underlying23 hi hz0 hz1 hz2 rfl (by decide) _ i xs (by rfl) (hown4.alloc _) ⟨w4.heap.size, 0, none⟩ 1 1 [.int .u8 l[i].k, .int .i64 l[i].n, .string l[i].s, .slice a2 l[i].l.length c2, .int .i64 l[i].r] (by rfl) rfl (World.news_of_block (cs := #[.int .u8 l[i].k, .int .i64 l[i].n, .string l[i].s, .slice a2 l[i].l.length c2, .int .i64 l[i].r]) (t := 26) (fr := (0, 0)) (blk_new _ _)) (by simp [Value.oneCell']) (by omega) (by unfold maxLen; omega) (by omega) (by simp; omega) _ rfl ?_; intro g cap w5 hown5 hgrow5 hat5 hlt5))
      obtain ⟨r1, r2⟩ := lie_step2 HB.out hb4 HO.out HL.out hi2 hown5 hgrow5 hat5
      go_roundg (gk - 1)
      case measure => omega
      case rel =>
        refine ⟨i + 1, _, _, rfl, by go_num, by omega, r1, hown5, ?_⟩
        rw [List.take_succ_eq_append_getElem h]
        exact r2
    · have hil : i = l.length := by omega
      subst hil
      rw [List.take_of_length_le (Nat.le_refl _)] at hlie
      have hzr := hb.size
      have hvl := hown.lt
      have mN := fun w' => num_walk 78 w'
      unfold T.val at mN
      simp only [T.k, T.n, T.s, T.l, T.r, List.length_nil] at mN
      have HL := Lib.hid hlie
      have HO := Lib.hid hown
      have HB := Lib.hid hb
      clear hlie hown hb hin hown2 hgrow2 hb2
      go_upto_region 7 with (first
        | (go_at_call 55; refine (mN _).mono ?_; clear mN; rintro e w4 ⟨rfl, hb4⟩; have hown4 := ownsRow_of_block' (w' := w4) HO.out (fun g hg => hb4.block g (hvl g hg).2); have z4 := hb4.size)
        | (at_builtin; refine wpList_append_lies _ rfl _ _ 23 rfl w.heap.size 26 i0 _ 5 64 Try.underlying23 hi hz0 hz1 hz2 rfl (by decide) _ l.length xs (by rfl) (hown4.alloc _) ⟨w4.heap.size, 0, none⟩ 1 1 [.int .u8 1, .int .i64 78, .string ⟨#[]⟩, .slice none 0 0, .int .i64 0] (by rfl) rfl (World.news_of_block (cs := #[.int .u8 1, .int .i64 78, .string ⟨#[]⟩, .slice none 0 0, .int .i64 0]) (t := 26) (fr := (0, 0)) (blk_new _ _)) (by simp [Value.oneCell']) (by omega) (by unfold maxLen; omega) (by omega) (by simp; omega) _ rfl ?_; intro g cap w5 hown5 hgrow5 hat5 hlt5))
      have hcap := own_cap hown5
      have hcapI : (l.length : Int) ≤ (cap : Int) := by omega
      have hb5 : Below w.heap.size w w5 := Below.grown ((HB.out.trans (hb4.mono hzr)).alloc (by omega) _) hgrow5 (by simp; omega) (fun k hk => (hvl k hk).1)
      have hg := hown5.lt g rfl
      have hl := HL.out.length
      have hcell : ∀ j u, (xs ++ [.int .u8 1, .int .i64 78, .string ⟨#[]⟩, .slice none 0 0, .int .i64 0])[j]? = some u → w5.cell? ⟨g, j, none⟩ = some u := fun j u hu => by
        have hj : j < (l.length + 1) * 5 := by
          have := (List.getElem?_eq_some_iff.1 hu).1
          simp [hl] at this; omega
        exact (hown5.cellAt j hj).trans hu
      have hmark : MarkAll w5 (New w.heap.size w5) l (some ⟨g, 0, none⟩) cap := by
        refine ⟨g, rfl, ⟨hg.1, hg.2⟩, hcap, ?_, Lie.ins (Lie.keep (fun b hb => ?_) (fun b hb => ⟨hb.1, ?_⟩) HL.out) g 0 (fun j u hu => ?_)⟩
        · refine hcell _ _ ?_
          rw [List.getElem?_append_right (by omega), hl]
          have : l.length * 5 + 1 - l.length * 5 = 1 := by omega
          rw [this]; rfl
        · exact (hgrow5.block b (by have := hb.2.1; simp; omega) (fun e => hb.2.2 e.symm)).trans ((Below.heap_alloc _ _ _ (by have := hb.2.1; omega)).trans (hb4.block b hb.2.1))
        · rw [Nat.zero_add]
          refine hcell _ _ ?_
          rw [List.getElem?_append_left ((List.getElem?_eq_some_iff.1 hu).1)]
          exact hu
        · have h1 := hb.2.1; have h2 := hgrow5.size; simp at h2; omega
      have HM := Lib.hid hmark
      have HB5 := Lib.hid hb5
      clear hmark hb5 hcell hown5 hgrow5 hat5 hg
      go_wp2_with fail
      go_ret
      exact ⟨_, _, rfl, HM.out, HB5.out⟩

set_option maxRecDepth 100000 in
set_option maxHeartbeats 1000000 in
theorem keptAll_walk (l : List T) (a : Option Addr) (c : Nat) (a' : Option Addr) (c' : Nat) (w : World) (B B' : Nat) (hin : MarkAll w (· < B) l a c) (hin' : T.At w B' (T.lst l) a' c') (hB : B ≤ w.heap.size) (hB' : B' ≤ w.heap.size) (hw : (T.lst l).wf) :
    Calls Try.prog 43 #[.slice a l.length c, .slice a' l.length c'] w fun e w' => e = .returned (.bool true) ∧ Below w.heap.size w w' := by
  rw [T.wf, T.wfs_iff] at hw
  obtain ⟨⟨_, _, _, _, _, _, _, hll⟩, hwl⟩ := hw
  obtain ⟨g, rfl, hgB, hcap, hmark, hins⟩ := hin
  go_enter Try.func43, Try.ntmps43
  go_wp2_with fail
  go_loopg [5] l.length (fun gg vi wr => ∃ i : Nat, vi = .int .i64 i ∧ i + gg = l.length ∧ Below w.heap.size w wr)
  case atStart => exact ⟨0, rfl, by simp, Below.refl _ _⟩
  case round =>
    obtain ⟨i, rfl, hi, hb⟩ := hrel
    have hzb := hb.size
    by_cases h : i < l.length
    · have hins' := T.Ins.keep (w' := wr) (ok' := (· < B)) (m' := true) (fun b hk => hb.block b (by omega)) (fun _ h => h) id hgB hins
      obtain ⟨p, d, ht, e0, e1, e2, e3, e4⟩ := hins'.get i h
      rw [Nat.zero_add] at e0 e1 e2 e3 e4
      obtain ⟨b', o', p', d', rfl, hbB', ht', f0, f1, f2, f3, f4⟩ := (T.At.below hb hB' hin').elem i h
      obtain ⟨w2, hw2⟩ : ∃ w2, w2 = wr.drew := ⟨_, rfl⟩
      have hb2 : Below wr.heap.size wr w2 := by rw [hw2]; exact (Below.refl _ _).drew
      have hz2 : wr.heap.size ≤ w2.heap.size := hb2.size
      have mC := kept_walk l[i] p d p' d' w2 B B' (T.In.keep (fun b hk => hb2.block b (by omega)) (fun _ h => h) id ht) (T.At.below hb2 (by omega) ht') (by omega) (by omega) (hwl _ (List.getElem_mem h))
      unfold T.val at mC
      have HW := Lib.hid hw2
      have iI : (i : Int) < (l.length : Int) := by omega
      clear hw2 hwl hin' ht ht' hins hins'
      go_upto_region 4 with fail
      go_still_tail 8, (by kernel_rfl)
      change wpList _ _ _ _ _ wr.drew
      rw [← HW.out]
      clear HW
      go_wp2_with (go_at_call 21; refine mC.mono ?_; clear mC; rintro e w3 ⟨rfl, hb3⟩)
      go_roundg (gk - 1)
      case measure => omega
      case rel => exact ⟨i + 1, by go_num, by omega, hb.trans ((hb2.trans (hb3.mono hz2)).mono hzb)⟩
    · have hil : i = l.length := by omega
      subst hil
      have hm' := (hb.cell (p := ⟨g, l.length * 5 + 1, none⟩) (by show g < _; omega)).trans hmark
      have hcapI : (l.length : Int) + 1 ≤ (c : Int) := by omega
      clear hwl hin' hins hmark
      go_wp2_with fail
      go_ret
      exact ⟨rfl, hb⟩
end Go.Proofs.Ytapfmfihhpafcaa
