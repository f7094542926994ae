/-
  The law ValuePlaces.
-/
import Derived.Test.YtapfmfihhpafcaaM3
import Derived.Test.YtapfmfihhpafcaaE1
import Derived.Test.YtapfmfihhpafcaaG3
import Derived.Test.YtapfmfihhpafcaaD9
import Derived.Test.YtapfmfihhpafcaaM4
import Derived.Test.YtapfmfihhpafcaaC3
import Derived.StillTailTactics
import Derived.RegionTactic
namespace Go.Proofs.Ytapfmfihhpafcaa
open Go.RowKit
set_option linter.unusedVariables false

set_option maxRecDepth 100000 in
set_option maxHeartbeats 4000000 in
theorem places_main (w : World) (t : T) (ta : Option Addr) (tc : Nat) (v : T) (va : Option Addr) (vc : Nat) (p : List Int) (pa : Option Addr) (pc : Nat) (ht : T.At w w.heap.size t ta tc) (hwt : t.wf) (hv : T.At w w.heap.size v va vc) (hwv : v.wf) (hp : Ints w (· < w.heap.size) p pa pc)
    (hs1 : ¬ t.small 1200 40 < 0) (hs2 : ¬ v.small 1200 40 < 0) (hpl : p.length ≤ 600) :
    Calls Try.prog 8 #[t.val ta tc, v.val va vc, .slice pa p.length pc] w fun e w' => e = .returned (.bool true) ∧ Below w.heap.size w w' := by
  obtain ⟨w1, hw1⟩ : ∃ w1, w1 = (w.alloc (.cells #[.int .u8 t.k, .int .i64 t.n, .string t.s, .slice ta t.l.length tc, .int .i64 t.r] 26 (0, 0))).alloc (.cells #[.int .u8 v.k, .int .i64 v.n, .string v.s, .slice va v.l.length vc, .int .i64 v.r] 26 (0, 0)) := ⟨_, rfl⟩
  have hb1 : Below w.heap.size w w1 := by rw [hw1]; exact two_boxes _ _ _
  have D0 : w1.heap[w.heap.size]? = some (.cells #[.int .u8 t.k, .int .i64 t.n, .string t.s, .slice ta t.l.length tc, .int .i64 t.r] 26 (0, 0)) := by rw [hw1]; exact two_blk0 _ _ _
  have D1 : w1.heap[w.heap.size + 1]? = some (.cells #[.int .u8 v.k, .int .i64 v.n, .string v.s, .slice va v.l.length vc, .int .i64 v.r] 26 (0, 0)) := by rw [hw1]; exact two_blk1 _ _ _
  have z1 : w1.heap.size = w.heap.size + 2 := by rw [hw1]; simp
  have i1 := T.At.below hb1 (Nat.le_refl _) ht
  have i2 := T.At.below hb1 (Nat.le_refl _) hv
  have p1 := Ints.below hb1 (Nat.le_refl _) hp
  have m1 := fun w' (hb : Below w1.heap.size w1 w') => small_walk t ta tc w' w.heap.size 1200 40 (T.At.below hb (by omega) i1) (by have := hb.size; omega) (by omega) (by omega) (by omega) (by omega)
  have m2 := fun w' (hb : Below w1.heap.size w1 w') => small_walk v va vc w' w.heap.size 1200 40 (T.At.below hb (by omega) i2) (by have := hb.size; omega) (by omega) (by omega) (by omega) (by omega)
  have m3 := fun w' (hb : Below w1.heap.size w1 w') => lent_walk t ta tc w' w.heap.size (T.At.below hb (by omega) i1) (by have := hb.size; omega) hwt
  have m4 := fun w' (hb : Below w1.heap.size w1 w') => lent_walk v va vc w' w.heap.size (T.At.below hb (by omega) i2) (by have := hb.size; omega) hwv
  obtain ⟨q1, hq1⟩ : ∃ q, t.small 1200 40 = q := ⟨_, rfl⟩
  obtain ⟨q2, hq2⟩ : ∃ q, v.small 1200 40 = q := ⟨_, rfl⟩
  rw [hq1] at m1 hs1
  rw [hq2] at m2 hs2
  have I1 := Lib.hid i1
  have I2 := Lib.hid i2
  have P1 := Lib.hid p1
  have E0 := Lib.hid D0
  have E1 := Lib.hid D1
  have HB1 := Lib.hid hb1
  unfold T.val at m1 m2 m3 m4 ⊢
  obtain ⟨x0, x1, x2, x3, x4⟩ := blk5cc D0
  have hpl' : ¬ (600 : Int) < (p.length : Int) := by omega
  clear hq1 hq2 D0 D1 ht hv hp i1 i2 p1 hb1
  go_enter Try.func8, Try.ntmps8
  go_upto_region 1 with (fail)
  rw [← hw1]
  clear hw1
  go_upto_region 3 with (first
    | (go_at_call 15; refine (m1 _ (Below.refl _ _)).mono ?_; clear m1; rintro e w2 ⟨rfl, hb2⟩; have G1 := (hb2.block _ (by rw [z1]; omega)).trans E1.out; clear x0 x1 x2 x3 x4; obtain ⟨x0, x1, x2, x3, x4⟩ := blk5cc G1; clear G1)
    | (go_at_call 15; refine (m2 _ hb2).mono ?_; clear m2; rintro e w3 ⟨rfl, hb3⟩; have hb13 := hb2.trans (hb3.mono hb2.size)))
  have KS : ∀ W : World, Below w1.heap.size w1 W →
      (W.cell? ⟨w.heap.size, 0, none⟩ = some (.int .u8 t.k) ∧ W.cell? ⟨w.heap.size, 1, none⟩ = some (.int .i64 t.n) ∧ W.cell? ⟨w.heap.size, 2, none⟩ = some (.string t.s) ∧ W.cell? ⟨w.heap.size, 3, none⟩ = some (.slice ta t.l.length tc) ∧ W.cell? ⟨w.heap.size, 4, none⟩ = some (.int .i64 t.r)) ∧
      (W.cell? ⟨w.heap.size + 1, 0, none⟩ = some (.int .u8 v.k) ∧ W.cell? ⟨w.heap.size + 1, 1, none⟩ = some (.int .i64 v.n) ∧ W.cell? ⟨w.heap.size + 1, 2, none⟩ = some (.string v.s) ∧ W.cell? ⟨w.heap.size + 1, 3, none⟩ = some (.slice va v.l.length vc) ∧ W.cell? ⟨w.heap.size + 1, 4, none⟩ = some (.int .i64 v.r)) :=
    fun W hb => ⟨blk5cc ((hb.block _ (by omega)).trans E0.out), blk5cc ((hb.block _ (by omega)).trans E1.out)⟩
  have HKS := Lib.hid KS
  have K0 := Lib.hid (KS w3.drew hb13.drew)
  have hb13d := hb13.drew
  clear hs1 hs2 hpl'
  have zs3 : w1.heap.size ≤ w3.drew.heap.size := hb13.size
  have zs3' := hb13.size
  clear x0 x1 x2 x3 x4 KS hb2 hb3
  go_cut [7, 8] (fun v7 v8 wx => ∃ (b7 b8 : Nat) (a4 a5 : Option Addr) (c4 c5 : Nat), v7 = .pointer (some ⟨b7, 0, none⟩) ∧ v8 = .pointer (some ⟨b8, 0, none⟩) ∧ Below w1.heap.size w1 wx ∧
      b7 < wx.heap.size ∧ b8 < wx.heap.size ∧ w1.heap.size ≤ b7 ∧ w1.heap.size ≤ b8 ∧ wx.heap[b7]? = some (.cells #[.int .u8 t.k, .int .i64 t.n, .string t.s, .slice a4 t.l.length c4, .int .i64 t.r] 26 (0, 0)) ∧
      wx.heap[b8]? = some (.cells #[.int .u8 v.k, .int .i64 v.n, .string v.s, .slice a5 v.l.length c5, .int .i64 v.r] 26 (0, 0)) ∧ T.In wx (· < wx.heap.size) true t a4 c4 ∧ T.In wx (· < wx.heap.size) true v a5 c5)
  case first =>
    refine wp_region_any (by kernel_rfl) ?_
    refine wpAny_inv (LentInv w1 t v ta tc va vc _ _) ?_ (ord_of (by kernel_rfl)) ?_ _ _ _ _ (by rfl) (by decide) (Closed.start _ _ 8) (LentInv.start hb13d)
    · intro l a W hs hall hi
      obtain ⟨b7, b8, a4, a5, c4, c5, rfl, r⟩ := hi.done hall
      simp only [P6, List.setIfInBounds_toArray, List.set_cons_zero, List.set_cons_succ]
      go_wp2_with fail
      go_meet
      case rel => exact ⟨b7, b8, a4, a5, c4, c5, rfl, rfl, r⟩
    · intro l a W i hs hcl hr hi
      obtain ⟨g1, g2, g3⟩ := ready_at hr
      have hs8 : l.size = 8 := hs
      have hi8 : i < 8 := g1
      obtain ⟨hb, e3, e4, e31, e33⟩ := hi.get3 (Nat.lt_of_lt_of_eq (by decide : 34 < 154) rfl)
      obtain ⟨⟨x0, x1, x2, x3, x4⟩, ⟨y0, y1, y2, y3, y4⟩⟩ := HKS.out W hb
      have gf : ∀ k, k < 8 → l.getD k true = false → l.getD k false = false := fun k hk h => by
        rw [Array.getD_eq_getD_getElem?, Array.getElem?_eq_getElem (by omega), Option.getD_some] at h ⊢
        exact h
      have hcase : i = 0 ∨ i = 1 ∨ i = 2 ∨ i = 3 ∨ i = 4 ∨ i = 5 ∨ i = 6 ∨ i = 7 := by omega
      rcases hcase with rfl | rfl | rfl | rfl | rfl | rfl | rfl | rfl
      · have R := Lib.hid (hi.load0 hs8)
        clear hi e31 e33 y0 y1 y2 y3 y4
        refine wpOp_of rfl ?_
        go_simp
        exact R.out
      · have d0 := g3 _ rfl ⟨0, .data⟩ (by simp) rfl
        have q := e31 d0
        unfold T.val at q
        have l6 : l.getD 6 false = false := by
          cases h : l.getD 6 false
          · rfl
          · have h1 := hcl 6 _ rfl h ⟨1, .data⟩ (by simp) rfl; rw [gf 1 (by decide) g2] at h1; cases h1
        have R := fun W' a4 c4 h1 h2 => hi.call1 hs8 l6 (W' := W') (a4 := a4) (c4 := c4) h1 h2
        have R := Lib.hid R
        clear hi e31 e33 x0 x1 x2 x3 x4 y0 y1 y2 y3 y4
        refine wpOp_of rfl ?_
        go_simp
        refine (m3 W hb).mono ?_
        rintro e w4 ⟨a4, c4, he, hi4, hb4⟩
        subst he
        exact R.out w4 a4 c4 hi4 hb4
      · have R := Lib.hid (hi.load2 hs8)
        clear hi e31 e33 x0 x1 x2 x3 x4
        refine wpOp_of rfl ?_
        go_simp
        exact R.out
      · have d0 := g3 _ rfl ⟨2, .data⟩ (by simp) rfl
        have q := e33 d0
        unfold T.val at q
        have l7 : l.getD 7 false = false := by
          cases h : l.getD 7 false
          · rfl
          · have h1 := hcl 7 _ rfl h ⟨3, .data⟩ (by simp) rfl; rw [gf 3 (by decide) g2] at h1; cases h1
        have R := fun W' a4 c4 h1 h2 => hi.call3 hs8 l7 (W' := W') (a5 := a4) (c5 := c4) h1 h2
        have R := Lib.hid R
        clear hi e31 e33 x0 x1 x2 x3 x4 y0 y1 y2 y3 y4
        refine wpOp_of rfl ?_
        go_simp
        refine (m4 W hb).mono ?_
        rintro e w4 ⟨a4, c4, he, hi4, hb4⟩
        subst he
        exact R.out w4 a4 c4 hi4 hb4
      · have l6 : l.getD 6 false = false := by
          cases h : l.getD 6 false
          · rfl
          · have h1 := hcl 6 _ rfl h ⟨4, .data⟩ (by simp) rfl; rw [gf 4 (by decide) g2] at h1; cases h1
        have R := Lib.hid (hi.box4 hs8 l6 (.int .u8 0) (.int .i64 0) (.string ⟨#[]⟩) (.slice none 0 0) (.int .i64 0))
        clear hi e31 e33 x0 x1 x2 x3 x4 y0 y1 y2 y3 y4
        refine wpOp_of rfl ?_
        go_simp
        exact R.out
      · have l7 : l.getD 7 false = false := by
          cases h : l.getD 7 false
          · rfl
          · have h1 := hcl 7 _ rfl h ⟨5, .data⟩ (by simp) rfl; rw [gf 5 (by decide) g2] at h1; cases h1
        have R := Lib.hid (hi.box5 hs8 l7 (.int .u8 0) (.int .i64 0) (.string ⟨#[]⟩) (.slice none 0 0) (.int .i64 0))
        clear hi e31 e33 x0 x1 x2 x3 x4 y0 y1 y2 y3 y4
        refine wpOp_of rfl ?_
        go_simp
        exact R.out
      · obtain ⟨b7, a4, c4, u0, u1, u2, u3, u4, q7, q32, D, R⟩ := hi.store6 (Nat.lt_of_lt_of_eq (by decide : 34 < 154) rfl) hs8 (g3 _ rfl ⟨1, .data⟩ (by simp) rfl) (g3 _ rfl ⟨4, .data⟩ (by simp) rfl)
        unfold T.val at q32
        have R := Lib.hid (R _ (put5 (v0 := .int .u8 t.k) (v1 := .int .i64 t.n) (v2 := .string t.s) (v3 := .slice a4 t.l.length c4) (v4 := .int .i64 t.r) D))
        obtain ⟨x0, x1, x2, x3, x4, f0, f1, f2, f3, f4⟩ := blk5 D
        clear hi e31 e33 y0 y1 y2 y3 y4 D
        refine wpOp_of rfl ?_
        go_simp
        exact R.out
      · obtain ⟨b7, a4, c4, u0, u1, u2, u3, u4, q7, q32, D, R⟩ := hi.store7 (Nat.lt_of_lt_of_eq (by decide : 34 < 154) rfl) hs8 (g3 _ rfl ⟨3, .data⟩ (by simp) rfl) (g3 _ rfl ⟨5, .data⟩ (by simp) rfl)
        unfold T.val at q32
        have R := Lib.hid (R _ (put5 (v0 := .int .u8 v.k) (v1 := .int .i64 v.n) (v2 := .string v.s) (v3 := .slice a4 v.l.length c4) (v4 := .int .i64 v.r) D))
        obtain ⟨x0, x1, x2, x3, x4, f0, f1, f2, f3, f4⟩ := blk5 D
        clear hi e31 e33 y0 y1 y2 y3 y4 D
        refine wpOp_of rfl ?_
        go_simp
        exact R.out
  case rest =>
    obtain ⟨b7, b8, a4, a5, c4, c5, rfl, rfl, hbc, zb7, zb8, lb7, lb8, B7, B8, i4, i5⟩ := hcut
    obtain ⟨j0, hji, hjz0, hjz1, hjz2⟩ := info_parts info3
    have hIc := Ints.below hbc (by omega) P1.out
    have HBC := Lib.hid hbc
    have HB7 := Lib.hid B7
    have HB8 := Lib.hid B8
    have HI4 := Lib.hid i4
    have HI5 := Lib.hid i5
    have zc := hbc.size
    clear m3 m4 K0 B7 B8 i4 i5 hbc hb13d hb13 zs3 zs3' HKS
    go_upto_region 5 with (first
      | (at_builtin; refine wpList_append_ints _ rfl _ _ rfl (by rfl) _ p pa pc (by rfl) hIc (by omega) ?_; rintro vA wA hownA hbA; have zA := hbA.size)
      | (at_builtin; refine wpList_append_lies _ rfl _ _ 35 rfl wc.heap.size 3 j0 _ 1 8 Try.underlying35 hji hjz0 hjz1 hjz2 rfl (by decide) vA p.length _ (by rfl) (hownA.alloc _) ⟨wA.heap.size, 0, none⟩ 1 1 [.int .i64 77] (by rfl) rfl (World.news_of_block (cs := #[.int .i64 77]) (t := 3) (fr := (0, 0)) (blk_new _ _)) (by simp [Value.oneCell']) (by omega) (by unfold maxLen; omega) (by omega) (by simp; omega) _ rfl ?_; intro g cap wB hownB hgrowB hatB hltB))
    have hcB : Below wc.heap.size wc wB := Below.grown (hbA.alloc (by omega) _) hgrowB (by simp; omega) (fun k hk => (hownA.lt k hk).1)
    have hgz := (hownB.lt g rfl).1
    have h1B : Below w1.heap.size w1 wB := HBC.out.trans (hcB.mono zc)
    have zB := hcB.size
    have hw1B : Below w.heap.size w wB := HB1.out.trans (h1B.mono HB1.out.size)
    have zwB := hw1B.size
    obtain ⟨iP, hcap, e77⟩ := ints_of_head hownB
    have J4 : T.In wB (· < wB.heap.size) true t a4 c4 := T.In.keep (fun b hb => hcB.block b hb) (fun b hb => by omega) id HI4.out
    have J5 : T.In wB (· < wB.heap.size) true v a5 c5 := T.In.keep (fun b hb => hcB.block b hb) (fun b hb => by omega) id HI5.out
    have iP' : Ints wB (· < wB.heap.size) p (some ⟨g, 0, none⟩) cap := Ints.keep (fun _ _ => rfl) (fun b hb => by omega) iP
    have A7 := (hcB.block b7 zb7).trans HB7.out
    have A8 := (hcB.block b8 zb8).trans HB8.out
    have A0 := (h1B.block w.heap.size (by omega)).trans E0.out
    have A1 := (h1B.block (w.heap.size + 1) (by omega)).trans E1.out
    have iT := T.At.below h1B (by omega) I1.out
    have iV := T.At.below h1B (by omega) I2.out
    have iQ := Ints.below h1B (by omega) P1.out
    obtain ⟨uA, qA, huA⟩ : ∃ u q, atT t p = u ∧ atC t p = q := ⟨_, _, rfl, rfl⟩
    obtain ⟨uW, qW, huW⟩ : ∃ u q, withT t v p = u ∧ withC t v p = q := ⟨_, _, rfl, rfl⟩
    have n1 : ∀ W (hb : Below wB.heap.size wB W), Calls Try.prog 44 #[t.val a4 c4, .slice (some ⟨g, 0, none⟩) p.length cap] W (Ans W uA qA (fun W' a c => T.Mut W' (New W.heap.size W') uA a c)) := fun W hb =>
      (at_walk t p a4 c4 (some ⟨g, 0, none⟩) cap W wB.heap.size (T.At.below hb (Nat.le_refl _) J4.to_at) (Ints.below hb (Nat.le_refl _) iP') hb.size hwt (by omega)).mono fun e w'' hp => by have := at_ans hp; rw [huA.1, huA.2] at this; exact this
    have n2 : ∀ W (hb : Below wB.heap.size wB W), Calls Try.prog 45 #[t.val ta tc, .slice pa p.length pc] W (Ans W uA qA (fun W' a c => T.At W' w.heap.size uA a c)) := fun W hb =>
      (refAt_walk t p ta tc pa pc W w.heap.size (T.At.below hb (by omega) iT) (Ints.below hb (by omega) iQ) (by have := hb.size; omega) hwt (by omega)).mono fun e w'' hp => by have := refAt_ans hp; rw [huA.1, huA.2] at this; exact this
    have n3 : ∀ W (hb : Below wB.heap.size wB W), Calls Try.prog 46 #[t.val a4 c4, v.val a5 c5, .slice (some ⟨g, 0, none⟩) p.length cap] W (Ans W uW qW (fun W' a c => T.Mut W' (New W.heap.size W') uW a c)) := fun W hb =>
      (with_walk t v p a4 c4 a5 c5 (some ⟨g, 0, none⟩) cap W wB.heap.size (T.At.below hb (Nat.le_refl _) J4.to_at) (T.At.below hb (Nat.le_refl _) J5.to_at) (Ints.below hb (Nat.le_refl _) iP') hb.size hwt hwv (by omega)).mono fun e w'' hp => by have := with_ans hp; rw [huW.1, huW.2] at this; exact this
    have n4 : ∀ W (hb : Below wB.heap.size wB W), Calls Try.prog 47 #[t.val ta tc, v.val va vc, .slice pa p.length pc] W (Ans W uW qW (fun W' a c => T.In W' (fun b => b < w.heap.size ∨ New W.heap.size W' b) false uW a c)) := fun W hb =>
      (refWith_walk t v p ta tc va vc pa pc W w.heap.size (T.At.below hb (by omega) iT) (T.At.below hb (by omega) iV) (Ints.below hb (by omega) iQ) (by have := hb.size; omega) hwt hwv (by omega)).mono fun e w'' hp => by have := refWith_ans hp; rw [huW.1, huW.2] at this; exact this
    have n5 := fun W (hb : Below wB.heap.size wB W) => kept_own (w := W) (B := wB.heap.size) (B' := w.heap.size) (T.In.keep (fun b hk => hb.block b hk) (fun _ h => h) id J4) (T.At.below hb (by omega) iT) hb.size (by have := hb.size; omega) hwt
    have n6 := fun W (hb : Below wB.heap.size wB W) => kept_own (w := W) (B := wB.heap.size) (B' := w.heap.size) (T.In.keep (fun b hk => hb.block b hk) (fun _ h => h) id J5) (T.At.below hb (by omega) iV) hb.size (by have := hb.size; omega) hwv
    have hmA := atT_may hwt p
    have hmW := withT_may hwt hwv p
    rw [huA.1] at hmA
    rw [huW.1] at hmW
    have HK7 := Lib.hid (fun W (hb : Below wB.heap.size wB W) => blk5cc ((hb.block b7 (by omega)).trans A7))
    have HK8 := Lib.hid (fun W (hb : Below wB.heap.size wB W) => blk5cc ((hb.block b8 (by omega)).trans A8))
    have HK0 := Lib.hid (fun W (hb : Below wB.heap.size wB W) => blk5cc ((hb.block w.heap.size (by omega)).trans A0))
    have HK1 := Lib.hid (fun W (hb : Below wB.heap.size wB W) => blk5cc ((hb.block (w.heap.size + 1) (by omega)).trans A1))
    have HCP : Hid (∀ W (hb : Below wB.heap.size wB W) i (h : i < p.length), W.cell? ⟨g, i, none⟩ = some (.int .i64 p[i])) := Lib.hid (fun W hb i h => by
      rw [hb.cell (by exact hltB)]
      obtain ⟨b, o, e, _, hx⟩ := iP'.elem i h
      injection e with e
      injection e with e1 e2
      subst e1 e2
      rw [Nat.zero_add] at hx
      exact hx)
    have HQP : Hid (∀ W (hb : Below wB.heap.size wB W), Ints W (· < w.heap.size) p pa pc) := Lib.hid (fun W hb => Ints.below hb (by omega) iQ)
    have H77 : Hid (∀ W (hb : Below wB.heap.size wB W), W.cell? ⟨g, p.length, none⟩ = some (.int .i64 77)) := Lib.hid (fun W hb => by rw [hb.cell (by exact hltB)]; exact e77)
    have HWB := Lib.hid hw1B
    have HMA := Lib.hid hmA
    have HMW := Lib.hid hmW
    unfold T.val at n1 n2 n3 n4 n5 n6
    have K0 := Lib.hid (HK7.out wB.drew ((Below.refl _ _).drew))
    have i1 : (p.length : Int) ≤ (cap : Int) := by omega
    have hcap0 : ¬ cap = 0 := by omega
    clear hcB h1B hw1B iP e77 J4 J5 iP' A7 A8 A0 A1 iT iV iQ hmA hmW huA huW hownB hgrowB hatB hownA hbA HBC HB7 HB8 HI4 HI5 I1 I2 P1 E0 E1 HB1 hIc
    go_cut [10, 11] (fun v10 v11 wx => ∃ (b10 : Nat) (a10 : Option Addr) (c10 lo hi : Nat), v10 = .pointer (some ⟨b10, 0, none⟩) ∧ v11 = .int .i64 qA ∧ Below wB.heap.size wB wx ∧ wB.heap.size ≤ b10 ∧ b10 < wx.heap.size ∧
      wx.heap[b10]? = some (.cells #[.int .u8 uA.k, .int .i64 uA.n, .string uA.s, .slice a10 uA.l.length c10, .int .i64 uA.r] 26 (0, 0)) ∧ T.Mut wx (fun b => lo ≤ b ∧ b < hi) uA a10 c10 ∧ wB.heap.size ≤ lo ∧ hi ≤ wx.heap.size ∧ (b10 < lo ∨ hi ≤ b10))
    case first =>
      go_region_held3 (fun W => W.cell? ⟨b7, 0, none⟩ = some (.int .u8 t.k) ∧ W.cell? ⟨b7, 1, none⟩ = some (.int .i64 t.n) ∧ W.cell? ⟨b7, 2, none⟩ = some (.string t.s) ∧ W.cell? ⟨b7, 3, none⟩ = some (.slice a4 t.l.length c4) ∧ W.cell? ⟨b7, 4, none⟩ = some (.int .i64 t.r))
        (first | with_reducible exact K0.out | (with_reducible refine HK7.out _ ?_; (repeat (first | with_reducible assumption | with_reducible exact Below.refl _ _ | with_reducible refine Below.drewI ?_ | with_reducible refine Below.allocI ?_ _ | (with_reducible refine Below.setI ?_ ?_ _; rotate_left; (first | omega | (simp only [World.size_alloc]; omega))))); done))
        (first
          | (go_simp; go_at_call 44; refine (n1 _ (by (repeat (first | with_reducible assumption | with_reducible exact Below.refl _ _ | with_reducible refine Below.drewI ?_ | with_reducible refine Below.allocI ?_ _ | (with_reducible refine Below.setI ?_ ?_ _; rotate_left; (first | omega | (simp only [World.size_alloc]; omega))))))).mono ?_; rintro e w6 ⟨a6, c6, he, hm6, hb6⟩; unfold T.val at he; subst he; have hbc6 : Below wB.heap.size wB w6 := Below.callI (by (repeat (first | with_reducible assumption | with_reducible exact Below.refl _ _ | with_reducible refine Below.drewI ?_ | with_reducible refine Below.allocI ?_ _ | (with_reducible refine Below.setI ?_ ?_ _; rotate_left; (first | omega | (simp only [World.size_alloc]; omega)))))) hb6; have zs6 := hbc6.size; (try (have Y1 : w6.heap[wB.heap.size]? = _ := zbox (below_undrew hb6); have N1 := zfac Y1; obtain ⟨g0, g1, g2, g3, g4, g5, g6, g7, g8, g9, h0, h1, h2⟩ := N1))))
      · go_wp2_with fail
        go_meet
        case rel =>
          refine ⟨w6.heap.size, a6, c6, wB.heap.size, w6.heap.size, rfl, rfl, Below.allocI hbc6 _, zs6, by simp, blk_new _ _, ?_, Nat.le_refl _, by simp, .inr (Nat.le_refl _)⟩
          exact T.Mut.keep (w := w6) (fun b hb => Below.heap_alloc _ _ _ hb.2) (fun b hb => hb) hm6
      · have hP := put5 (v0 := .int .u8 uA.k) (v1 := .int .i64 uA.n) (v2 := .string uA.s) (v3 := .slice a6 uA.l.length c6) (v4 := .int .i64 uA.r) Y1
        have zP := hP.size
        have hlo : (wB.alloc (.cells #[.int .u8 0, .int .i64 0, .string ⟨#[]⟩, .slice none 0 0, .int .i64 0] 26)).drew.heap.size = wB.heap.size + 1 := by show (wB.alloc _).heap.size = _; rw [World.size_alloc]
        go_wp2_with fail
        go_meet
        case rel =>
          refine ⟨wB.heap.size, a6, c6, wB.heap.size + 1, w6.heap.size, rfl, rfl, hbc6.trans (hP.below (Nat.le_refl _)), Nat.le_refl _, by rw [zP]; exact h2, hP.at_, ?_, by omega, by rw [zP]; exact Nat.le_refl _, .inl (Nat.lt_succ_self _)⟩
          refine T.Mut.keep (w := w6) (fun b hb => hP.other b (by have := hb.1; rw [hlo] at this; omega)) (fun b hb => ⟨by have := hb.1; rw [hlo] at this; exact this, hb.2⟩) hm6
    case rest =>
      obtain ⟨b10, a10, c10, lo10, hi10, rfl, rfl, hb5, l10, z10, B10, M10, lo10', hi10', d10⟩ := hcut
      obtain ⟨w5, rfl⟩ : ∃ w5 : World, w5 = wc := ⟨_, rfl⟩
      have K5 := Lib.hid (HK7.out w5.drew hb5.drew)
      have z5 := hb5.size
      have HB10 := Lib.hid B10
      have HM10 := Lib.hid M10
      clear K0 B10 M10
      go_upto_region 6 with fail
      go_cut [12, 13] (fun v12 v13 wx => ∃ (b12 : Nat) (a12 : Option Addr) (c12 lo hi : Nat), v12 = .pointer (some ⟨b12, 0, none⟩) ∧ v13 = .int .i64 qA ∧ Below w5.heap.size w5 wx ∧ w5.heap.size ≤ b12 ∧ b12 < wx.heap.size ∧
        wx.heap[b12]? = some (.cells #[.int .u8 uA.k, .int .i64 uA.n, .string uA.s, .slice a12 uA.l.length c12, .int .i64 uA.r] 26 (0, 0)) ∧ T.Mut wx (fun b => lo ≤ b ∧ b < hi) uA a12 c12 ∧ w5.heap.size ≤ lo ∧ hi ≤ wx.heap.size ∧ (b12 < lo ∨ hi ≤ b12))
      case first =>
        go_region_held3 (fun W => W.cell? ⟨b7, 0, none⟩ = some (.int .u8 t.k) ∧ W.cell? ⟨b7, 1, none⟩ = some (.int .i64 t.n) ∧ W.cell? ⟨b7, 2, none⟩ = some (.string t.s) ∧ W.cell? ⟨b7, 3, none⟩ = some (.slice a4 t.l.length c4) ∧ W.cell? ⟨b7, 4, none⟩ = some (.int .i64 t.r))
          (first | with_reducible exact K5.out | (with_reducible refine HK7.out _ ?_; (repeat (first | with_reducible assumption | with_reducible exact Below.refl _ _ | with_reducible refine Below.drewI ?_ | with_reducible refine Below.allocI ?_ _ | (with_reducible refine Below.setI ?_ ?_ _; rotate_left; (first | omega | (simp only [World.size_alloc]; omega))))); done))
          (first
            | (go_simp; go_at_call 44; refine (n1 _ (by (repeat (first | with_reducible assumption | with_reducible exact Below.refl _ _ | with_reducible refine Below.drewI ?_ | with_reducible refine Below.allocI ?_ _ | (with_reducible refine Below.setI ?_ ?_ _; rotate_left; (first | omega | (simp only [World.size_alloc]; omega))))))).mono ?_; rintro e w6 ⟨a6, c6, he, hm6, hb6⟩; unfold T.val at he; subst he; have hbB6 : Below wB.heap.size wB w6 := Below.callI (by (repeat (first | with_reducible assumption | with_reducible exact Below.refl _ _ | with_reducible refine Below.drewI ?_ | with_reducible refine Below.allocI ?_ _ | (with_reducible refine Below.setI ?_ ?_ _; rotate_left; (first | omega | (simp only [World.size_alloc]; omega)))))) hb6; have hbc6 : Below w5.heap.size w5 w6 := Below.callI (by (repeat (first | with_reducible assumption | with_reducible exact Below.refl _ _ | with_reducible refine Below.drewI ?_ | with_reducible refine Below.allocI ?_ _ | (with_reducible refine Below.setI ?_ ?_ _; rotate_left; (first | omega | (simp only [World.size_alloc]; omega)))))) hb6; have zs6 := hbc6.size; (try (have Y1 : w6.heap[w5.heap.size]? = _ := zbox (below_undrew hb6); have N1 := zfac Y1; obtain ⟨g0, g1, g2, g3, g4, g5, g6, g7, g8, g9, h0, h1, h2⟩ := N1))))
        · go_wp2_with fail
          go_meet
          case rel =>
            refine ⟨w6.heap.size, a6, c6, w5.heap.size, w6.heap.size, rfl, rfl, Below.allocI hbc6 _, zs6, by simp, blk_new _ _, ?_, Nat.le_refl _, by simp, .inr (Nat.le_refl _)⟩
            exact T.Mut.keep (w := w6) (fun b hb => Below.heap_alloc _ _ _ hb.2) (fun b hb => hb) hm6
        · have hP := put5 (v0 := .int .u8 uA.k) (v1 := .int .i64 uA.n) (v2 := .string uA.s) (v3 := .slice a6 uA.l.length c6) (v4 := .int .i64 uA.r) Y1
          have zP := hP.size
          have hlo : (w5.alloc (.cells #[.int .u8 0, .int .i64 0, .string ⟨#[]⟩, .slice none 0 0, .int .i64 0] 26)).drew.heap.size = w5.heap.size + 1 := by show (w5.alloc _).heap.size = _; rw [World.size_alloc]
          go_wp2_with fail
          go_meet
          case rel =>
            refine ⟨w5.heap.size, a6, c6, w5.heap.size + 1, w6.heap.size, rfl, rfl, hbc6.trans (hP.below (Nat.le_refl _)), Nat.le_refl _, by rw [zP]; exact h2, hP.at_, ?_, by omega, by rw [zP]; exact Nat.le_refl _, .inl (Nat.lt_succ_self _)⟩
            refine T.Mut.keep (w := w6) (fun b hb => hP.other b (by have := hb.1; rw [hlo] at this; omega)) (fun b hb => ⟨by have := hb.1; rw [hlo] at this; exact this, hb.2⟩) hm6
      case rest =>
        obtain ⟨b12, a12, c12, lo12, hi12, rfl, rfl, hb56, l12, z12, B12, M12, lo12', hi12', d12⟩ := hcut
        obtain ⟨w6, rfl⟩ : ∃ w6 : World, w6 = wc := ⟨_, rfl⟩
        have hbB6 : Below wB.heap.size wB w6 := Below.callI hb5 hb56
        have z6 := hb56.size
        have A10 := (hb56.block b10 z10).trans HB10.out
        have N10 : T.Mut w6 (fun b => lo10 ≤ b ∧ b < hi10) uA a10 c10 := T.Mut.keep (fun b hb => hb56.block b (by omega)) (fun _ h => h) HM10.out
        obtain ⟨x0, x1, x2, x3, x4⟩ := HK0.out w6 hbB6
        have HA10 := Lib.hid A10
        have HA12 := Lib.hid B12
        have HN10 := Lib.hid N10
        have HN12 := Lib.hid M12
        clear K5 HB10 HM10 A10 B12 M12 N10 hb5 hb56
        go_upto_region 8 with (go_at_call 45; refine (n2 _ hbB6).mono ?_; clear n2; rintro e w7 ⟨a14, c14, he, hi14, hb7⟩; unfold T.val at he; subst he)
        obtain ⟨w8, hw8⟩ : ∃ w8, w8 = w7.alloc (.cells #[.int .u8 uA.k, .int .i64 uA.n, .string uA.s, .slice a14 uA.l.length c14, .int .i64 uA.r] 26) := ⟨_, rfl⟩
        rw [← hw8]
        have B14 : w8.heap[w7.heap.size]? = some (.cells #[.int .u8 uA.k, .int .i64 uA.n, .string uA.s, .slice a14 uA.l.length c14, .int .i64 uA.r] 26 (0, 0)) := by rw [hw8]; exact blk_new _ _
        have hb78 : Below w7.heap.size w7 w8 := by rw [hw8]; exact (Below.refl _ _).alloc (Nat.le_refl _) _
        have z7 := hb7.size
        have z14 : w7.heap.size < w8.heap.size := (Array.getElem?_eq_some_iff.1 B14).1
        have hb68 : Below w6.heap.size w6 w8 := hb7.trans (hb78.mono z7)
        have hbB8 : Below wB.heap.size wB w8 := Below.callI hbB6 hb68
        have i14 : T.At w8 w.heap.size uA a14 c14 := T.At.below hb78 (by omega) hi14
        have mH := held_walk uA a10 a12 a14 c10 c12 c14 w8 (fun b => lo10 ≤ b ∧ b < hi10) (fun b => b < w.heap.size ∨ (lo12 ≤ b ∧ b < hi12)) HMA.out.1 HMA.out.2 (T.Mut.keep (fun b hb => hb68.block b (by omega)) (fun _ h => h) HN10.out) (fun b hb => by omega)
          (T.In.keep (fun b hb => hb68.block b (by omega)) (fun b hb => .inr hb) id (T.Mut.lies HN12.out)) (T.In.keep (fun _ _ => rfl) (fun b hb => .inl hb) id i14) (fun b hb => by omega)
        unfold T.val at mH
        have C10 := (hb68.block b10 (by omega)).trans HA10.out
        have C12 := (hb68.block b12 (by omega)).trans HA12.out
        clear x0 x1 x2 x3 x4
        obtain ⟨x0, x1, x2, x3, x4⟩ := blk5cc C10
        obtain ⟨y0, y1, y2, y3, y4⟩ := blk5cc C12
        obtain ⟨u0, u1, u2, u3, u4⟩ := blk5cc B14
        have HC10 := Lib.hid C10
        have HC12 := Lib.hid C12
        have HC14 := Lib.hid B14
        have HBB8 := Lib.hid hbB8
        have zB8 := hbB8.size
        clear hw8 hi14 hb78 hb7 hb68 i14 C10 C12 B14 HA10 HA12 HN10 HN12 hbB8 hbB6
        go_upto_region 10 with (go_at_call 26; refine mH.mono ?_; clear mH; rintro e w9 ⟨rfl, hs9⟩; clear x0 x1 x2 x3 x4 y0 y1 y2 y3 y4 u0 u1 u2 u3 u4)
        have z9 := hs9.size
        have C10 := (hs9.block b10 (by omega) (by omega)).trans HC10.out
        have C12 := (hs9.block b12 (by omega) (by omega)).trans HC12.out
        have C14 := (hs9.block w7.heap.size z14 (by omega)).trans HC14.out
        have hbB9 : Below wB.heap.size wB w9 := HBB8.out.trans ⟨hs9.os, hs9.tape, hs9.output, by omega, fun k hk => hs9.block k (by omega) (by omega)⟩
        have HS := Lib.hid (fun W (hb : Below wB.heap.size wB W) => And.intro (HK7.out W hb) (HK8.out W hb))
        have K9 := Lib.hid (HS.out w9.drew hbB9.drew)
        have zB9 := hbB9.size
        clear hs9 HC10 HC12 HC14 HBB8
        go_region_held3 (fun W => (W.cell? ⟨b7, 0, none⟩ = some (.int .u8 t.k) ∧ W.cell? ⟨b7, 1, none⟩ = some (.int .i64 t.n) ∧ W.cell? ⟨b7, 2, none⟩ = some (.string t.s) ∧ W.cell? ⟨b7, 3, none⟩ = some (.slice a4 t.l.length c4) ∧ W.cell? ⟨b7, 4, none⟩ = some (.int .i64 t.r)) ∧
            W.cell? ⟨b8, 0, none⟩ = some (.int .u8 v.k) ∧ W.cell? ⟨b8, 1, none⟩ = some (.int .i64 v.n) ∧ W.cell? ⟨b8, 2, none⟩ = some (.string v.s) ∧ W.cell? ⟨b8, 3, none⟩ = some (.slice a5 v.l.length c5) ∧ W.cell? ⟨b8, 4, none⟩ = some (.int .i64 v.r))
          (first | with_reducible exact K9.out | (with_reducible refine HS.out _ ?_; (repeat (first | with_reducible assumption | with_reducible exact Below.refl _ _ | with_reducible refine Below.drewI ?_ | with_reducible refine Below.allocI ?_ _ | (with_reducible refine Below.setI ?_ ?_ _; rotate_left; (first | omega | (simp only [World.size_alloc]; omega))))); done))
          (first
            | (go_simp; go_at_call 46; refine (n3 _ (by (repeat (first | with_reducible assumption | with_reducible exact Below.refl _ _ | with_reducible refine Below.drewI ?_ | with_reducible refine Below.allocI ?_ _ | (with_reducible refine Below.setI ?_ ?_ _; rotate_left; (first | omega | (simp only [World.size_alloc]; omega))))))).mono ?_; rintro e wX ⟨aX, cX, he, hmX, hbX⟩; unfold T.val at he; subst he; have hbBX : Below wB.heap.size wB wX := Below.callI (by (repeat (first | with_reducible assumption | with_reducible exact Below.refl _ _ | with_reducible refine Below.drewI ?_ | with_reducible refine Below.allocI ?_ _ | (with_reducible refine Below.setI ?_ ?_ _; rotate_left; (first | omega | (simp only [World.size_alloc]; omega)))))) hbX; have zX := hbX.size; have X10 := (hbX.block b10 (by show b10 < w9.heap.size; omega)).trans C10; obtain ⟨g0, g1, g2, g3, g4, g5, g6, g7, g8, g9, _⟩ := zfac X10))
        have hPX := put5 (v0 := .int .u8 uW.k) (v1 := .int .i64 uW.n) (v2 := .string uW.s) (v3 := .slice aX uW.l.length cX) (v4 := .int .i64 uW.r) X10
        obtain ⟨w10, hw10⟩ : ∃ w10, w10 = (((((wX.setCell ⟨b10, 0, none⟩ (.int .u8 uW.k)).setCell ⟨b10, 1, none⟩ (.int .i64 uW.n)).setCell ⟨b10, 2, none⟩ (.string uW.s)).setCell ⟨b10, 3, none⟩ (.slice aX uW.l.length cX)).setCell ⟨b10, 4, none⟩ (.int .i64 uW.r)) := ⟨_, rfl⟩
        rw [← hw10] at hPX ⊢
        have zPX := hPX.size
        have zX' : w9.heap.size ≤ wX.heap.size := zX
        have hX9 : ∀ k, k < w9.heap.size → wX.heap[k]? = w9.heap[k]? := fun k hk => hbX.block k hk
        have G10 := hPX.at_
        have G12 := (hPX.other b12 (by omega)).trans ((hX9 b12 (by omega)).trans C12)
        have G14 := (hPX.other w7.heap.size (by omega)).trans ((hX9 w7.heap.size (by omega)).trans C14)
        have hbB10 : Below wB.heap.size wB w10 := hbBX.trans (hPX.below l10)
        have MX : T.Mut w10 (fun b => w9.heap.size ≤ b ∧ b < w10.heap.size) uW aX cX := T.Mut.keep (fun b hb => hPX.other b (by have h1 : w9.heap.size ≤ b := hb.1; omega)) (fun b hb => ⟨hb.1, by rw [zPX]; exact hb.2⟩) hmX
        have HG10 := Lib.hid G10
        have HG14 := Lib.hid G14
        have HMX := Lib.hid MX
        have K10 := Lib.hid (HS.out w10.drew hbB10.drew)
        have z910 : w9.heap.size ≤ w10.heap.size := by omega
        have zB10 := hbB10.size
        clear hw10 hPX hX9 g0 g1 g2 g3 g4 g5 g6 g7 g8 g9 X10 hbBX hbX hmX zX G10 G14 MX K9 hbB9 C10 C12 C14
        go_upto_region 11 with fail
        go_region_held3 (fun W => (W.cell? ⟨b7, 0, none⟩ = some (.int .u8 t.k) ∧ W.cell? ⟨b7, 1, none⟩ = some (.int .i64 t.n) ∧ W.cell? ⟨b7, 2, none⟩ = some (.string t.s) ∧ W.cell? ⟨b7, 3, none⟩ = some (.slice a4 t.l.length c4) ∧ W.cell? ⟨b7, 4, none⟩ = some (.int .i64 t.r)) ∧
            W.cell? ⟨b8, 0, none⟩ = some (.int .u8 v.k) ∧ W.cell? ⟨b8, 1, none⟩ = some (.int .i64 v.n) ∧ W.cell? ⟨b8, 2, none⟩ = some (.string v.s) ∧ W.cell? ⟨b8, 3, none⟩ = some (.slice a5 v.l.length c5) ∧ W.cell? ⟨b8, 4, none⟩ = some (.int .i64 v.r))
          (first | with_reducible exact K10.out | (with_reducible refine HS.out _ ?_; (repeat (first | with_reducible assumption | with_reducible exact Below.refl _ _ | with_reducible refine Below.drewI ?_ | with_reducible refine Below.allocI ?_ _ | (with_reducible refine Below.setI ?_ ?_ _; rotate_left; (first | omega | (simp only [World.size_alloc]; omega))))); done))
          (first
            | (go_simp; go_at_call 46; refine (n3 _ (by (repeat (first | with_reducible assumption | with_reducible exact Below.refl _ _ | with_reducible refine Below.drewI ?_ | with_reducible refine Below.allocI ?_ _ | (with_reducible refine Below.setI ?_ ?_ _; rotate_left; (first | omega | (simp only [World.size_alloc]; omega))))))).mono ?_; rintro e wY ⟨aY, cY, he, hmY, hbY⟩; unfold T.val at he; subst he; have hbBY : Below wB.heap.size wB wY := Below.callI (by (repeat (first | with_reducible assumption | with_reducible exact Below.refl _ _ | with_reducible refine Below.drewI ?_ | with_reducible refine Below.allocI ?_ _ | (with_reducible refine Below.setI ?_ ?_ _; rotate_left; (first | omega | (simp only [World.size_alloc]; omega)))))) hbY; have zY := hbY.size; have Y12 := (hbY.block b12 (by show b12 < w10.heap.size; omega)).trans G12; obtain ⟨g0, g1, g2, g3, g4, g5, g6, g7, g8, g9, _⟩ := zfac Y12))
        have hPY := put5 (v0 := .int .u8 uW.k) (v1 := .int .i64 uW.n) (v2 := .string uW.s) (v3 := .slice aY uW.l.length cY) (v4 := .int .i64 uW.r) Y12
        obtain ⟨w11, hw11⟩ : ∃ w11, w11 = (((((wY.setCell ⟨b12, 0, none⟩ (.int .u8 uW.k)).setCell ⟨b12, 1, none⟩ (.int .i64 uW.n)).setCell ⟨b12, 2, none⟩ (.string uW.s)).setCell ⟨b12, 3, none⟩ (.slice aY uW.l.length cY)).setCell ⟨b12, 4, none⟩ (.int .i64 uW.r)) := ⟨_, rfl⟩
        rw [← hw11] at hPY ⊢
        have zPY := hPY.size
        have zY' : w10.heap.size ≤ wY.heap.size := zY
        have hY10 : ∀ k, k < w10.heap.size → wY.heap[k]? = w10.heap[k]? := fun k hk => hbY.block k hk
        have F12 := hPY.at_
        have F10 := (hPY.other b10 (by omega)).trans ((hY10 b10 (by omega)).trans HG10.out)
        have F14 := (hPY.other w7.heap.size (by omega)).trans ((hY10 w7.heap.size (by omega)).trans HG14.out)
        have hbB11 : Below wB.heap.size wB w11 := hbBY.trans (hPY.below (by omega))
        have MX := T.Mut.keep (w' := w11) (S' := fun b => w9.heap.size ≤ b ∧ b < w10.heap.size) (fun b hb => (hPY.other b (by omega)).trans (hY10 b hb.2)) (fun _ h => h) HMX.out
        have MY : T.Mut w11 (fun b => w10.heap.size ≤ b ∧ b < w11.heap.size) uW aY cY := T.Mut.keep (fun b hb => hPY.other b (by have h1 : w10.heap.size ≤ b := hb.1; omega)) (fun b hb => ⟨hb.1, by rw [zPY]; exact hb.2⟩) hmY
        obtain ⟨x0, x1, x2, x3, x4⟩ := HK0.out w11 hbB11
        obtain ⟨y0, y1, y2, y3, y4⟩ := HK1.out w11 hbB11
        have HF10 := Lib.hid F10
        have HF12 := Lib.hid F12
        have HF14 := Lib.hid F14
        have HMX2 := Lib.hid MX
        have HMY := Lib.hid MY
        have z1011 : w10.heap.size ≤ w11.heap.size := by omega
        have zB11 := hbB11.size
        clear hw11 hPY hY10 g0 g1 g2 g3 g4 g5 g6 g7 g8 g9 Y12 hbBY hbY hmY zY F10 F12 F14 MX MY K10 hbB10 G12 HMX
        go_upto_region 13 with (first
          | (go_at_call 47; refine (n4 _ hbB11).mono ?_; clear n4; rintro e wZ ⟨aZ, cZ, he, hiZ, hbZ⟩; unfold T.val at he; subst he; have zZ := hbZ.size; have D14 := Lib.hid ((hbZ.block w7.heap.size (by omega)).trans HF14.out))
          | (refine wpList_put _ rfl _ _ rfl w7.heap.size _ _ _ _ _ _ _ _ _ _ (by rfl) (by rfl) (by simp [Value.oneCell']) D14.out ?_; rintro w12 hP12))
        have zP12 := hP12.size
        have E10 := (hP12.other b10 (by omega)).trans ((hbZ.block b10 (by omega)).trans HF10.out)
        have E12 := (hP12.other b12 (by omega)).trans ((hbZ.block b12 (by omega)).trans HF12.out)
        have E14 := hP12.at_
        have hbB12 : Below wB.heap.size wB w12 := (Below.callI hbB11 hbZ).trans (hP12.below (by omega))
        have mH2 := held_walk uW aX aY aZ cX cY cZ w12 (fun b => w9.heap.size ≤ b ∧ b < w10.heap.size) (fun b => b < w.heap.size ∨ (w10.heap.size ≤ b ∧ b < wZ.heap.size)) HMW.out.1 HMW.out.2
          (T.Mut.keep (fun b hb => (hP12.other b (by omega)).trans (hbZ.block b (by omega))) (fun _ h => h) HMX2.out) (fun b hb => by omega)
          (T.In.keep (fun b hb => (hP12.other b (by omega)).trans (hbZ.block b (by omega))) (fun b hb => .inr ⟨hb.1, by omega⟩) id (T.Mut.lies HMY.out))
          (T.In.keep (fun b hb => hP12.other b (hb.elim (fun h => by omega) (fun h => by have := h.1; omega))) (fun b hb => hb.imp id (fun h => ⟨by have := h.1; omega, h.2⟩)) id hiZ) (fun b hb => by omega)
        unfold T.val at mH2
        clear x0 x1 x2 x3 x4 y0 y1 y2 y3 y4
        obtain ⟨x0, x1, x2, x3, x4⟩ := blk5cc E10
        obtain ⟨y0, y1, y2, y3, y4⟩ := blk5cc E12
        obtain ⟨u0, u1, u2, u3, u4⟩ := blk5cc E14
        have HB12 := Lib.hid hbB12
        have zB12 := hbB12.size
        clear hP12 hbZ hiZ E10 E12 E14 hbB11 hbB12 HF10 HF12 HF14 HMX2 HMY n3
        go_upto_region 15 with (go_at_call 26; refine mH2.mono ?_; clear mH2; rintro e w13 ⟨rfl, hs13⟩; clear x0 x1 x2 x3 x4 y0 y1 y2 y3 y4 u0 u1 u2 u3 u4)
        have z13 := hs13.size
        have hbB13 : Below wB.heap.size wB w13 := HB12.out.trans ⟨hs13.os, hs13.tape, hs13.output, by omega, fun k hk => hs13.block k (by omega) (by omega)⟩
        clear hs13
        go_wp2_with fail
        go_loopg [16] p.length (fun gg vi wr => ∃ i : Nat, vi = .int .i64 i ∧ i + gg = p.length ∧ Below wB.heap.size wB wr)
        case atStart => exact ⟨0, rfl, by simp, hbB13⟩
        case round =>
          obtain ⟨i, rfl, hgi, hb⟩ := hrel
          clear hbB13
          by_cases h : i < p.length
          · have e1 := HCP.out wr hb i h
            obtain ⟨b, o, rfl, _, e2⟩ := (HQP.out wr hb).elem i h
            obtain ⟨q, hq⟩ : ∃ q, p[i] = q := ⟨_, rfl⟩
            rw [hq] at e1 e2
            have i2 : (i : Int) < (p.length : Int) := by omega
            have i3 : (i : Int) < (p.length : Int) + 1 := by omega
            have HBB := Lib.hid hb
            clear hq hb n5 n6
            go_upto_region 18 with fail
            go_quiet (fail)
            go_wp2_with fail
            go_roundg (gk - 1)
            case measure => omega
            case rel => exact ⟨i + 1, by go_num, by omega, ⟨HBB.out.os, HBB.out.tape, HBB.out.output, HBB.out.size, HBB.out.block⟩⟩
          · have e1 := H77.out wr hb
            have K7 := HK7.out wr hb
            have K3 := HK0.out wr hb
            obtain ⟨x0, x1, x2, x3, x4⟩ := K7
            obtain ⟨y0, y1, y2, y3, y4⟩ := K3
            have i3 : (p.length : Int) < (p.length : Int) + 1 := by omega
            go_wp2_with (first
              | (go_at_call 21; refine (n5 _ hb).mono ?_; clear n5; rintro e wE ⟨rfl, hbE⟩; have hbBE := Below.callI hb hbE; clear x0 x1 x2 x3 x4 y0 y1 y2 y3 y4; obtain ⟨x0, x1, x2, x3, x4⟩ := HK8.out wE hbBE; obtain ⟨y0, y1, y2, y3, y4⟩ := HK1.out wE hbBE)
              | (go_at_call 21; refine (n6 _ hbBE).mono ?_; clear n6; rintro e wF ⟨rfl, hbF⟩; have hbBF := Below.callI hbBE hbF)
              | (go_at_call 14; refine (awake_walk _).mono ?_; rintro e wG ⟨rfl, hbG⟩))
            go_ret
            exact ⟨rfl, HWB.out.trans ((Below.callI hbBF hbG).mono zwB)⟩

set_option maxRecDepth 100000 in
set_option maxHeartbeats 4000000 in
theorem places_out (w : World) (t : T) (ta : Option Addr) (tc : Nat) (v : T) (va : Option Addr) (vc : Nat) (p : List Int) (pa : Option Addr) (pc : Nat) (ht : T.At w w.heap.size t ta tc) (hv : T.At w w.heap.size v va vc)
    (hs : t.small 1200 40 < 0 ∨ (¬ t.small 1200 40 < 0 ∧ v.small 1200 40 < 0) ∨ (¬ t.small 1200 40 < 0 ∧ ¬ v.small 1200 40 < 0 ∧ 600 < p.length)) :
    Calls Try.prog 8 #[t.val ta tc, v.val va vc, .slice pa p.length pc] w fun e w' => e = .returned (.bool true) ∧ Below w.heap.size w w' := by
  obtain ⟨w1, hw1⟩ : ∃ w1, w1 = (w.alloc (.cells #[.int .u8 t.k, .int .i64 t.n, .string t.s, .slice ta t.l.length tc, .int .i64 t.r] 26 (0, 0))).alloc (.cells #[.int .u8 v.k, .int .i64 v.n, .string v.s, .slice va v.l.length vc, .int .i64 v.r] 26 (0, 0)) := ⟨_, rfl⟩
  have hb1 : Below w.heap.size w w1 := by rw [hw1]; exact two_boxes _ _ _
  have D0 : w1.heap[w.heap.size]? = some (.cells #[.int .u8 t.k, .int .i64 t.n, .string t.s, .slice ta t.l.length tc, .int .i64 t.r] 26 (0, 0)) := by rw [hw1]; exact two_blk0 _ _ _
  have D1 : w1.heap[w.heap.size + 1]? = some (.cells #[.int .u8 v.k, .int .i64 v.n, .string v.s, .slice va v.l.length vc, .int .i64 v.r] 26 (0, 0)) := by rw [hw1]; exact two_blk1 _ _ _
  have z1 : w1.heap.size = w.heap.size + 2 := by rw [hw1]; simp
  have i1 := T.At.below hb1 (Nat.le_refl _) ht
  have i2 := T.At.below hb1 (Nat.le_refl _) hv
  have m1 := fun w' (hb : Below w1.heap.size w1 w') => small_walk t ta tc w' w.heap.size 1200 40 (T.At.below hb (by omega) i1) (by have := hb.size; omega) (by omega) (by omega) (by omega) (by omega)
  have m2 := fun w' (hb : Below w1.heap.size w1 w') => small_walk v va vc w' w.heap.size 1200 40 (T.At.below hb (by omega) i2) (by have := hb.size; omega) (by omega) (by omega) (by omega) (by omega)
  obtain ⟨q1, hq1⟩ : ∃ q, t.small 1200 40 = q := ⟨_, rfl⟩
  obtain ⟨q2, hq2⟩ : ∃ q, v.small 1200 40 = q := ⟨_, rfl⟩
  rw [hq1] at m1 hs
  rw [hq2] at m2 hs
  have E1 := Lib.hid D1
  have HB1 := Lib.hid hb1
  unfold T.val at m1 m2 ⊢
  obtain ⟨x0, x1, x2, x3, x4⟩ := blk5cc D0
  clear hq1 hq2 D0 D1 ht hv i1 i2 hb1
  rcases hs with hs | ⟨hs1, hs2⟩ | ⟨hs1, hs2, hpl⟩
  · go_enter Try.func8, Try.ntmps8
    go_upto_region 1 with (fail)
    rw [← hw1]
    clear hw1
    go_wp2_with (first
      | (go_at_call 15; refine (m1 _ (Below.refl _ _)).mono ?_; clear m1; rintro e w2 ⟨rfl, hb2⟩; have G1 := (hb2.block _ (by rw [z1]; omega)).trans E1.out; clear x0 x1 x2 x3 x4; obtain ⟨x0, x1, x2, x3, x4⟩ := blk5cc G1; clear G1)
      | (go_at_call 14; refine (awake_walk _).mono ?_; rintro e w3 ⟨rfl, hb3⟩))
    go_ret
    exact ⟨rfl, HB1.out.trans ((hb2.trans (hb3.mono hb2.size)).mono HB1.out.size)⟩
  · go_enter Try.func8, Try.ntmps8
    go_upto_region 1 with (fail)
    rw [← hw1]
    clear hw1
    go_wp2_with (first
      | (go_at_call 15; refine (m1 _ (Below.refl _ _)).mono ?_; clear m1; rintro e w2 ⟨rfl, hb2⟩; have G1 := (hb2.block _ (by rw [z1]; omega)).trans E1.out; clear x0 x1 x2 x3 x4; obtain ⟨x0, x1, x2, x3, x4⟩ := blk5cc G1; clear G1)
      | (go_at_call 15; refine (m2 _ hb2).mono ?_; clear m2; rintro e w3 ⟨rfl, hb3⟩; have hb13 := hb2.trans (hb3.mono hb2.size))
      | (go_at_call 14; refine (awake_walk _).mono ?_; rintro e w4 ⟨rfl, hb4⟩))
    go_ret
    exact ⟨rfl, HB1.out.trans ((hb13.trans (hb4.mono hb13.size)).mono HB1.out.size)⟩
  · have hpl' : (600 : Int) < (p.length : Int) := by omega
    go_enter Try.func8, Try.ntmps8
    go_upto_region 1 with (fail)
    rw [← hw1]
    clear hw1
    go_wp2_with (first
      | (go_at_call 15; refine (m1 _ (Below.refl _ _)).mono ?_; clear m1; rintro e w2 ⟨rfl, hb2⟩; have G1 := (hb2.block _ (by rw [z1]; omega)).trans E1.out; clear x0 x1 x2 x3 x4; obtain ⟨x0, x1, x2, x3, x4⟩ := blk5cc G1; clear G1)
      | (go_at_call 15; refine (m2 _ hb2).mono ?_; clear m2; rintro e w3 ⟨rfl, hb3⟩; have hb13 := hb2.trans (hb3.mono hb2.size))
      | (go_at_call 14; refine (awake_walk _).mono ?_; rintro e w4 ⟨rfl, hb4⟩))
    go_ret
    exact ⟨rfl, HB1.out.trans ((hb13.trans (hb4.mono hb13.size)).mono HB1.out.size)⟩

theorem places_law (w : World) (t : T) (ta : Option Addr) (tc : Nat) (ht : T.At w w.heap.size t ta tc) (hwt : t.wf) (v : T) (va : Option Addr) (vc : Nat) (hv : T.At w w.heap.size v va vc) (hwv : v.wf) (p : List Int) (pa : Option Addr) (pc : Nat) (hp : Ints w (· < w.heap.size) p pa pc)
    (_ : ∀ x ∈ p, -9223372036854775808 ≤ x ∧ x ≤ 9223372036854775807) (_ : p.length ≤ 17592186043904) :
    Calls Try.prog 8 #[t.val ta tc, v.val va vc, .slice pa p.length pc] w fun e w' => e = .returned (.bool true) ∧ Below w.heap.size w w' := by
  by_cases hs1 : t.small 1200 40 < 0
  · exact places_out w t ta tc v va vc p pa pc ht hv (.inl hs1)
  by_cases hs2 : v.small 1200 40 < 0
  · exact places_out w t ta tc v va vc p pa pc ht hv (.inr (.inl ⟨hs1, hs2⟩))
  by_cases hpl : 600 < p.length
  · exact places_out w t ta tc v va vc p pa pc ht hv (.inr (.inr ⟨hs1, hs2, hpl⟩))
  exact places_main w t ta tc v va vc p pa pc ht hwt hv hwv hp hs1 hs2 (by omega)

end Go.Proofs.Ytapfmfihhpafcaa
