/-
  The law ValueRenames.
-/
import Derived.Test.YtapfmfihhpafcaaR5
import Derived.Test.YtapfmfihhpafcaaR6
import Derived.Test.YtapfmfihhpafcaaE1
import Derived.Test.YtapfmfihhpafcaaD6
import Derived.Test.YtapfmfihhpafcaaD7
import Derived.Test.YtapfmfihhpafcaaC3
import Derived.StillTailTactics
import Derived.RegionTactic
namespace Go.Proofs.Ytapfmfihhpafcaa
open Go.RowKit
set_option linter.unusedVariables false

theorem In_at7 {w : World} {B : Nat} {m : Bool} {t : T} {a : Option Addr} {c : Nat} (h : T.In w (· < B) m t a c) : T.At w B t a c := T.In.keep (fun _ _ => rfl) (fun _ h => h) (fun h => by cases h) h


set_option maxRecDepth 100000 in
set_option maxHeartbeats 2000000 in
theorem renames_out (w : World) (t : T) (a : Option Addr) (c : Nat) (fr : List Int) (fa : Option Addr) (fc : Nat) (nx : List Int) (na : Option Addr) (nc : Nat) (h : T.At w w.heap.size t a c) (hw : t.wf) (hs : t.small 1200 40 < 0 ∨ (¬ t.small 1200 40 < 0 ∧ 600 < fr.length) ∨ (¬ t.small 1200 40 < 0 ∧ ¬ 600 < fr.length ∧ 600 < nx.length)) :
    Calls Try.prog 10 #[t.val a c, .slice fa fr.length fc, .slice na nx.length nc] w fun e w' => e = .returned (.bool true) ∧ Below w.heap.size w w' := by
  obtain ⟨w1, hw1⟩ : ∃ w1, w1 = w.alloc (.cells #[.int .u8 t.k, .int .i64 t.n, .string t.s, .slice a t.l.length c, .int .i64 t.r] 26 (0, 0)) := ⟨_, rfl⟩
  have hb1 : Below w.heap.size w w1 := by rw [hw1]; exact (Below.refl _ _).alloc (Nat.le_refl _) _
  have D0 : w1.heap[w.heap.size]? = some (.cells #[.int .u8 t.k, .int .i64 t.n, .string t.s, .slice a t.l.length c, .int .i64 t.r] 26 (0, 0)) := by rw [hw1]; exact blk_new _ _
  have z1 : w.heap.size < w1.heap.size := (Array.getElem?_eq_some_iff.1 D0).1
  have hi := T.At.below hb1 (Nat.le_refl _) h
  have m0 := small_walk t a c w1 w.heap.size 1200 40 hi (by omega) (by omega) (by omega) (by omega) (by omega)
  have m1 := fun w' (hb : Below w1.heap.size w1 w') => lent_walk t a c w' w.heap.size (T.At.below hb (by omega) hi) (by have := hb.size; omega) hw
  obtain ⟨q, hq⟩ : ∃ q, t.small 1200 40 = q := ⟨_, rfl⟩
  rw [hq] at m0 hs
  have tval : ∀ (u : T) p q, u.val p q = .agg #[.int .u8 u.k, .int .i64 u.n, .string u.s, .slice p u.l.length q, .int .i64 u.r] := fun _ _ _ => rfl
  rw [tval]
  unfold T.val at m0 m1
  obtain ⟨x0, x1, x2, x3, x4, _⟩ := blk5 D0
  have E0 := Lib.hid D0
  clear D0 h hq tval hi m1
  rcases hs with hs | ⟨hs, hl⟩ | ⟨hs, hl, hl2⟩
  · go_enter Try.func10, Try.ntmps10
    go_upto_region 1 with fail
    rw [← hw1]
    clear hw1
    go_wp2_with (first
      | (go_at_call 15; refine m0.mono ?_; clear m0; rintro e wA ⟨rfl, hbA⟩)
      | (go_at_call 14; refine (awake_walk _).mono ?_; rintro e wF ⟨rfl, hbF⟩))
    go_ret
    exact ⟨rfl, hb1.trans ((hbA.trans (hbF.mono hbA.size)).mono hb1.size)⟩
  · have g1 : (600 : Int) < (fr.length : Int) := by omega
    have g2 : decide ((600 : Int) < (fr.length : Int)) = true := by simp; omega
    have g3 : decide (600 < fr.length) = true := by simpa using hl
    go_enter Try.func10, Try.ntmps10
    go_upto_region 1 with fail
    rw [← hw1]
    clear hw1
    go_wp2_with (first
      | (go_at_call 15; refine m0.mono ?_; clear m0; rintro e wA ⟨rfl, hbA⟩)
      | (go_at_call 14; refine (awake_walk _).mono ?_; rintro e wF ⟨rfl, hbF⟩))
    go_ret
    exact ⟨rfl, hb1.trans ((hbA.trans (hbF.mono hbA.size)).mono hb1.size)⟩
  · have g1 : ¬ (600 : Int) < (fr.length : Int) := by omega
    have g2 : decide ((600 : Int) < (fr.length : Int)) = false := by simp; omega
    have g3 : decide (600 < fr.length) = false := by simpa using hl
    have g4 : (600 : Int) < (nx.length : Int) := by omega
    have g5 : decide ((600 : Int) < (nx.length : Int)) = true := by simp; omega
    have g6 : decide (600 < nx.length) = true := by simpa using hl2
    go_enter Try.func10, Try.ntmps10
    go_upto_region 1 with fail
    rw [← hw1]
    clear hw1
    go_wp2_with (first
      | (go_at_call 15; refine m0.mono ?_; clear m0; rintro e wA ⟨rfl, hbA⟩)
      | (go_at_call 14; refine (awake_walk _).mono ?_; rintro e wF ⟨rfl, hbF⟩))
    go_ret
    exact ⟨rfl, hb1.trans ((hbA.trans (hbF.mono hbA.size)).mono hb1.size)⟩

set_option maxRecDepth 100000 in
set_option maxHeartbeats 4000000 in
theorem renames_main (w : World) (t : T) (a : Option Addr) (c : Nat) (fr : List Int) (fa : Option Addr) (fc : Nat) (nx : List Int) (na : Option Addr) (nc : Nat) (h : T.At w w.heap.size t a c) (hw : t.wf) (hI1 : Ints w (· < w.heap.size) fr fa fc) (hI2 : Ints w (· < w.heap.size) nx na nc) (hfr : ∀ x ∈ fr, -9223372036854775808 ≤ x ∧ x ≤ 9223372036854775807) (hnr : ∀ x ∈ nx, -9223372036854775808 ≤ x ∧ x ≤ 9223372036854775807)
    (hs : ¬ t.small 1200 40 < 0) (hfl : fr.length ≤ 600) (hnl : nx.length ≤ 600) :
    Calls Try.prog 10 #[t.val a c, .slice fa fr.length fc, .slice na nx.length nc] w fun e w' => e = .returned (.bool true) ∧ Below w.heap.size w w' := by
  obtain ⟨x, _, hxw, hxm, hy1, hy2⟩ := rename_same t fr nx hw (by omega) (by omega) hfr hnr
  obtain ⟨w1, hw1⟩ : ∃ w1, w1 = w.alloc (.cells #[.int .u8 t.k, .int .i64 t.n, .string t.s, .slice a t.l.length c, .int .i64 t.r] 26 (0, 0)) := ⟨_, rfl⟩
  have hb1 : Below w.heap.size w w1 := by rw [hw1]; exact (Below.refl _ _).alloc (Nat.le_refl _) _
  have D0 : w1.heap[w.heap.size]? = some (.cells #[.int .u8 t.k, .int .i64 t.n, .string t.s, .slice a t.l.length c, .int .i64 t.r] 26 (0, 0)) := by rw [hw1]; exact blk_new _ _
  have z1 : w.heap.size < w1.heap.size := (Array.getElem?_eq_some_iff.1 D0).1
  have hi := T.At.below hb1 (Nat.le_refl _) h
  have m0 := small_walk t a c w1 w.heap.size 1200 40 hi (by omega) (by omega) (by omega) (by omega) (by omega)
  have m1 := fun w' (hb : Below w1.heap.size w1 w') => lent_walk t a c w' w.heap.size (T.At.below hb (by omega) hi) (by have := hb.size; omega) hw
  obtain ⟨q, hq⟩ : ∃ q, t.small 1200 40 = q := ⟨_, rfl⟩
  rw [hq] at m0 hs
  have tval : ∀ (u : T) p q, u.val p q = .agg #[.int .u8 u.k, .int .i64 u.n, .string u.s, .slice p u.l.length q, .int .i64 u.r] := fun _ _ _ => rfl
  rw [tval]
  unfold T.val at m0 m1
  obtain ⟨x0, x1, x2, x3, x4, _⟩ := blk5 D0
  have E0 := Lib.hid D0
  have j1 := Ints.below hb1 (Nat.le_refl _) hI1
  have j2 := Ints.below hb1 (Nat.le_refl _) hI2
  have g1 : ¬ (600 : Int) < (fr.length : Int) := by omega
  have g4 : ¬ (600 : Int) < (nx.length : Int) := by omega
  obtain ⟨u, hu⟩ : ∃ u, x.1 = u := ⟨_, rfl⟩
  obtain ⟨code, hc⟩ : ∃ code, x.2 = code := ⟨_, rfl⟩
  have HJ1 := Lib.hid j1
  have HJ2 := Lib.hid j2
  unfold GotR at hy1
  unfold GotRI at hy2
  rw [hu] at hxw hxm
  simp only [hu, hc, tval] at hy1 hy2
  clear D0 h hq tval j1 j2 hI1 hI2 hu hc hfr hnr
  go_enter Try.func10, Try.ntmps10
  go_upto_region 1 with fail
  rw [← hw1]
  clear hw1
  go_upto_region 4 with (first
    | (go_at_call 15; refine m0.mono ?_; clear m0; rintro e wA ⟨rfl, hbA⟩; have G0 := (hbA.block w.heap.size z1).trans E0.out; clear x0 x1 x2 x3 x4; obtain ⟨x0, x1, x2, x3, x4, _⟩ := blk5 G0; clear G0)
    | (go_at_call 16; refine (m1 _ hbA).mono ?_; clear m1; rintro e wL ⟨aL, cL, he, hiL, hbL⟩; unfold T.val at he; subst he))
  have zA := hbA.size
  have zL := hbL.size
  obtain ⟨w3, hw3⟩ : ∃ w3, w3 = wL.alloc (.cells #[.int .u8 t.k, .int .i64 t.n, .string t.s, .slice aL t.l.length cL, .int .i64 t.r] 26) := ⟨_, rfl⟩
  rw [← hw3]
  have O3 : w3.heap[wL.heap.size]? = some (.cells #[.int .u8 t.k, .int .i64 t.n, .string t.s, .slice aL t.l.length cL, .int .i64 t.r] 26 (0, 0)) := by rw [hw3]; exact blk_new _ _
  have hbw3 : Below wL.heap.size wL w3 := by rw [hw3]; exact (Below.refl _ _).alloc (Nat.le_refl _) _
  have zw3 := hbw3.size
  have lw3 : wL.heap.size < w3.heap.size := (Array.getElem?_eq_some_iff.1 O3).1
  clear hw3
  have hb13 : Below w1.heap.size w1 w3 := hbA.trans ((hbL.mono zA).trans (hbw3.mono (by omega)))
  have io : T.In w3 (· < wL.heap.size) true t aL cL := T.In.keep (fun b hb => hbw3.block b hb.2) (fun b hb => hb.2) id hiL
  have V3 := Lib.hid ((hb13.block w.heap.size z1).trans E0.out)
  have iv := Lib.hid (T.At.below hb13 (by omega) hi : T.At w3 w.heap.size t a c)
  have k1 := Ints.below hb13 (by omega) HJ1.out
  have k2 := Ints.below hb13 (by omega) HJ2.out
  have hb3 := Lib.hid (hb1.trans (hb13.mono hb1.size) : Below w.heap.size w w3)
  have IO := Lib.hid io
  have O3 := Lib.hid O3
  have K1 := Lib.hid k1
  have zw3 : w.heap.size < w3.heap.size := by omega
  obtain ⟨j0, hji, hjz0, hjz1, hjz2⟩ := info_parts info24
  clear hi hiL hbL hbA hbw3 hb13 io E0 hb1 g1 g4 x0 x1 x2 x3 x4 HJ1 HJ2
  go_upto_region 5 with (first
    | (at_builtin; refine wpList_append_refs _ rfl _ _ rfl (by rfl) _ fr fa fc (by rfl) k1 (by omega) ?_; rintro vA wE hownA hbE; have zE := hbE.size)
    | (at_builtin; refine wpList_append_lies _ rfl _ _ 61 rfl w3.heap.size 24 j0 _ 1 8 Try.underlying61 hji hjz0 hjz1 hjz2 rfl (by decide) vA fr.length _ (by rfl) (hownA.alloc _) ⟨wE.heap.size, 0, none⟩ 1 1 [.int .i64 77] (by rfl) rfl (World.news_of_block (cs := #[.int .i64 77]) (t := 24) (fr := (0, 0)) (blk_new _ _)) (by simp [Value.oneCell']) (by omega) (by unfold maxLen; omega) (by omega) (by simp; omega) _ rfl ?_; intro g cap wB hownB hgrowB hatB hltB))
  have hcB : Below w3.heap.size w3 wB := Below.grown (hbE.alloc (by omega) _) hgrowB (by simp; omega) (fun k hk => (hownA.lt k hk).1)
  have zB := hcB.size
  have hgB := (hownB.lt g rfl)
  have k3 := Ints.below hcB (by omega) k2
  have K2 := Lib.hid k2
  clear k1 k2 hbE hownA hgrowB hatB
  go_upto_region 6 with (first
    | (at_builtin; refine wpList_append_refs _ rfl _ _ rfl (by rfl) _ nx na nc (by rfl) k3 (by omega) ?_; rintro vC wF hownC hbF; have zF := hbF.size)
    | (at_builtin; refine wpList_append_lies _ rfl _ _ 61 rfl wB.heap.size 24 j0 _ 1 8 Try.underlying61 hji hjz0 hjz1 hjz2 rfl (by decide) vC nx.length _ (by rfl) (hownC.alloc _) ⟨wF.heap.size, 0, none⟩ 1 1 [.int .i64 78] (by rfl) rfl (World.news_of_block (cs := #[.int .i64 78]) (t := 24) (fr := (0, 0)) (blk_new _ _)) (by simp [Value.oneCell']) (by omega) (by unfold maxLen; omega) (by omega) (by simp; omega) _ rfl ?_; intro g2 cap2 wD hownD hgrowD hatD hltD))
  have hcD : Below wB.heap.size wB wD := Below.grown (hbF.alloc (by omega) _) hgrowD (by simp; omega) (fun k hk => (hownC.lt k hk).1)
  have zD := hcD.size
  have h3D : Below w3.heap.size w3 wD := hcB.trans (hcD.mono zB)
  have hgD := (hownD.lt g2 rfl)
  have hownB' := ownsRow_of_block'' (w' := wD) hownB (fun k hk => hcD.block k (hownB.lt k hk).2)
  obtain ⟨iP, hcap, e77⟩ := refs_of_head 77 hownB'
  obtain ⟨iQ, hcap2, e78⟩ := refs_of_head 78 hownD
  have iP' : Ints wD (· < wD.heap.size) fr (some ⟨g, 0, none⟩) cap := Ints.keep (fun _ _ => rfl) (fun b hb => by omega) iP
  have iQ' : Ints wD (· < wD.heap.size) nx (some ⟨g2, 0, none⟩) cap2 := Ints.keep (fun _ _ => rfl) (fun b hb => by omega) iQ
  have A3 := (h3D.block wL.heap.size lw3).trans O3.out
  have A0 := (h3D.block w.heap.size zw3).trans V3.out
  have J4 : T.In wD (· < wL.heap.size) true t aL cL := T.In.keep (fun b hb => h3D.block b (by omega)) (fun _ h => h) id IO.out
  have iT := T.At.below h3D (by omega) iv.out
  have iF := Ints.below h3D (by omega) K1.out
  have iN := Ints.below h3D (by omega) K2.out
  have n1 : ∀ W (hb : Below wD.heap.size wD W), Calls Try.prog 48 #[.agg #[.int .u8 t.k, .int .i64 t.n, .string t.s, .slice aL t.l.length cL, .int .i64 t.r], .slice (some ⟨g, 0, none⟩) fr.length cap, .slice (some ⟨g2, 0, none⟩) nx.length cap2] W _ := fun W hb =>
    hy1 aL cL W wD.heap.size (some ⟨g, 0, none⟩) (some ⟨g2, 0, none⟩) cap cap2 (T.At.mono (by omega) (T.At.below hb (by omega) (In_at7 J4))) (Ints.below hb (Nat.le_refl _) iP') (Ints.below hb (Nat.le_refl _) iQ') hb.size
  have n2 : ∀ W (hb : Below wD.heap.size wD W), Calls Try.prog 49 #[.agg #[.int .u8 t.k, .int .i64 t.n, .string t.s, .slice a t.l.length c, .int .i64 t.r], .slice fa fr.length fc, .slice na nx.length nc] W _ := fun W hb =>
    hy2 a c W w.heap.size fa na fc nc (T.At.below hb (by omega) iT) (Ints.below hb (by omega) iF) (Ints.below hb (by omega) iN) (by have := hb.size; omega)
  have n5 := fun W (hb : Below wD.heap.size wD W) => kept_walk t aL cL a c W wL.heap.size w.heap.size (T.In.keep (fun b hk => hb.block b (by omega)) (fun _ h => h) id J4) (T.At.below hb (by omega) iT) (by have := hb.size; omega) (by have := hb.size; omega) hw
  unfold T.val at n5
  have HK7 := Lib.hid (fun W (hb : Below wD.heap.size wD W) => blk5cc ((hb.block wL.heap.size (by omega)).trans A3))
  have HK0 := Lib.hid (fun W (hb : Below wD.heap.size wD W) => blk5cc ((hb.block w.heap.size (by omega)).trans A0))
  have HCP : Hid (∀ W (hb : Below wD.heap.size wD W) i (h : i < fr.length), W.cell? ⟨g, i, none⟩ = some (.int .i64 fr[i])) := Lib.hid (fun W hb i h => by
    rw [hb.cell (by show g < _; omega)]
    obtain ⟨b, o, e, _, hx⟩ := iP'.elem i h
    injection e with e
    injection e with e1 e2
    subst e1 e2
    rw [Nat.zero_add] at hx
    exact hx)
  have HCQ : Hid (∀ W (hb : Below wD.heap.size wD W) i (h : i < nx.length), W.cell? ⟨g2, i, none⟩ = some (.int .i64 nx[i])) := Lib.hid (fun W hb i h => by
    rw [hb.cell (by show g2 < _; omega)]
    obtain ⟨b, o, e, _, hx⟩ := iQ'.elem i h
    injection e with e
    injection e with e1 e2
    subst e1 e2
    rw [Nat.zero_add] at hx
    exact hx)
  have HFP : Hid (∀ W (hb : Below wD.heap.size wD W), Ints W (· < w.heap.size) fr fa fc) := Lib.hid (fun W hb => Ints.below hb (by omega) iF)
  have HNP : Hid (∀ W (hb : Below wD.heap.size wD W), Ints W (· < w.heap.size) nx na nc) := Lib.hid (fun W hb => Ints.below hb (by omega) iN)
  have H77 : Hid (∀ W (hb : Below wD.heap.size wD W), W.cell? ⟨g, fr.length, none⟩ = some (.int .i64 77)) := Lib.hid (fun W hb => by rw [hb.cell (by show g < _; omega)]; exact e77)
  have H78 : Hid (∀ W (hb : Below wD.heap.size wD W), W.cell? ⟨g2, nx.length, none⟩ = some (.int .i64 78)) := Lib.hid (fun W hb => by rw [hb.cell (by show g2 < _; omega)]; exact e78)
  have HWD := Lib.hid (hb3.out.trans (h3D.mono hb3.out.size) : Below w.heap.size w wD)
  have zwD := HWD.out.size
  have K0 := Lib.hid (HK7.out wD.drew ((Below.refl _ _).drew))
  have i1 : (fr.length : Int) ≤ (cap : Int) := by omega
  have i2 : (nx.length : Int) ≤ (cap2 : Int) := by omega
  have hcap0 : ¬ cap = 0 := by omega
  have hcap20 : ¬ cap2 = 0 := by omega
  have HXM := Lib.hid hxm
  have HXW := Lib.hid hxw
  clear hcB hcD h3D hbF hownB hownB' hownC hownD hgrowD hatD iP iQ iP' iQ' e77 e78 A3 A0 J4 iT iF iN k3 K1 K2 V3 O3 IO iv hy1 hy2 hxm hxw hb3
  go_cut [10, 11] (fun v10 v11 wx => ∃ (b10 : Nat) (a10 : Option Addr) (c10 lo hi : Nat), v10 = .pointer (some ⟨b10, 0, none⟩) ∧ v11 = .int .i64 code ∧ Below wD.heap.size wD wx ∧ wD.heap.size ≤ b10 ∧ b10 < wx.heap.size ∧
    wx.heap[b10]? = some (.cells #[.int .u8 u.k, .int .i64 u.n, .string u.s, .slice a10 u.l.length c10, .int .i64 u.r] 26 (0, 0)) ∧ T.Mut wx (fun b => lo ≤ b ∧ b < hi) u a10 c10 ∧ wD.heap.size ≤ lo ∧ hi ≤ wx.heap.size ∧ (b10 < lo ∨ hi ≤ b10))
  case first =>
    go_region_held3 (fun W => W.cell? ⟨wL.heap.size, 0, none⟩ = some (.int .u8 t.k) ∧ W.cell? ⟨wL.heap.size, 1, none⟩ = some (.int .i64 t.n) ∧ W.cell? ⟨wL.heap.size, 2, none⟩ = some (.string t.s) ∧ W.cell? ⟨wL.heap.size, 3, none⟩ = some (.slice aL t.l.length cL) ∧ W.cell? ⟨wL.heap.size, 4, none⟩ = some (.int .i64 t.r))
      (first | with_reducible exact K0.out | (with_reducible refine HK7.out _ ?_; (repeat (first | with_reducible assumption | with_reducible exact Below.refl _ _ | with_reducible refine Below.drewI ?_ | with_reducible refine Below.allocI ?_ _ | (with_reducible refine Below.setI ?_ ?_ _; rotate_left; (first | omega | (simp only [World.size_alloc]; omega))))); done))
      (first
        | (go_simp; go_at_call 48; refine (n1 _ (by (repeat (first | with_reducible assumption | with_reducible exact Below.refl _ _ | with_reducible refine Below.drewI ?_ | with_reducible refine Below.allocI ?_ _ | (with_reducible refine Below.setI ?_ ?_ _; rotate_left; (first | omega | (simp only [World.size_alloc]; omega))))))).mono ?_; rintro e w6 ⟨⟨a6, c6, rfl, hm6⟩, hb6⟩; have hbD6 : Below wD.heap.size wD w6 := Below.callI (by (repeat (first | with_reducible assumption | with_reducible exact Below.refl _ _ | with_reducible refine Below.drewI ?_ | with_reducible refine Below.allocI ?_ _ | (with_reducible refine Below.setI ?_ ?_ _; rotate_left; (first | omega | (simp only [World.size_alloc]; omega)))))) hb6; have hbc6 : Below wD.heap.size wD w6 := Below.callI (by (repeat (first | with_reducible assumption | with_reducible exact Below.refl _ _ | with_reducible refine Below.drewI ?_ | with_reducible refine Below.allocI ?_ _ | (with_reducible refine Below.setI ?_ ?_ _; rotate_left; (first | omega | (simp only [World.size_alloc]; omega)))))) hb6; have zs6 := hbc6.size; (try (have Y1 : w6.heap[wD.heap.size]? = _ := zbox (below_undrew hb6); have N1 := zfac Y1; obtain ⟨g0, g1, g2', g3, g4, g5, g6, g7, g8, g9, h0, h1, h2⟩ := N1))))
    · go_wp2_with fail
      go_meet
      case rel =>
        refine ⟨w6.heap.size, a6, c6, wD.heap.size, w6.heap.size, rfl, rfl, Below.allocI hbc6 _, zs6, by simp, blk_new _ _, ?_, Nat.le_refl _, by simp, .inr (Nat.le_refl _)⟩
        exact T.Mut.keep (w := w6) (fun b hb => Below.heap_alloc _ _ _ hb.2) (fun b hb => hb) hm6
    · have hP := put5 (v0 := .int .u8 u.k) (v1 := .int .i64 u.n) (v2 := .string u.s) (v3 := .slice a6 u.l.length c6) (v4 := .int .i64 u.r) Y1
      have zP := hP.size
      have hlo : (wD.alloc (.cells #[.int .u8 0, .int .i64 0, .string ⟨#[]⟩, .slice none 0 0, .int .i64 0] 26)).drew.heap.size = wD.heap.size + 1 := by show (wD.alloc _).heap.size = _; rw [World.size_alloc]
      go_wp2_with fail
      go_meet
      case rel =>
        refine ⟨wD.heap.size, a6, c6, wD.heap.size + 1, w6.heap.size, rfl, rfl, hbc6.trans (hP.below (Nat.le_refl _)), Nat.le_refl _, by rw [zP]; exact h2, hP.at_, ?_, by omega, by rw [zP]; exact Nat.le_refl _, .inl (Nat.lt_succ_self _)⟩
        refine T.Mut.keep (w := w6) (fun b hb => hP.other b (by have := hb.1; rw [hlo] at this; omega)) (fun b hb => ⟨by have := hb.1; rw [hlo] at this; exact this, hb.2⟩) hm6
  case rest =>
    obtain ⟨b10, a10, c10, lo10, hi10, rfl, rfl, hb5, l10, z10, B10, M10, lo10', hi10', d10⟩ := hcut
    obtain ⟨w5, rfl⟩ : ∃ w5 : World, w5 = wc := ⟨_, rfl⟩
    have K5 := Lib.hid (HK7.out w5.drew hb5.drew)
    have z5 := hb5.size
    have HB10 := Lib.hid B10
    have HM10 := Lib.hid M10
    clear K0 B10 M10
    go_upto_region 7 with fail
    go_cut [12, 13] (fun v10 v11 wx => ∃ (b10 : Nat) (a10 : Option Addr) (c10 lo hi : Nat), v10 = .pointer (some ⟨b10, 0, none⟩) ∧ v11 = .int .i64 code ∧ Below w5.heap.size w5 wx ∧ w5.heap.size ≤ b10 ∧ b10 < wx.heap.size ∧
      wx.heap[b10]? = some (.cells #[.int .u8 u.k, .int .i64 u.n, .string u.s, .slice a10 u.l.length c10, .int .i64 u.r] 26 (0, 0)) ∧ T.Mut wx (fun b => lo ≤ b ∧ b < hi) u a10 c10 ∧ w5.heap.size ≤ lo ∧ hi ≤ wx.heap.size ∧ (b10 < lo ∨ hi ≤ b10))
    case first =>
      go_region_held3 (fun W => W.cell? ⟨wL.heap.size, 0, none⟩ = some (.int .u8 t.k) ∧ W.cell? ⟨wL.heap.size, 1, none⟩ = some (.int .i64 t.n) ∧ W.cell? ⟨wL.heap.size, 2, none⟩ = some (.string t.s) ∧ W.cell? ⟨wL.heap.size, 3, none⟩ = some (.slice aL t.l.length cL) ∧ W.cell? ⟨wL.heap.size, 4, none⟩ = some (.int .i64 t.r))
        (first | with_reducible exact K5.out | (with_reducible refine HK7.out _ ?_; (repeat (first | with_reducible assumption | with_reducible exact Below.refl _ _ | with_reducible refine Below.drewI ?_ | with_reducible refine Below.allocI ?_ _ | (with_reducible refine Below.setI ?_ ?_ _; rotate_left; (first | omega | (simp only [World.size_alloc]; omega))))); done))
        (first
          | (go_simp; go_at_call 48; refine (n1 _ (by (repeat (first | with_reducible assumption | with_reducible exact Below.refl _ _ | with_reducible refine Below.drewI ?_ | with_reducible refine Below.allocI ?_ _ | (with_reducible refine Below.setI ?_ ?_ _; rotate_left; (first | omega | (simp only [World.size_alloc]; omega))))))).mono ?_; rintro e w6 ⟨⟨a6, c6, rfl, hm6⟩, hb6⟩; have hbD6 : Below wD.heap.size wD w6 := Below.callI (by (repeat (first | with_reducible assumption | with_reducible exact Below.refl _ _ | with_reducible refine Below.drewI ?_ | with_reducible refine Below.allocI ?_ _ | (with_reducible refine Below.setI ?_ ?_ _; rotate_left; (first | omega | (simp only [World.size_alloc]; omega)))))) hb6; have hbc6 : Below w5.heap.size w5 w6 := Below.callI (by (repeat (first | with_reducible assumption | with_reducible exact Below.refl _ _ | with_reducible refine Below.drewI ?_ | with_reducible refine Below.allocI ?_ _ | (with_reducible refine Below.setI ?_ ?_ _; rotate_left; (first | omega | (simp only [World.size_alloc]; omega)))))) hb6; have zs6 := hbc6.size; (try (have Y1 : w6.heap[w5.heap.size]? = _ := zbox (below_undrew hb6); have N1 := zfac Y1; obtain ⟨g0, g1, g2', g3, g4, g5, g6, g7, g8, g9, h0, h1, h2⟩ := N1))))
      · go_wp2_with fail
        go_meet
        case rel =>
          refine ⟨w6.heap.size, a6, c6, w5.heap.size, w6.heap.size, rfl, rfl, Below.allocI hbc6 _, zs6, by simp, blk_new _ _, ?_, Nat.le_refl _, by simp, .inr (Nat.le_refl _)⟩
          exact T.Mut.keep (w := w6) (fun b hb => Below.heap_alloc _ _ _ hb.2) (fun b hb => hb) hm6
      · have hP := put5 (v0 := .int .u8 u.k) (v1 := .int .i64 u.n) (v2 := .string u.s) (v3 := .slice a6 u.l.length c6) (v4 := .int .i64 u.r) Y1
        have zP := hP.size
        have hlo : (w5.alloc (.cells #[.int .u8 0, .int .i64 0, .string ⟨#[]⟩, .slice none 0 0, .int .i64 0] 26)).drew.heap.size = w5.heap.size + 1 := by show (w5.alloc _).heap.size = _; rw [World.size_alloc]
        go_wp2_with fail
        go_meet
        case rel =>
          refine ⟨w5.heap.size, a6, c6, w5.heap.size + 1, w6.heap.size, rfl, rfl, hbc6.trans (hP.below (Nat.le_refl _)), Nat.le_refl _, by rw [zP]; exact h2, hP.at_, ?_, by omega, by rw [zP]; exact Nat.le_refl _, .inl (Nat.lt_succ_self _)⟩
          refine T.Mut.keep (w := w6) (fun b hb => hP.other b (by have := hb.1; rw [hlo] at this; omega)) (fun b hb => ⟨by have := hb.1; rw [hlo] at this; exact this, hb.2⟩) hm6
    case rest =>
      obtain ⟨b12, a12, c12, lo12, hi12, rfl, rfl, hb56, l12, z12, B12, M12, lo12', hi12', d12⟩ := hcut
      obtain ⟨w6, rfl⟩ : ∃ w6 : World, w6 = wc := ⟨_, rfl⟩
      have hbD6 : Below wD.heap.size wD w6 := Below.callI hb5 hb56
      have z6 := hb56.size
      have A10 := (hb56.block b10 z10).trans HB10.out
      have N10 : T.Mut w6 (fun b => lo10 ≤ b ∧ b < hi10) u a10 c10 := T.Mut.keep (fun b hb => hb56.block b (by omega)) (fun _ h => h) HM10.out
      obtain ⟨x0, x1, x2, x3, x4⟩ := HK0.out w6 hbD6
      have HA10 := Lib.hid A10
      have HA12 := Lib.hid B12
      have HN10 := Lib.hid N10
      have HN12 := Lib.hid M12
      clear K5 HB10 HM10 A10 B12 M12 N10 hb5 hb56 n1
      go_upto_region 9 with (go_at_call 49; refine (n2 _ hbD6).mono ?_; clear n2; rintro e w7 ⟨⟨a14, c14, rfl, hi14⟩, hb7⟩)
      have z7 := hb7.size
      obtain ⟨w8, hw8⟩ : ∃ w8, w8 = w7.alloc (.cells #[.int .u8 u.k, .int .i64 u.n, .string u.s, .slice a14 u.l.length c14, .int .i64 u.r] 26) := ⟨_, rfl⟩
      rw [← hw8]
      have B14 : w8.heap[w7.heap.size]? = some (.cells #[.int .u8 u.k, .int .i64 u.n, .string u.s, .slice a14 u.l.length c14, .int .i64 u.r] 26 (0, 0)) := by rw [hw8]; exact blk_new _ _
      have hbw8 : Below w7.heap.size w7 w8 := by rw [hw8]; exact (Below.refl _ _).alloc (Nat.le_refl _) _
      have zw8 := hbw8.size
      have lw8 : w7.heap.size < w8.heap.size := (Array.getElem?_eq_some_iff.1 B14).1
      clear hw8
      have hb68 : Below w6.heap.size w6 w8 := hb7.trans (hbw8.mono z7)
      have hbD8 : Below wD.heap.size wD w8 := Below.callI hbD6 hb68
      have i14 : T.In w8 (fun b => w6.heap.size ≤ b ∧ b < w7.heap.size) false u a14 c14 := T.In.keep (fun b hb => hbw8.block b hb.2) (fun _ h => h) id hi14
      have mH := held_walk u a10 a12 a14 c10 c12 c14 w8 (fun b => lo10 ≤ b ∧ b < hi10) (fun b => (lo12 ≤ b ∧ b < hi12) ∨ (w6.heap.size ≤ b ∧ b < w7.heap.size)) HXM.out HXW.out (T.Mut.keep (fun b hb => hb68.block b (by omega)) (fun _ h => h) HN10.out) (fun b hb => by omega)
        (T.In.keep (fun b hb => hb68.block b (by omega)) (fun b hb => .inl hb) id (T.Mut.lies HN12.out)) (T.In.keep (fun _ _ => rfl) (fun b hb => .inr hb) id i14) (fun b hb => by omega)
      unfold T.val at mH
      have C10 := (hb68.block b10 (by omega)).trans HA10.out
      have C12 := (hb68.block b12 (by omega)).trans HA12.out
      clear x0 x1 x2 x3 x4
      obtain ⟨x0, x1, x2, x3, x4⟩ := blk5cc C10
      obtain ⟨y0, y1, y2, y3, y4⟩ := blk5cc C12
      obtain ⟨u0, u1, u2, u3, u4⟩ := blk5cc B14
      have HBD8 := Lib.hid hbD8
      have zD8 := hbD8.size
      have i3 : (fr.length : Int) < (fr.length : Int) + 1 := by omega
      have i4 : (nx.length : Int) < (nx.length : Int) + 1 := by omega
      clear hi14 hbw8 hb7 hb68 i14 C10 C12 B14 HA10 HA12 HN10 HN12 hbD8 hbD6
      go_upto_region 11 with (go_at_call 26; refine mH.mono ?_; clear mH; rintro e w9 ⟨rfl, hs9⟩; clear x0 x1 x2 x3 x4 y0 y1 y2 y3 y4 u0 u1 u2 u3 u4; have hbD9 : Below wD.heap.size wD w9 := (by have z9 := hs9.size; exact HBD8.out.trans ⟨hs9.os, hs9.tape, hs9.output, by omega, fun k hk => hs9.block k (by omega) (by omega)⟩); have e77 := H77.out w9 hbD9; have e78 := H78.out w9 hbD9)
      clear hs9 e77 e78
      go_wp2_with fail
      go_loopg [16] fr.length (fun gg vi wr => ∃ i : Nat, vi = .int .i64 i ∧ i + gg = fr.length ∧ Below wD.heap.size wD wr)
      case atStart => exact ⟨0, rfl, by simp, hbD9⟩
      case round =>
        obtain ⟨i, rfl, hgi, hb⟩ := hrel
        clear hbD9
        by_cases h : i < fr.length
        · have e1 := HCP.out wr hb i h
          obtain ⟨b, o, rfl, _, e2⟩ := (HFP.out wr hb).elem i h
          obtain ⟨q, hq⟩ : ∃ q, fr[i] = q := ⟨_, rfl⟩
          rw [hq] at e1 e2
          have i2 : (i : Int) < (fr.length : Int) := by omega
          have i3 : (i : Int) < (fr.length : Int) + 1 := by omega
          have HBB := Lib.hid hb
          clear hq hb n5
          go_upto_region 14 with fail
          go_quiet (fail)
          go_wp2_with fail
          go_roundg (gk - 1)
          case measure => omega
          case rel => exact ⟨i + 1, by go_num, by omega, ⟨HBB.out.os, HBB.out.tape, HBB.out.output, HBB.out.size, HBB.out.block⟩⟩
        · obtain ⟨wz, rfl⟩ : ∃ wz : World, wz = wr := ⟨_, rfl⟩
          have HB := Lib.hid hb
          clear hb
          go_wp2_with fail
          go_loopg [17] nx.length (fun gg vi wq => ∃ i : Nat, vi = .int .i64 i ∧ i + gg = nx.length ∧ Below wD.heap.size wD wq)
          case atStart => exact ⟨0, rfl, by simp, HB.out⟩
          case round =>
            obtain ⟨i, rfl, hgi, hb⟩ := hrel
            by_cases h : i < nx.length
            · have e1 := HCQ.out wr hb i h
              obtain ⟨b, o, rfl, _, e2⟩ := (HNP.out wr hb).elem i h
              obtain ⟨q, hq⟩ : ∃ q, nx[i] = q := ⟨_, rfl⟩
              rw [hq] at e1 e2
              have i2 : (i : Int) < (nx.length : Int) := by omega
              have i3 : (i : Int) < (nx.length : Int) + 1 := by omega
              have HBB := Lib.hid hb
              clear hq hb n5
              go_upto_region 19 with fail
              go_quiet (fail)
              go_wp2_with fail
              go_roundg (gk - 1)
              case measure => omega
              case rel => exact ⟨i + 1, by go_num, by omega, ⟨HBB.out.os, HBB.out.tape, HBB.out.output, HBB.out.size, HBB.out.block⟩⟩
            · obtain ⟨x0, x1, x2, x3, x4⟩ := HK7.out wr hb
              obtain ⟨y0, y1, y2, y3, y4⟩ := HK0.out wr hb
              go_wp2_with (first
                | (go_at_call 21; refine (n5 _ hb).mono ?_; clear n5; rintro e wM ⟨rfl, hbM⟩; have hbDM := Below.callI hb hbM)
                | (go_at_call 14; refine (awake_walk _).mono ?_; rintro e wG ⟨rfl, hbG⟩))
              go_ret
              exact ⟨rfl, HWD.out.trans ((Below.callI hbDM hbG).mono zwD)⟩

theorem renames_law (w : World) (t : T) (a : Option Addr) (c : Nat) (h : T.At w w.heap.size t a c) (hw : t.wf) (fr : List Int) (fa : Option Addr) (fc : Nat) (hI1 : Ints w (· < w.heap.size) fr fa fc) (hfr : ∀ x ∈ fr, -9223372036854775808 ≤ x ∧ x ≤ 9223372036854775807) (_ : fr.length ≤ 17592186043904)
    (nx : List Int) (na : Option Addr) (nc : Nat) (hI2 : Ints w (· < w.heap.size) nx na nc) (hnr : ∀ x ∈ nx, -9223372036854775808 ≤ x ∧ x ≤ 9223372036854775807) (_ : nx.length ≤ 17592186043904) :
    Calls Try.prog 10 #[t.val a c, .slice fa fr.length fc, .slice na nx.length nc] w fun e w' => e = .returned (.bool true) ∧ Below w.heap.size w w' := by
  by_cases hs : t.small 1200 40 < 0
  · exact renames_out w t a c fr fa fc nx na nc h hw (.inl hs)
  by_cases hl : 600 < fr.length
  · exact renames_out w t a c fr fa fc nx na nc h hw (.inr (.inl ⟨hs, hl⟩))
  by_cases hl2 : 600 < nx.length
  · exact renames_out w t a c fr fa fc nx na nc h hw (.inr (.inr ⟨hs, hl, hl2⟩))
  exact renames_main w t a c fr fa fc nx na nc h hw hI1 hI2 hfr hnr hs (by omega) (by omega)
end Go.Proofs.Ytapfmfihhpafcaa
