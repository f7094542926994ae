/-
  The law ValueRenamed.
-/
import Derived.Test.YtapfmfihhpafcaaS2
import Derived.Test.YtapfmfihhpafcaaM4
import Derived.Test.YtapfmfihhpafcaaE1
import Derived.Test.YtapfmfihhpafcaaG1
import Derived.Deep.DeepCutAuto
import Derived.Deep.CutBlock
import Derived.Outline
namespace Go.Proofs.Ytapfmfihhpafcaa
open Go.RowKit
set_option linter.unusedVariables false
set_option linter.unusedSimpArgs false

theorem row_ints {w : World} {base e : Nat} {v : Value} {xs : List Int} (h : w.ownsRow base e 1 v xs.length (xs.map (.int .i64))) : ∃ a c, v = .slice a xs.length c ∧ Ints w (· < w.heap.size) xs a c := by
  rcases h.2 with ⟨hv, h0⟩ | ⟨g, cap, cur, hv, hb, hg, hle, r⟩
  · exact ⟨none, 0, by rw [hv, h0], by omega, .inl (List.length_eq_zero_iff.1 h0)⟩
  · refine ⟨_, cap, hv, hle, .inr ⟨g, 0, rfl, (Array.getElem?_eq_some_iff.1 hg).1, fun j hj => ?_⟩⟩
    subst hv
    rw [Nat.zero_add, h.cellAt j (by omega), List.getElem?_map, List.getElem?_eq_getElem hj]
    rfl

theorem Ints.at_ {w : World} {ok : Nat → Prop} {l : List Int} {b o c : Nat} (h : Ints w ok l (some ⟨b, o, none⟩) c) (i : Nat) (hi : i < l.length) : w.cell? ⟨b, o + i, none⟩ = some (.int .i64 l[i]) := by
  obtain ⟨b', o', e, _, hx⟩ := h.elem i hi
  injection e with e
  injection e with e1 e2
  subst e1 e2
  exact hx
theorem Ints.mono {w : World} {B B' : Nat} {l : List Int} {a : Option Addr} {c : Nat} (hB : B ≤ B') (h : Ints w (· < B) l a c) : Ints w (· < B') l a c := Ints.keep (fun _ _ => rfl) (fun b hb => Nat.lt_of_lt_of_le hb hB) h

theorem getD_of {l : List Int} {i : Nat} (h : i < l.length) : l.getD i 0 = l[i] := by
  rw [List.getD_eq_getElem?_getD, List.getElem?_eq_getElem h, Option.getD_some]

set_option maxRecDepth 100000 in
set_option maxHeartbeats 2000000 in
theorem renamed_out (w : World) (t : T) (a : Option Addr) (c : Nat) (fr : List Int) (fa : Option Addr) (fc : Nat) (nx : List Int) (na : Option Addr) (nc : Nat) (ne : List Int) (ea : Option Addr) (ec : Nat) (h : T.At w w.heap.size t a c) (hw : t.wf) (hs : t.small 1200 40 < 0 ∨ (¬ t.small 1200 40 < 0 ∧ 600 < fr.length) ∨ (¬ t.small 1200 40 < 0 ∧ ¬ 600 < fr.length ∧ 600 < nx.length) ∨ (¬ t.small 1200 40 < 0 ∧ ¬ 600 < fr.length ∧ ¬ 600 < nx.length ∧ 600 < ne.length)) :
    Calls Try.prog 11 #[t.val a c, .slice fa fr.length fc, .slice na nx.length nc, .slice ea ne.length ec] w fun e w' => e = .returned (.bool true) ∧ Below w.heap.size w w' := by
  obtain ⟨w1, hw1⟩ : ∃ w1, w1 = w.alloc (.cells #[.int .u8 t.k, .int .i64 t.n, .string t.s, .slice a t.l.length c, .int .i64 t.r] 26 (0, 0)) := ⟨_, rfl⟩
  have hb1 : Below w.heap.size w w1 := by rw [hw1]; exact (Below.refl _ _).alloc (Nat.le_refl _) _
  have D0 : w1.heap[w.heap.size]? = some (.cells #[.int .u8 t.k, .int .i64 t.n, .string t.s, .slice a t.l.length c, .int .i64 t.r] 26 (0, 0)) := by rw [hw1]; exact blk_new _ _
  have z1 : w.heap.size < w1.heap.size := (Array.getElem?_eq_some_iff.1 D0).1
  have hi := T.At.below hb1 (Nat.le_refl _) h
  have m0 := small_walk t a c w1 w.heap.size 1200 40 hi (by omega) (by omega) (by omega) (by omega) (by omega)
  obtain ⟨q, hq⟩ : ∃ q, t.small 1200 40 = q := ⟨_, rfl⟩
  rw [hq] at m0 hs
  have tval : ∀ (u : T) p q, u.val p q = .agg #[.int .u8 u.k, .int .i64 u.n, .string u.s, .slice p u.l.length q, .int .i64 u.r] := fun _ _ _ => rfl
  rw [tval]
  unfold T.val at m0
  obtain ⟨x0, x1, x2, x3, x4, _⟩ := blk5 D0
  have E0 := Lib.hid D0
  clear D0 h hq tval hi
  rcases hs with hs | ⟨hs, hl⟩ | ⟨hs, hl, hl2⟩ | ⟨hs, hl, hl2, hl3⟩
  · go_enter Try.func11, Try.ntmps11
    go_upto_region 1 with fail
    rw [← hw1]
    clear hw1
    go_wp2_with (first
      | (go_at_call 15; refine m0.mono ?_; clear m0; rintro e wA ⟨rfl, hbA⟩)
      | (go_at_call 14; refine (awake_walk _).mono ?_; rintro e wF ⟨rfl, hbF⟩))
    go_ret
    exact ⟨rfl, hb1.trans ((hbA.trans (hbF.mono hbA.size)).mono hb1.size)⟩
  · have yfr1 : (600 : Int) < (fr.length : Int) := by omega
    have yfr2 : decide ((600 : Int) < (fr.length : Int)) = true := by simp; omega
    have yfr3 : decide (600 < fr.length) = true := by simpa using hl
    go_enter Try.func11, Try.ntmps11
    go_upto_region 1 with fail
    rw [← hw1]
    clear hw1
    go_wp2_with (first
      | (go_at_call 15; refine m0.mono ?_; clear m0; rintro e wA ⟨rfl, hbA⟩)
      | (go_at_call 14; refine (awake_walk _).mono ?_; rintro e wF ⟨rfl, hbF⟩))
    go_ret
    exact ⟨rfl, hb1.trans ((hbA.trans (hbF.mono hbA.size)).mono hb1.size)⟩
  · have yfr1 : ¬ (600 : Int) < (fr.length : Int) := by omega
    have yfr2 : decide ((600 : Int) < (fr.length : Int)) = false := by simp; omega
    have yfr3 : decide (600 < fr.length) = false := by simpa using hl
    have ynx1 : (600 : Int) < (nx.length : Int) := by omega
    have ynx2 : decide ((600 : Int) < (nx.length : Int)) = true := by simp; omega
    have ynx3 : decide (600 < nx.length) = true := by simpa using hl2
    go_enter Try.func11, Try.ntmps11
    go_upto_region 1 with fail
    rw [← hw1]
    clear hw1
    go_wp2_with (first
      | (go_at_call 15; refine m0.mono ?_; clear m0; rintro e wA ⟨rfl, hbA⟩)
      | (go_at_call 14; refine (awake_walk _).mono ?_; rintro e wF ⟨rfl, hbF⟩))
    go_ret
    exact ⟨rfl, hb1.trans ((hbA.trans (hbF.mono hbA.size)).mono hb1.size)⟩
  · have yfr1 : ¬ (600 : Int) < (fr.length : Int) := by omega
    have yfr2 : decide ((600 : Int) < (fr.length : Int)) = false := by simp; omega
    have yfr3 : decide (600 < fr.length) = false := by simpa using hl
    have ynx1 : ¬ (600 : Int) < (nx.length : Int) := by omega
    have ynx2 : decide ((600 : Int) < (nx.length : Int)) = false := by simp; omega
    have ynx3 : decide (600 < nx.length) = false := by simpa using hl2
    have yne1 : (600 : Int) < (ne.length : Int) := by omega
    have yne2 : decide ((600 : Int) < (ne.length : Int)) = true := by simp; omega
    have yne3 : decide (600 < ne.length) = true := by simpa using hl3
    go_enter Try.func11, Try.ntmps11
    go_upto_region 1 with fail
    rw [← hw1]
    clear hw1
    go_wp2_with (first
      | (go_at_call 15; refine m0.mono ?_; clear m0; rintro e wA ⟨rfl, hbA⟩)
      | (go_at_call 14; refine (awake_walk _).mono ?_; rintro e wF ⟨rfl, hbF⟩))
    go_ret
    exact ⟨rfl, hb1.trans ((hbA.trans (hbF.mono hbA.size)).mono hb1.size)⟩

set_option maxRecDepth 100000 in
set_option maxHeartbeats 20000000 in
theorem renamed_main (w : World) (t : T) (a : Option Addr) (c : Nat) (fr : List Int) (fa : Option Addr) (fc : Nat) (nx : List Int) (na : Option Addr) (nc : Nat) (ne : List Int) (ea : Option Addr) (ec : Nat) (h : T.At w w.heap.size t a c) (hw : t.wf) (hI1 : Ints w (· < w.heap.size) fr fa fc) (hI2 : Ints w (· < w.heap.size) nx na nc) (hI3 : Ints w (· < w.heap.size) ne ea ec) (hfr : ∀ x ∈ fr, -9223372036854775808 ≤ x ∧ x ≤ 9223372036854775807) (hnr : ∀ x ∈ nx, -9223372036854775808 ≤ x ∧ x ≤ 9223372036854775807) (her : ∀ x ∈ ne, -9223372036854775808 ≤ x ∧ x ≤ 9223372036854775807)
    (hs : ¬ t.small 1200 40 < 0) (hfl : fr.length ≤ 600) (hnl : nx.length ≤ 600) (hel : ne.length ≤ 600) :
    Calls Try.prog 11 #[t.val a c, .slice fa fr.length fc, .slice na nx.length nc, .slice ea ne.length ec] w fun e w' => e = .returned (.bool true) ∧ Below w.heap.size w w' := by
  obtain ⟨x, hx, hxw, hxm, hy1, _⟩ := rename_same t fr nx hw (by omega) (by omega) hfr hnr
  have hfacts := fun h => renamed_facts (t := t) (fr := fr) (nx := nx) h
  rw [← hx] at hfacts
  obtain ⟨w1, hw1⟩ : ∃ w1, w1 = w.alloc (.cells #[.int .u8 t.k, .int .i64 t.n, .string t.s, .slice a t.l.length c, .int .i64 t.r] 26 (0, 0)) := ⟨_, rfl⟩
  have hb1 : Below w.heap.size w w1 := by rw [hw1]; exact (Below.refl _ _).alloc (Nat.le_refl _) _
  have D0 : w1.heap[w.heap.size]? = some (.cells #[.int .u8 t.k, .int .i64 t.n, .string t.s, .slice a t.l.length c, .int .i64 t.r] 26 (0, 0)) := by rw [hw1]; exact blk_new _ _
  have z1 : w.heap.size < w1.heap.size := (Array.getElem?_eq_some_iff.1 D0).1
  have hi := T.At.below hb1 (Nat.le_refl _) h
  have m0 := small_walk t a c w1 w.heap.size 1200 40 hi (by omega) (by omega) (by omega) (by omega) (by omega)
  obtain ⟨q, hq⟩ : ∃ q, t.small 1200 40 = q := ⟨_, rfl⟩
  rw [hq] at m0 hs
  have tval : ∀ (u : T) p q, u.val p q = .agg #[.int .u8 u.k, .int .i64 u.n, .string u.s, .slice p u.l.length q, .int .i64 u.r] := fun _ _ _ => rfl
  rw [tval]
  unfold T.val at m0
  obtain ⟨x0, x1, x2, x3, x4, _⟩ := blk5 D0
  have E0 := Lib.hid D0
  obtain ⟨u, code⟩ := x
  simp only at hxw hxm hfacts
  unfold GotR at hy1
  simp only [tval] at hy1
  have g1 : ¬ (600 : Int) < (fr.length : Int) := by omega
  have g2 : ¬ (600 : Int) < (nx.length : Int) := by omega
  have g3 : ¬ (600 : Int) < (ne.length : Int) := by omega
  have HJ1 := Lib.hid (Ints.below hb1 (Nat.le_refl _) hI1)
  have HJ2 := Lib.hid (Ints.below hb1 (Nat.le_refl _) hI2)
  have HJ3 := Lib.hid (Ints.below hb1 (Nat.le_refl _) hI3)
  have HI := Lib.hid hi
  have HB1 := Lib.hid hb1
  clear D0 h hq hI1 hI2 hI3 hi hx hb1
  go_enter Try.func11, Try.ntmps11
  go_upto_region 1 with fail
  rw [← hw1]
  clear hw1
  go_upto_region 4 with (first
    | (go_at_call 15; refine m0.mono ?_; clear m0; rintro e wA ⟨rfl, hbA⟩; have G0 := (hbA.block w.heap.size z1).trans E0.out; clear x0 x1 x2 x3 x4; obtain ⟨x0, x1, x2, x3, x4, _⟩ := blk5 G0; clear G0; have mR := hy1 a c wA w.heap.size fa na fc nc (T.At.below hbA (by omega) HI.out) (Ints.below hbA (by omega) HJ1.out) (Ints.below hbA (by omega) HJ2.out) (by have := hbA.size; omega); clear hy1)
    | (go_at_call 48; refine mR.mono ?_; clear mR; rintro e wR ⟨⟨a9, c9, rfl, hm9⟩, hbR⟩))
  have zA := hbA.size
  have zR := hbR.size
  obtain ⟨w4, hw4⟩ : ∃ w4, w4 = wR.alloc (.cells #[.int .u8 u.k, .int .i64 u.n, .string u.s, .slice a9 u.l.length c9, .int .i64 u.r] 26) := ⟨_, rfl⟩
  rw [← hw4]
  have D9 : w4.heap[wR.heap.size]? = some (.cells #[.int .u8 u.k, .int .i64 u.n, .string u.s, .slice a9 u.l.length c9, .int .i64 u.r] 26 (0, 0)) := by rw [hw4]; exact blk_new _ _
  have hbw4 : Below wR.heap.size wR w4 := by rw [hw4]; exact (Below.refl _ _).alloc (Nat.le_refl _) _
  have zw4 := hbw4.size
  have lw4 : wR.heap.size < w4.heap.size := (Array.getElem?_eq_some_iff.1 D9).1
  clear hw4
  have hb14 : Below w1.heap.size w1 w4 := hbA.trans ((hbR.mono zA).trans (hbw4.mono (by omega)))
  have iX := Lib.hid (T.In.keep (fun b hb => hbw4.block b hb.2) (fun b hb => hb.2) id (T.Mut.lies hm9) : T.In w4 (· < wR.heap.size) false u a9 c9)
  have V4 := (hb14.block w.heap.size z1).trans E0.out
  have iV := T.At.below hb14 (by omega) HI.out
  have hb4 := Lib.hid (HB1.out.trans (hb14.mono HB1.out.size) : Below w.heap.size w w4)
  have K1 := Ints.below hb14 (by omega) HJ1.out
  have K2 := Ints.below hb14 (by omega) HJ2.out
  have K3 := Ints.below hb14 (by omega) HJ3.out
  have zw4 : w.heap.size < wR.heap.size := by omega
  clear x0 x1 x2 x3 x4 hbA hbR hbw4 hm9 hb14 E0 HJ1 HJ2 HJ3 HI g1 g2 g3
  by_cases hcode : code = 0
  case neg =>
    have c1 : (code == 0) = false := by simpa using hcode
    have c2 : (code != 0) = true := by simpa using hcode
    clear hcode hfacts
    go_wp2_with (go_at_call 14; refine (awake_walk _).mono ?_; rintro e wF ⟨rfl, hbF⟩)
    go_ret
    exact ⟨rfl, hb4.out.trans (hbF.mono hb4.out.size)⟩
  subst hcode
  obtain ⟨hm, hm', hlen, himg, hpar, hdeep, hr0, hback, htwice⟩ := hfacts rfl
  obtain ⟨y, hy, hyw, hym, hq1, _⟩ := rename_same u nx ne hxw (by omega) (by omega) hnr her
  replace htwice := htwice ne
  rw [← hy] at htwice
  obtain ⟨u2, code2⟩ := y
  simp only at hyw hym htwice
  unfold GotR at hq1
  simp only [tval] at hq1
  have hcu := T.count_of_may hm'
  have hru := T.refs_le u
  have hct := T.count_of_may hm
  have hrt := T.refs_le t
  have m35t := refs_walk t a c w4 w.heap.size iV (by omega) hw
  rw [hm, if_pos rfl] at m35t
  unfold RefsPost T.val at m35t
  have mI := fun W (hb : Below w4.heap.size w4 W) la lc (hL : Ints W (· < W.heap.size) t.refs la lc) => image_walk t.refs fr nx la lc fa fc na nc W W.heap.size hL (Ints.keep (fun b hk => hb.block b (by omega)) (fun b hk => by have := hb.size; omega) K1) (Ints.keep (fun b hk => hb.block b (by omega)) (fun b hk => by have := hb.size; omega) K2) (Nat.le_refl _) (by omega) (by omega) (by omega)
  rw [himg] at mI
  have m35u := fun W (hb : Below w4.heap.size w4 W) => refs_walk u a9 c9 W wR.heap.size (T.At.below hb (by omega) iX.out) (by have := hb.size; omega) hxw
  rw [hm', if_pos rfl] at m35u
  unfold RefsPost T.val at m35u
  obtain ⟨rs, hrs⟩ : ∃ rs, t.refs = rs := ⟨_, rfl⟩
  obtain ⟨us, hus⟩ : ∃ us, u.refs = us := ⟨_, rfl⟩
  rw [hrs] at m35t mI hr0 hrt
  rw [hus] at mI m35u hru
  have hrl : us.length = rs.length := by rw [hrs, hus] at himg; exact imgs_length himg
  have HRL := Lib.hid hrl
  have HIV := Lib.hid iV
  have HK1 := Lib.hid K1
  have HK2 := Lib.hid K2
  have HK3 := Lib.hid K3
  have HLEN := Lib.hid hlen
  have HPAR := Lib.hid hpar
  have HDEEP := Lib.hid hdeep
  have HR0 := Lib.hid hr0
  have HBACK := Lib.hid hback
  have HTW := Lib.hid htwice
  have HM := Lib.hid hm
  have HM' := Lib.hid hm'
  have HYW := Lib.hid hyw
  have HYM := Lib.hid hym
  have H9 := Lib.hid D9
  have HV := Lib.hid V4
  have HXW := Lib.hid hxw
  obtain ⟨x0, x1, x2, x3, x4⟩ := blk5cc V4
  clear hfacts himg hrs hus hrl iV K1 K2 K3 hlen hpar hdeep hr0 hback htwice hm hm' hyw hym D9 V4 hy hxm hxw
  have mI3 := fun W (hb : Below w4.heap.size w4 W) la lc (hL : Ints W (· < W.heap.size) rs la lc) => (mI W hb la lc hL).mono (R' := fun e w' => (∃ v, e = .returned (.tuple #[v, .bool true]) ∧ w'.ownsRow W.heap.size 24 1 v us.length (us.map (.int .i64))) ∧ Below W.heap.size W w') (fun e w' hp => by
    obtain ⟨⟨ys, v, h1, h2, h3⟩ | ⟨h1, _⟩, h4⟩ := hp
    · cases h1; exact ⟨⟨v, h2, h3⟩, h4⟩
    · cases h1)
  clear mI
  go_upto_region 7 with (first
    | (go_at_call 35; refine m35t.mono ?_; clear m35t; rintro e w5 ⟨lv, rfl, hl1, hb5⟩; obtain ⟨la, lc, rfl, lI⟩ := row_ints hl1; have mI2 := mI3 _ hb5 la lc lI; clear hl1 mI3)
    | (go_at_call 50; refine mI2.mono ?_; clear mI2; rintro e w6 ⟨⟨v6, rfl, hl2⟩, hb6⟩; obtain ⟨wa, wc, rfl, wI⟩ := row_ints hl2; have HWI := Lib.hid wI; clear hl2 wI))
  have hb46 : Below w4.heap.size w4 w6 := hb5.trans (hb6.mono hb5.size)
  clear hb5 hb6 lI x0 x1 x2 x3 x4
  obtain ⟨y0, y1, y2, y3, y4⟩ := blk5cc ((hb46.block wR.heap.size lw4).trans H9.out)
  have m35v := m35u _ hb46
  clear m35u
  go_upto_region 8 with (go_at_call 35; refine m35v.mono ?_; clear m35v; rintro e w7 ⟨gv, rfl, hl3, hb7⟩; obtain ⟨ga, gc, rfl, gI⟩ := row_ints hl3; have HGI := Lib.hid gI; clear hl3 gI)
  have hb47 : Below w4.heap.size w4 w7 := hb46.trans (hb7.mono hb46.size)
  have z47 := hb47.size
  have z46 := hb46.size
  have z67 := hb7.size
  have A9 := (hb47.block wR.heap.size lw4).trans H9.out
  have A0 := (hb47.block w.heap.size (by omega)).trans HV.out
  have J9 : T.In w7 (· < wR.heap.size) false u a9 c9 := T.In.keep (fun b hb => hb47.block b (by omega)) (fun _ h => h) id iX.out
  have J0 : T.At w7 w.heap.size t a c := T.At.below hb47 (by omega) HIV.out
  have B1 : Ints w7 (· < w.heap.size) fr fa fc := Ints.below hb47 (by omega) HK1.out
  have B2 : Ints w7 (· < w.heap.size) nx na nc := Ints.below hb47 (by omega) HK2.out
  have B3 : Ints w7 (· < w.heap.size) ne ea ec := Ints.below hb47 (by omega) HK3.out
  have BW : Ints w7 (· < w7.heap.size) us wa wc := Ints.keep (fun b hb => hb7.block b hb) (fun b hb => by omega) HWI.out
  have BG := HGI.out
  have HS : Hid (∀ W, Below w7.heap.size w7 W → (W.cell? ⟨wR.heap.size, 0, none⟩ = some (.int .u8 u.k) ∧ W.cell? ⟨wR.heap.size, 1, none⟩ = some (.int .i64 u.n) ∧ W.cell? ⟨wR.heap.size, 2, none⟩ = some (.string u.s) ∧ W.cell? ⟨wR.heap.size, 3, none⟩ = some (.slice a9 u.l.length c9) ∧ W.cell? ⟨wR.heap.size, 4, none⟩ = some (.int .i64 u.r)) ∧ (W.cell? ⟨w.heap.size, 0, none⟩ = some (.int .u8 t.k) ∧ W.cell? ⟨w.heap.size, 1, none⟩ = some (.int .i64 t.n) ∧ W.cell? ⟨w.heap.size, 2, none⟩ = some (.string t.s) ∧ W.cell? ⟨w.heap.size, 3, none⟩ = some (.slice a t.l.length c) ∧ W.cell? ⟨w.heap.size, 4, none⟩ = some (.int .i64 t.r))) := Lib.hid (fun W hb => ⟨blk5cc ((hb.block _ (by omega)).trans A9), blk5cc ((hb.block _ (by omega)).trans A0)⟩)
  have HD9 := Lib.hid (fun W (hb : Below w7.heap.size w7 W) => (hb.block wR.heap.size (by omega)).trans A9)
  have HJ9 := Lib.hid (fun W (hb : Below w7.heap.size w7 W) => (T.At.below hb (by omega) J9 : T.At W wR.heap.size u a9 c9))
  have HJ0 := Lib.hid (fun W (hb : Below w7.heap.size w7 W) => (T.At.below hb (by omega) J0 : T.At W w.heap.size t a c))
  have HB1' := Lib.hid (fun W (hb : Below w7.heap.size w7 W) => (Ints.below hb (by omega) B1 : Ints W (· < w.heap.size) fr fa fc))
  have HB2' := Lib.hid (fun W (hb : Below w7.heap.size w7 W) => (Ints.below hb (by omega) B2 : Ints W (· < w.heap.size) nx na nc))
  have HB3' := Lib.hid (fun W (hb : Below w7.heap.size w7 W) => (Ints.below hb (by omega) B3 : Ints W (· < w.heap.size) ne ea ec))
  have HBW := Lib.hid (fun W (hb : Below w7.heap.size w7 W) => (Ints.below hb (Nat.le_refl _) BW : Ints W (· < w7.heap.size) us wa wc))
  have HBG := Lib.hid (fun W (hb : Below w7.heap.size w7 W) => (Ints.below hb (Nat.le_refl _) BG : Ints W (· < w7.heap.size) us ga gc))
  have HB7 := Lib.hid (hb4.out.trans (hb47.mono hb4.out.size) : Below w.heap.size w w7)
  have p1 : ∀ W (hb : Below w7.heap.size w7 W), Calls Try.prog 32 #[u.val a9 c9] W fun e w' => e = .returned (.int .i64 t.parts) ∧ Below W.heap.size W w' := fun W hb => (parts_walk u a9 c9 W wR.heap.size (HJ9.out W hb) (by have := hb.size; omega) HXW.out).mono fun e w' hp => by rw [HPAR.out] at hp; exact hp
  have p2 : ∀ W (hb : Below w7.heap.size w7 W), Calls Try.prog 32 #[t.val a c] W fun e w' => e = .returned (.int .i64 t.parts) ∧ Below W.heap.size W w' := fun W hb => parts_walk t a c W w.heap.size (HJ0.out W hb) (by have := hb.size; omega) hw
  have p3 : ∀ W (hb : Below w7.heap.size w7 W), Calls Try.prog 33 #[u.val a9 c9] W fun e w' => e = .returned (.int .i64 t.deep) ∧ Below W.heap.size W w' := fun W hb => (deep_walk u a9 c9 W wR.heap.size (HJ9.out W hb) (by have := hb.size; omega) HXW.out).mono fun e w' hp => by rw [HM'.out, if_pos rfl, HDEEP.out] at hp; exact hp
  have p4 : ∀ W (hb : Below w7.heap.size w7 W), Calls Try.prog 33 #[t.val a c] W fun e w' => e = .returned (.int .i64 t.deep) ∧ Below W.heap.size W w' := fun W hb => (deep_walk t a c W w.heap.size (HJ0.out W hb) (by have := hb.size; omega) hw).mono fun e w' hp => by rw [HM.out, if_pos rfl] at hp; exact hp
  have p5 : us = [] → ∀ W (hb : Below w7.heap.size w7 W), Calls Try.prog 30 #[u.val a9 c9, t.val a c] W fun e w' => e = .returned (.bool true) ∧ Below W.heap.size W w' := fun he W hb => by
    have e0 : rs = [] := List.length_eq_zero_iff.1 (by rw [← HRL.out, he]; rfl)
    have e1 := HR0.out e0
    have := same_self t HM.out hw a9 c9 a c W W.heap.size (T.At.mono (B := wR.heap.size) (by have := hb.size; omega) (by rw [← e1]; exact HJ9.out W hb)) (T.At.mono (B := w.heap.size) (by have := hb.size; omega) (HJ0.out W hb)) (Nat.le_refl _)
    rw [e1]
    exact this
  obtain ⟨P, hP⟩ : ∃ P, t.parts = P := ⟨_, rfl⟩
  obtain ⟨DD, hDD⟩ : ∃ DD, t.deep = DD := ⟨_, rfl⟩
  rw [hP] at p1 p2
  rw [hDD] at p3 p4
  simp only [tval] at p1 p2 p3 p4 p5
  have K0 := Lib.hid (HS.out w7.drew ((Below.refl _ _).drew))
  have U1 : (us.length : Int) ≤ 512 := by omega
  clear hb46 hb47 hb7 A9 A0 J9 J0 B1 B2 B3 BW BG y0 y1 y2 y3 y4 iX HIV HK1 HK2 HK3 H9 HV hb4 HWI HGI hP hDD HPAR HDEEP HR0 hru hcu hct hrt
  go_cut [95] (fun v95 wx => v95 = .bool false ∧ Below w7.heap.size w7 wx)
  case first =>
    by_cases hu0 : us = []
    · have q5 := p5 hu0
      have L0 : ((us.length : Int) == 0) = true := by rw [hu0]; rfl
      have L1 : (us.length == 0) = true := by rw [hu0]; rfl
      have L2 : (us.length : Int) = 0 := by rw [hu0]; rfl
      have HU0 := Lib.hid hu0
      clear hu0 p5
      refine wp_region_held_drew (S := fun W => (W.cell? ⟨wR.heap.size, 0, none⟩ = some (.int .u8 u.k) ∧ W.cell? ⟨wR.heap.size, 1, none⟩ = some (.int .i64 u.n) ∧ W.cell? ⟨wR.heap.size, 2, none⟩ = some (.string u.s) ∧ W.cell? ⟨wR.heap.size, 3, none⟩ = some (.slice a9 u.l.length c9) ∧ W.cell? ⟨wR.heap.size, 4, none⟩ = some (.int .i64 u.r)) ∧ (W.cell? ⟨w.heap.size, 0, none⟩ = some (.int .u8 t.k) ∧ W.cell? ⟨w.heap.size, 1, none⟩ = some (.int .i64 t.n) ∧ W.cell? ⟨w.heap.size, 2, none⟩ = some (.string t.s) ∧ W.cell? ⟨w.heap.size, 3, none⟩ = some (.slice a t.l.length c) ∧ W.cell? ⟨w.heap.size, 4, none⟩ = some (.int .i64 t.r))) (by kernel_rfl) K0.out (fun hHeld => ?_)
      refine wpAnyH_take (i := 0) (oi := _) (v := ?_) rfl (by kernel_rfl) (by kernel_rfl) (by kernel_rfl) (fun _ _ _ h => h) (Or.inl ⟨by rfl, ?_⟩) (by assumption) ?_
      rotate_left
      · (intro W9 hSw; (try dsimp only at hSw); (try simp only [List.getElem_toArray, List.getElem_cons_succ, List.getElem_cons_zero]); go_simp; (try (with_reducible rfl)))
      simp only [Act.put, List.getElem_toArray, List.getElem_cons_succ, List.getElem_cons_zero, List.setIfInBounds_toArray, List.set_cons_zero, List.set_cons_succ]
      refine wpAnyH_take (i := 1) (oi := _) (v := ?_) rfl (by kernel_rfl) (by kernel_rfl) (by kernel_rfl) (fun _ _ _ h => h) (Or.inl ⟨by rfl, ?_⟩) (by assumption) ?_
      rotate_left
      · (intro W9 hSw; (try dsimp only at hSw); (try simp only [List.getElem_toArray, List.getElem_cons_succ, List.getElem_cons_zero]); go_simp; (try (with_reducible rfl)))
      simp only [Act.put, List.getElem_toArray, List.getElem_cons_succ, List.getElem_cons_zero, List.setIfInBounds_toArray, List.set_cons_zero, List.set_cons_succ]
      refine wpAnyH_take (i := 2) (oi := _) (v := ?_) rfl (by kernel_rfl) (by kernel_rfl) (by kernel_rfl) (fun _ _ _ h => h) (Or.inl ⟨by rfl, ?_⟩) (by assumption) ?_
      rotate_left
      · (intro W9 hSw; (try dsimp only at hSw); (try simp only [List.getElem_toArray, List.getElem_cons_succ, List.getElem_cons_zero]); go_simp; (try (with_reducible rfl)))
      simp only [Act.put, List.getElem_toArray, List.getElem_cons_succ, List.getElem_cons_zero, List.setIfInBounds_toArray, List.set_cons_zero, List.set_cons_succ]
      refine wpAnyH_take (i := 3) (oi := _) (v := ?_) rfl (by kernel_rfl) (by kernel_rfl) (by kernel_rfl) (fun _ _ _ h => h) (Or.inl ⟨by rfl, ?_⟩) (by assumption) ?_
      rotate_left
      · (intro W9 hSw; (try dsimp only at hSw); (try simp only [List.getElem_toArray, List.getElem_cons_succ, List.getElem_cons_zero]); go_simp; (try (with_reducible rfl)))
      simp only [Act.put, List.getElem_toArray, List.getElem_cons_succ, List.getElem_cons_zero, List.setIfInBounds_toArray, List.set_cons_zero, List.set_cons_succ]
      refine wpAnyH_take (i := 4) (oi := _) (v := ?_) rfl (by kernel_rfl) (by kernel_rfl) (by kernel_rfl) (fun _ _ _ h => h) (Or.inl ⟨by rfl, ?_⟩) (by assumption) ?_
      rotate_left
      · (intro W9 hSw; (try dsimp only at hSw); (try simp only [List.getElem_toArray, List.getElem_cons_succ, List.getElem_cons_zero]); go_simp; (try (with_reducible rfl)))
      simp only [Act.put, List.getElem_toArray, List.getElem_cons_succ, List.getElem_cons_zero, List.setIfInBounds_toArray, List.set_cons_zero, List.set_cons_succ]
      refine wpAnyH_take (i := 5) (oi := _) (v := ?_) rfl (by kernel_rfl) (by kernel_rfl) (by kernel_rfl) (fun _ _ _ h => h) (Or.inl ⟨by rfl, ?_⟩) (by assumption) ?_
      rotate_left
      · (intro W9 hSw; (try dsimp only at hSw); (try simp only [List.getElem_toArray, List.getElem_cons_succ, List.getElem_cons_zero]); go_simp; (try (with_reducible rfl)))
      simp only [Act.put, List.getElem_toArray, List.getElem_cons_succ, List.getElem_cons_zero, List.setIfInBounds_toArray, List.set_cons_zero, List.set_cons_succ]
      refine wpAnyH_take (i := 6) (oi := _) (v := ?_) rfl (by kernel_rfl) (by kernel_rfl) (by kernel_rfl) (fun _ _ _ h => h) (Or.inl ⟨by rfl, ?_⟩) (by assumption) ?_
      rotate_left
      · (intro W9 hSw; (try dsimp only at hSw); (try simp only [List.getElem_toArray, List.getElem_cons_succ, List.getElem_cons_zero]); go_simp; (try (with_reducible rfl)))
      simp only [Act.put, List.getElem_toArray, List.getElem_cons_succ, List.getElem_cons_zero, List.setIfInBounds_toArray, List.set_cons_zero, List.set_cons_succ]
      refine wpAnyH_take (i := 7) (oi := _) (v := ?_) rfl (by kernel_rfl) (by kernel_rfl) (by kernel_rfl) (fun _ _ _ h => h) (Or.inl ⟨by rfl, ?_⟩) (by assumption) ?_
      rotate_left
      · (intro W9 hSw; (try dsimp only at hSw); (try simp only [List.getElem_toArray, List.getElem_cons_succ, List.getElem_cons_zero]); go_simp; (try (with_reducible rfl)))
      simp only [Act.put, List.getElem_toArray, List.getElem_cons_succ, List.getElem_cons_zero, List.setIfInBounds_toArray, List.set_cons_zero, List.set_cons_succ]
      refine wpAnyH_take (i := 8) (oi := _) (v := ?_) rfl (by kernel_rfl) (by kernel_rfl) (by kernel_rfl) (fun _ _ _ h => h) (Or.inl ⟨by rfl, ?_⟩) (by assumption) ?_
      rotate_left
      · (intro W9 hSw; (try dsimp only at hSw); (try simp only [List.getElem_toArray, List.getElem_cons_succ, List.getElem_cons_zero]); go_simp; (try (with_reducible rfl)))
      simp only [Act.put, List.getElem_toArray, List.getElem_cons_succ, List.getElem_cons_zero, List.setIfInBounds_toArray, List.set_cons_zero, List.set_cons_succ]
      refine wpAnyH_take (i := 9) (oi := _) (v := ?_) rfl (by kernel_rfl) (by kernel_rfl) (by kernel_rfl) (fun _ _ _ h => h) (Or.inl ⟨by rfl, ?_⟩) (by assumption) ?_
      rotate_left
      · (intro W9 hSw; (try dsimp only at hSw); (try simp only [List.getElem_toArray, List.getElem_cons_succ, List.getElem_cons_zero]); go_simp; (try (with_reducible rfl)))
      simp only [Act.put, List.getElem_toArray, List.getElem_cons_succ, List.getElem_cons_zero, List.setIfInBounds_toArray, List.set_cons_zero, List.set_cons_succ]
      refine wpAnyH_take (i := 10) (oi := _) (v := ?_) rfl (by kernel_rfl) (by kernel_rfl) (by kernel_rfl) (fun _ _ _ h => h) (Or.inl ⟨by rfl, ?_⟩) (by assumption) ?_
      rotate_left
      · (intro W9 hSw; (try dsimp only at hSw); (try simp only [List.getElem_toArray, List.getElem_cons_succ, List.getElem_cons_zero]); go_simp; (try (with_reducible rfl)))
      simp only [Act.put, List.getElem_toArray, List.getElem_cons_succ, List.getElem_cons_zero, List.setIfInBounds_toArray, List.set_cons_zero, List.set_cons_succ]
      refine wpAnyH_take (i := 12) (oi := _) (v := ?_) rfl (by kernel_rfl) (by kernel_rfl) (by kernel_rfl) (fun _ _ _ h => h) (Or.inl ⟨by rfl, ?_⟩) (by assumption) ?_
      rotate_left
      · (intro W9 hSw; (try dsimp only at hSw); (try simp only [List.getElem_toArray, List.getElem_cons_succ, List.getElem_cons_zero]); go_simp; (try (with_reducible rfl)))
      simp only [Act.put, List.getElem_toArray, List.getElem_cons_succ, List.getElem_cons_zero, List.setIfInBounds_toArray, List.set_cons_zero, List.set_cons_succ]
      refine wpAnyH_ready (rs := [11]) (by kernel_rfl) (by simp) ?_
      refine AllReadyH.cons (o := _) rfl (fun K hK => ?_) AllReadyH.nil
      (try simp only [List.getElem_toArray, List.getElem_cons_succ, List.getElem_cons_zero])
      go_simp
      go_at_call 32; refine (p1 _ (by (repeat (first | with_reducible assumption | with_reducible exact Below.refl _ _ | with_reducible refine Below.drewI ?_ | with_reducible refine Below.allocI ?_ _ | (with_reducible refine Below.setI ?_ ?_ _; rotate_left; (first | omega | (simp only [World.size_alloc]; omega))))))).mono ?_; clear p1; rintro e wE1 ⟨rfl, hbe1⟩; have hbE1 : Below w7.heap.size w7 wE1 := Below.callI (by (repeat (first | with_reducible assumption | with_reducible exact Below.refl _ _ | with_reducible refine Below.drewI ?_ | with_reducible refine Below.allocI ?_ _ | (with_reducible refine Below.setI ?_ ?_ _; rotate_left; (first | omega | (simp only [World.size_alloc]; omega)))))) hbe1
      refine hK.out _ _ ?_ (fun hHeld => ?_)
      · (with_reducible refine HS.out _ ?_; (repeat (first | with_reducible assumption | with_reducible exact Below.refl _ _ | with_reducible refine Below.drewI ?_ | with_reducible refine Below.allocI ?_ _ | (with_reducible refine Below.setI ?_ ?_ _; rotate_left; (first | omega | (simp only [World.size_alloc]; omega))))); done)
      clear hK K
      (try simp only [Act.put, List.getElem_toArray, List.getElem_cons_succ, List.getElem_cons_zero, List.setIfInBounds_toArray, List.set_cons_zero, List.set_cons_succ])
      refine wpAnyH_ready (rs := [13]) (by kernel_rfl) (by simp) ?_
      refine AllReadyH.cons (o := _) rfl (fun K hK => ?_) AllReadyH.nil
      (try simp only [List.getElem_toArray, List.getElem_cons_succ, List.getElem_cons_zero])
      go_simp
      go_at_call 32; refine (p2 _ (by (repeat (first | with_reducible assumption | with_reducible exact Below.refl _ _ | with_reducible refine Below.drewI ?_ | with_reducible refine Below.allocI ?_ _ | (with_reducible refine Below.setI ?_ ?_ _; rotate_left; (first | omega | (simp only [World.size_alloc]; omega))))))).mono ?_; clear p2; rintro e wE2 ⟨rfl, hbe2⟩; have hbE2 : Below w7.heap.size w7 wE2 := Below.callI (by (repeat (first | with_reducible assumption | with_reducible exact Below.refl _ _ | with_reducible refine Below.drewI ?_ | with_reducible refine Below.allocI ?_ _ | (with_reducible refine Below.setI ?_ ?_ _; rotate_left; (first | omega | (simp only [World.size_alloc]; omega)))))) hbe2
      refine hK.out _ _ ?_ (fun hHeld => ?_)
      · (with_reducible refine HS.out _ ?_; (repeat (first | with_reducible assumption | with_reducible exact Below.refl _ _ | with_reducible refine Below.drewI ?_ | with_reducible refine Below.allocI ?_ _ | (with_reducible refine Below.setI ?_ ?_ _; rotate_left; (first | omega | (simp only [World.size_alloc]; omega))))); done)
      clear hK K
      (try simp only [Act.put, List.getElem_toArray, List.getElem_cons_succ, List.getElem_cons_zero, List.setIfInBounds_toArray, List.set_cons_zero, List.set_cons_succ])
      refine wpAnyH_take (i := 14) (oi := _) (v := ?_) rfl (by kernel_rfl) (by kernel_rfl) (by kernel_rfl) (fun _ _ _ h => h) (Or.inl ⟨by rfl, ?_⟩) (by assumption) ?_
      rotate_left
      · (intro W9 hSw; (try dsimp only at hSw); (try simp only [List.getElem_toArray, List.getElem_cons_succ, List.getElem_cons_zero]); go_simp; (try (with_reducible rfl)))
      simp only [Act.put, List.getElem_toArray, List.getElem_cons_succ, List.getElem_cons_zero, List.setIfInBounds_toArray, List.set_cons_zero, List.set_cons_succ]
      refine wpAnyH_take (i := 15) (oi := _) (v := ?_) rfl (by kernel_rfl) (by kernel_rfl) (by kernel_rfl) (fun _ _ _ h => h) (Or.inl ⟨by rfl, ?_⟩) (by assumption) ?_
      rotate_left
      · (intro W9 hSw; (try dsimp only at hSw); (try simp only [List.getElem_toArray, List.getElem_cons_succ, List.getElem_cons_zero]); go_simp; (try (with_reducible rfl)))
      simp only [Act.put, List.getElem_toArray, List.getElem_cons_succ, List.getElem_cons_zero, List.setIfInBounds_toArray, List.set_cons_zero, List.set_cons_succ]
      refine wpAnyH_take (i := 16) (oi := _) (v := ?_) rfl (by kernel_rfl) (by kernel_rfl) (by kernel_rfl) (fun _ _ _ h => h) (Or.inl ⟨by rfl, ?_⟩) (by assumption) ?_
      rotate_left
      · (intro W9 hSw; (try dsimp only at hSw); (try simp only [List.getElem_toArray, List.getElem_cons_succ, List.getElem_cons_zero]); go_simp; (try (with_reducible rfl)))
      simp only [Act.put, List.getElem_toArray, List.getElem_cons_succ, List.getElem_cons_zero, List.setIfInBounds_toArray, List.set_cons_zero, List.set_cons_succ]
      refine wpAnyH_take (i := 17) (oi := _) (v := ?_) rfl (by kernel_rfl) (by kernel_rfl) (by kernel_rfl) (fun _ _ _ h => h) (Or.inl ⟨by rfl, ?_⟩) (by assumption) ?_
      rotate_left
      · (intro W9 hSw; (try dsimp only at hSw); (try simp only [List.getElem_toArray, List.getElem_cons_succ, List.getElem_cons_zero]); go_simp; (try (with_reducible rfl)))
      simp only [Act.put, List.getElem_toArray, List.getElem_cons_succ, List.getElem_cons_zero, List.setIfInBounds_toArray, List.set_cons_zero, List.set_cons_succ]
      refine wpAnyH_take (i := 19) (oi := _) (v := ?_) rfl (by kernel_rfl) (by kernel_rfl) (by kernel_rfl) (fun _ _ _ h => h) (Or.inl ⟨by rfl, ?_⟩) (by assumption) ?_
      rotate_left
      · (intro W9 hSw; (try dsimp only at hSw); (try simp only [List.getElem_toArray, List.getElem_cons_succ, List.getElem_cons_zero]); go_simp; (try (with_reducible rfl)))
      simp only [Act.put, List.getElem_toArray, List.getElem_cons_succ, List.getElem_cons_zero, List.setIfInBounds_toArray, List.set_cons_zero, List.set_cons_succ]
      refine wpAnyH_ready (rs := [18]) (by kernel_rfl) (by simp) ?_
      refine AllReadyH.cons (o := _) rfl (fun K hK => ?_) AllReadyH.nil
      (try simp only [List.getElem_toArray, List.getElem_cons_succ, List.getElem_cons_zero])
      go_simp
      go_at_call 33; refine (p3 _ (by (repeat (first | with_reducible assumption | with_reducible exact Below.refl _ _ | with_reducible refine Below.drewI ?_ | with_reducible refine Below.allocI ?_ _ | (with_reducible refine Below.setI ?_ ?_ _; rotate_left; (first | omega | (simp only [World.size_alloc]; omega))))))).mono ?_; clear p3; rintro e wE3 ⟨rfl, hbe3⟩; have hbE3 : Below w7.heap.size w7 wE3 := Below.callI (by (repeat (first | with_reducible assumption | with_reducible exact Below.refl _ _ | with_reducible refine Below.drewI ?_ | with_reducible refine Below.allocI ?_ _ | (with_reducible refine Below.setI ?_ ?_ _; rotate_left; (first | omega | (simp only [World.size_alloc]; omega)))))) hbe3
      refine hK.out _ _ ?_ (fun hHeld => ?_)
      · (with_reducible refine HS.out _ ?_; (repeat (first | with_reducible assumption | with_reducible exact Below.refl _ _ | with_reducible refine Below.drewI ?_ | with_reducible refine Below.allocI ?_ _ | (with_reducible refine Below.setI ?_ ?_ _; rotate_left; (first | omega | (simp only [World.size_alloc]; omega))))); done)
      clear hK K
      (try simp only [Act.put, List.getElem_toArray, List.getElem_cons_succ, List.getElem_cons_zero, List.setIfInBounds_toArray, List.set_cons_zero, List.set_cons_succ])
      refine wpAnyH_ready (rs := [20]) (by kernel_rfl) (by simp) ?_
      refine AllReadyH.cons (o := _) rfl (fun K hK => ?_) AllReadyH.nil
      (try simp only [List.getElem_toArray, List.getElem_cons_succ, List.getElem_cons_zero])
      go_simp
      go_at_call 33; refine (p4 _ (by (repeat (first | with_reducible assumption | with_reducible exact Below.refl _ _ | with_reducible refine Below.drewI ?_ | with_reducible refine Below.allocI ?_ _ | (with_reducible refine Below.setI ?_ ?_ _; rotate_left; (first | omega | (simp only [World.size_alloc]; omega))))))).mono ?_; clear p4; rintro e wE4 ⟨rfl, hbe4⟩; have hbE4 : Below w7.heap.size w7 wE4 := Below.callI (by (repeat (first | with_reducible assumption | with_reducible exact Below.refl _ _ | with_reducible refine Below.drewI ?_ | with_reducible refine Below.allocI ?_ _ | (with_reducible refine Below.setI ?_ ?_ _; rotate_left; (first | omega | (simp only [World.size_alloc]; omega)))))) hbe4
      refine hK.out _ _ ?_ (fun hHeld => ?_)
      · (with_reducible refine HS.out _ ?_; (repeat (first | with_reducible assumption | with_reducible exact Below.refl _ _ | with_reducible refine Below.drewI ?_ | with_reducible refine Below.allocI ?_ _ | (with_reducible refine Below.setI ?_ ?_ _; rotate_left; (first | omega | (simp only [World.size_alloc]; omega))))); done)
      clear hK K
      (try simp only [Act.put, List.getElem_toArray, List.getElem_cons_succ, List.getElem_cons_zero, List.setIfInBounds_toArray, List.set_cons_zero, List.set_cons_succ])
      refine wpAnyH_take (i := 21) (oi := _) (v := ?_) rfl (by kernel_rfl) (by kernel_rfl) (by kernel_rfl) (fun _ _ _ h => h) (Or.inl ⟨by rfl, ?_⟩) (by assumption) ?_
      rotate_left
      · (intro W9 hSw; (try dsimp only at hSw); (try simp only [List.getElem_toArray, List.getElem_cons_succ, List.getElem_cons_zero]); go_simp; (try (with_reducible rfl)))
      simp only [Act.put, List.getElem_toArray, List.getElem_cons_succ, List.getElem_cons_zero, List.setIfInBounds_toArray, List.set_cons_zero, List.set_cons_succ]
      refine wpAnyH_take (i := 22) (oi := _) (v := ?_) rfl (by kernel_rfl) (by kernel_rfl) (by kernel_rfl) (fun _ _ _ h => h) (Or.inl ⟨by rfl, ?_⟩) (by assumption) ?_
      rotate_left
      · (intro W9 hSw; (try dsimp only at hSw); (try simp only [List.getElem_toArray, List.getElem_cons_succ, List.getElem_cons_zero]); go_simp; (try (with_reducible rfl)))
      simp only [Act.put, List.getElem_toArray, List.getElem_cons_succ, List.getElem_cons_zero, List.setIfInBounds_toArray, List.set_cons_zero, List.set_cons_succ]
      refine wpAnyH_take (i := 23) (oi := _) (v := ?_) rfl (by kernel_rfl) (by kernel_rfl) (by kernel_rfl) (fun _ _ _ h => h) (Or.inl ⟨by rfl, ?_⟩) (by assumption) ?_
      rotate_left
      · (intro W9 hSw; (try dsimp only at hSw); (try simp only [List.getElem_toArray, List.getElem_cons_succ, List.getElem_cons_zero]); go_simp; (try (with_reducible rfl)))
      simp only [Act.put, List.getElem_toArray, List.getElem_cons_succ, List.getElem_cons_zero, List.setIfInBounds_toArray, List.set_cons_zero, List.set_cons_succ]
      refine wpAnyH_take (i := 24) (oi := _) (v := ?_) rfl (by kernel_rfl) (by kernel_rfl) (by kernel_rfl) (fun _ _ _ h => h) (Or.inl ⟨by rfl, ?_⟩) (by assumption) ?_
      rotate_left
      · (intro W9 hSw; (try dsimp only at hSw); (try simp only [List.getElem_toArray, List.getElem_cons_succ, List.getElem_cons_zero]); go_simp; (try (with_reducible rfl)))
      simp only [Act.put, List.getElem_toArray, List.getElem_cons_succ, List.getElem_cons_zero, List.setIfInBounds_toArray, List.set_cons_zero, List.set_cons_succ]
      refine wpAnyH_take (i := 25) (oi := _) (v := ?_) rfl (by kernel_rfl) (by kernel_rfl) (by kernel_rfl) (fun _ _ _ h => h) (Or.inl ⟨by rfl, ?_⟩) (by assumption) ?_
      rotate_left
      · (intro W9 hSw; (try dsimp only at hSw); (try simp only [List.getElem_toArray, List.getElem_cons_succ, List.getElem_cons_zero]); go_simp; (try (with_reducible rfl)))
      simp only [Act.put, List.getElem_toArray, List.getElem_cons_succ, List.getElem_cons_zero, List.setIfInBounds_toArray, List.set_cons_zero, List.set_cons_succ]
      refine wpAnyH_take (i := 26) (oi := _) (v := ?_) rfl (by kernel_rfl) (by kernel_rfl) (by kernel_rfl) (fun _ _ _ h => h) (Or.inl ⟨by rfl, ?_⟩) (by assumption) ?_
      rotate_left
      · (intro W9 hSw; (try dsimp only at hSw); (try simp only [List.getElem_toArray, List.getElem_cons_succ, List.getElem_cons_zero]); go_simp; (try (with_reducible rfl)))
      simp only [Act.put, List.getElem_toArray, List.getElem_cons_succ, List.getElem_cons_zero, List.setIfInBounds_toArray, List.set_cons_zero, List.set_cons_succ]
      refine wpAnyH_take (i := 27) (oi := _) (v := ?_) rfl (by kernel_rfl) (by kernel_rfl) (by kernel_rfl) (fun _ _ _ h => h) (Or.inl ⟨by rfl, ?_⟩) (by assumption) ?_
      rotate_left
      · (intro W9 hSw; (try dsimp only at hSw); (try simp only [List.getElem_toArray, List.getElem_cons_succ, List.getElem_cons_zero]); go_simp; (try (with_reducible rfl)))
      simp only [Act.put, List.getElem_toArray, List.getElem_cons_succ, List.getElem_cons_zero, List.setIfInBounds_toArray, List.set_cons_zero, List.set_cons_succ]
      refine wpAnyH_take (i := 28) (oi := _) (v := ?_) rfl (by kernel_rfl) (by kernel_rfl) (by kernel_rfl) (fun _ _ _ h => h) (Or.inl ⟨by rfl, ?_⟩) (by assumption) ?_
      rotate_left
      · (intro W9 hSw; (try dsimp only at hSw); (try simp only [List.getElem_toArray, List.getElem_cons_succ, List.getElem_cons_zero]); go_simp; (try (with_reducible rfl)))
      simp only [Act.put, List.getElem_toArray, List.getElem_cons_succ, List.getElem_cons_zero, List.setIfInBounds_toArray, List.set_cons_zero, List.set_cons_succ]
      refine wpAnyH_take (i := 29) (oi := _) (v := ?_) rfl (by kernel_rfl) (by kernel_rfl) (by kernel_rfl) (fun _ _ _ h => h) (Or.inl ⟨by rfl, ?_⟩) (by assumption) ?_
      rotate_left
      · (intro W9 hSw; (try dsimp only at hSw); (try simp only [List.getElem_toArray, List.getElem_cons_succ, List.getElem_cons_zero]); go_simp; (try (with_reducible rfl)))
      simp only [Act.put, List.getElem_toArray, List.getElem_cons_succ, List.getElem_cons_zero, List.setIfInBounds_toArray, List.set_cons_zero, List.set_cons_succ]
      refine wpAnyH_ready (rs := [30]) (by kernel_rfl) (by simp) ?_
      refine AllReadyH.cons (o := _) rfl (fun K hK => ?_) AllReadyH.nil
      (try simp only [List.getElem_toArray, List.getElem_cons_succ, List.getElem_cons_zero])
      go_simp
      go_at_call 30; refine (q5 _ (by (repeat (first | with_reducible assumption | with_reducible exact Below.refl _ _ | with_reducible refine Below.drewI ?_ | with_reducible refine Below.allocI ?_ _ | (with_reducible refine Below.setI ?_ ?_ _; rotate_left; (first | omega | (simp only [World.size_alloc]; omega))))))).mono ?_; clear q5; rintro e wE5 ⟨rfl, hbe5⟩; have hbE5 : Below w7.heap.size w7 wE5 := Below.callI (by (repeat (first | with_reducible assumption | with_reducible exact Below.refl _ _ | with_reducible refine Below.drewI ?_ | with_reducible refine Below.allocI ?_ _ | (with_reducible refine Below.setI ?_ ?_ _; rotate_left; (first | omega | (simp only [World.size_alloc]; omega)))))) hbe5
      refine hK.out _ _ ?_ (fun hHeld => ?_)
      · (with_reducible refine HS.out _ ?_; (repeat (first | with_reducible assumption | with_reducible exact Below.refl _ _ | with_reducible refine Below.drewI ?_ | with_reducible refine Below.allocI ?_ _ | (with_reducible refine Below.setI ?_ ?_ _; rotate_left; (first | omega | (simp only [World.size_alloc]; omega))))); done)
      clear hK K
      (try simp only [Act.put, List.getElem_toArray, List.getElem_cons_succ, List.getElem_cons_zero, List.setIfInBounds_toArray, List.set_cons_zero, List.set_cons_succ])
      refine wpAnyH_take (i := 31) (oi := _) (v := ?_) rfl (by kernel_rfl) (by kernel_rfl) (by kernel_rfl) (fun _ _ _ h => h) (Or.inl ⟨by rfl, ?_⟩) (by assumption) ?_
      rotate_left
      · (intro W9 hSw; (try dsimp only at hSw); (try simp only [List.getElem_toArray, List.getElem_cons_succ, List.getElem_cons_zero]); go_simp; (try (with_reducible rfl)))
      simp only [Act.put, List.getElem_toArray, List.getElem_cons_succ, List.getElem_cons_zero, List.setIfInBounds_toArray, List.set_cons_zero, List.set_cons_succ]
      refine wpAnyH_take (i := 32) (oi := _) (v := ?_) rfl (by kernel_rfl) (by kernel_rfl) (by kernel_rfl) (fun _ _ _ h => h) (Or.inl ⟨by rfl, ?_⟩) (by assumption) ?_
      rotate_left
      · (intro W9 hSw; (try dsimp only at hSw); (try simp only [List.getElem_toArray, List.getElem_cons_succ, List.getElem_cons_zero]); go_simp; (try (with_reducible rfl)))
      simp only [Act.put, List.getElem_toArray, List.getElem_cons_succ, List.getElem_cons_zero, List.setIfInBounds_toArray, List.set_cons_zero, List.set_cons_succ]
      refine wpAnyH_take (i := 33) (oi := _) (v := ?_) rfl (by kernel_rfl) (by kernel_rfl) (by kernel_rfl) (fun _ _ _ h => h) (Or.inl ⟨by rfl, ?_⟩) (by assumption) ?_
      rotate_left
      · (intro W9 hSw; (try dsimp only at hSw); (try simp only [List.getElem_toArray, List.getElem_cons_succ, List.getElem_cons_zero]); go_simp; (try (with_reducible rfl)))
      simp only [Act.put, List.getElem_toArray, List.getElem_cons_succ, List.getElem_cons_zero, List.setIfInBounds_toArray, List.set_cons_zero, List.set_cons_succ]
      refine wpAnyH_done (by kernel_rfl) ?_ _
      go_wp2_with fail
      go_meet
      case rel => exact ⟨rfl, hbE5⟩
    · have L0 : ((us.length : Int) == 0) = false := by
        have : us.length ≠ 0 := fun e => hu0 (List.length_eq_zero_iff.1 e)
        simp; omega
      have L1 : (us.length == 0) = false := by
        have : us.length ≠ 0 := fun e => hu0 (List.length_eq_zero_iff.1 e)
        simpa using hu0
      clear hu0 p5
      refine wp_region_held_drew (S := fun W => (W.cell? ⟨wR.heap.size, 0, none⟩ = some (.int .u8 u.k) ∧ W.cell? ⟨wR.heap.size, 1, none⟩ = some (.int .i64 u.n) ∧ W.cell? ⟨wR.heap.size, 2, none⟩ = some (.string u.s) ∧ W.cell? ⟨wR.heap.size, 3, none⟩ = some (.slice a9 u.l.length c9) ∧ W.cell? ⟨wR.heap.size, 4, none⟩ = some (.int .i64 u.r)) ∧ (W.cell? ⟨w.heap.size, 0, none⟩ = some (.int .u8 t.k) ∧ W.cell? ⟨w.heap.size, 1, none⟩ = some (.int .i64 t.n) ∧ W.cell? ⟨w.heap.size, 2, none⟩ = some (.string t.s) ∧ W.cell? ⟨w.heap.size, 3, none⟩ = some (.slice a t.l.length c) ∧ W.cell? ⟨w.heap.size, 4, none⟩ = some (.int .i64 t.r))) (by kernel_rfl) K0.out (fun hHeld => ?_)
      refine wpAnyH_take (i := 0) (oi := _) (v := ?_) rfl (by kernel_rfl) (by kernel_rfl) (by kernel_rfl) (fun _ _ _ h => h) (Or.inl ⟨by rfl, ?_⟩) (by assumption) ?_
      rotate_left
      · (intro W9 hSw; (try dsimp only at hSw); (try simp only [List.getElem_toArray, List.getElem_cons_succ, List.getElem_cons_zero]); go_simp; (try (with_reducible rfl)))
      simp only [Act.put, List.getElem_toArray, List.getElem_cons_succ, List.getElem_cons_zero, List.setIfInBounds_toArray, List.set_cons_zero, List.set_cons_succ]
      refine wpAnyH_take (i := 1) (oi := _) (v := ?_) rfl (by kernel_rfl) (by kernel_rfl) (by kernel_rfl) (fun _ _ _ h => h) (Or.inl ⟨by rfl, ?_⟩) (by assumption) ?_
      rotate_left
      · (intro W9 hSw; (try dsimp only at hSw); (try simp only [List.getElem_toArray, List.getElem_cons_succ, List.getElem_cons_zero]); go_simp; (try (with_reducible rfl)))
      simp only [Act.put, List.getElem_toArray, List.getElem_cons_succ, List.getElem_cons_zero, List.setIfInBounds_toArray, List.set_cons_zero, List.set_cons_succ]
      refine wpAnyH_take (i := 2) (oi := _) (v := ?_) rfl (by kernel_rfl) (by kernel_rfl) (by kernel_rfl) (fun _ _ _ h => h) (Or.inl ⟨by rfl, ?_⟩) (by assumption) ?_
      rotate_left
      · (intro W9 hSw; (try dsimp only at hSw); (try simp only [List.getElem_toArray, List.getElem_cons_succ, List.getElem_cons_zero]); go_simp; (try (with_reducible rfl)))
      simp only [Act.put, List.getElem_toArray, List.getElem_cons_succ, List.getElem_cons_zero, List.setIfInBounds_toArray, List.set_cons_zero, List.set_cons_succ]
      refine wpAnyH_take (i := 3) (oi := _) (v := ?_) rfl (by kernel_rfl) (by kernel_rfl) (by kernel_rfl) (fun _ _ _ h => h) (Or.inl ⟨by rfl, ?_⟩) (by assumption) ?_
      rotate_left
      · (intro W9 hSw; (try dsimp only at hSw); (try simp only [List.getElem_toArray, List.getElem_cons_succ, List.getElem_cons_zero]); go_simp; (try (with_reducible rfl)))
      simp only [Act.put, List.getElem_toArray, List.getElem_cons_succ, List.getElem_cons_zero, List.setIfInBounds_toArray, List.set_cons_zero, List.set_cons_succ]
      refine wpAnyH_take (i := 4) (oi := _) (v := ?_) rfl (by kernel_rfl) (by kernel_rfl) (by kernel_rfl) (fun _ _ _ h => h) (Or.inl ⟨by rfl, ?_⟩) (by assumption) ?_
      rotate_left
      · (intro W9 hSw; (try dsimp only at hSw); (try simp only [List.getElem_toArray, List.getElem_cons_succ, List.getElem_cons_zero]); go_simp; (try (with_reducible rfl)))
      simp only [Act.put, List.getElem_toArray, List.getElem_cons_succ, List.getElem_cons_zero, List.setIfInBounds_toArray, List.set_cons_zero, List.set_cons_succ]
      refine wpAnyH_take (i := 5) (oi := _) (v := ?_) rfl (by kernel_rfl) (by kernel_rfl) (by kernel_rfl) (fun _ _ _ h => h) (Or.inl ⟨by rfl, ?_⟩) (by assumption) ?_
      rotate_left
      · (intro W9 hSw; (try dsimp only at hSw); (try simp only [List.getElem_toArray, List.getElem_cons_succ, List.getElem_cons_zero]); go_simp; (try (with_reducible rfl)))
      simp only [Act.put, List.getElem_toArray, List.getElem_cons_succ, List.getElem_cons_zero, List.setIfInBounds_toArray, List.set_cons_zero, List.set_cons_succ]
      refine wpAnyH_take (i := 6) (oi := _) (v := ?_) rfl (by kernel_rfl) (by kernel_rfl) (by kernel_rfl) (fun _ _ _ h => h) (Or.inl ⟨by rfl, ?_⟩) (by assumption) ?_
      rotate_left
      · (intro W9 hSw; (try dsimp only at hSw); (try simp only [List.getElem_toArray, List.getElem_cons_succ, List.getElem_cons_zero]); go_simp; (try (with_reducible rfl)))
      simp only [Act.put, List.getElem_toArray, List.getElem_cons_succ, List.getElem_cons_zero, List.setIfInBounds_toArray, List.set_cons_zero, List.set_cons_succ]
      refine wpAnyH_take (i := 7) (oi := _) (v := ?_) rfl (by kernel_rfl) (by kernel_rfl) (by kernel_rfl) (fun _ _ _ h => h) (Or.inl ⟨by rfl, ?_⟩) (by assumption) ?_
      rotate_left
      · (intro W9 hSw; (try dsimp only at hSw); (try simp only [List.getElem_toArray, List.getElem_cons_succ, List.getElem_cons_zero]); go_simp; (try (with_reducible rfl)))
      simp only [Act.put, List.getElem_toArray, List.getElem_cons_succ, List.getElem_cons_zero, List.setIfInBounds_toArray, List.set_cons_zero, List.set_cons_succ]
      refine wpAnyH_take (i := 8) (oi := _) (v := ?_) rfl (by kernel_rfl) (by kernel_rfl) (by kernel_rfl) (fun _ _ _ h => h) (Or.inl ⟨by rfl, ?_⟩) (by assumption) ?_
      rotate_left
      · (intro W9 hSw; (try dsimp only at hSw); (try simp only [List.getElem_toArray, List.getElem_cons_succ, List.getElem_cons_zero]); go_simp; (try (with_reducible rfl)))
      simp only [Act.put, List.getElem_toArray, List.getElem_cons_succ, List.getElem_cons_zero, List.setIfInBounds_toArray, List.set_cons_zero, List.set_cons_succ]
      refine wpAnyH_take (i := 9) (oi := _) (v := ?_) rfl (by kernel_rfl) (by kernel_rfl) (by kernel_rfl) (fun _ _ _ h => h) (Or.inl ⟨by rfl, ?_⟩) (by assumption) ?_
      rotate_left
      · (intro W9 hSw; (try dsimp only at hSw); (try simp only [List.getElem_toArray, List.getElem_cons_succ, List.getElem_cons_zero]); go_simp; (try (with_reducible rfl)))
      simp only [Act.put, List.getElem_toArray, List.getElem_cons_succ, List.getElem_cons_zero, List.setIfInBounds_toArray, List.set_cons_zero, List.set_cons_succ]
      refine wpAnyH_take (i := 10) (oi := _) (v := ?_) rfl (by kernel_rfl) (by kernel_rfl) (by kernel_rfl) (fun _ _ _ h => h) (Or.inl ⟨by rfl, ?_⟩) (by assumption) ?_
      rotate_left
      · (intro W9 hSw; (try dsimp only at hSw); (try simp only [List.getElem_toArray, List.getElem_cons_succ, List.getElem_cons_zero]); go_simp; (try (with_reducible rfl)))
      simp only [Act.put, List.getElem_toArray, List.getElem_cons_succ, List.getElem_cons_zero, List.setIfInBounds_toArray, List.set_cons_zero, List.set_cons_succ]
      refine wpAnyH_take (i := 12) (oi := _) (v := ?_) rfl (by kernel_rfl) (by kernel_rfl) (by kernel_rfl) (fun _ _ _ h => h) (Or.inl ⟨by rfl, ?_⟩) (by assumption) ?_
      rotate_left
      · (intro W9 hSw; (try dsimp only at hSw); (try simp only [List.getElem_toArray, List.getElem_cons_succ, List.getElem_cons_zero]); go_simp; (try (with_reducible rfl)))
      simp only [Act.put, List.getElem_toArray, List.getElem_cons_succ, List.getElem_cons_zero, List.setIfInBounds_toArray, List.set_cons_zero, List.set_cons_succ]
      refine wpAnyH_ready (rs := [11]) (by kernel_rfl) (by simp) ?_
      refine AllReadyH.cons (o := _) rfl (fun K hK => ?_) AllReadyH.nil
      (try simp only [List.getElem_toArray, List.getElem_cons_succ, List.getElem_cons_zero])
      go_simp
      go_at_call 32; refine (p1 _ (by (repeat (first | with_reducible assumption | with_reducible exact Below.refl _ _ | with_reducible refine Below.drewI ?_ | with_reducible refine Below.allocI ?_ _ | (with_reducible refine Below.setI ?_ ?_ _; rotate_left; (first | omega | (simp only [World.size_alloc]; omega))))))).mono ?_; clear p1; rintro e wE1 ⟨rfl, hbe1⟩; have hbE1 : Below w7.heap.size w7 wE1 := Below.callI (by (repeat (first | with_reducible assumption | with_reducible exact Below.refl _ _ | with_reducible refine Below.drewI ?_ | with_reducible refine Below.allocI ?_ _ | (with_reducible refine Below.setI ?_ ?_ _; rotate_left; (first | omega | (simp only [World.size_alloc]; omega)))))) hbe1
      refine hK.out _ _ ?_ (fun hHeld => ?_)
      · (with_reducible refine HS.out _ ?_; (repeat (first | with_reducible assumption | with_reducible exact Below.refl _ _ | with_reducible refine Below.drewI ?_ | with_reducible refine Below.allocI ?_ _ | (with_reducible refine Below.setI ?_ ?_ _; rotate_left; (first | omega | (simp only [World.size_alloc]; omega))))); done)
      clear hK K
      (try simp only [Act.put, List.getElem_toArray, List.getElem_cons_succ, List.getElem_cons_zero, List.setIfInBounds_toArray, List.set_cons_zero, List.set_cons_succ])
      refine wpAnyH_ready (rs := [13]) (by kernel_rfl) (by simp) ?_
      refine AllReadyH.cons (o := _) rfl (fun K hK => ?_) AllReadyH.nil
      (try simp only [List.getElem_toArray, List.getElem_cons_succ, List.getElem_cons_zero])
      go_simp
      go_at_call 32; refine (p2 _ (by (repeat (first | with_reducible assumption | with_reducible exact Below.refl _ _ | with_reducible refine Below.drewI ?_ | with_reducible refine Below.allocI ?_ _ | (with_reducible refine Below.setI ?_ ?_ _; rotate_left; (first | omega | (simp only [World.size_alloc]; omega))))))).mono ?_; clear p2; rintro e wE2 ⟨rfl, hbe2⟩; have hbE2 : Below w7.heap.size w7 wE2 := Below.callI (by (repeat (first | with_reducible assumption | with_reducible exact Below.refl _ _ | with_reducible refine Below.drewI ?_ | with_reducible refine Below.allocI ?_ _ | (with_reducible refine Below.setI ?_ ?_ _; rotate_left; (first | omega | (simp only [World.size_alloc]; omega)))))) hbe2
      refine hK.out _ _ ?_ (fun hHeld => ?_)
      · (with_reducible refine HS.out _ ?_; (repeat (first | with_reducible assumption | with_reducible exact Below.refl _ _ | with_reducible refine Below.drewI ?_ | with_reducible refine Below.allocI ?_ _ | (with_reducible refine Below.setI ?_ ?_ _; rotate_left; (first | omega | (simp only [World.size_alloc]; omega))))); done)
      clear hK K
      (try simp only [Act.put, List.getElem_toArray, List.getElem_cons_succ, List.getElem_cons_zero, List.setIfInBounds_toArray, List.set_cons_zero, List.set_cons_succ])
      refine wpAnyH_take (i := 14) (oi := _) (v := ?_) rfl (by kernel_rfl) (by kernel_rfl) (by kernel_rfl) (fun _ _ _ h => h) (Or.inl ⟨by rfl, ?_⟩) (by assumption) ?_
      rotate_left
      · (intro W9 hSw; (try dsimp only at hSw); (try simp only [List.getElem_toArray, List.getElem_cons_succ, List.getElem_cons_zero]); go_simp; (try (with_reducible rfl)))
      simp only [Act.put, List.getElem_toArray, List.getElem_cons_succ, List.getElem_cons_zero, List.setIfInBounds_toArray, List.set_cons_zero, List.set_cons_succ]
      refine wpAnyH_take (i := 15) (oi := _) (v := ?_) rfl (by kernel_rfl) (by kernel_rfl) (by kernel_rfl) (fun _ _ _ h => h) (Or.inl ⟨by rfl, ?_⟩) (by assumption) ?_
      rotate_left
      · (intro W9 hSw; (try dsimp only at hSw); (try simp only [List.getElem_toArray, List.getElem_cons_succ, List.getElem_cons_zero]); go_simp; (try (with_reducible rfl)))
      simp only [Act.put, List.getElem_toArray, List.getElem_cons_succ, List.getElem_cons_zero, List.setIfInBounds_toArray, List.set_cons_zero, List.set_cons_succ]
      refine wpAnyH_take (i := 16) (oi := _) (v := ?_) rfl (by kernel_rfl) (by kernel_rfl) (by kernel_rfl) (fun _ _ _ h => h) (Or.inl ⟨by rfl, ?_⟩) (by assumption) ?_
      rotate_left
      · (intro W9 hSw; (try dsimp only at hSw); (try simp only [List.getElem_toArray, List.getElem_cons_succ, List.getElem_cons_zero]); go_simp; (try (with_reducible rfl)))
      simp only [Act.put, List.getElem_toArray, List.getElem_cons_succ, List.getElem_cons_zero, List.setIfInBounds_toArray, List.set_cons_zero, List.set_cons_succ]
      refine wpAnyH_take (i := 17) (oi := _) (v := ?_) rfl (by kernel_rfl) (by kernel_rfl) (by kernel_rfl) (fun _ _ _ h => h) (Or.inl ⟨by rfl, ?_⟩) (by assumption) ?_
      rotate_left
      · (intro W9 hSw; (try dsimp only at hSw); (try simp only [List.getElem_toArray, List.getElem_cons_succ, List.getElem_cons_zero]); go_simp; (try (with_reducible rfl)))
      simp only [Act.put, List.getElem_toArray, List.getElem_cons_succ, List.getElem_cons_zero, List.setIfInBounds_toArray, List.set_cons_zero, List.set_cons_succ]
      refine wpAnyH_take (i := 19) (oi := _) (v := ?_) rfl (by kernel_rfl) (by kernel_rfl) (by kernel_rfl) (fun _ _ _ h => h) (Or.inl ⟨by rfl, ?_⟩) (by assumption) ?_
      rotate_left
      · (intro W9 hSw; (try dsimp only at hSw); (try simp only [List.getElem_toArray, List.getElem_cons_succ, List.getElem_cons_zero]); go_simp; (try (with_reducible rfl)))
      simp only [Act.put, List.getElem_toArray, List.getElem_cons_succ, List.getElem_cons_zero, List.setIfInBounds_toArray, List.set_cons_zero, List.set_cons_succ]
      refine wpAnyH_ready (rs := [18]) (by kernel_rfl) (by simp) ?_
      refine AllReadyH.cons (o := _) rfl (fun K hK => ?_) AllReadyH.nil
      (try simp only [List.getElem_toArray, List.getElem_cons_succ, List.getElem_cons_zero])
      go_simp
      go_at_call 33; refine (p3 _ (by (repeat (first | with_reducible assumption | with_reducible exact Below.refl _ _ | with_reducible refine Below.drewI ?_ | with_reducible refine Below.allocI ?_ _ | (with_reducible refine Below.setI ?_ ?_ _; rotate_left; (first | omega | (simp only [World.size_alloc]; omega))))))).mono ?_; clear p3; rintro e wE3 ⟨rfl, hbe3⟩; have hbE3 : Below w7.heap.size w7 wE3 := Below.callI (by (repeat (first | with_reducible assumption | with_reducible exact Below.refl _ _ | with_reducible refine Below.drewI ?_ | with_reducible refine Below.allocI ?_ _ | (with_reducible refine Below.setI ?_ ?_ _; rotate_left; (first | omega | (simp only [World.size_alloc]; omega)))))) hbe3
      refine hK.out _ _ ?_ (fun hHeld => ?_)
      · (with_reducible refine HS.out _ ?_; (repeat (first | with_reducible assumption | with_reducible exact Below.refl _ _ | with_reducible refine Below.drewI ?_ | with_reducible refine Below.allocI ?_ _ | (with_reducible refine Below.setI ?_ ?_ _; rotate_left; (first | omega | (simp only [World.size_alloc]; omega))))); done)
      clear hK K
      (try simp only [Act.put, List.getElem_toArray, List.getElem_cons_succ, List.getElem_cons_zero, List.setIfInBounds_toArray, List.set_cons_zero, List.set_cons_succ])
      refine wpAnyH_ready (rs := [20]) (by kernel_rfl) (by simp) ?_
      refine AllReadyH.cons (o := _) rfl (fun K hK => ?_) AllReadyH.nil
      (try simp only [List.getElem_toArray, List.getElem_cons_succ, List.getElem_cons_zero])
      go_simp
      go_at_call 33; refine (p4 _ (by (repeat (first | with_reducible assumption | with_reducible exact Below.refl _ _ | with_reducible refine Below.drewI ?_ | with_reducible refine Below.allocI ?_ _ | (with_reducible refine Below.setI ?_ ?_ _; rotate_left; (first | omega | (simp only [World.size_alloc]; omega))))))).mono ?_; clear p4; rintro e wE4 ⟨rfl, hbe4⟩; have hbE4 : Below w7.heap.size w7 wE4 := Below.callI (by (repeat (first | with_reducible assumption | with_reducible exact Below.refl _ _ | with_reducible refine Below.drewI ?_ | with_reducible refine Below.allocI ?_ _ | (with_reducible refine Below.setI ?_ ?_ _; rotate_left; (first | omega | (simp only [World.size_alloc]; omega)))))) hbe4
      refine hK.out _ _ ?_ (fun hHeld => ?_)
      · (with_reducible refine HS.out _ ?_; (repeat (first | with_reducible assumption | with_reducible exact Below.refl _ _ | with_reducible refine Below.drewI ?_ | with_reducible refine Below.allocI ?_ _ | (with_reducible refine Below.setI ?_ ?_ _; rotate_left; (first | omega | (simp only [World.size_alloc]; omega))))); done)
      clear hK K
      (try simp only [Act.put, List.getElem_toArray, List.getElem_cons_succ, List.getElem_cons_zero, List.setIfInBounds_toArray, List.set_cons_zero, List.set_cons_succ])
      refine wpAnyH_take (i := 21) (oi := _) (v := ?_) rfl (by kernel_rfl) (by kernel_rfl) (by kernel_rfl) (fun _ _ _ h => h) (Or.inl ⟨by rfl, ?_⟩) (by assumption) ?_
      rotate_left
      · (intro W9 hSw; (try dsimp only at hSw); (try simp only [List.getElem_toArray, List.getElem_cons_succ, List.getElem_cons_zero]); go_simp; (try (with_reducible rfl)))
      simp only [Act.put, List.getElem_toArray, List.getElem_cons_succ, List.getElem_cons_zero, List.setIfInBounds_toArray, List.set_cons_zero, List.set_cons_succ]
      refine wpAnyH_take (i := 22) (oi := _) (v := ?_) rfl (by kernel_rfl) (by kernel_rfl) (by kernel_rfl) (fun _ _ _ h => h) (Or.inl ⟨by rfl, ?_⟩) (by assumption) ?_
      rotate_left
      · (intro W9 hSw; (try dsimp only at hSw); (try simp only [List.getElem_toArray, List.getElem_cons_succ, List.getElem_cons_zero]); go_simp; (try (with_reducible rfl)))
      simp only [Act.put, List.getElem_toArray, List.getElem_cons_succ, List.getElem_cons_zero, List.setIfInBounds_toArray, List.set_cons_zero, List.set_cons_succ]
      refine wpAnyH_take (i := 23) (oi := _) (v := ?_) rfl (by kernel_rfl) (by kernel_rfl) (by kernel_rfl) (fun _ _ _ h => h) (Or.inl ⟨by rfl, ?_⟩) (by assumption) ?_
      rotate_left
      · (intro W9 hSw; (try dsimp only at hSw); (try simp only [List.getElem_toArray, List.getElem_cons_succ, List.getElem_cons_zero]); go_simp; (try (with_reducible rfl)))
      simp only [Act.put, List.getElem_toArray, List.getElem_cons_succ, List.getElem_cons_zero, List.setIfInBounds_toArray, List.set_cons_zero, List.set_cons_succ]
      refine wpAnyH_take (i := 24) (oi := _) (v := ?_) rfl (by kernel_rfl) (by kernel_rfl) (by kernel_rfl) (fun _ _ _ h => h) (Or.inl ⟨by rfl, ?_⟩) (by assumption) ?_
      rotate_left
      · (intro W9 hSw; (try dsimp only at hSw); (try simp only [List.getElem_toArray, List.getElem_cons_succ, List.getElem_cons_zero]); go_simp; (try (with_reducible rfl)))
      simp only [Act.put, List.getElem_toArray, List.getElem_cons_succ, List.getElem_cons_zero, List.setIfInBounds_toArray, List.set_cons_zero, List.set_cons_succ]
      refine wpAnyH_take (i := 25) (oi := _) (v := ?_) rfl (by kernel_rfl) (by kernel_rfl) (by kernel_rfl) (fun _ _ _ h => h) (Or.inl ⟨by rfl, ?_⟩) (by assumption) ?_
      rotate_left
      · (intro W9 hSw; (try dsimp only at hSw); (try simp only [List.getElem_toArray, List.getElem_cons_succ, List.getElem_cons_zero]); go_simp; (try (with_reducible rfl)))
      simp only [Act.put, List.getElem_toArray, List.getElem_cons_succ, List.getElem_cons_zero, List.setIfInBounds_toArray, List.set_cons_zero, List.set_cons_succ]
      refine wpAnyH_take (i := 26) (oi := _) (v := ?_) rfl (by kernel_rfl) (by kernel_rfl) (by kernel_rfl) (fun _ _ _ h => h) (Or.inl ⟨by rfl, ?_⟩) (by assumption) ?_
      rotate_left
      · (intro W9 hSw; (try dsimp only at hSw); (try simp only [List.getElem_toArray, List.getElem_cons_succ, List.getElem_cons_zero]); go_simp; (try (with_reducible rfl)))
      simp only [Act.put, List.getElem_toArray, List.getElem_cons_succ, List.getElem_cons_zero, List.setIfInBounds_toArray, List.set_cons_zero, List.set_cons_succ]
      refine wpAnyH_take (i := 27) (oi := _) (v := ?_) rfl (by kernel_rfl) (by kernel_rfl) (by kernel_rfl) (fun _ _ _ h => h) (Or.inl ⟨by rfl, ?_⟩) (by assumption) ?_
      rotate_left
      · (intro W9 hSw; (try dsimp only at hSw); (try simp only [List.getElem_toArray, List.getElem_cons_succ, List.getElem_cons_zero]); go_simp; (try (with_reducible rfl)))
      simp only [Act.put, List.getElem_toArray, List.getElem_cons_succ, List.getElem_cons_zero, List.setIfInBounds_toArray, List.set_cons_zero, List.set_cons_succ]
      refine wpAnyH_take (i := 28) (oi := _) (v := undef) rfl (by kernel_rfl) (by kernel_rfl) (by kernel_rfl) (fun _ _ _ h => h) (Or.inr ⟨by rfl, rfl⟩) (by assumption) ?_
      simp only [Act.put, List.getElem_toArray, List.getElem_cons_succ, List.getElem_cons_zero, List.setIfInBounds_toArray, List.set_cons_zero, List.set_cons_succ]
      refine wpAnyH_take (i := 29) (oi := _) (v := undef) rfl (by kernel_rfl) (by kernel_rfl) (by kernel_rfl) (fun _ _ _ h => h) (Or.inr ⟨by rfl, rfl⟩) (by assumption) ?_
      simp only [Act.put, List.getElem_toArray, List.getElem_cons_succ, List.getElem_cons_zero, List.setIfInBounds_toArray, List.set_cons_zero, List.set_cons_succ]
      refine wpAnyH_take (i := 30) (oi := _) (v := undef) rfl (by kernel_rfl) (by kernel_rfl) (by kernel_rfl) (fun _ _ _ h => h) (Or.inr ⟨by rfl, rfl⟩) (by assumption) ?_
      simp only [Act.put, List.getElem_toArray, List.getElem_cons_succ, List.getElem_cons_zero, List.setIfInBounds_toArray, List.set_cons_zero, List.set_cons_succ]
      refine wpAnyH_take (i := 31) (oi := _) (v := undef) rfl (by kernel_rfl) (by kernel_rfl) (by kernel_rfl) (fun _ _ _ h => h) (Or.inr ⟨by rfl, rfl⟩) (by assumption) ?_
      simp only [Act.put, List.getElem_toArray, List.getElem_cons_succ, List.getElem_cons_zero, List.setIfInBounds_toArray, List.set_cons_zero, List.set_cons_succ]
      refine wpAnyH_take (i := 32) (oi := _) (v := ?_) rfl (by kernel_rfl) (by kernel_rfl) (by kernel_rfl) (fun _ _ _ h => h) (Or.inl ⟨by rfl, ?_⟩) (by assumption) ?_
      rotate_left
      · (intro W9 hSw; (try dsimp only at hSw); (try simp only [List.getElem_toArray, List.getElem_cons_succ, List.getElem_cons_zero]); go_simp; (try (with_reducible rfl)))
      simp only [Act.put, List.getElem_toArray, List.getElem_cons_succ, List.getElem_cons_zero, List.setIfInBounds_toArray, List.set_cons_zero, List.set_cons_succ]
      refine wpAnyH_take (i := 33) (oi := _) (v := ?_) rfl (by kernel_rfl) (by kernel_rfl) (by kernel_rfl) (fun _ _ _ h => h) (Or.inl ⟨by rfl, ?_⟩) (by assumption) ?_
      rotate_left
      · (intro W9 hSw; (try dsimp only at hSw); (try simp only [List.getElem_toArray, List.getElem_cons_succ, List.getElem_cons_zero]); go_simp; (try (with_reducible rfl)))
      simp only [Act.put, List.getElem_toArray, List.getElem_cons_succ, List.getElem_cons_zero, List.setIfInBounds_toArray, List.set_cons_zero, List.set_cons_succ]
      refine wpAnyH_done (by kernel_rfl) ?_ _
      go_wp2_with fail
      go_meet
      case rel => exact ⟨rfl, hbE4⟩
  case rest =>
    obtain ⟨w8, rfl⟩ : ∃ w8 : World, w8 = wc := ⟨_, rfl⟩
    obtain ⟨rfl, hb8⟩ := hcut
    clear p1 p2 p3 p4 p5 K0
    go_wp2_with fail
    go_loopg [14] us.length (fun gg vi wr => ∃ i : Nat, vi = .int .i64 i ∧ i + gg = us.length ∧ Below w7.heap.size w7 wr)
    case atStart => exact ⟨0, rfl, by simp, hb8⟩
    case round =>
      obtain ⟨i, rfl, hgi, hb⟩ := hrel
      clear hb8
      by_cases h : i < us.length
      · obtain ⟨b1, o1, rfl, _, e1⟩ := (HBG.out wr hb).elem i h
        obtain ⟨b2, o2, rfl, _, e2⟩ := (HBW.out wr hb).elem i h
        obtain ⟨q, hq⟩ : ∃ q, us[i] = q := ⟨_, rfl⟩
        rw [hq] at e1 e2
        have i2 : (i : Int) < (us.length : Int) := by omega
        have HBB := Lib.hid hb
        clear hq hb
        go_upto_region 13 with fail
        go_quiet (fail)
        go_wp2_with fail
        go_roundg (gk - 1)
        case measure => omega
        case rel => exact ⟨i + 1, by go_num, by omega, ⟨HBB.out.os, HBB.out.tape, HBB.out.output, HBB.out.size, HBB.out.block⟩⟩
      · obtain ⟨wz, rfl⟩ : ∃ wz : World, wz = wr := ⟨_, rfl⟩
        have HB := Lib.hid hb
        clear hb
        go_wp2_with fail
        go_loopg [15, 16] nx.length (fun gg vo vi wq => ∃ (b : Bool) (i : Nat), vo = .bool b ∧ vi = .int .i64 i ∧ i + gg = nx.length ∧ Below w7.heap.size w7 wq ∧ Aside (b = true → ∀ p q, q < p → p < i → nx.getD p 0 ≠ nx.getD q 0))
        case atStart => exact ⟨true, 0, rfl, rfl, by simp, HB.out, fun _ p q h1 h2 => absurd h2 (by omega)⟩
        case round =>
          obtain ⟨b, i, rfl, rfl, hgi, hb, hds⟩ := hrel
          by_cases h : i < nx.length
          · go_upto_block 3 with fail
            go_cut [15] (fun vo wx => ∃ b' : Bool, vo = .bool b' ∧ Below w7.heap.size w7 wx ∧ Aside (b' = true → ∀ p q, q < p → p < i + 1 → nx.getD p 0 ≠ nx.getD q 0))
            case first =>
              go_wp2_with fail
              go_loopg [15, 17] i (fun gg2 vo vk wq => ∃ (b' : Bool) (k : Nat), vo = .bool b' ∧ vk = .int .i64 k ∧ k + gg2 = i ∧ Below w7.heap.size w7 wq ∧ Aside (b' = true → (∀ p q, q < p → p < i → nx.getD p 0 ≠ nx.getD q 0) ∧ ∀ q, q < k → nx.getD i 0 ≠ nx.getD q 0))
              case atStart => exact ⟨b, 0, rfl, rfl, by simp, hb, fun e => ⟨hds.out e, fun q h => absurd h (by omega)⟩⟩
              case round =>
                obtain ⟨b', k, rfl, rfl, hgk, hbq, hdk⟩ := hrel
                by_cases hk : k < i
                · obtain ⟨b1, o1, rfl, _, e1⟩ := (HB2'.out wr hbq).elem i h
                  have e2 := (HB2'.out wr hbq).at_ k (by omega)
                  have d1 := getD_of h
                  have d2 := getD_of (l := nx) (i := k) (by omega)
                  obtain ⟨x, hx⟩ : ∃ x, nx[i] = x := ⟨_, rfl⟩
                  obtain ⟨y, hy⟩ : ∃ y, nx[k] = y := ⟨_, rfl⟩
                  rw [hx] at e1 d1
                  rw [hy] at e2 d2
                  have D1 := Lib.hid d1
                  have D2 := Lib.hid d2
                  have HBB := Lib.hid hbq
                  have i2 : (i : Int) < (nx.length : Int) := by omega
                  have i3 : (k : Int) < (nx.length : Int) := by omega
                  have i4 : (k : Int) < (i : Int) := by omega
                  clear hx hy d1 d2 hbq hb
                  cases b' with
                  | false =>
                    go_upto_region 22 with fail
                    go_quiet (fail)
                    go_wp2_with fail
                    go_roundg (gk - 1)
                    case measure => omega
                    case rel => exact ⟨false, k + 1, rfl, by go_num, by omega, ⟨HBB.out.os, HBB.out.tape, HBB.out.output, HBB.out.size, HBB.out.block⟩, fun e => by cases e⟩
                  | true =>
                    by_cases hxy : x = y
                    · subst hxy
                      go_upto_region 22 with fail
                      go_quiet (fail)
                      go_wp2_with fail
                      go_roundg (gk - 1)
                      case measure => omega
                      case rel => exact ⟨false, k + 1, rfl, by go_num, by omega, ⟨HBB.out.os, HBB.out.tape, HBB.out.output, HBB.out.size, HBB.out.block⟩, fun e => by cases e⟩
                    · have HXY := Lib.hid hxy
                      have n1 : (x == y) = false := by simpa using hxy
                      have n2 : (x != y) = true := by simpa using hxy
                      clear hxy
                      go_upto_region 22 with fail
                      go_quiet (fail)
                      go_wp2_with fail
                      go_roundg (gk - 1)
                      case measure => omega
                      case rel =>
                        refine ⟨true, k + 1, rfl, by go_num, by omega, ⟨HBB.out.os, HBB.out.tape, HBB.out.output, HBB.out.size, HBB.out.block⟩, fun _ => ⟨(hdk.out trivial).1, fun q hq => ?_⟩⟩
                        by_cases hqk : q = k
                        · subst hqk
                          rw [D1.out, D2.out]
                          exact HXY.out
                        · exact (hdk.out trivial).2 q (by omega)
                · have hki : k = i := by omega
                  have HKI := Lib.hid hki
                  have i4 : ¬ (k : Int) < (i : Int) := by omega
                  clear hki
                  go_wp2_with fail
                  go_meet
                  case rel =>
                    refine ⟨b', rfl, hbq, fun e p q h1 h2 => ?_⟩
                    obtain ⟨f1, f2⟩ := hdk.out e
                    by_cases hp : p < i
                    · exact f1 p q h1 hp
                    · have hp2 : p = i := by omega
                      subst hp2
                      exact f2 q (by rw [HKI.out]; exact h1)
            case rest =>
              obtain ⟨b', rfl, hb2, hd2⟩ := hcut
              clear hb hds
              go_wp2_with fail
              go_roundg (gk - 1)
              case measure => omega
              case rel => exact ⟨b', i + 1, rfl, by go_num, by omega, hb2, hd2⟩
          · have hdist : b = true → nx.Pairwise (· ≠ ·) := fun e => pair_of_index (fun p q h1 h2 => hds.out e p q h1 (by omega))
            have HDI := Lib.hid hdist
            obtain ⟨wv, rfl⟩ : ∃ wv : World, wv = wr := ⟨_, rfl⟩
            clear hdist hds HB
            go_upto_if 134 with (fail)
            go_cut [] (fun wx => Below w7.heap.size w7 wx)
            case first =>
              cases b with
              | false =>
                go_wp2_with fail
                go_meet
                case rel => exact hb
              | true =>
                have hbk := HBACK.out (HDI.out rfl)
                obtain ⟨y9, hy9, _, _, hq9, _⟩ := rename_same u nx fr HXW.out (by omega) (by omega) hnr hfr
                rw [hbk] at hy9
                subst hy9
                unfold GotR at hq9
                simp only [tval] at hq9
                have hq10 := hq9 a9 c9 wv wR.heap.size na fa nc fc (HJ9.out _ hb) (Ints.mono (by omega) (HB2'.out _ hb)) (Ints.mono (by omega) (HB1'.out _ hb)) (by have := hb.size; omega)
                obtain ⟨⟨x0, x1, x2, x3, x4⟩, _⟩ := HS.out wv hb
                clear hq9 hbk
                go_upto_region 25 with (go_at_call 48; refine hq10.mono ?_; clear hq10; rintro e wX ⟨⟨a18, c18, rfl, hm18⟩, hbX⟩)
                clear x0 x1 x2 x3 x4
                obtain ⟨wY, hwY⟩ : ∃ wY, wY = wX.alloc (.cells #[.int .u8 t.k, .int .i64 t.n, .string t.s, .slice a18 t.l.length c18, .int .i64 t.r] 26) := ⟨_, rfl⟩
                rw [← hwY]
                have D18 : wY.heap[wX.heap.size]? = some (.cells #[.int .u8 t.k, .int .i64 t.n, .string t.s, .slice a18 t.l.length c18, .int .i64 t.r] 26 (0, 0)) := by rw [hwY]; exact blk_new _ _
                have hbwY : Below wX.heap.size wX wY := by rw [hwY]; exact (Below.refl _ _).alloc (Nat.le_refl _) _
                have zwY := hbwY.size
                have lwY : wX.heap.size < wY.heap.size := (Array.getElem?_eq_some_iff.1 D18).1
                clear hwY
                have hb7X : Below w7.heap.size w7 wX := Below.callI hb hbX
                have hb7Y : Below w7.heap.size w7 wY := Below.callI hb7X hbwY
                have zX7 := hb7X.size
                have zXv := hbX.size
                have iY : T.At wY wY.heap.size t a18 c18 := T.In.keep (fun b hb => hbwY.block b hb.2) (fun b hb => by have := hb.2; omega) id (T.Mut.lies hm18)
                have mS := same_self t HM.out hw a18 c18 a c wY wY.heap.size iY (T.At.mono (by omega) (HJ0.out _ hb7Y)) (Nat.le_refl _)
                rw [tval, tval] at mS
                obtain ⟨_, ⟨y0, y1, y2, y3, y4⟩⟩ := HS.out wY hb7Y
                obtain ⟨x0, x1, x2, x3, x4⟩ := blk5cc D18
                clear iY hm18 hbX hbwY hb7X D18
                go_wp2_with (go_at_call 30; refine mS.mono ?_; clear mS; rintro e wZ ⟨rfl, hbZ⟩)
                go_meet
                case rel => exact Below.callI hb7Y hbZ
            case rest =>
              obtain ⟨wu, rfl⟩ : ∃ wu : World, wu = wc := ⟨_, rfl⟩
              have hb9 : Below w7.heap.size w7 wu := hcut
              clear hcut hb
              have hq10 := hq1 a9 c9 wu wR.heap.size na ea nc ec (HJ9.out _ hb9) (Ints.mono (by omega) (HB2'.out _ hb9)) (Ints.mono (by omega) (HB3'.out _ hb9)) (by have := hb9.size; omega)
              obtain ⟨⟨x0, x1, x2, x3, x4⟩, _⟩ := HS.out wu hb9
              clear hq1
              go_upto_region 28 with (go_at_call 48; refine hq10.mono ?_; clear hq10; rintro e wX ⟨⟨a20, c20, rfl, hm20⟩, hbX⟩)
              clear x0 x1 x2 x3 x4
              obtain ⟨wY, hwY⟩ : ∃ wY, wY = wX.alloc (.cells #[.int .u8 u2.k, .int .i64 u2.n, .string u2.s, .slice a20 u2.l.length c20, .int .i64 u2.r] 26) := ⟨_, rfl⟩
              rw [← hwY]
              have D20 : wY.heap[wX.heap.size]? = some (.cells #[.int .u8 u2.k, .int .i64 u2.n, .string u2.s, .slice a20 u2.l.length c20, .int .i64 u2.r] 26 (0, 0)) := by rw [hwY]; exact blk_new _ _
              have hbwY : Below wX.heap.size wX wY := by rw [hwY]; exact (Below.refl _ _).alloc (Nat.le_refl _) _
              have zwY := hbwY.size
              have lwY : wX.heap.size < wY.heap.size := (Array.getElem?_eq_some_iff.1 D20).1
              clear hwY
              have hb7X : Below w7.heap.size w7 wX := Below.callI hb9 hbX
              have hb7Y : Below w7.heap.size w7 wY := Below.callI hb7X hbwY
              have zX7 := hb7X.size
              have zXv := hbX.size
              have iY : T.At wY wX.heap.size u2 a20 c20 := T.In.keep (fun b hb => hbwY.block b hb.2) (fun b hb => hb.2) id (T.Mut.lies hm20)
              have HIY := Lib.hid iY
              have HD20 := Lib.hid D20
              have HY7 := Lib.hid hb7Y
              clear iY hm20 hbX hbwY hb7X D20
              by_cases hc2 : code2 = 0
              case neg =>
                have c1 : (code2 == 0) = false := by simpa using hc2
                have c2 : (code2 != 0) = true := by simpa using hc2
                clear hc2
                go_wp2_with (go_at_call 14; refine (awake_walk _).mono ?_; rintro e wF ⟨rfl, hbF⟩)
                go_ret
                exact ⟨rfl, HB7.out.trans ((Below.callI hb7Y hbF).mono HB7.out.size)⟩
              subst hc2
              obtain ⟨both, hbo, hmem, hbl, hans⟩ := HTW.out rfl
              have hbr : ∀ x ∈ both, -9223372036854775808 ≤ x ∧ x ≤ 9223372036854775807 := fun z hz => her z (hmem z hz)
              obtain ⟨y9, hy9, _, _, hq9, _⟩ := rename_same t fr both hw (by omega) (by rw [hbl]; omega) hfr hbr
              rw [hans] at hy9
              subst hy9
              unfold GotR at hq9
              simp only [tval] at hq9
              have mI := image_walk nx nx ne na nc na nc ea ec wY w.heap.size (HB2'.out _ hb7Y) (HB2'.out _ hb7Y) (HB3'.out _ hb7Y) (by have := hb7Y.size; omega) (by omega) (by omega) (by omega)
              rw [hbo] at mI
              have mI2 := mI.mono (R' := fun e w' => (∃ v, e = .returned (.tuple #[v, .bool true]) ∧ w'.ownsRow wY.heap.size 24 1 v both.length (both.map (.int .i64))) ∧ Below wY.heap.size wY w') (fun e w' hp => by
                obtain ⟨⟨ys, v, h1, h2, h3⟩ | ⟨h1, _⟩, h4⟩ := hp
                · cases h1; exact ⟨⟨v, h2, h3⟩, h4⟩
                · cases h1)
              have HBL := Lib.hid hbl
              clear mI hbo hmem hans hbl
              go_upto_region 33 with (go_at_call 50; refine mI2.mono ?_; clear mI2; rintro e wI ⟨⟨vI, rfl, hrI⟩, hbI⟩; obtain ⟨ia, ic, rfl, hII⟩ := row_ints hrI; clear hrI)
              have hb7I : Below w7.heap.size w7 wI := Below.callI hb7Y hbI
              have zI7 := hb7I.size
              have hq10 := hq9 a c wI wI.heap.size fa ia fc ic (T.At.mono (by omega) (HJ0.out _ hb7I)) (Ints.mono (by omega) (HB1'.out _ hb7I)) hII (Nat.le_refl _)
              obtain ⟨_, ⟨x0, x1, x2, x3, x4⟩⟩ := HS.out wI hb7I
              have A20 := (hbI.block wX.heap.size lwY).trans HD20.out
              have iY2 : T.At wI wX.heap.size u2 a20 c20 := T.At.below hbI (by omega) HIY.out
              have HA20 := Lib.hid A20
              have HIY2 := Lib.hid iY2
              have zYI := hbI.size
              clear hq9 hII hbI A20 iY2 hb7Y
              go_upto_region 34 with (go_at_call 48; refine hq10.mono ?_; clear hq10; rintro e wJ ⟨⟨a22, c22, rfl, hm22⟩, hbJ⟩)
              clear x0 x1 x2 x3 x4
              obtain ⟨wK, hwK⟩ : ∃ wK, wK = wJ.alloc (.cells #[.int .u8 u2.k, .int .i64 u2.n, .string u2.s, .slice a22 u2.l.length c22, .int .i64 u2.r] 26) := ⟨_, rfl⟩
              rw [← hwK]
              have D22 : wK.heap[wJ.heap.size]? = some (.cells #[.int .u8 u2.k, .int .i64 u2.n, .string u2.s, .slice a22 u2.l.length c22, .int .i64 u2.r] 26 (0, 0)) := by rw [hwK]; exact blk_new _ _
              have hbwK : Below wJ.heap.size wJ wK := by rw [hwK]; exact (Below.refl _ _).alloc (Nat.le_refl _) _
              have zwK := hbwK.size
              have lwK : wJ.heap.size < wK.heap.size := (Array.getElem?_eq_some_iff.1 D22).1
              clear hwK
              have zJ := hbJ.size
              have hbIK : Below wI.heap.size wI wK := Below.callI hbJ hbwK
              have hb7K : Below w7.heap.size w7 wK := Below.callI hb7I hbIK
              have i22 : T.At wK wK.heap.size u2 a22 c22 := T.In.keep (fun b hb => hbwK.block b hb.2) (fun b hb => by have := hb.2; omega) id (T.Mut.lies hm22)
              have i20 : T.At wK wK.heap.size u2 a20 c20 := T.At.mono (by omega) (T.At.below hbIK (by omega) HIY2.out)
              have mS := same_self u2 HYM.out HYW.out a20 c20 a22 c22 wK wK.heap.size i20 i22 (Nat.le_refl _)
              rw [tval, tval] at mS
              have B20 := (hbIK.block wX.heap.size (by omega)).trans HA20.out
              obtain ⟨x0, x1, x2, x3, x4⟩ := blk5cc B20
              obtain ⟨y0, y1, y2, y3, y4⟩ := blk5cc D22
              clear i22 i20 hm22 hbJ hbwK hbIK B20 D22 hb7I
              go_wp2_with (first
                | (go_at_call 30; refine mS.mono ?_; clear mS; rintro e wM ⟨rfl, hbM⟩; have hb7M : Below w7.heap.size w7 wM := Below.callI hb7K hbM)
                | (go_at_call 14; refine (awake_walk _).mono ?_; rintro e wN ⟨rfl, hbN⟩))
              go_ret
              exact ⟨rfl, HB7.out.trans ((Below.callI hb7M hbN).mono HB7.out.size)⟩

theorem renamed_law (w : World) (t : T) (a : Option Addr) (c : Nat) (h : T.At w w.heap.size t a c) (hw : t.wf) (fr : List Int) (fa : Option Addr) (fc : Nat) (hI1 : Ints w (· < w.heap.size) fr fa fc) (hfr : ∀ x ∈ fr, -9223372036854775808 ≤ x ∧ x ≤ 9223372036854775807) (_ : fr.length ≤ 17592186043904)
    (nx : List Int) (na : Option Addr) (nc : Nat) (hI2 : Ints w (· < w.heap.size) nx na nc) (hnr : ∀ x ∈ nx, -9223372036854775808 ≤ x ∧ x ≤ 9223372036854775807) (_ : nx.length ≤ 17592186043904)
    (ne : List Int) (ea : Option Addr) (ec : Nat) (hI3 : Ints w (· < w.heap.size) ne ea ec) (her : ∀ x ∈ ne, -9223372036854775808 ≤ x ∧ x ≤ 9223372036854775807) (_ : ne.length ≤ 17592186043904) :
    Calls Try.prog 11 #[t.val a c, .slice fa fr.length fc, .slice na nx.length nc, .slice ea ne.length ec] w fun e w' => e = .returned (.bool true) ∧ Below w.heap.size w w' := by
  by_cases hs : t.small 1200 40 < 0
  · exact renamed_out w t a c fr fa fc nx na nc ne ea ec h hw (.inl hs)
  by_cases hl : 600 < fr.length
  · exact renamed_out w t a c fr fa fc nx na nc ne ea ec h hw (.inr (.inl ⟨hs, hl⟩))
  by_cases hl2 : 600 < nx.length
  · exact renamed_out w t a c fr fa fc nx na nc ne ea ec h hw (.inr (.inr (.inl ⟨hs, hl, hl2⟩)))
  by_cases hl3 : 600 < ne.length
  · exact renamed_out w t a c fr fa fc nx na nc ne ea ec h hw (.inr (.inr (.inr ⟨hs, hl, hl2, hl3⟩)))
  exact renamed_main w t a c fr fa fc nx na nc ne ea ec h hw hI1 hI2 hI3 hfr hnr her hs (by omega) (by omega) (by omega)
end Go.Proofs.Ytapfmfihhpafcaa
