/-
  The law ValueLooks, of a small value.
-/
import Derived.Test.YtapfmfihhpafcaaG2
namespace Go.Proofs.Ytapfmfihhpafcaa
open Go.RowKit
set_option linter.unusedVariables false

theorem kept_own {t : T} {a a' : Option Addr} {c c' : Nat} {w : World} {B B' : Nat} (h : T.In w (· < B) true t a c) (h' : T.At w B' t a' c') (hB : B ≤ w.heap.size) (hB' : B' ≤ w.heap.size) (hw : t.wf) :
    Calls Try.prog 21 #[t.val a c, t.val a' c'] w fun e w' => e = .returned (.bool true) ∧ Below w.heap.size w w' := kept_walk t a c a' c' w B B' h h' hB hB' hw

theorem T.In.to_at {w : World} {B : Nat} {t : T} {a : Option Addr} {c : Nat} (h : T.In w (· < B) true t a c) : T.At w B t a c := T.In.keep (fun _ _ => rfl) (fun _ h => h) (fun h => by cases h) h

set_option maxRecDepth 100000 in
set_option maxHeartbeats 2000000 in
theorem looks_no (t : T) (a : Option Addr) (c : Nat) (w : World) (h : T.At w w.heap.size t a c) (hw : t.wf) (hs : ¬ t.small 1200 40 < 0) (hm : t.may = false) :
    Calls Try.prog 6 #[t.val a c] w fun e w' => e = .returned (.bool true) ∧ Below w.heap.size w w' := by
  obtain ⟨w1, hw1⟩ : ∃ w1, w1 = w.alloc (.cells #[.int .u8 t.k, .int .i64 t.n, .string t.s, .slice a t.l.length c, .int .i64 t.r] 26 (0, 0)) := ⟨_, rfl⟩
  have hb1 : Below w.heap.size w w1 := by rw [hw1]; exact (Below.refl _ _).alloc (Nat.le_refl _) _
  have D0 : w1.heap[w.heap.size]? = some (.cells #[.int .u8 t.k, .int .i64 t.n, .string t.s, .slice a t.l.length c, .int .i64 t.r] 26 (0, 0)) := by rw [hw1]; exact blk_new _ _
  have z1 : w.heap.size < w1.heap.size := (Array.getElem?_eq_some_iff.1 D0).1
  have hi := T.At.below hb1 (Nat.le_refl _) h
  have m0 := small_walk t a c w1 w.heap.size 1200 40 hi (by omega) (by omega) (by omega) (by omega) (by omega)
  have m1 := fun w' (hb : Below w1.heap.size w1 w') => lent_walk t a c w' w.heap.size (T.At.below hb (by omega) hi) (by have := hb.size; omega) hw
  obtain ⟨q, hq⟩ : ∃ q, t.small 1200 40 = q := ⟨_, rfl⟩
  rw [hq] at m0 hs
  unfold T.val at m0 m1 ⊢
  obtain ⟨x0, x1, x2, x3, x4, _⟩ := blk5 D0
  have E0 := Lib.hid D0
  clear D0 h hq
  go_enter Try.func6, Try.ntmps6
  go_upto_region 1 with fail
  rw [← hw1]
  clear hw1
  go_upto_region 4 with (first
    | (go_at_call 15; refine m0.mono ?_; clear m0; rintro e wA ⟨rfl, hbA⟩; have G0 := (hbA.block w.heap.size z1).trans E0.out; clear x0 x1 x2 x3 x4; obtain ⟨x0, x1, x2, x3, x4, _⟩ := blk5 G0; clear G0)
    | (go_at_call 16; refine (m1 _ hbA).mono ?_; clear m1; rintro e wL ⟨aL, cL, he, hiL, hbL⟩; unfold T.val at he; subst he))
  obtain ⟨w3, hw3⟩ : ∃ w3, w3 = wL.alloc (.cells #[.int .u8 t.k, .int .i64 t.n, .string t.s, .slice aL t.l.length cL, .int .i64 t.r] 26) := ⟨_, rfl⟩
  rw [← hw3]
  have zA := hbA.size
  have zL := hbL.size
  have O3 : w3.heap[wL.heap.size]? = some (.cells #[.int .u8 t.k, .int .i64 t.n, .string t.s, .slice aL t.l.length cL, .int .i64 t.r] 26 (0, 0)) := by rw [hw3]; exact blk_new _ _
  have hbL3 : Below wL.heap.size wL w3 := by rw [hw3]; exact (Below.refl _ _).alloc (Nat.le_refl _) _
  have z3 : wL.heap.size < w3.heap.size := (Array.getElem?_eq_some_iff.1 O3).1
  have hb13 : Below w1.heap.size w1 w3 := hbA.trans ((hbL.mono zA).trans (hbL3.mono (by omega)))
  have V3 := (hb13.block w.heap.size z1).trans E0.out
  have iv : T.At w3 w.heap.size t a c := T.At.below hb13 (by omega) hi
  have io : T.In w3 (· < wL.heap.size) true t aL cL := T.In.keep (fun b hb => hbL3.block b hb.2) (fun b hb => hb.2) id hiL
  have hb3 : Below w.heap.size w w3 := hb1.trans (hb13.mono hb1.size)
  have n0 := fun w' (hb : Below w3.heap.size w3 w') => refParts_walk t a c w' w.heap.size (T.At.below hb (by omega) iv) (by have := hb.size; omega) hw
  have n1 := fun w' (hb : Below w3.heap.size w3 w') => ownAll_walk t aL cL w' wL.heap.size (T.At.below hb (by omega) io.to_at) (by have := hb.size; omega) hw
  have n2 := fun w' (hb : Below w3.heap.size w3 w') => parts_walk t aL cL w' wL.heap.size (T.At.below hb (by omega) io.to_at) (by have := hb.size; omega) hw
  have n3 := fun w' (hb : Below w3.heap.size w3 w') => may_walk t aL cL w' wL.heap.size (T.At.below hb (by omega) io.to_at) (by have := hb.size; omega) hw
  have n4 := fun w' (hb : Below w3.heap.size w3 w') => deep_walk t aL cL w' wL.heap.size (T.At.below hb (by omega) io.to_at) (by have := hb.size; omega) hw
  have n5 := fun w' (hb : Below w3.heap.size w3 w') => refs_walk t aL cL w' wL.heap.size (T.At.below hb (by omega) io.to_at) (by have := hb.size; omega) hw
  have n6 := fun w' (hb : Below w3.heap.size w3 w') => kept_own (a := aL) (c := cL) (a' := a) (c' := c) (w := w') (T.In.keep (fun b hk => hb.block b (by omega)) (fun _ h => h) id io) (T.At.below hb (by omega) iv) (by have := hb.size; omega) (by have := hb.size; omega) hw
  rw [T.parts_no hm] at n0 n2
  rw [hm] at n3
  rw [hm, if_neg (by simp)] at n4 n5
  have n1' : ∀ w' (hb : Below w3.heap.size w3 w'), Calls Try.prog 37 #[t.val aL cL] w' fun e w'' => e = .returned (.tuple #[T.zero.val none 0, .int .i64 2]) ∧ Below w'.heap.size w' w'' := fun w' hb => (n1 w' hb).mono fun e w'' hp => by
    obtain ⟨⟨h1, _⟩ | ⟨_, h2⟩, hb2⟩ := hp
    · rw [hm] at h1; cases h1
    · exact ⟨h2, hb2⟩
  rw [T.zero_val] at n1'
  unfold T.val at n0 n1' n2 n3 n4 n5 n6
  obtain ⟨y0, y1, y2, y3, y4, _⟩ := blk5 O3
  clear x0 x1 x2 x3 x4
  obtain ⟨x0, x1, x2, x3, x4, _⟩ := blk5 V3
  have O3 := Lib.hid O3
  have V3 := Lib.hid V3
  clear hw3 hi hiL hbL hbA hbL3 hb13 iv io n1 E0 hb1 hm
  have zw3 : w.heap.size < w3.heap.size := by omega
  go_upto_region 6 with (first
    | (go_at_call 36; refine (n0 _ (Below.refl _ _)).mono ?_; clear n0; rintro e wN ⟨rfl, hbN⟩; have G0 := (hbN.block wL.heap.size z3).trans O3.out; clear x0 x1 x2 x3 x4 y0 y1 y2 y3 y4; obtain ⟨y0, y1, y2, y3, y4, _⟩ := blk5 G0; clear G0)
    | (go_at_call 37; refine (n1' _ hbN).mono ?_; rintro e wP ⟨rfl, hbP⟩))
  obtain ⟨w5, hw5⟩ : ∃ w5, w5 = wP.alloc (.cells #[.int .u8 0, .int .i64 0, .string ⟨#[]⟩, .slice none 0 0, .int .i64 0] 26) := ⟨_, rfl⟩
  rw [← hw5]
  have A5 : w5.heap[wP.heap.size]? = some (.cells #[.int .u8 0, .int .i64 0, .string ⟨#[]⟩, .slice none 0 0, .int .i64 0] 26 (0, 0)) := by rw [hw5]; exact blk_new _ _
  have hb5 : Below w3.heap.size w3 w5 := (hbN.trans (hbP.mono hbN.size)).trans (by rw [hw5]; exact (Below.refl _ _).alloc (by have := hbN.size; have := hbP.size; omega) _)
  have z5 := hb5.size
  have zA5 : wP.heap.size < w5.heap.size := (Array.getElem?_eq_some_iff.1 A5).1
  have A5 := Lib.hid A5
  have G0 := (hb5.block wL.heap.size z3).trans O3.out
  clear y0 y1 y2 y3 y4 hw5 hbP hbN
  obtain ⟨y0, y1, y2, y3, y4, _⟩ := blk5 G0
  clear G0
  go_upto_region 7 with (go_at_call 37; refine (n1' _ hb5).mono ?_; rintro e wQ ⟨rfl, hbQ⟩)
  obtain ⟨w7, hw7⟩ : ∃ w7, w7 = wQ.alloc (.cells #[.int .u8 0, .int .i64 0, .string ⟨#[]⟩, .slice none 0 0, .int .i64 0] 26) := ⟨_, rfl⟩
  rw [← hw7]
  have hb57 : Below w5.heap.size w5 w7 := hbQ.trans (by rw [hw7]; exact (Below.refl _ _).alloc hbQ.size _)
  have hb7 : Below w3.heap.size w3 w7 := hb5.trans (hb57.mono z5)
  have A7 := (hb57.block wP.heap.size zA5).trans A5.out
  have G0 := (hb7.block wL.heap.size z3).trans O3.out
  have z57 := hb57.size
  have A7H := Lib.hid A7
  clear y0 y1 y2 y3 y4 hw7 hbQ A7 n1'
  obtain ⟨y0, y1, y2, y3, y4, _⟩ := blk5 G0
  clear G0
  go_upto_region 10 with (first
    | (go_at_call 32; refine (n2 _ hb7).mono ?_; clear n2; rintro e wR ⟨rfl, hbR⟩; have hbR3 := hb7.trans (hbR.mono hb7.size); have G0 := (hbR3.block wL.heap.size z3).trans O3.out; clear y0 y1 y2 y3 y4; obtain ⟨y0, y1, y2, y3, y4, _⟩ := blk5 G0; clear G0)
    | (go_at_call 34; refine (n3 _ hbR3).mono ?_; clear n3; rintro e wS ⟨rfl, hbS⟩; have hbS3 := hbR3.trans (hbS.mono hbR3.size); have G0 := (hbS3.block wL.heap.size z3).trans O3.out; clear y0 y1 y2 y3 y4; obtain ⟨y0, y1, y2, y3, y4, _⟩ := blk5 G0; clear G0))
  have zR := hbR.size
  have zS := hbS.size
  have hb7S : Below w7.heap.size w7 wS := hbR.trans (hbS.mono zR)
  go_wp2_with (first
    | (go_at_call 33; refine (n4 _ hbS3).mono ?_; clear n4; rintro e wT ⟨rfl, hbT⟩; have hbT3 := hbS3.trans (hbT.mono hbS3.size); have G0 := (hbT3.block wL.heap.size z3).trans O3.out; clear y0 y1 y2 y3 y4; obtain ⟨y0, y1, y2, y3, y4, _⟩ := blk5 G0; clear G0)
    | (go_at_call 35; refine (n5 _ hbT3).mono ?_; clear n5; rintro e wU ⟨v, rfl, hown, hbU⟩; obtain ⟨ra, rc, rfl⟩ := row_nil hown; have hbU3 := hbT3.trans (hbU.mono hbT3.size); have hb7U := hb7S.trans ((hbT.trans (hbU.mono hbT.size)).mono hb7S.size); have G0 := (hbU3.block wL.heap.size z3).trans O3.out; have G1 := (hb7U.block wP.heap.size (by omega)).trans A7H.out; have G2 := (hbU3.block w.heap.size zw3).trans V3.out; clear y0 y1 y2 y3 y4 hown; obtain ⟨y0, y1, y2, y3, y4, _⟩ := blk5 G0; obtain ⟨u0, u1, u2, u3, u4, _⟩ := blk5 G1; obtain ⟨x0, x1, x2, x3, x4, _⟩ := blk5 G2; clear G0 G1 G2)
    | (go_at_call 21; refine (n6 _ hbU3).mono ?_; clear n6; rintro e wX ⟨rfl, hbX⟩)
    | (go_at_call 14; refine (awake_walk _).mono ?_; rintro e wY ⟨rfl, hbY⟩))
  go_ret
  exact ⟨rfl, hb3.trans ((hbU3.trans ((hbX.mono hbU3.size).trans (hbY.mono (by have := hbX.size; have := hbU3.size; omega)))).mono hb3.size)⟩
end Go.Proofs.Ytapfmfihhpafcaa
