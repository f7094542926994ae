/-
  posternlaw02.held: both answers are the value that it must be; the one is written over.
-/
import Derived.Test.YtapfmfihhpafcaaD4
import Derived.Test.YtapfmfihhpafcaaA7
import Derived.Test.YtapfmfihhpafcaaB4
import Derived.Test.YtapfmfihhpafcaaD5
namespace Go.Proofs.Ytapfmfihhpafcaa
open Go.RowKit
set_option linter.unusedVariables false

theorem T.ord_refl (t : T) : t.ord t = 0 := by
  induction t using T.induct with
  | h k n s l r ih =>
    have key : ∀ (l : List T), (∀ x ∈ l, x.ord x = 0) → T.ords l l = 0 := by
      intro l
      induction l with
      | nil => intro _; rw [T.ords]
      | cons x xs ih2 =>
        intro hx
        rw [T.ords, hx x (by simp), if_neg (by simp)]
        exact ih2 fun y hy => hx y (by simp [hy])
    have hb : ∀ l : List UInt8, Op.bytesLess l l = false := by
      intro l
      induction l with
      | nil => rfl
      | cons c l ih => simp [Op.bytesLess, ih]
    rw [T.ord, if_neg (by omega), if_neg (by omega), if_neg, if_neg]
    · exact key l ih
    · unfold above1; rw [hb]; simp
    · unfold below1; rw [hb]; simp

theorem refSame_self (t : T) (h : t.may = true) (hw : t.wf) (a : Option Addr) (c : Nat) (a' : Option Addr) (c' : Nat) (w : World) (B : Nat) (hi : T.At w B t a c) (hi' : T.At w B t a' c') (hB : B ≤ w.heap.size) : Calls Try.prog 19 #[t.val a c, t.val a' c'] w fun e w' => e = .returned (.bool true) ∧ Below w.heap.size w w' := by
  have := refSame_walk t t a c a' c' w B B hi hi' hB hB hw hw
  unfold T.same at this
  rw [h, T.ord_refl] at this
  exact this

/-- Blocks that may be written over, and nothing else that there was. -/
def HeldPost (w : World) (S : Nat → Prop) (e : Ending) (w' : World) : Prop := e = .returned (.bool true) ∧ Spoil S w w'

set_option maxRecDepth 100000 in
set_option maxHeartbeats 1000000 in
theorem held_walk (t : T) (a a' a'' : Option Addr) (c c' c'' : Nat) (w : World) (S N : Nat → Prop) (hm : t.may = true) (hw : t.wf) (h : T.Mut w S t a c) (hS : ∀ b, S b → b < w.heap.size) (h' : T.In w N false t a' c') (h'' : T.In w N false t a'' c'') (hN : ∀ b, N b → b < w.heap.size ∧ ¬ S b) :
    Calls Try.prog 26 #[t.val a c, t.val a' c', t.val a'' c''] w (HeldPost w S) := by
  obtain ⟨w1, hw1⟩ : ∃ w1, w1 = ((w.alloc (.cells #[.int .u8 t.k, .int .i64 t.n, .string t.s, .slice a t.l.length c, .int .i64 t.r] 26 (0, 0))).alloc (.cells #[.int .u8 t.k, .int .i64 t.n, .string t.s, .slice a' t.l.length c', .int .i64 t.r] 26 (0, 0))).alloc (.cells #[.int .u8 t.k, .int .i64 t.n, .string t.s, .slice a'' t.l.length c'', .int .i64 t.r] 26 (0, 0)) := ⟨_, rfl⟩
  have hb1 : Below w.heap.size w w1 := by rw [hw1]; exact (two_boxes _ _ _).alloc (by simp; omega) _
  obtain ⟨D0, D1, D2⟩ : w1.heap[w.heap.size]? = _ ∧ w1.heap[w.heap.size + 1]? = _ ∧ w1.heap[w.heap.size + 1 + 1]? = _ := by rw [hw1]; exact three_blk _ _ _ _
  have z1 : w1.heap.size = w.heap.size + 3 := by rw [hw1]; simp
  have Z1 := Lib.hid z1
  have iA : T.At w1 w.heap.size t a c := T.In.keep (fun b hb => hb1.block b (hS b hb)) hS id (T.Mut.lies h)
  have iB : T.In w1 N false t a' c' := T.In.keep (fun b hb => hb1.block b (hN b hb).1) (fun _ h => h) id h'
  have iC : T.In w1 N false t a'' c'' := T.In.keep (fun b hb => hb1.block b (hN b hb).1) (fun _ h => h) id h''
  have sv := T.Sv.keep (Spoil.of_below hb1 (S := S)) (T.Mut.sv h)
  have hNlt : ∀ {W : World} {p : Option Addr} {q : Nat}, T.In W N false t p q → T.At W w.heap.size t p q := fun hi => T.In.keep (fun _ _ => rfl) (fun b hb => (hN b hb).1) id hi
  have mM := fun w' (hb : Below w1.heap.size w1 w') => refMay_walk t a c w' w.heap.size (T.At.below hb (by omega) iA) (by have := hb.size; omega) hw
  have mS1 := fun w' (hb : Below w1.heap.size w1 w') => refSame_self t hm hw a c a'' c'' w' w.heap.size (T.At.below hb (by omega) iA) (T.At.below hb (by omega) (hNlt iC)) (by have := hb.size; omega)
  have mSp := fun w' (hb : Below w1.heap.size w1 w') => spoil_walk t t.k t.n t.r t.s a c w' S (T.Sv.keep (Spoil.of_below hb (S := S)) sv) (fun b hb' => by have := hS b hb'; have := hb.size; omega) (by have := T.count_of_may hm; omega)
  have mS2 := fun w' (hb : Spoil S w1 w') => refSame_self t hm hw a' c' a'' c'' w' w.heap.size (T.In.keep (fun b hk => hb.block b (by have := (hN b hk).1; omega) (hN b hk).2) (fun b hk => (hN b hk).1) id iB) (T.In.keep (fun b hk => hb.block b (by have := (hN b hk).1; omega) (hN b hk).2) (fun b hk => (hN b hk).1) id iC) (by have := hb.size; omega)
  rw [hm] at mM
  have hnS : ∀ q, w.heap.size ≤ q → ¬ S q := fun q hq hs => by have := hS q hs; omega
  have HNS := Lib.hid hnS
  unfold T.val at mM mS1 mS2 ⊢
  obtain ⟨x0, x1, x2, x3, x4⟩ := blk5cc D0
  obtain ⟨u0, u1, u2, u3, u4⟩ := blk5cc D2
  have E0 := Lib.hid D0
  have E1 := Lib.hid D1
  have E2 := Lib.hid D2
  have HB1 := Lib.hid hb1
  clear h h' h'' hN hS iA iB iC sv hNlt D0 D1 D2 hnS hb1 z1
  by_cases hk : t.k = 0
  · have hk1 : (t.k == 0) = true := by simpa using hk
    clear hk
    go_enter Try.func26, Try.ntmps26
    go_upto_region 1 with fail
    rw [← hw1]
    clear hw1
    go_wp2_with (first
      | (go_at_call 64; refine (mM _ (Below.refl _ _)).mono ?_; clear mM; rintro e w2 ⟨rfl, hb2⟩; have z2 := hb2.size; have G0 := (hb2.block _ (by rw [Z1.out]; omega)).trans E0.out; have G2 := (hb2.block _ (by rw [Z1.out]; omega)).trans E2.out; clear x0 x1 x2 x3 x4 u0 u1 u2 u3 u4; obtain ⟨x0, x1, x2, x3, x4⟩ := blk5cc G0; obtain ⟨u0, u1, u2, u3, u4⟩ := blk5cc G2; clear G0 G2)
      | (go_at_call 19; refine (mS1 _ hb2).mono ?_; clear mS1; rintro e w3 ⟨rfl, hb3⟩; have hb23 := hb2.trans (hb3.mono z2); have G0 := (hb23.block _ (by rw [Z1.out]; omega)).trans E0.out; clear x0 x1 x2 x3 x4 u0 u1 u2 u3 u4; obtain ⟨x0, x1, x2, x3, x4⟩ := blk5cc G0; clear G0)
      | (go_at_call 20; refine (mSp _ hb23).mono ?_; clear mSp; rintro e w4 ⟨q, rfl, hq1, hq2, hs4⟩; have hq0 : (0 : Int) < q := (by omega); have sp := (Spoil.of_below hb23 (S := S)).trans hs4; have G1 := (sp.block _ (by rw [Z1.out]; omega) (HNS.out _ (by omega))).trans E1.out; have G2 := (sp.block _ (by rw [Z1.out]; omega) (HNS.out _ (by omega))).trans E2.out; clear x0 x1 x2 x3 x4; obtain ⟨x0, x1, x2, x3, x4⟩ := blk5cc G1; obtain ⟨u0, u1, u2, u3, u4⟩ := blk5cc G2; clear G1 G2 hq1 hq2)
      | (go_at_call 19; refine (mS2 _ sp).mono ?_; clear mS2; rintro e w5 ⟨rfl, hb5⟩))
    go_ret
    exact ⟨rfl, (Spoil.of_below HB1.out).trans (sp.trans (Spoil.of_below hb5))⟩
  · have hk1 : (t.k == 0) = false := by simpa using hk
    clear hk
    go_enter Try.func26, Try.ntmps26
    go_upto_region 1 with fail
    rw [← hw1]
    clear hw1
    go_wp2_with (first
      | (go_at_call 19; refine (mS1 _ (Below.refl _ _)).mono ?_; clear mS1; rintro e w3 ⟨rfl, hb23⟩; have G0 := (hb23.block _ (by rw [Z1.out]; omega)).trans E0.out; clear x0 x1 x2 x3 x4 u0 u1 u2 u3 u4; obtain ⟨x0, x1, x2, x3, x4⟩ := blk5cc G0; clear G0)
      | (go_at_call 20; refine (mSp _ hb23).mono ?_; clear mSp; rintro e w4 ⟨q, rfl, hq1, hq2, hs4⟩; have hq0 : (0 : Int) < q := (by omega); have sp := (Spoil.of_below hb23 (S := S)).trans hs4; have G1 := (sp.block _ (by rw [Z1.out]; omega) (HNS.out _ (by omega))).trans E1.out; have G2 := (sp.block _ (by rw [Z1.out]; omega) (HNS.out _ (by omega))).trans E2.out; clear x0 x1 x2 x3 x4; obtain ⟨x0, x1, x2, x3, x4⟩ := blk5cc G1; obtain ⟨u0, u1, u2, u3, u4⟩ := blk5cc G2; clear G1 G2 hq1 hq2)
      | (go_at_call 19; refine (mS2 _ sp).mono ?_; clear mS2; rintro e w5 ⟨rfl, hb5⟩))
    go_ret
    exact ⟨rfl, (Spoil.of_below HB1.out).trans (sp.trans (Spoil.of_below hb5))⟩
end Go.Proofs.Ytapfmfihhpafcaa
