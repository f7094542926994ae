/-
  value.Own.
-/
import Derived.Test.YtapfmfihhpafcaaB2
namespace Go.Proofs.Ytapfmfihhpafcaa
open Go.RowKit
set_option linter.unusedVariables false

theorem post_cell26o {fn : Func} {R : Ending → World → Prop} {a : Act} {w : World} {b : Nat} {v0 v1 v2 v3 v4 u : Value} (hr : fn.results = #[.cell 2 26, .tmp 3]) (hp : a.tmps[2]?.getD undef = .pointer (some ⟨b, 0, none⟩)) (hu : a.tmps[3]?.getD undef = u) (hd : a.defers = [])
    (C : w.heap[b]? = some (.cells #[v0, v1, v2, v3, v4] 26 (0, 0))) (h : R (.returned (.tuple #[.agg #[v0, v1, v2, v3, v4], u])) w) : bodyPost Try.prog fn R .ret a w := by
  obtain ⟨c0, c1, c2, c3, c4, _⟩ := blk5 C
  refine bodyPost_ret (v := .tuple #[.agg #[v0, v1, v2, v3, v4], u]) ?_ hd h
  simp only [results, hr]
  simp [hp, hu, go_sem, c0, c1, c2, c3, c4]

/-- What Own hands back. -/
def OwnAll (w : World) (t : T) (e : Ending) (w' : World) : Prop :=
  ((t.may = true ∧ ∃ a c, e = .returned (.tuple #[t.val a c, .int .i64 0]) ∧ T.Mut w' (New w.heap.size w') t a c) ∨ (t.may = false ∧ e = .returned (.tuple #[T.zero.val none 0, .int .i64 2]))) ∧ Below w.heap.size w w'

set_option maxRecDepth 100000 in
set_option maxHeartbeats 1000000 in
theorem ownAll_walk (t : T) (a : Option Addr) (c : Nat) (w : World) (B : Nat) (hin : T.At w B t a c) (hB : B ≤ w.heap.size) (hw : t.wf) : Calls Try.prog 37 #[t.val a c] w (OwnAll w t) := by
  obtain ⟨w1, hw1⟩ : ∃ w1, w1 = (w.alloc (.cells #[.int .u8 t.k, .int .i64 t.n, .string t.s, .slice a t.l.length c, .int .i64 t.r] 26 (0, 0))).alloc (.cells #[.int .u8 0, .int .i64 0, .string ⟨#[]⟩, .slice none 0 0, .int .i64 0] 26 (0, 0)) := ⟨_, rfl⟩
  have hb1 : Below w.heap.size w w1 := by rw [hw1]; exact two_boxes _ _ _
  have D0 : w1.heap[w.heap.size]? = some (.cells #[.int .u8 t.k, .int .i64 t.n, .string t.s, .slice a t.l.length c, .int .i64 t.r] 26 (0, 0)) := by rw [hw1]; exact two_blk0 _ _ _
  have D1 : w1.heap[w.heap.size + 1]? = some (.cells #[.int .u8 0, .int .i64 0, .string ⟨#[]⟩, .slice none 0 0, .int .i64 0] 26 (0, 0)) := by rw [hw1]; exact two_blk1 _ _ _
  have hz1 : w.heap.size + 1 < w1.heap.size := (Array.getElem?_eq_some_iff.1 D1).1
  have m1 := may_walk t a c w1 B (T.At.below hb1 hB hin) (by omega) hw
  have m2 := fun (w2 : World) (hb2 : Below w1.heap.size w1 w2) => own_walk t a c w2 B (T.At.below hb2 (by omega) (T.At.below hb1 hB hin)) (by have := hb2.size; omega) hw
  unfold T.val at m1 m2 ⊢
  obtain ⟨x0, x1, x2, x3, x4, _⟩ := blk5 D0
  have E0 := Lib.hid D0
  have E1 := Lib.hid D1
  clear D0 D1 hin
  cases hm : t.may <;> rw [hm] at m1 <;> have HM := Lib.hid hm <;> clear hm
  all_goals
    go_enter Try.func37, Try.ntmps37
    go_upto_region 1 with (fail)
    rw [← hw1]
    clear hw1
    go_wp2_with (first
      | (go_at_call 34; refine m1.mono ?_; clear m1; rintro e w2 ⟨rfl, hb2⟩; have hm2 := m2 w2 hb2; clear m2; have G0 := (hb2.block w.heap.size (by omega)).trans E0.out; have G1 := Lib.hid ((hb2.block (w.heap.size + 1) hz1).trans E1.out); clear x0 x1 x2 x3 x4; obtain ⟨x0, x1, x2, x3, x4, _⟩ := blk5 G0; clear G0; have hz2 := hb2.size)
      | (go_at_call 59; refine hm2.mono ?_; clear hm2; rintro e w3 ⟨a3, c3, he, hmt, hb3⟩; unfold T.val at he; subst he; have G3 := Lib.hid ((hb3.block (w.heap.size + 1) (by omega)).trans G1.out))
      | (refine wpList_put _ rfl _ _ rfl (w.heap.size + 1) _ _ _ _ _ _ _ _ _ _ (by rfl) (by rfl) (by simp [Value.oneCell']) G3.out ?_; rintro wP hP)
      | (refine wpList_put _ rfl _ _ rfl (w.heap.size + 1) _ _ _ _ _ _ _ _ _ _ (by rfl) (by rfl) (by simp [Value.oneCell']) G1.out ?_; rintro wP hP))
  · exact post_cell26o Try.results37 rfl rfl rfl hP.at_ ⟨.inr ⟨HM.out, rfl⟩, hb1.trans ((hb2.mono (by omega)).trans (hP.below (by omega)))⟩
  · exact post_cell26o Try.results37 rfl rfl rfl hP.at_ ⟨.inl ⟨HM.out, a3, c3, rfl, T.Mut.keep (fun b hb => hP.other b (by have := hb.1; omega)) (fun b hb => ⟨by have := hb.1; omega, by rw [hP.size]; exact hb.2⟩) hmt⟩, hb1.trans ((hb2.mono (by omega)).trans ((hb3.mono (by omega)).trans (hP.below (by omega))))⟩
end Go.Proofs.Ytapfmfihhpafcaa
