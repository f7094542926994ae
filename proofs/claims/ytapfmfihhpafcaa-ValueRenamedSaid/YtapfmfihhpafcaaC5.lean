/-
  value.Each (the function value only).
-/
import Derived.Test.YtapfmfihhpafcaaC4
namespace Go.Proofs.Ytapfmfihhpafcaa
open Go.RowKit
set_option linter.unusedVariables false

/-- What Each hands back: a function that holds a copy of the value's own, or the empty one. -/
def EachPost (w : World) (t : T) (e : Ending) (w' : World) : Prop :=
  ((t.may = false ∧ e = .returned (.func (.func 58) #[] #[])) ∨
    (t.may = true ∧ e = .returned (.func (.func 60) #[] #[.pointer (some ⟨w.heap.size, 0, none⟩)]) ∧ ∃ a c, w'.heap[w.heap.size]? = some (.cells #[.int .u8 t.k, .int .i64 t.n, .string t.s, .slice a t.l.length c, .int .i64 t.r] 26 (0, 0)) ∧
      T.Mut w' (fun b => w.heap.size < b ∧ b < w'.heap.size) t a c)) ∧ Below w.heap.size w w'

set_option maxRecDepth 100000 in
set_option maxHeartbeats 1000000 in
theorem each_walk (t : T) (a : Option Addr) (c : Nat) (w : World) (B : Nat) (h : T.At w B t a c) (hB : B ≤ w.heap.size) (hw : t.wf) : Calls Try.prog 17 #[t.val a c] w (EachPost w t) := by
  unfold T.val
  obtain ⟨w1, hw1⟩ : ∃ w1, w1 = w.alloc (.cells #[.int .u8 t.k, .int .i64 t.n, .string t.s, .slice a t.l.length c, .int .i64 t.r] 26 (0, 0)) := ⟨_, rfl⟩
  have hb1 : Below w.heap.size w w1 := by rw [hw1]; exact (Below.refl _ _).alloc (Nat.le_refl _) _
  have D0 : w1.heap[w.heap.size]? = some (.cells #[.int .u8 t.k, .int .i64 t.n, .string t.s, .slice a t.l.length c, .int .i64 t.r] 26 (0, 0)) := by rw [hw1]; exact blk_new _ _
  have hz1 : w.heap.size < w1.heap.size := by rw [hw1]; simp
  have m1 := may_walk t a c w1 B (T.At.below hb1 hB h) (by omega) hw
  have m2 := fun (w2 : World) (hb2 : Below w1.heap.size w1 w2) => own_walk t a c w2 B (T.At.below (hb1.trans (hb2.mono (by omega))) hB h) (by have := hb2.size; omega) hw
  unfold T.val at m1 m2
  have D1 := Lib.hid D0
  obtain ⟨c0, c1, c2, c3, c4⟩ := blk5cc D0
  clear D0
  cases hm : t.may <;> rw [hm] at m1 <;> have HM := Lib.hid hm <;> clear hm
  all_goals
    go_enter Try.func17, Try.ntmps17
    go_upto_region 1 with (fail)
    rw [← hw1]
    clear hw1
    go_wp2_with (first
      | (go_at_call 34; refine m1.mono ?_; clear m1; rintro e w2 ⟨rfl, hb2⟩; have hm2 := m2 w2 hb2; clear m2; have D2 := Lib.hid ((hb2.block w.heap.size hz1).trans D1.out); obtain ⟨d0, d1, d2, d3, d4⟩ := blk5cc D2.out; have hz2 := hb2.size)
      | (go_at_call 59; refine hm2.mono ?_; clear hm2; rintro e w3 ⟨a3, c3', he, hmt, hb3⟩; unfold T.val at he; subst he; have D3 := Lib.hid ((hb3.block w.heap.size (by omega)).trans D2.out))
      | (refine wpList_put _ rfl _ _ rfl w.heap.size _ _ _ _ _ _ _ _ _ _ (by rfl) (by rfl) (by simp [Value.oneCell']) D3.out ?_; rintro wP hP))
    go_ret
  · exact ⟨.inl ⟨HM.out, rfl⟩, hb1.trans (hb2.mono (by omega))⟩
  · refine ⟨.inr ⟨HM.out, rfl, a3, c3', hP.at_, T.Mut.keep (fun b hb => hP.other b (by have := hb.1; omega)) (fun b hb => ⟨by have := hb.1; omega, by rw [hP.size]; exact hb.2⟩) hmt⟩, hb1.trans ((hb2.mono (by omega)).trans ((hb3.mono (by omega)).trans (hP.below (Nat.le_refl _))))⟩
end Go.Proofs.Ytapfmfihhpafcaa
