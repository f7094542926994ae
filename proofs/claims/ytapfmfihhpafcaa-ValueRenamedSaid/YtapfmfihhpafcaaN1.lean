/-
  posternref02.big: so many bytes of a number, in a row of its own.
-/
import Derived.Test.YtapfmfihhpafcaaB5
namespace Go.Proofs.Ytapfmfihhpafcaa
open Go.RowKit
set_option linter.unusedVariables false

/-- A row of bytes of the call's own, made anew. -/
def NewRow (w : World) (xs : List Int) (e : Ending) (w' : World) : Prop := ∃ v', e = .returned v' ∧ Row w' w.heap.size v' xs ∧ Below w.heap.size w w'

theorem RowStep.fresh {w w' : World} {v' : Value} (h : RowStep w w' (.slice none 0 0) v') : Below w.heap.size w w' := ⟨h.os, h.tape, h.output, h.size, fun k hk => h.block k hk (by simp [Value.ownBlock])⟩

set_option maxRecDepth 100000 in
set_option maxHeartbeats 1000000 in
theorem refBig_walk (n : Int) (width : Nat) (w : World) (hn0 : 0 ≤ n) (hn1 : n < 18446744073709551616) (hw : width ≤ 8) :
    Calls Try.prog 91 #[.int .u64 n, .int .i64 width] w (NewRow w (big n width)) := by
  obtain ⟨i0, hi, hz0, hz1, hz2⟩ := info_parts info5
  go_enter Try.func91, Try.ntmps91
  go_wp2_with fail
  go_loopg [5, 6] width (fun g vb vi wr => ∃ (j : Nat) (v1 : Value) (ys : List Int), vb = v1 ∧ vi = .int .i64 ((j : Int) - 1) ∧ j = g ∧ j ≤ width ∧ Row wr w.heap.size v1 ys ∧ Aside (ys ++ big n j = big n width) ∧ ys.length + j = width ∧ RowStep w wr (.slice none 0 0) v1)
  case atStart => exact ⟨width, _, [], rfl, by go_num, rfl, by omega, World.ownsRow_nil _ _ _ _, by simp [Aside], by simp, RowStep.refl _ _⟩
  case round =>
    obtain ⟨j, v1, ys, rfl, rfl, hj, hjw, hrow, hbig, hlen, hst⟩ := hrel
    cases j with
    | zero =>
      have h0 : ¬ (0 : Int) ≤ ((0 : Nat) : Int) - 1 := by omega
      subst hj
      go_wp2_with fail
      go_ret
      have hb := hbig.out
      rw [big, List.append_nil] at hb
      subst hb
      exact ⟨_, rfl, hrow, hst.fresh⟩
    | succ j =>
      subst hj
      have h0 : (0 : Int) ≤ ((j + 1 : Nat) : Int) - 1 := by omega
      have hrow' := hrow
      unfold Row at hrow'
      go_wp2_with (at_builtin; refine wpList_append_lies _ rfl _ _ 97 rfl w.heap.size 5 i0 _ 1 1 Try.underlying97 hi hz0 hz1 hz2 rfl (by decide) _ _ _ (by rfl) (hrow'.alloc _) ⟨wr.heap.size, 0, none⟩ 1 1 [_] (by rfl) rfl (World.news_of_block (cs := #[_]) (t := 5) (fr := (0, 0)) (blk_new _ _)) (by simp [Value.oneCell']) (by omega) (by unfold maxLen; simp; omega) (by simp; omega) (by simp; have := hst.size; omega) _ rfl ?_; intro g cap w1 hown hgrow hat hlt)
      obtain ⟨r1, r2⟩ := row_grown hown hgrow hat
      clear hrow' hown hgrow hat
      go_roundg j
      case measure => omega
      case rel =>
        refine ⟨j, _, ys ++ [n / 2 ^ (8 * j) % 256], rfl, by go_num, rfl, by omega, r1, ?_, by simp; omega, hst.trans r2⟩
        have := hbig.out
        rw [big] at this
        show (ys ++ [n / 2 ^ (8 * j) % 256]) ++ big n j = big n width
        rw [← this]; simp
end Go.Proofs.Ytapfmfihhpafcaa
