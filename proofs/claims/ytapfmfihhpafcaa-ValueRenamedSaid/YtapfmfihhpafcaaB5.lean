/-
  value.high: so many bytes of a number, the highest first.
-/
import Derived.Test.YtapfmfihhpafcaaLaw
import Derived.Test.YtapfmfihhpafcaaA9
import Derived.Lib.AppendStr
namespace Go.Proofs.Ytapfmfihhpafcaa
open Go.RowKit
set_option linter.unusedVariables false

theorem info5 : (Try.prog.info? 5).map (fun i => (i.zero, i.size, i.bytes)) = some (some (.int .u8 0), 1, 1) := by kernel_rfl

/-- A value that owns a row of bytes. -/
def Row (w : World) (base : Nat) (v : Value) (xs : List Int) : Prop := w.ownsRow base 5 1 v xs.length (xs.map (.int .u8))

/-- From w to w' nothing has turned but v's row. -/
structure RowStep (w w' : World) (v v' : Value) : Prop where
  os : w'.os = w.os
  tape : w'.tape = w.tape
  output : w'.output = w.output
  size : w.heap.size ≤ w'.heap.size
  block : ∀ k, k < w.heap.size → v.ownBlock ≠ some k → w'.heap[k]? = w.heap[k]?
  own : ∀ g, v'.ownBlock = some g → v.ownBlock = some g ∨ w.heap.size ≤ g

theorem RowStep.trans {w w1 w2 : World} {v v1 v2 : Value} (h : RowStep w w1 v v1) (h' : RowStep w1 w2 v1 v2) : RowStep w w2 v v2 := by
  refine ⟨h'.os.trans h.os, h'.tape.trans h.tape, h'.output.trans h.output, Nat.le_trans h.size h'.size, fun k hk h2 => ?_, fun g hg => ?_⟩
  · refine (h'.block k (Nat.lt_of_lt_of_le hk h.size) (fun e => ?_)).trans (h.block k hk h2)
    rcases h.own k e with h3 | h3
    · exact h2 h3
    · omega
  · rcases h'.own g hg with h3 | h3
    · exact h.own g h3
    · exact .inr (Nat.le_trans h.size h3)
theorem RowStep.of_below {w w1 : World} {v : Value} (h : Below w.heap.size w w1) : RowStep w w1 v v :=
  ⟨h.os, h.tape, h.output, h.size, fun k hk _ => h.block k hk, fun _ hg => .inl hg⟩
theorem RowStep.refl (w : World) (v : Value) : RowStep w w v v := RowStep.of_below (Below.refl _ _)

/-- So many bytes of a number, the highest first. -/
def big (n : Int) : Nat → List Int
  | 0 => []
  | w + 1 => n / 2 ^ (8 * w) % 256 :: big n w

theorem big_length (n : Int) : ∀ w, (big n w).length = w
  | 0 => rfl
  | w + 1 => by rw [big, List.length_cons, big_length n w]

theorem row_grown {wr w1 : World} {base g cap : Nat} {v1 : Value} {zs : List Int} {x : Int} {X : Obj} (hown : w1.ownsRow base 5 1 (.slice (some ⟨g, 0, none⟩) (zs.length + 1) cap) (zs.length + 1) (zs.map (.int .u8) ++ [.int .u8 x]))
    (hgrow : (wr.alloc X).grownBy w1 v1.ownBlock) (hat : v1.ownBlock = some g ∨ g = (wr.alloc X).heap.size) :
    Row w1 base (.slice (some ⟨g, 0, none⟩) (zs.length + 1) cap) (zs ++ [x]) ∧ RowStep wr w1 v1 (.slice (some ⟨g, 0, none⟩) (zs.length + 1) cap) := by
  refine ⟨?_, hgrow.os, hgrow.tape, hgrow.output, ?_, fun k hk h2 => ?_, fun g' hg' => ?_⟩
  · unfold Row
    rw [List.length_append, List.map_append]
    exact hown
  · have := hgrow.size; simp at this; omega
  · rw [hgrow.block k (by simp; omega) (fun e => h2 e.symm), Below.heap_alloc _ _ _ hk]
  · have hg2 : g = g' := by simpa [Value.ownBlock] using hg'
    rcases hat with h5 | h5
    · exact .inl (by rw [h5, hg2])
    · right; simp at h5; omega

def HighPost (base : Nat) (w : World) (v : Value) (xs ys : List Int) (e : Ending) (w' : World) : Prop :=
  ∃ v', e = .returned v' ∧ Row w' base v' (xs ++ ys) ∧ RowStep w w' v v'

set_option maxRecDepth 100000 in
set_option maxHeartbeats 1000000 in
theorem high_walk (n : Int) (width : Nat) (base : Nat) (v : Value) (xs : List Int) (w : World) (hr : Row w base v xs) (hn0 : 0 ≤ n) (hn1 : n < 18446744073709551616) (hw : width ≤ 8) (hx : xs.length ≤ 10000000) (hb : base ≤ w.heap.size) :
    Calls Try.prog 90 #[v, .int .u64 n, .int .i64 width] w (HighPost base w v xs (big n width)) := by
  obtain ⟨i0, hi, hz0, hz1, hz2⟩ := info_parts info5
  go_enter Try.func90, Try.ntmps90
  go_wp2_with fail
  go_loopg [0, 7] width (fun g vb vi wr => ∃ (j : Nat) (v1 : Value) (ys : List Int), vb = v1 ∧ vi = .int .i64 ((j : Int) - 1) ∧ j = g ∧ j ≤ width ∧ Row wr base v1 (xs ++ ys) ∧ Aside (ys ++ big n j = big n width) ∧ ys.length + j = width ∧ RowStep w wr v v1)
  case atStart => exact ⟨width, v, [], rfl, by go_num, rfl, by omega, by simpa using hr, by simp [Aside], by simp, RowStep.refl _ _⟩
  case round =>
    obtain ⟨j, v1, ys, rfl, rfl, hj, hjw, hrow, hbig, hlen, hst⟩ := hrel
    cases j with
    | zero =>
      have h0 : ¬ (0 : Int) ≤ ((0 : Nat) : Int) - 1 := by omega
      subst hj
      go_wp2_with fail
      go_ret
      have hb := hbig.out
      rw [big, List.append_nil] at hb
      subst hb
      exact ⟨_, rfl, hrow, hst⟩
    | succ j =>
      subst hj
      have h0 : (0 : Int) ≤ ((j + 1 : Nat) : Int) - 1 := by omega
      have hrow' := hrow
      unfold Row at hrow'
      go_wp2_with (at_builtin; refine wpList_append_lies _ rfl _ _ 97 rfl base 5 i0 _ 1 1 Try.underlying97 hi hz0 hz1 hz2 rfl (by decide) u0 _ _ (by rfl) (hrow'.alloc _) ⟨wr.heap.size, 0, none⟩ 1 1 [_] (by rfl) rfl (World.news_of_block (cs := #[_]) (t := 5) (fr := (0, 0)) (blk_new _ _)) (by simp [Value.oneCell']) (by omega) (by unfold maxLen; simp; omega) (by simp; omega) (by simp; have := hst.size; omega) _ rfl ?_; intro g cap w1 hown hgrow hat hlt)
      obtain ⟨r1, r2⟩ := row_grown hown hgrow hat
      rw [List.length_append] at r1 r2
      clear hrow' hown hgrow hat
      go_roundg j
      case measure => omega
      case rel =>
        refine ⟨j, _, ys ++ [n / 2 ^ (8 * j) % 256], rfl, by go_num, rfl, by omega, ?_, ?_, by simp; omega, hst.trans r2⟩
        · rw [← List.append_assoc]; exact r1
        · have := hbig.out
          rw [big] at this
          show (ys ++ [n / 2 ^ (8 * j) % 256]) ++ big n j = big n width
          rw [← this]; simp
end Go.Proofs.Ytapfmfihhpafcaa
