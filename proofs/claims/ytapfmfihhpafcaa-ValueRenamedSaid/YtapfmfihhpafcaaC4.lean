/-
  value.Read.
-/
import Derived.Test.YtapfmfihhpafcaaC3
namespace Go.Proofs.Ytapfmfihhpafcaa
open Go.RowKit
set_option linter.unusedVariables false

/-- What Read hands back. -/
def ReadAll (w : World) (s : ByteArray) (e : Ending) (w' : World) : Prop :=
  ((262144 < s.size ∧ e = .returned (.tuple #[T.zero.val none 0, .int .i64 4])) ∨
    (s.size ≤ 262144 ∧ ∃ t r p a c, rd 16 512 s = some (t, r, p) ∧ r.toList = [] ∧ e = .returned (.tuple #[t.val a c, .int .i64 0]) ∧ T.Mut w' (New w.heap.size w') t a c ∧ t.wf) ∨
    (s.size ≤ 262144 ∧ (∀ t r p, rd 16 512 s = some (t, r, p) → ¬ r.toList = []) ∧ e = .returned (.tuple #[T.zero.val none 0, .int .i64 20]))) ∧ Below w.heap.size w w'

set_option maxRecDepth 100000 in
set_option maxHeartbeats 1000000 in
theorem read_big (s : ByteArray) (w : World) (hs : s.size ≤ 140737488351232) (hb : 262144 < s.size) : Calls Try.prog 24 #[.string s] w (ReadAll w s) := by
  obtain ⟨w1, hw1⟩ : ∃ w1, w1 = w.alloc (.cells #[.int .u8 0, .int .i64 0, .string ⟨#[]⟩, .slice none 0 0, .int .i64 0] 26 (0, 0)) := ⟨_, rfl⟩
  have hb1 : Below w.heap.size w w1 := by rw [hw1]; exact (Below.refl _ _).alloc (Nat.le_refl _) _
  have D0 : w1.heap[w.heap.size]? = some (.cells #[.int .u8 0, .int .i64 0, .string ⟨#[]⟩, .slice none 0 0, .int .i64 0] 26 (0, 0)) := by rw [hw1]; exact blk_new _ _
  have D1 := Lib.hid D0
  clear D0
  have g1 : decide (262144 < s.size) = true := by simpa using hb
  have g2 : decide ((262144 : Int) < (s.size : Int)) = true := by simp; omega
  go_enter Try.func24, Try.ntmps24
  go_upto_region 1 with (fail)
  rw [← hw1]
  clear hw1
  go_wp2_with (first
    | (refine wpList_put _ rfl _ _ rfl w.heap.size _ _ _ _ _ _ _ _ _ _ (by rfl) (by rfl) (by simp [Value.oneCell']) D1.out ?_; rintro wP hP))
  exact post_cell26c Try.results24 rfl rfl rfl hP.at_ ⟨.inl ⟨hb, rfl⟩, hb1.trans (hP.below (Nat.le_refl _))⟩

set_option maxRecDepth 100000 in
set_option maxHeartbeats 1000000 in
theorem read_none (s : ByteArray) (w : World) (hb : s.size ≤ 262144) (hr : rd 16 512 s = none) : Calls Try.prog 24 #[.string s] w (ReadAll w s) := by
  obtain ⟨w1, hw1⟩ : ∃ w1, w1 = w.alloc (.cells #[.int .u8 0, .int .i64 0, .string ⟨#[]⟩, .slice none 0 0, .int .i64 0] 26 (0, 0)) := ⟨_, rfl⟩
  have hb1 : Below w.heap.size w w1 := by rw [hw1]; exact (Below.refl _ _).alloc (Nat.le_refl _) _
  have D0 : w1.heap[w.heap.size]? = some (.cells #[.int .u8 0, .int .i64 0, .string ⟨#[]⟩, .slice none 0 0, .int .i64 0] 26 (0, 0)) := by rw [hw1]; exact blk_new _ _
  have hz1 : w.heap.size < w1.heap.size := by rw [hw1]; simp
  have g1 : decide (262144 < s.size) = false := by simpa using hb
  have g2 : decide ((262144 : Int) < (s.size : Int)) = false := by simp; omega
  have m1 := (front_walk s w1 (by omega)).mono (R' := fun e w' => e = .returned (.tuple #[T.zero.val none 0, .string ⟨#[]⟩, .int .i64 20]) ∧ Below w1.heap.size w1 w') (fun e w' h => by
    obtain ⟨h1 | h1, h2⟩ := h
    · obtain ⟨t, r, p, a, c, e1, _⟩ := h1
      rw [hr] at e1
      cases e1
    · exact ⟨h1.2, h2⟩)
  have D1 := Lib.hid D0
  have HR := Lib.hid hr
  clear D0 hr
  go_enter Try.func24, Try.ntmps24
  go_upto_region 1 with (fail)
  rw [← hw1]
  clear hw1
  go_wp2_with (first
    | (go_at_call 27; refine m1.mono ?_; clear m1; rintro e w2 ⟨he, hb2⟩; unfold T.val T.zero at he; subst he; have D2 := Lib.hid ((hb2.block w.heap.size hz1).trans D1.out); have hz2 := hb2.size)
    | (refine wpList_put _ rfl _ _ rfl w.heap.size _ _ _ _ _ _ _ _ _ _ (by rfl) (by rfl) (by simp [Value.oneCell']) D3.out ?_; rintro wP hP)
    | (refine wpList_put _ rfl _ _ rfl w2.heap.size _ _ _ _ _ _ _ _ _ _ (by rfl) (by rfl) (by simp [Value.oneCell']) (blk_new _ _) ?_; rintro wQ hQ; have D3 := Lib.hid ((hQ.other w.heap.size (by omega)).trans ((Below.heap_alloc _ _ _ (by omega)).trans D2.out))))
  refine post_cell26c Try.results24 rfl rfl rfl hP.at_ ⟨.inr (.inr ⟨hb, fun t r p h => (by rw [HR.out] at h; cases h), rfl⟩), hb1.trans (Below.trans (hb2.mono (by omega)) (Below.trans (Below.trans ((Below.refl _ _).alloc (by omega) _) (hQ.below (by omega))) (hP.below (Nat.le_refl _))))⟩

theorem nil_of_toList {r : ByteArray} (h : r.toList = []) : r = ⟨#[]⟩ := by
  have := size_of_nil h
  obtain ⟨a⟩ := r
  have h2 : a.size = 0 := this
  rw [Array.eq_empty_of_size_eq_zero h2]

theorem front_some (s : ByteArray) (w : World) (hb : s.size ≤ 262144) (t : T) (r : ByteArray) (p : Nat) (hr : rd 16 512 s = some (t, r, p)) :
    Calls Try.prog 27 #[.string s] w fun e w' => ((∃ a c, e = .returned (.tuple #[t.val a c, .string r, .int .i64 0]) ∧ T.Mut w' (New w.heap.size w') t a c) ∧ t.wf) ∧ Below w.heap.size w w' :=
  (front_walk s w (by omega)).mono (fun e w' h => by
    obtain ⟨h1 | h1, h2⟩ := h
    · obtain ⟨t', r', p', a, c, e1, h3, h4, h5, _⟩ := h1
      rw [hr] at e1
      injection e1 with e1
      injection e1 with e1 e2
      injection e2 with e2 e3
      subst e1 e2 e3
      exact ⟨⟨⟨a, c, h3, h4⟩, h5⟩, h2⟩
    · rw [hr] at h1
      cases h1.1)

set_option maxRecDepth 100000 in
set_option maxHeartbeats 1000000 in
theorem read_rest (s : ByteArray) (w : World) (hb : s.size ≤ 262144) (t : T) (r : ByteArray) (p : Nat) (hr : rd 16 512 s = some (t, r, p)) (hn : ¬ r.toList = []) : Calls Try.prog 24 #[.string s] w (ReadAll w s) := by
  obtain ⟨w1, hw1⟩ : ∃ w1, w1 = w.alloc (.cells #[.int .u8 0, .int .i64 0, .string ⟨#[]⟩, .slice none 0 0, .int .i64 0] 26 (0, 0)) := ⟨_, rfl⟩
  have hb1 : Below w.heap.size w w1 := by rw [hw1]; exact (Below.refl _ _).alloc (Nat.le_refl _) _
  have D0 : w1.heap[w.heap.size]? = some (.cells #[.int .u8 0, .int .i64 0, .string ⟨#[]⟩, .slice none 0 0, .int .i64 0] 26 (0, 0)) := by rw [hw1]; exact blk_new _ _
  have hz1 : w.heap.size < w1.heap.size := by rw [hw1]; simp
  have g1 : decide (262144 < s.size) = false := by simpa using hb
  have g2 : decide ((262144 : Int) < (s.size : Int)) = false := by simp; omega
  have g3 : r.toList.isEmpty = false := by simpa using hn
  have m1 := front_some s w1 hb t r p hr
  have D1 := Lib.hid D0
  have HR := Lib.hid hr
  clear D0 hr
  go_enter Try.func24, Try.ntmps24
  go_upto_region 1 with (fail)
  rw [← hw1]
  clear hw1
  go_wp2_with (first
    | (go_at_call 27; refine m1.mono ?_; clear m1; rintro e w2 ⟨⟨⟨a2, c2, he, hmt⟩, htw⟩, hb2⟩; unfold T.val at he; subst he; have D2 := Lib.hid ((hb2.block w.heap.size hz1).trans D1.out); have hz2 := hb2.size)
    | (refine wpList_put _ rfl _ _ rfl w.heap.size _ _ _ _ _ _ _ _ _ _ (by rfl) (by rfl) (by simp [Value.oneCell']) D3.out ?_; rintro wP hP)
    | (refine wpList_put _ rfl _ _ rfl w2.heap.size _ _ _ _ _ _ _ _ _ _ (by rfl) (by rfl) (by simp [Value.oneCell']) (blk_new _ _) ?_; rintro wQ hQ; have D3 := Lib.hid ((hQ.other w.heap.size (by omega)).trans ((Below.heap_alloc _ _ _ (by omega)).trans D2.out))))
  refine post_cell26c Try.results24 rfl rfl rfl hP.at_ ⟨.inr (.inr ⟨hb, fun t' r' p' h => ?_, rfl⟩), hb1.trans (Below.trans (hb2.mono (by omega)) (Below.trans (Below.trans ((Below.refl _ _).alloc (by omega) _) (hQ.below (by omega))) (hP.below (Nat.le_refl _))))⟩
  rw [HR.out] at h
  injection h with h
  injection h with _ h
  injection h with h _
  exact h ▸ hn

set_option maxRecDepth 100000 in
set_option maxHeartbeats 1000000 in
theorem read_ok (s : ByteArray) (w : World) (hb : s.size ≤ 262144) (t : T) (p : Nat) (hr : rd 16 512 s = some (t, ⟨#[]⟩, p)) (r0 : ByteArray) (hr0 : r0 = ⟨#[]⟩) (hn0 : r0.toList = []) : Calls Try.prog 24 #[.string s] w (ReadAll w s) := by
  obtain ⟨w1, hw1⟩ : ∃ w1, w1 = w.alloc (.cells #[.int .u8 0, .int .i64 0, .string ⟨#[]⟩, .slice none 0 0, .int .i64 0] 26 (0, 0)) := ⟨_, rfl⟩
  have hb1 : Below w.heap.size w w1 := by rw [hw1]; exact (Below.refl _ _).alloc (Nat.le_refl _) _
  have D0 : w1.heap[w.heap.size]? = some (.cells #[.int .u8 0, .int .i64 0, .string ⟨#[]⟩, .slice none 0 0, .int .i64 0] 26 (0, 0)) := by rw [hw1]; exact blk_new _ _
  have hz1 : w.heap.size < w1.heap.size := by rw [hw1]; simp
  have g1 : decide (262144 < s.size) = false := by simpa using hb
  have g2 : decide ((262144 : Int) < (s.size : Int)) = false := by simp; omega
  have m1 := front_some s w1 hb t ⟨#[]⟩ p hr
  have D1 := Lib.hid D0
  have HR := Lib.hid hr
  have he0 := Lib.hid (hr0 ▸ hn0)
  clear D0 hr hr0 hn0
  go_enter Try.func24, Try.ntmps24
  go_upto_region 1 with (fail)
  rw [← hw1]
  clear hw1
  go_wp2_with (first
    | (go_at_call 27; refine m1.mono ?_; clear m1; rintro e w2 ⟨⟨⟨a2, c2, he, hmt⟩, htw⟩, hb2⟩; unfold T.val at he; subst he; have D2 := Lib.hid ((hb2.block w.heap.size hz1).trans D1.out); have hz2 := hb2.size)
    | (refine wpList_put _ rfl _ _ rfl w.heap.size _ _ _ _ _ _ _ _ _ _ (by rfl) (by rfl) (by simp [Value.oneCell']) D3.out ?_; rintro wP hP)
    | (refine wpList_put _ rfl _ _ rfl w2.heap.size _ _ _ _ _ _ _ _ _ _ (by rfl) (by rfl) (by simp [Value.oneCell']) (blk_new _ _) ?_; rintro wQ hQ; have D3 := Lib.hid ((hQ.other w.heap.size (by omega)).trans ((Below.heap_alloc _ _ _ (by omega)).trans D2.out)); obtain ⟨q0, q1, q2, q3, q4⟩ := blk5cc hQ.at_))
  have hzQ : wQ.heap.size = w2.heap.size + 1 := by rw [hQ.size]; simp
  refine post_cell26c Try.results24 rfl rfl rfl hP.at_ ⟨.inr (.inl ⟨hb, t, ⟨#[]⟩, p, a2, c2, HR.out, he0.out, rfl, ?_, htw⟩), hb1.trans (Below.trans (hb2.mono (by omega)) (Below.trans (Below.trans ((Below.refl _ _).alloc (by omega) _) (hQ.below (by omega))) (hP.below (Nat.le_refl _))))⟩
  refine T.Mut.keep (fun b hb => ?_) (fun b hb => ?_) hmt
  · have h1 := hb.1
    have h2 := hb.2
    exact (hP.other b (by omega)).trans ((hQ.other b (by omega)).trans (Below.heap_alloc _ _ _ (by omega)))
  · have h1 := hb.1
    have h2 := hb.2
    exact ⟨by omega, by rw [hP.size, hzQ]; omega⟩

/-- Read. -/
theorem read_walk (s : ByteArray) (w : World) (hs : s.size ≤ 140737488351232) : Calls Try.prog 24 #[.string s] w (ReadAll w s) := by
  by_cases hb : 262144 < s.size
  · exact read_big s w hs hb
  rcases hr : rd 16 512 s with _ | ⟨t, r, p⟩
  · exact read_none s w (by omega) hr
  by_cases hn : r.toList = []
  · rw [nil_of_toList hn] at hr
    exact read_ok s w (by omega) t p hr r (nil_of_toList hn) hn
  · exact read_rest s w (by omega) t r p hr hn
end Go.Proofs.Ytapfmfihhpafcaa
