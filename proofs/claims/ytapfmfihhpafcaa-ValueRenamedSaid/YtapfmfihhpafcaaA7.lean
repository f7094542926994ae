/-
  value.Order, value.Same, posternref02.Same.
-/
import Derived.Test.YtapfmfihhpafcaaA5
import Derived.Test.YtapfmfihhpafcaaA6
namespace Go.Proofs.Ytapfmfihhpafcaa
open Go.RowKit
set_option linter.unusedVariables false

/-- What value.Order answers. -/
noncomputable def T.ordAnsV (t u : T) : Value := .tuple (if t.may && u.may then #[.int .i64 (t.vord u), .int .i64 0] else #[.int .i64 0, .int .i64 2])

set_option maxRecDepth 100000 in
theorem order_walk (t u : T) (a : Option Addr) (c : Nat) (a' : Option Addr) (c' : Nat) (w : World) (B B' : Nat) (hin : T.At w B t a c) (hin' : T.At w B' u a' c') (hB : B ≤ w.heap.size) (hB' : B' ≤ w.heap.size) (hw : t.wf) (hw' : u.wf) :
    Calls Try.prog 31 #[t.val a c, u.val a' c'] w fun e w' => e = .returned (t.ordAnsV u) ∧ Below w.heap.size w w' := by
  obtain ⟨w1, hw1⟩ : ∃ w1, w1 = (w.alloc (.cells #[.int .u8 t.k, .int .i64 t.n, .string t.s, .slice a t.l.length c, .int .i64 t.r] 26 (0, 0))).alloc (.cells #[.int .u8 u.k, .int .i64 u.n, .string u.s, .slice a' u.l.length c', .int .i64 u.r] 26 (0, 0)) := ⟨_, rfl⟩
  have hb1 : Below w.heap.size w w1 := by rw [hw1]; exact ((Below.refl _ _).alloc (Nat.le_refl _) _).alloc (by simp) _
  have hz1 : w1.heap.size = w.heap.size + 2 := by rw [hw1]; simp
  have m1 := may_walk t a c w1 B (T.At.below hb1 hB hin) (by omega) hw
  have m2 := fun (w2 : World) (hb2 : Below w1.heap.size w1 w2) => may_walk u a' c' w2 B' (T.At.below hb2 (by omega) (T.At.below hb1 hB' hin')) (by have := hb2.size; omega) hw'
  have m3 := fun (w2 : World) (hb2 : Below w1.heap.size w1 w2) => vord_walk t u a c a' c' w2 B B' (T.At.below hb2 (by omega) (T.At.below hb1 hB hin)) (T.At.below hb2 (by omega) (T.At.below hb1 hB' hin')) (by have := hb2.size; omega) (by have := hb2.size; omega) hw hw'
  have HB := Lib.hid hb1
  clear hb1 hz1 hB hB' hin hin' hw hw'
  rw [hw1] at m1 m2 m3 HB
  clear hw1
  unfold T.ordAnsV
  unfold T.val at m1 m2 m3 ⊢
  generalize t.may = p at m1 ⊢
  generalize u.may = q at m2 ⊢
  generalize t.vord u = z at m3 ⊢
  cases p with
  | false =>
    go_enter Try.func31, Try.ntmps31
    go_wp2_with (go_at_call 34; refine m1.mono ?_; clear m1; rintro e wA ⟨rfl, hbA⟩; obtain ⟨hcA, hfA⟩ := bcell hbA)
    go_ret2
    exact ⟨rfl, HB.out.trans (hbA.mono (by simp; omega))⟩
  | true =>
    cases q with
    | false =>
      go_enter Try.func31, Try.ntmps31
      go_wp2_with (first | (go_at_call 34; refine m1.mono ?_; clear m1; rintro e wA ⟨rfl, hbA⟩; obtain ⟨hcA, hfA⟩ := bcell hbA) | (go_at_call 34; refine (m2 _ hbA).mono ?_; clear m2; rintro e wB ⟨rfl, hbB⟩))
      go_ret2
      exact ⟨rfl, (HB.out.trans (hbA.mono (by simp; omega))).trans (hbB.mono (by have := hbA.size; simp at this; omega))⟩
    | true =>
      go_enter Try.func31, Try.ntmps31
      go_wp2_with (first | (go_at_call 34; refine m1.mono ?_; clear m1; rintro e wA ⟨rfl, hbA⟩; obtain ⟨hcA, hfA⟩ := bcell hbA) | (go_at_call 34; refine (m2 _ hbA).mono ?_; clear m2; rintro e wB ⟨rfl, hbB⟩; obtain ⟨hcB, hfB⟩ := bcell (hbA.trans (hbB.mono hbA.size))) | (go_at_call 73; refine (m3 _ (hbA.trans (hbB.mono hbA.size))).mono ?_; rintro e wC ⟨rfl, hbC⟩))
      go_ret2
      exact ⟨rfl, ((HB.out.trans (hbA.mono (by simp; omega))).trans (hbB.mono (by have := hbA.size; simp at this; omega))).trans (hbC.mono (by have := hbB.size; have := hbA.size; simp at this; omega))⟩

set_option maxRecDepth 100000 in
theorem same_walk (t u : T) (a : Option Addr) (c : Nat) (a' : Option Addr) (c' : Nat) (w : World) (B B' : Nat) (hin : T.At w B t a c) (hin' : T.At w B' u a' c') (hB : B ≤ w.heap.size) (hB' : B' ≤ w.heap.size) (hw : t.wf) (hw' : u.wf) :
    Calls Try.prog 30 #[t.val a c, u.val a' c'] w fun e w' => e = .returned (.bool (t.may && u.may && decide (t.vord u = 0))) ∧ Below w.heap.size w w' := by
  obtain ⟨w1, hw1⟩ : ∃ w1, w1 = (w.alloc (.cells #[.int .u8 t.k, .int .i64 t.n, .string t.s, .slice a t.l.length c, .int .i64 t.r] 26 (0, 0))).alloc (.cells #[.int .u8 u.k, .int .i64 u.n, .string u.s, .slice a' u.l.length c', .int .i64 u.r] 26 (0, 0)) := ⟨_, rfl⟩
  have hb1 : Below w.heap.size w w1 := by rw [hw1]; exact ((Below.refl _ _).alloc (Nat.le_refl _) _).alloc (by simp) _
  have hz1 : w1.heap.size = w.heap.size + 2 := by rw [hw1]; simp
  have m1 := may_walk t a c w1 B (T.At.below hb1 hB hin) (by omega) hw
  have m2 := fun (w2 : World) (hb2 : Below w1.heap.size w1 w2) => may_walk u a' c' w2 B' (T.At.below hb2 (by omega) (T.At.below hb1 hB' hin')) (by have := hb2.size; omega) hw'
  have m3 := fun (w2 : World) (hb2 : Below w1.heap.size w1 w2) => vord_walk t u a c a' c' w2 B B' (T.At.below hb2 (by omega) (T.At.below hb1 hB hin)) (T.At.below hb2 (by omega) (T.At.below hb1 hB' hin')) (by have := hb2.size; omega) (by have := hb2.size; omega) hw hw'
  have HB := Lib.hid hb1
  clear hb1 hz1 hB hB' hin hin' hw hw'
  rw [hw1] at m1 m2 m3 HB
  clear hw1
  unfold T.val at m1 m2 m3 ⊢
  generalize t.may = p at m1 ⊢
  generalize u.may = q at m2 ⊢
  generalize t.vord u = z at m3 ⊢
  cases p with
  | false =>
    go_enter Try.func30, Try.ntmps30
    go_wp2_with (go_at_call 34; refine m1.mono ?_; clear m1; rintro e wA ⟨rfl, hbA⟩; obtain ⟨hcA, hfA⟩ := bcell hbA)
    go_ret
    exact ⟨by first | rfl | (refine ret_bool ?_; simp), HB.out.trans (hbA.mono (by simp; omega))⟩
  | true =>
    cases q with
    | false =>
      go_enter Try.func30, Try.ntmps30
      go_wp2_with (first | (go_at_call 34; refine m1.mono ?_; clear m1; rintro e wA ⟨rfl, hbA⟩; obtain ⟨hcA, hfA⟩ := bcell hbA) | (go_at_call 34; refine (m2 _ hbA).mono ?_; clear m2; rintro e wB ⟨rfl, hbB⟩))
      go_ret
      exact ⟨by first | rfl | (refine ret_bool ?_; simp), (HB.out.trans (hbA.mono (by simp; omega))).trans (hbB.mono (by have := hbA.size; simp at this; omega))⟩
    | true =>
      go_enter Try.func30, Try.ntmps30
      go_wp2_with (first | (go_at_call 34; refine m1.mono ?_; clear m1; rintro e wA ⟨rfl, hbA⟩; obtain ⟨hcA, hfA⟩ := bcell hbA) | (go_at_call 34; refine (m2 _ hbA).mono ?_; clear m2; rintro e wB ⟨rfl, hbB⟩; obtain ⟨hcB, hfB⟩ := bcell (hbA.trans (hbB.mono hbA.size))) | (go_at_call 73; refine (m3 _ (hbA.trans (hbB.mono hbA.size))).mono ?_; rintro e wC ⟨rfl, hbC⟩))
      go_ret
      exact ⟨by first | rfl | (refine ret_bool ?_; simp), ((HB.out.trans (hbA.mono (by simp; omega))).trans (hbB.mono (by have := hbA.size; simp at this; omega))).trans (hbC.mono (by have := hbB.size; have := hbA.size; simp at this; omega))⟩

noncomputable def T.same (t u : T) : Bool := t.may && u.may && decide (t.ord u = 0)

set_option maxRecDepth 100000 in
theorem refSame_walk (t u : T) (a : Option Addr) (c : Nat) (a' : Option Addr) (c' : Nat) (w : World) (B B' : Nat) (hin : T.At w B t a c) (hin' : T.At w B' u a' c') (hB : B ≤ w.heap.size) (hB' : B' ≤ w.heap.size) (hw : t.wf) (hw' : u.wf) :
    Calls Try.prog 19 #[t.val a c, u.val a' c'] w fun e w' => e = .returned (.bool (t.same u)) ∧ Below w.heap.size w w' := by
  obtain ⟨w1, hw1⟩ : ∃ w1, w1 = (w.alloc (.cells #[.int .u8 t.k, .int .i64 t.n, .string t.s, .slice a t.l.length c, .int .i64 t.r] 26 (0, 0))).alloc (.cells #[.int .u8 u.k, .int .i64 u.n, .string u.s, .slice a' u.l.length c', .int .i64 u.r] 26 (0, 0)) := ⟨_, rfl⟩
  have hb1 : Below w.heap.size w w1 := by rw [hw1]; exact two_boxes _ _ _
  have m := refOrder_walk t u a c a' c' w1 B B' (T.At.below hb1 hB hin) (T.At.below hb1 hB' hin') (by have := hb1.size; omega) (by have := hb1.size; omega) hw hw'
  have HB := Lib.hid hb1
  clear hb1 hB hB' hin hin' hw hw'
  rw [hw1] at m HB
  clear hw1
  unfold T.ordAns at m
  unfold T.same
  unfold T.val at m ⊢
  cases hp : (t.may && u.may) with
  | false =>
    rw [hp] at m
    clear hp
    go_enter Try.func19, Try.ntmps19
    go_wp2_with (go_at_call 51; refine m.mono ?_; rintro e w' ⟨rfl, hb⟩)
    go_ret
    exact ⟨rfl, HB.out.trans (hb.mono HB.out.size)⟩
  | true =>
    rw [hp] at m
    clear hp
    obtain ⟨q, hq⟩ : ∃ q, t.ord u = q := ⟨_, rfl⟩
    rw [hq] at m ⊢
    clear hq
    go_enter Try.func19, Try.ntmps19
    go_wp2_with (go_at_call 51; refine m.mono ?_; rintro e w' ⟨rfl, hb⟩)
    go_ret
    refine ⟨?_, HB.out.trans (hb.mono HB.out.size)⟩
    first | rfl | (refine ret_bool ?_; simp) | go_ways
end Go.Proofs.Ytapfmfihhpafcaa
