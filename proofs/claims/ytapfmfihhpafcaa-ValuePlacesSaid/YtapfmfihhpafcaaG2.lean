/-
  The law ValueLooks.
-/
import Derived.Test.YtapfmfihhpafcaaE1
import Derived.Test.YtapfmfihhpafcaaD5
import Derived.Test.YtapfmfihhpafcaaD6
import Derived.Test.YtapfmfihhpafcaaD7
import Derived.Test.YtapfmfihhpafcaaD8
import Derived.Test.YtapfmfihhpafcaaD9
import Derived.Deep.DeepCutAuto
namespace Go.Proofs.Ytapfmfihhpafcaa
open Go.RowKit
set_option linter.unusedVariables false

/-- A value that may be is small. -/
theorem T.small_of_look (t : T) : ∀ (p d p' d' : Int), 1 ≤ T.look p d t → p ≤ p' → d ≤ d' → 0 ≤ d → T.small p' d' t = T.look p d t := by
  induction t using T.induct with
  | h k n s l r ih =>
    intro p d p' d' h hp hd hd0
    have key : ∀ (l : List T), (∀ x ∈ l, ∀ (p d p' d' : Int), 1 ≤ T.look p d x → p ≤ p' → d ≤ d' → 0 ≤ d → T.small p' d' x = T.look p d x) → 1 ≤ d → ∀ m, 1 ≤ m → 1 ≤ T.looks p d m l → T.smalls p' d' m l = T.looks p d m l := by
      intro l
      induction l with
      | nil => intro _ _ m _ _; rw [T.looks, T.smalls]
      | cons x xs ih2 =>
        intro hx hd1 m h1 h2
        rw [T.looks] at h2 ⊢
        by_cases hq : T.look (p - m) (d - 1) x < 0
        · rw [if_pos hq] at h2; omega
        rw [if_neg hq] at h2 ⊢
        have h3 : 1 ≤ T.look (p - m) (d - 1) x := by have := T.look_pos x (p - m) (d - 1); omega
        have h4 := hx x (by simp) (p - m) (d - 1) (p' - m) (d' - 1) h3 (by omega) (by omega) (by omega)
        rw [T.smalls, h4, if_neg hq]
        exact ih2 (fun y hy => hx y (by simp [hy])) hd1 _ (by omega) h2
    rw [T.look] at h ⊢
    by_cases h1 : p < 1
    · rw [if_pos h1] at h; omega
    rw [if_neg h1] at h ⊢
    by_cases h2 : fieldsOk k n s l r
    case neg => rw [if_pos h2] at h; omega
    rw [if_neg (not_not_intro h2)] at h ⊢
    rw [T.small, if_neg (by omega), if_neg (by omega)]
    by_cases h3 : k ≠ 3
    · have hl := h2.2.2.1.resolve_left h3
      subst hl
      rw [if_pos h3, if_neg (by simp; omega), T.smalls]
    rw [if_neg h3] at h ⊢
    by_cases h4 : d < 1
    · rw [if_pos h4] at h; omega
    rw [if_neg h4] at h ⊢
    by_cases h5 : p ≤ l.length
    · rw [if_pos h5] at h; omega
    rw [if_neg h5] at h ⊢
    rw [if_neg (by omega)]
    exact key l ih (by omega) 1 (by omega) h

theorem T.may_of_small {t : T} (h : t.small 1200 40 < 0) : t.may = false := by
  cases hm : t.may
  · rfl
  · have h1 := T.look_of_may hm
    have := T.small_of_look t 512 16 1200 40 h1 (by omega) (by omega) (by omega)
    omega

theorem T.parts_nn (t : T) : 0 ≤ t.parts := by rw [T.parts_of]; split <;> omega
theorem T.parts_no {t : T} (h : t.may = false) : t.parts = 0 := by
  have := T.parts_nn t
  unfold T.may at h
  have := of_decide_eq_false h
  omega
theorem T.parts_yes {t : T} (h : t.may = true) : 0 < t.parts := by unfold T.may at h; exact of_decide_eq_true h

theorem row_nil {w : World} {base e : Nat} {v : Value} (h : w.ownsRow base e 1 v ([] : List Int).length (([] : List Int).map (.int .i64))) : ∃ a c, v = .slice a 0 c := by
  obtain ⟨a, c, h, _⟩ := ints_of_own h
  exact ⟨a, c, h⟩

set_option maxRecDepth 100000 in
set_option maxHeartbeats 1000000 in
theorem looks_big (t : T) (a : Option Addr) (c : Nat) (w : World) (h : T.At w w.heap.size t a c) (hw : t.wf) (hs : t.small 1200 40 < 0) :
    Calls Try.prog 6 #[t.val a c] w fun e w' => e = .returned (.bool true) ∧ Below w.heap.size w w' := by
  have hm := T.may_of_small hs
  obtain ⟨w1, hw1⟩ : ∃ w1, w1 = w.alloc (.cells #[.int .u8 t.k, .int .i64 t.n, .string t.s, .slice a t.l.length c, .int .i64 t.r] 26 (0, 0)) := ⟨_, rfl⟩
  have hb1 : Below w.heap.size w w1 := by rw [hw1]; exact (Below.refl _ _).alloc (Nat.le_refl _) _
  have D0 : w1.heap[w.heap.size]? = some (.cells #[.int .u8 t.k, .int .i64 t.n, .string t.s, .slice a t.l.length c, .int .i64 t.r] 26 (0, 0)) := by rw [hw1]; exact blk_new _ _
  have z1 : w.heap.size < w1.heap.size := (Array.getElem?_eq_some_iff.1 D0).1
  have hi := T.At.below hb1 (Nat.le_refl _) h
  have m0 := small_walk t a c w1 w.heap.size 1200 40 hi (by omega) (by omega) (by omega) (by omega) (by omega)
  have m1 := fun w' (hb : Below w1.heap.size w1 w') => parts_walk t a c w' w.heap.size (T.At.below hb (by omega) hi) (by have := hb.size; omega) hw
  have m2 := fun w' (hb : Below w1.heap.size w1 w') => deep_walk t a c w' w.heap.size (T.At.below hb (by omega) hi) (by have := hb.size; omega) hw
  have m3 := fun w' (hb : Below w1.heap.size w1 w') => may_walk t a c w' w.heap.size (T.At.below hb (by omega) hi) (by have := hb.size; omega) hw
  have m4 := fun w' (hb : Below w1.heap.size w1 w') => refs_walk t a c w' w.heap.size (T.At.below hb (by omega) hi) (by have := hb.size; omega) hw
  rw [T.parts_no hm] at m1
  rw [hm, if_neg (by simp)] at m2 m4
  rw [hm] at m3
  obtain ⟨q, hq⟩ : ∃ q, t.small 1200 40 = q := ⟨_, rfl⟩
  rw [hq] at m0 hs
  unfold T.val at m0 m1 m2 m3 m4 ⊢
  obtain ⟨x0, x1, x2, x3, x4, _⟩ := blk5 D0
  have E0 := Lib.hid D0
  clear D0 hi h hm hq
  go_enter Try.func6, Try.ntmps6
  go_upto_region 1 with fail
  rw [← hw1]
  clear hw1
  go_wp2_with (first
    | (go_at_call 15; refine m0.mono ?_; clear m0; rintro e wA ⟨rfl, hbA⟩; have G0 := (hbA.block w.heap.size z1).trans E0.out; clear x0 x1 x2 x3 x4; obtain ⟨x0, x1, x2, x3, x4, _⟩ := blk5 G0; clear G0)
    | (go_at_call 32; refine (m1 _ hbA).mono ?_; clear m1; rintro e wB ⟨rfl, hbB⟩; have hB := hbA.trans (hbB.mono hbA.size); have G0 := (hB.block w.heap.size z1).trans E0.out; clear x0 x1 x2 x3 x4; obtain ⟨x0, x1, x2, x3, x4, _⟩ := blk5 G0; clear G0)
    | (go_at_call 33; refine (m2 _ hB).mono ?_; clear m2; rintro e wC ⟨rfl, hbC⟩; have hC := hB.trans (hbC.mono hB.size); have G0 := (hC.block w.heap.size z1).trans E0.out; clear x0 x1 x2 x3 x4; obtain ⟨x0, x1, x2, x3, x4, _⟩ := blk5 G0; clear G0)
    | (go_at_call 34; refine (m3 _ hC).mono ?_; clear m3; rintro e wD ⟨rfl, hbD⟩; have hD := hC.trans (hbD.mono hC.size); have G0 := (hD.block w.heap.size z1).trans E0.out; clear x0 x1 x2 x3 x4; obtain ⟨x0, x1, x2, x3, x4, _⟩ := blk5 G0; clear G0)
    | (go_at_call 35; refine (m4 _ hD).mono ?_; clear m4; rintro e wE ⟨v, rfl, hown, hbE⟩; obtain ⟨ra, rc, rfl⟩ := row_nil hown; have hE := hD.trans (hbE.mono hD.size); clear hown)
    | (go_at_call 14; refine (awake_walk _).mono ?_; rintro e wF ⟨rfl, hbF⟩))
  go_ret
  exact ⟨rfl, hb1.trans ((hE.trans (hbF.mono hE.size)).mono hb1.size)⟩
end Go.Proofs.Ytapfmfihhpafcaa
