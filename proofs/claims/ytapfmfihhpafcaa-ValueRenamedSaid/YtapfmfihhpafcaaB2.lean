/-
  value.At.
-/
import Derived.Test.YtapfmfihhpafcaaB1
import Derived.Test.YtapfmfihhpafcaaLaw
import Derived.Deep.CutBlock
import Derived.Deep.Cut
namespace Go.Proofs.Ytapfmfihhpafcaa
open Go.RowKit
set_option linter.unusedVariables false

theorem T.zero_val : T.zero.val none 0 = .agg #[.int .u8 0, .int .i64 0, .string ⟨#[]⟩, .slice none 0 0, .int .i64 0] := rfl

/-- What At hands back. -/
def AtPost (w : World) (t : T) (p : List Int) (e : Ending) (w' : World) : Prop :=
  ∃ u a c, T.Mut w' (New w.heap.size w') u a c ∧ ((t.may = true ∧ T.find p t = some u ∧ e = .returned (.tuple #[u.val a c, .int .i64 0])) ∨
    (u = T.zero ∧ t.may = true ∧ T.find p t = none ∧ e = .returned (.tuple #[u.val a c, .int .i64 22])) ∨ (u = T.zero ∧ t.may = false ∧ e = .returned (.tuple #[u.val a c, .int .i64 2]))) ∧ Below w.heap.size w w'

set_option maxRecDepth 100000 in
set_option maxHeartbeats 4000000 in
theorem at_walk (t : T) (p : List Int) (a : Option Addr) (c : Nat) (pa : Option Addr) (pc : Nat) (w : World) (B : Nat) (hin : T.At w B t a c) (hp : Ints w (· < B) p pa pc) (hB : B ≤ w.heap.size) (hw : t.wf) (hpl : p.length ≤ 1000000) :
    Calls Try.prog 44 #[t.val a c, .slice pa p.length pc] w (AtPost w t p) := by
  obtain ⟨w1, hw1⟩ : ∃ w1, w1 = (w.alloc (.cells #[.int .u8 t.k, .int .i64 t.n, .string t.s, .slice a t.l.length c, .int .i64 t.r] 26 (0, 0))).alloc (.cells #[.int .u8 0, .int .i64 0, .string ⟨#[]⟩, .slice none 0 0, .int .i64 0] 26 (0, 0)) := ⟨_, rfl⟩
  have hb1 : Below w.heap.size w w1 := by rw [hw1]; exact two_boxes _ _ _
  have D0 : w1.heap[w.heap.size]? = some (.cells #[.int .u8 t.k, .int .i64 t.n, .string t.s, .slice a t.l.length c, .int .i64 t.r] 26 (0, 0)) := by rw [hw1]; exact two_blk0 _ _ _
  have D1 : w1.heap[w.heap.size + 1]? = some (.cells #[.int .u8 0, .int .i64 0, .string ⟨#[]⟩, .slice none 0 0, .int .i64 0] 26 (0, 0)) := by rw [hw1]; exact two_blk1 _ _ _
  have hz1 : w1.heap.size = w.heap.size + 2 := by rw [hw1]; simp
  have m1 := may_walk t a c w1 B (T.At.below hb1 hB hin) (by omega) hw
  have m2 := fun (w2 : World) (hb2 : Below w1.heap.size w1 w2) => find_walk t p a c pa pc w2 B (T.At.below hb2 (by omega) (T.At.below hb1 hB hin)) (Ints.below hb2 (by omega) (Ints.below hb1 hB hp)) (by have := hb2.size; omega) hw hpl
  have m3 := fun (u : T) (ua : Option Addr) (uc : Nat) (w2 : World) (hu : T.At w2 B u ua uc) (hz : B ≤ w2.heap.size) (huw : u.wf) => own_walk u ua uc w2 B hu hz huw
  clear hin hp hw
  unfold T.val at m1 m2 m3 ⊢
  go_enter Try.func44, Try.ntmps44
  go_upto_region 1 with (fail)
  rw [← hw1]
  clear hw1
  have E0 := D0
  obtain ⟨x0, x1, x2, x3, x4, y0, y1, y2, y3, y4⟩ := blk5 D0
  cases hm : t.may with
  | false =>
    rw [hm] at m1
    clear m2 m3
    have HM := Lib.hid hm
    clear hm
    clear D0 x0 x1 x2 x3 x4 y0 y1 y2 y3 y4
    obtain ⟨x0, x1, x2, x3, x4, y0, y1, y2, y3, y4⟩ := blk5 E0
    go_wp2_with (first
      | (go_at_call 34; refine m1.mono ?_; clear m1; rintro e wA ⟨rfl, hbA⟩; have D2 := Lib.hid ((hbA.block (w.heap.size + 1) (by omega)).trans D1))
      | (refine wpList_put _ rfl _ _ rfl (w.heap.size + 1) _ _ _ _ _ _ _ _ _ _ (by rfl) (by rfl) (by simp [Value.oneCell']) D2.out ?_; rintro wP hP))
    obtain ⟨g0, g1, g2, g3, g4, _⟩ := blk5 hP.at_
    exact post_cell26b Try.results44 rfl rfl rfl g0 g1 g2 g3 g4 ⟨T.zero, none, 0, T.Mut.zero _ _, .inr (.inr ⟨rfl, HM.out, rfl⟩), hb1.trans ((hbA.mono (by omega)).trans (hP.below (by omega)))⟩
  | true =>
    rw [hm] at m1
    have HM := Lib.hid hm
    clear hm
    clear D0 x0 x1 x2 x3 x4 y0 y1 y2 y3 y4
    obtain ⟨x0, x1, x2, x3, x4, y0, y1, y2, y3, y4⟩ := blk5 E0
    go_wp2_with (first
      | (go_at_call 34; refine m1.mono ?_; clear m1; rintro e wA ⟨rfl, hbA⟩; have D2 := Lib.hid ((hbA.block (w.heap.size + 1) (by omega)).trans D1); have D3 := (hbA.block (w.heap.size) (by omega)).trans E0; clear x0 x1 x2 x3 x4 y0 y1 y2 y3 y4; obtain ⟨x0, x1, x2, x3, x4, y0, y1, y2, y3, y4⟩ := blk5 D3; have D3 := Lib.hid D3)
      | (go_at_call 81; refine (m2 _ hbA).mono ?_; clear m2; rintro e wB ⟨(⟨v, va, vc, hf, hv, hvw, he⟩ | ⟨hf, he⟩), hbB⟩; all_goals ((first | rw [T.zero_val] at he | unfold T.val at he); subst he; have HF := Lib.hid hf; clear hf; clear x0 x1 x2 x3 x4 y0 y1 y2 y3 y4; have D4 := Lib.hid ((hbB.block (w.heap.size + 1) (by have := hbA.size; omega)).trans D2.out); have hzB : w.heap.size + 1 < wB.heap.size := (by have := hbA.size; have := hbB.size; omega)))
      | (go_at_call 59; refine (m3 v va vc _ (T.At.below ((Below.refl wB.heap.size wB).alloc (Nat.le_refl _) _) (by have := hbA.size; have := hbB.size; omega) hv) (by simp; have := hbA.size; have := hbB.size; omega) hvw).mono ?_; clear m3; rintro e wC ⟨va2, vc2, he, hmv, hbC⟩; unfold T.val at he; subst he; have D6 := Lib.hid (((hbC.block (w.heap.size + 1) (by simp; omega)).trans (Below.heap_alloc wB _ (w.heap.size + 1) hzB)).trans D4.out))
      | (refine wpList_put _ rfl _ _ rfl (w.heap.size + 1) _ _ _ _ _ _ _ _ _ _ (by rfl) (by rfl) (by simp [Value.oneCell']) D6.out ?_; rintro wP hP)
      | (refine wpList_put _ rfl _ _ rfl (w.heap.size + 1) _ _ _ _ _ _ _ _ _ _ (by rfl) (by rfl) (by simp [Value.oneCell']) ((Below.heap_alloc wB _ (w.heap.size + 1) hzB).trans D4.out) ?_; rintro wP hP))
    · obtain ⟨g0, g1, g2, g3, g4, _⟩ := blk5 hP.at_
      have hbP := hP.below (B := w.heap.size) (by omega)
      have hsz := hbA.size
      have hsz2 := hbB.size
      have hsz3 := hbC.size
      simp only [World.size_alloc] at hsz3
      exact post_cell26b Try.results44 rfl rfl rfl g0 g1 g2 g3 g4 ⟨v, va2, vc2, T.Mut.keep (fun b hb => hP.other b (by have h1 := hb.1; simp only [World.size_alloc] at h1; omega)) (fun b hb => ⟨by have h1 := hb.1; simp only [World.size_alloc] at h1; omega, by rw [hP.size]; exact hb.2⟩) hmv, .inl ⟨HM.out, HF.out, rfl⟩,
        hb1.trans (((hbA.mono (by omega)).trans (hbB.mono (by omega))).trans (((below_box hbC).mono (by omega)).trans hbP))⟩
    · obtain ⟨g0, g1, g2, g3, g4, _⟩ := blk5 hP.at_
      have hbP := hP.below (B := w.heap.size) (by omega)
      have hsz := hbA.size
      exact post_cell26b Try.results44 rfl rfl rfl g0 g1 g2 g3 g4 ⟨T.zero, none, 0, T.Mut.zero _ _, .inr (.inl ⟨rfl, HM.out, HF.out, rfl⟩), hb1.trans (((hbA.mono (by omega)).trans (hbB.mono (by omega))).trans (((Below.refl _ _).alloc (by omega) _).trans hbP))⟩
end Go.Proofs.Ytapfmfihhpafcaa
