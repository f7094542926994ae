/-
  The law ValueOfs.
-/
import Derived.Test.YtapfmfihhpafcaaE1
import Derived.Test.YtapfmfihhpafcaaE2
import Derived.Test.YtapfmfihhpafcaaI3
import Derived.Test.YtapfmfihhpafcaaD7
namespace Go.Proofs.Ytapfmfihhpafcaa
open Go.RowKit
set_option linter.unusedVariables false

theorem T.zero_may : T.zero.may = true := by
  have : T.zero.look 512 16 = 1 := by simp [T.zero, T.look, fieldsOk, ByteArray.size, ByteArray.toList_eq]
  unfold T.may T.parts; rw [this]; rfl
theorem T.zero_wf : T.zero.wf := by simp [T.zero, T.wf, T.wfs, ByteArray.size]
theorem T.zero_in (w : World) (ok : Nat → Prop) (m : Bool) : T.In w ok m T.zero none 0 := by rw [T.zero, T.In]; exact ⟨Nat.le_refl _, .inl rfl⟩

/-- What an answer is: a value that may be, and a number. -/
def Ans (w : World) (t : T) (code : Int) (R : World → Option Addr → Nat → Prop) (e : Ending) (w' : World) : Prop := ∃ a c, e = .returned (.tuple #[t.val a c, .int .i64 code]) ∧ R w' a c ∧ Below w.heap.size w w'

theorem of_same (l : List T) (hw : (T.lst l).wf) : ∃ (t : T) (code : Int), t.may = true ∧ t.wf ∧ (∀ (R : World → T → Option Addr → Nat → Prop) (w : World) (hz : ∀ w', R w' T.zero none 0) (e : Ending) (w' : World), OfPost w l (fun w' a c => R w' (T.lst l) a c) e w' → Ans w t code (fun w' a c => R w' t a c) e w') := by
  cases h1 : allMay l
  · refine ⟨T.zero, 2, T.zero_may, T.zero_wf, fun R w hz e w' h => ?_⟩
    obtain ⟨⟨_, h2⟩ | ⟨h3, _⟩ | ⟨h3, _⟩, hb⟩ := h
    · exact ⟨none, 0, h2, hz _, hb⟩
    · rw [h1] at h3; cases h3
    · rw [h1] at h3; cases h3
  · cases h4 : (T.lst l).may
    · refine ⟨T.zero, 4, T.zero_may, T.zero_wf, fun R w hz e w' h => ?_⟩
      obtain ⟨⟨h3, _⟩ | ⟨_, _, h2⟩ | ⟨_, h3, _⟩, hb⟩ := h
      · rw [h1] at h3; cases h3
      · exact ⟨none, 0, h2, hz _, hb⟩
      · rw [h4] at h3; cases h3
    · refine ⟨T.lst l, 0, h4, hw, fun R w hz e w' h => ?_⟩
      obtain ⟨⟨h3, _⟩ | ⟨_, h3, _⟩ | ⟨_, _, a, c, h2, h5⟩, hb⟩ := h
      · rw [h1] at h3; cases h3
      · rw [h4] at h3; cases h3
      · exact ⟨a, c, h2, h5, hb⟩

set_option maxRecDepth 100000 in
set_option maxHeartbeats 2000000 in
theorem ofs_law (w : World) (l : List T) (a : Option Addr) (c : Nat) (h : T.At w w.heap.size (T.lst l) a c) (hw : (T.lst l).wf) :
    Calls Try.prog 7 #[.slice a l.length c] w fun e w' => e = .returned (.bool true) ∧ Below w.heap.size w w' := by
  obtain ⟨t, code, htm, htw, hans⟩ := of_same l hw
  have m0 := smallAll_walk l a c w w.heap.size h (Nat.le_refl _)
  unfold SmallAllPost at m0
  have m1 := fun w' (hb : Below w.heap.size w w') => lentAll_walk l a c w' w.heap.size (T.At.below hb (Nat.le_refl _) h) hb.size hw
  go_enter Try.func7, Try.ntmps7
  go_upto_region 4 with (first
    | (go_at_call 29; refine m0.mono ?_; clear m0; rintro e w1 ⟨⟨b, rfl, hbb⟩, hb1⟩; cases b)
    | (go_at_call 14; refine (awake_walk _).mono ?_; rintro e wA ⟨rfl, hbA⟩)
    | (go_at_call 40; refine (m1 _ hb1).mono ?_; clear m1; rintro e w2 ⟨aL, cL, rfl, hmk, hb2⟩))
  · go_ret
    exact ⟨rfl, hb1.trans (hbA.mono hb1.size)⟩
  have hb02 := hb1.trans (hb2.mono hb1.size)
  have iv := T.At.below hb02 (Nat.le_refl _) h
  have io : MarkAll w2 (· < w2.heap.size) l aL cL := MarkAll.keep (fun _ _ => rfl) (fun b hb => hb.2) hmk
  have z2 := hb02.size
  have n1 := fun w' (hb : Below w2.heap.size w2 w') => (of_walk l aL cL w' w2.heap.size (T.At.below hb (Nat.le_refl _) io.lies) hb.size hw).mono fun e w'' hp => hans (fun W t a c => T.Mut W (New w'.heap.size W) t a c) w' (fun _ => T.Mut.zero _ _) e w'' hp
  have n2 := fun w' (hb : Below w2.heap.size w2 w') => (refOf_walk l a c w' w.heap.size (T.At.below hb (by omega) iv) (by have := hb.size; omega) hw).mono fun e w'' hp => hans (fun W t a c => T.In W (New w'.heap.size W) false t a c) w' (fun _ => T.zero_in _ _ _) e w'' hp
  have n3 := fun w' (hb : Below w2.heap.size w2 w') => keptAll_walk l aL cL a c w' w2.heap.size w.heap.size (MarkAll.keep (fun b hk => hb.block b hk) (fun _ h => h) io) (T.At.below hb (by omega) iv) hb.size (by have := hb.size; omega) hw
  clear h hans hmk iv io hb1 hb2 hbb
  go_upto_region 5 with (go_at_call 41; refine (n1 _ (Below.refl _ _)).mono ?_; rintro e w3 ⟨p1, q1, he, hm1, hb3⟩; unfold T.val at he; subst he)
  obtain ⟨w4, hw4⟩ : ∃ w4, w4 = w3.alloc (.cells #[.int .u8 t.k, .int .i64 t.n, .string t.s, .slice p1 t.l.length q1, .int .i64 t.r] 26) := ⟨_, rfl⟩
  rw [← hw4]
  have A4 : w4.heap[w3.heap.size]? = some (.cells #[.int .u8 t.k, .int .i64 t.n, .string t.s, .slice p1 t.l.length q1, .int .i64 t.r] 26 (0, 0)) := by rw [hw4]; exact blk_new _ _
  have hb34 : Below w3.heap.size w3 w4 := by rw [hw4]; exact (Below.refl _ _).alloc (Nat.le_refl _) _
  have z3 := hb3.size
  have zA4 : w3.heap.size < w4.heap.size := (Array.getElem?_eq_some_iff.1 A4).1
  have hb4 : Below w2.heap.size w2 w4 := hb3.trans (hb34.mono z3)
  have M4 : T.Mut w4 (fun b => w2.heap.size ≤ b ∧ b < w3.heap.size) t p1 q1 := T.Mut.keep (fun b hb => hb34.block b hb.2) (fun b hb => hb) hm1
  have A4 := Lib.hid A4
  have M4 := Lib.hid M4
  clear hw4 hm1 hb34
  go_upto_region 6 with (go_at_call 41; refine (n1 _ hb4).mono ?_; clear n1; rintro e w5 ⟨p2, q2, he, hm2, hb5⟩; unfold T.val at he; subst he)
  obtain ⟨w6, hw6⟩ : ∃ w6, w6 = w5.alloc (.cells #[.int .u8 t.k, .int .i64 t.n, .string t.s, .slice p2 t.l.length q2, .int .i64 t.r] 26) := ⟨_, rfl⟩
  rw [← hw6]
  have B6 : w6.heap[w5.heap.size]? = some (.cells #[.int .u8 t.k, .int .i64 t.n, .string t.s, .slice p2 t.l.length q2, .int .i64 t.r] 26 (0, 0)) := by rw [hw6]; exact blk_new _ _
  have hb56 : Below w5.heap.size w5 w6 := by rw [hw6]; exact (Below.refl _ _).alloc (Nat.le_refl _) _
  have z5 := hb5.size
  have zB6 : w5.heap.size < w6.heap.size := (Array.getElem?_eq_some_iff.1 B6).1
  have hb46 : Below w4.heap.size w4 w6 := hb5.trans (hb56.mono z5)
  have hb6 : Below w2.heap.size w2 w6 := hb4.trans (hb46.mono (by omega))
  have M6 : T.In w6 (fun b => w4.heap.size ≤ b ∧ b < w5.heap.size) false t p2 q2 := T.In.keep (fun b hb => hb56.block b hb.2) (fun b hb => hb) id (T.Mut.lies hm2)
  have A6 := Lib.hid ((hb46.block w3.heap.size zA4).trans A4.out)
  have N6 := Lib.hid (T.Mut.keep (w' := w6) (S' := fun b => w2.heap.size ≤ b ∧ b < w3.heap.size) (fun b hb => hb46.block b (by omega)) (fun _ h => h) M4.out)
  have B6 := Lib.hid B6
  have M6 := Lib.hid M6
  clear hw6 hm2 hb56 hb5 hb3 A4 M4
  go_upto_region 7 with (go_at_call 42; refine (n2 _ hb6).mono ?_; clear n2; rintro e w7 ⟨p3, q3, he, hi3, hb7⟩; unfold T.val at he; subst he)
  obtain ⟨w8, hw8⟩ : ∃ w8, w8 = w7.alloc (.cells #[.int .u8 t.k, .int .i64 t.n, .string t.s, .slice p3 t.l.length q3, .int .i64 t.r] 26) := ⟨_, rfl⟩
  rw [← hw8]
  have C8 : w8.heap[w7.heap.size]? = some (.cells #[.int .u8 t.k, .int .i64 t.n, .string t.s, .slice p3 t.l.length q3, .int .i64 t.r] 26 (0, 0)) := by rw [hw8]; exact blk_new _ _
  have hb78 : Below w7.heap.size w7 w8 := by rw [hw8]; exact (Below.refl _ _).alloc (Nat.le_refl _) _
  have z7 := hb7.size
  have zC8 : w7.heap.size < w8.heap.size := (Array.getElem?_eq_some_iff.1 C8).1
  have hb68 : Below w6.heap.size w6 w8 := hb7.trans (hb78.mono z7)
  have hb8 : Below w2.heap.size w2 w8 := hb6.trans (hb68.mono (by omega))
  have i3 : T.In w8 (fun b => w6.heap.size ≤ b ∧ b < w7.heap.size) false t p3 q3 := T.In.keep (fun b hb => hb78.block b hb.2) (fun b hb => hb) id hi3
  have mH := held_walk t p1 p2 p3 q1 q2 q3 w8 (fun b => w2.heap.size ≤ b ∧ b < w3.heap.size) (fun b => w4.heap.size ≤ b ∧ b < w7.heap.size) htm htw (T.Mut.keep (fun b hb => hb68.block b (by omega)) (fun _ h => h) N6.out) (fun b hb => by omega)
    (T.In.keep (fun b hb => hb68.block b (by omega)) (fun b hb => ⟨hb.1, by omega⟩) id M6.out) (T.In.keep (fun _ _ => rfl) (fun b hb => ⟨by omega, hb.2⟩) id i3) (fun b hb => ⟨by omega, by omega⟩)
  unfold T.val at mH
  have A8 := (hb68.block w3.heap.size (by omega)).trans A6.out
  have B8 := (hb68.block w5.heap.size (by omega)).trans B6.out
  obtain ⟨x0, x1, x2, x3, x4, _⟩ := blk5 A8
  obtain ⟨y0, y1, y2, y3, y4, _⟩ := blk5 B8
  obtain ⟨u0, u1, u2, u3, u4, _⟩ := blk5 C8
  have hnb : ∀ w', Spoil (fun b => w2.heap.size ≤ b ∧ b < w3.heap.size) w8 w' → Below w2.heap.size w2 w' := fun w' hs => hb8.trans ⟨hs.os, hs.tape, hs.output, by have := hs.size; omega, fun k hk => hs.block k (by omega) (by omega)⟩
  clear hw8 hi3 hb78 hb7 i3 A8 B8 C8 htm htw A6 N6 B6 M6 hb6 hb46 hb4
  go_wp2_with (first
    | (go_at_call 26; refine mH.mono ?_; clear mH; rintro e w9 ⟨rfl, hs9⟩; have hb9 := hnb w9 hs9; clear hnb x0 x1 x2 x3 x4 y0 y1 y2 y3 y4 u0 u1 u2 u3 u4)
    | (go_at_call 43; refine (n3 _ hb9).mono ?_; clear n3; rintro e w10 ⟨rfl, hb10⟩)
    | (go_at_call 14; refine (awake_walk _).mono ?_; rintro e w11 ⟨rfl, hb11⟩))
  go_ret
  exact ⟨rfl, hb02.trans ((hb9.trans ((hb10.mono hb9.size).trans (hb11.mono (by have := hb9.size; have := hb10.size; omega)))).mono z2)⟩
end Go.Proofs.Ytapfmfihhpafcaa
