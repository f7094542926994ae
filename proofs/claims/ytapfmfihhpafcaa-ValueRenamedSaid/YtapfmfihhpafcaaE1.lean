/-
  posternlaw02.awake: calls whose answers are fixed.
-/
import Derived.Test.YtapfmfihhpafcaaB2
import Derived.Test.YtapfmfihhpafcaaB7
import Derived.Test.YtapfmfihhpafcaaC5
import Derived.Test.YtapfmfihhpafcaaA8
namespace Go.Proofs.Ytapfmfihhpafcaa
open Go.RowKit
set_option linter.unusedVariables false

def tn (n : Int) : T := .mk 1 n ⟨#[]⟩ [] 0
def tr7 : T := .mk 4 0 ⟨#[]⟩ [] 7
def tl7 : T := .mk 3 0 ⟨#[]⟩ [tr7] 0
def tv : T := .mk 3 0 ⟨#[]⟩ [tn 1, tl7] 0
def sv : ByteArray := ⟨#[3, 0, 2, 1, 128, 0, 0, 0, 0, 0, 0, 1, 3, 0, 1, 4, 0, 0, 0, 7]⟩

theorem tv_look : tv.look 512 16 = 4 := by
  simp [tv, tn, tl7, tr7, T.look, T.looks, fieldsOk, ByteArray.size, ByteArray.toList_eq]
theorem tv_parts : tv.parts = 4 := by unfold T.parts; rw [tv_look]; rfl
theorem tv_may : tv.may = true := by unfold T.may; rw [tv_parts]; rfl
theorem tn_may (n : Int) : (tn n).may = true := by
  have : (tn n).look 512 16 = 1 := by simp [tn, T.look, fieldsOk, ByteArray.size, ByteArray.toList_eq]
  unfold T.may T.parts; rw [this]; rfl
theorem tv_deep : tv.deep = 2 := by simp [tv, tn, tl7, tr7, T.deep, T.deeps]
theorem tv_vord : tv.vord tv = 0 := by simp [tv, tn, tl7, tr7, T.vord, T.vords, cmpI]
theorem tn_vord : (tn 1).vord (tn 2) = -1 := by simp [tn, T.vord, cmpI]
theorem tv_find : T.find [1, 0] tv = some tr7 := by simp [tv, tn, tl7, tr7, T.find]
theorem tv_bytes : tv.bytesAns = .tuple #[.string sv, .int .i64 0] := by
  unfold T.bytesAns
  rw [tv_may]
  have h1 : someBig tv.refs = false := by simp [tv, tn, tl7, tr7, T.refs, T.refss, someBig]
  have h2 : strOf tv.bytes = sv := by rfl
  rw [h1, h2]; rfl
theorem sv_rd : rd 16 512 sv = some (tv, ⟨#[]⟩, 508) := by kernel_rfl
theorem tv_wf : tv.wf := by simp [tv, tn, tl7, tr7, T.wf, T.wfs, ByteArray.size]
theorem tn_wf (n : Int) (h : 0 ≤ n ∧ n ≤ 9) : (tn n).wf := by simp [tn, T.wf, T.wfs, ByteArray.size]; omega

theorem tv_in {w : World} {g1 g2 : Nat} (h1 : w.heap[g1]? = some (.cells #[.int .u8 1, .int .i64 1, .string ⟨#[]⟩, .slice none 0 0, .int .i64 0, .int .u8 3, .int .i64 0, .string ⟨#[]⟩, .slice (some ⟨g2, 0, none⟩) 1 1, .int .i64 0] 26 (0, 0)))
    (h2 : w.heap[g2]? = some (.cells #[.int .u8 4, .int .i64 0, .string ⟨#[]⟩, .slice none 0 0, .int .i64 7] 26 (0, 0))) : T.At w w.heap.size tv (some ⟨g1, 0, none⟩) 2 := by
  have l1 := (Array.getElem?_eq_some_iff.1 h1).1
  have l2 := (Array.getElem?_eq_some_iff.1 h2).1
  have i7 : T.At w w.heap.size tr7 none 0 := by unfold tr7; unfold T.At; rw [T.In]; exact ⟨Nat.le_refl _, .inl rfl⟩
  have i1 : T.At w w.heap.size (tn 1) none 0 := by unfold tn; unfold T.At; rw [T.In]; exact ⟨Nat.le_refl _, .inl rfl⟩
  have il : T.At w w.heap.size tl7 (some ⟨g2, 0, none⟩) 1 := by
    unfold tl7; unfold T.At; rw [T.In]
    refine ⟨by simp, .inr ⟨g2, 0, rfl, l2, by simp, ?_⟩⟩
    rw [T.Ins, T.Ins]
    exact ⟨⟨none, 0, i7, by simp [World.cell?, h2, tr7, T.k], by simp [World.cell?, h2, tr7, T.n], by simp [World.cell?, h2, tr7, T.s], by simp [World.cell?, h2, tr7, T.l], by simp [World.cell?, h2, tr7, T.r]⟩, trivial⟩
  unfold tv; unfold T.At; rw [T.In]
  refine ⟨by simp, .inr ⟨g1, 0, rfl, l1, by simp, ?_⟩⟩
  rw [T.Ins, T.Ins, T.Ins]
  exact ⟨⟨none, 0, i1, by simp [World.cell?, h1, tn, T.k], by simp [World.cell?, h1, tn, T.n], by simp [World.cell?, h1, tn, T.s], by simp [World.cell?, h1, tn, T.l], by simp [World.cell?, h1, tn, T.r]⟩,
    ⟨some ⟨g2, 0, none⟩, 1, il, by simp [World.cell?, h1, tl7, T.k], by simp [World.cell?, h1, tl7, T.n], by simp [World.cell?, h1, tl7, T.s], by simp [World.cell?, h1, tl7, T.l], by simp [World.cell?, h1, tl7, T.r]⟩, trivial⟩

theorem read_sv (w : World) : Calls Try.prog 24 #[.string sv] w fun e w' => (∃ a c, e = .returned (.tuple #[tv.val a c, .int .i64 0]) ∧ T.Mut w' (New w.heap.size w') tv a c) ∧ Below w.heap.size w w' := by
  refine (read_walk sv w (by simp [sv, ByteArray.size])).mono fun e w' h => ?_
  obtain ⟨⟨h1, _⟩ | ⟨_, t, r, p, a, c, h1, _, h2, h3, _⟩ | ⟨_, h1, _⟩, hb⟩ := h
  · simp [sv, ByteArray.size] at h1
  · rw [sv_rd] at h1
    injection h1 with h1
    injection h1 with h1 _
    subst h1
    exact ⟨⟨a, c, h2, h3⟩, hb⟩
  · exact absurd (by simp [ByteArray.toList_eq]) (h1 _ _ _ sv_rd)

theorem at_tv (a : Option Addr) (c : Nat) (pa : Option Addr) (pc : Nat) (w : World) (B : Nat) (hin : T.At w B tv a c) (hp : Ints w (· < B) [1, 0] pa pc) (hB : B ≤ w.heap.size) :
    Calls Try.prog 44 #[tv.val a c, .slice pa 2 pc] w fun e w' => (∃ a c, e = .returned (.tuple #[tr7.val a c, .int .i64 0])) ∧ Below w.heap.size w w' := by
  refine (at_walk tv [1, 0] a c pa pc w B hin hp hB tv_wf (by simp)).mono fun e w' h => ?_
  obtain ⟨u, a, c, _, ⟨_, h1, h2⟩ | ⟨_, _, h1, _⟩ | ⟨_, h1, _⟩, hb⟩ := h
  · rw [tv_find] at h1
    injection h1 with h1
    subst h1
    exact ⟨⟨a, c, h2⟩, hb⟩
  · rw [tv_find] at h1; cases h1
  · rw [tv_may] at h1; cases h1

theorem ints10 (w : World) : Ints (w.alloc (.cells #[.int .i64 1, .int .i64 0] 3)) (· < (w.alloc (.cells #[.int .i64 1, .int .i64 0] 3)).heap.size) [1, 0] (some ⟨w.heap.size, 0, none⟩) 2 := by
  refine ⟨by simp, .inr ⟨_, _, rfl, by simp, fun i hi => ?_⟩⟩
  match i, hi with
  | 0, _ => simp
  | 1, _ => simp

theorem order_12 (w : World) : Calls Try.prog 31 #[(tn 1).val none 0, (tn 2).val none 0] w fun e w' => e = .returned (.tuple #[.int .i64 (-1), .int .i64 0]) ∧ Below w.heap.size w w' := by
  have i : ∀ n, T.At w w.heap.size (tn n) none 0 := fun n => by unfold tn; unfold T.At; rw [T.In]; exact ⟨Nat.le_refl _, .inl rfl⟩
  have := order_walk (tn 1) (tn 2) none 0 none 0 w _ _ (i 1) (i 2) (Nat.le_refl _) (Nat.le_refl _) (tn_wf 1 (by omega)) (tn_wf 2 (by omega))
  unfold T.ordAnsV at this
  rw [tn_may, tn_may, tn_vord] at this
  exact this

theorem same_tv (a : Option Addr) (c : Nat) (a' : Option Addr) (c' : Nat) (w : World) (B : Nat) (h : T.At w B tv a c) (h' : T.At w B tv a' c') (hB : B ≤ w.heap.size) : Calls Try.prog 30 #[tv.val a c, tv.val a' c'] w fun e w' => e = .returned (.bool true) ∧ Below w.heap.size w w' := by
  have := same_walk tv tv a c a' c' w B B h h' hB hB tv_wf tv_wf
  rw [tv_may, tv_vord] at this
  exact this

theorem neq_func (w : World) (f : Fn) (c : Array Value) : (binOp .neq 31 (.func f #[] c) .nilFunc).run Try.prog w = .ok (.bool true) w := by kernel_rfl

theorem each_tv (a : Option Addr) (c : Nat) (w : World) (B : Nat) (h : T.At w B tv a c) (hB : B ≤ w.heap.size) : Calls Try.prog 17 #[tv.val a c] w fun e w' => e = .returned (.func (.func 60) #[] #[.pointer (some ⟨w.heap.size, 0, none⟩)]) ∧ Below w.heap.size w w' := by
  refine (each_walk tv a c w B h hB tv_wf).mono fun e w' h => ?_
  obtain ⟨⟨h1, _⟩ | ⟨_, h2, _⟩, hb⟩ := h
  · rw [tv_may] at h1; cases h1
  · exact ⟨h2, hb⟩

set_option maxRecDepth 100000 in
set_option maxHeartbeats 1000000 in
theorem awake_walk (w : World) : Calls Try.prog 14 #[] w fun e w' => e = .returned (.bool true) ∧ Below w.heap.size w w' := by
  have m1 := num_walk 1 w
  have m2 := fun w' => ref_walk 7 w'
  have m3 := fun g w' => list_walk [tr7] (some ⟨g, 0, none⟩) 1 w'
  have m4 := fun g w' => list_walk [tn 1, tl7] (some ⟨g, 0, none⟩) 2 w'
  unfold T.val at m1 m2 m3 m4
  simp only [T.k, T.n, T.s, T.l, T.r, List.length_nil, List.length_cons, Nat.zero_add] at m1 m2 m3 m4
  go_enter Try.func14, Try.ntmps14
  go_upto_region 2 with (first
    | (go_at_call 55; refine m1.mono ?_; clear m1; rintro e w1 ⟨rfl, hb1⟩)
    | (go_at_call 57; refine (m2 _).mono ?_; clear m2; rintro e w2 ⟨rfl, hb2⟩)
    | (go_at_call 56; refine (m3 _ _).mono ?_; clear m3; rintro e w3 ⟨rfl, hb3⟩)
    | (go_at_call 56; refine (m4 _ _).mono ?_; clear m4; rintro e w4 ⟨rfl, hb4⟩))
  obtain ⟨w5, hw5⟩ : ∃ w5, w5 = w4.alloc (.cells #[.int .u8 3, .int .i64 0, .string ⟨#[]⟩, .slice (some ⟨w3.heap.size, 0, none⟩) 2 2, .int .i64 0] 26) := ⟨_, rfl⟩
  have z1 := hb1.size
  have z2 := hb2.size
  have z3 := hb3.size
  have z4 := hb4.size
  simp only [World.size_alloc] at z3 z4
  have V : w5.heap[w4.heap.size]? = some (.cells #[.int .u8 3, .int .i64 0, .string ⟨#[]⟩, .slice (some ⟨w3.heap.size, 0, none⟩) 2 2, .int .i64 0] 26 (0, 0)) := by rw [hw5]; exact blk_new _ _
  have V1 := (Below.heap_alloc w4 (.cells #[.int .u8 3, .int .i64 0, .string ⟨#[]⟩, .slice (some ⟨w3.heap.size, 0, none⟩) 2 2, .int .i64 0] 26) w3.heap.size (by omega)).trans ((hb4.block w3.heap.size (by simp)).trans (blk_new _ _))
  have V2 := (Below.heap_alloc w4 (.cells #[.int .u8 3, .int .i64 0, .string ⟨#[]⟩, .slice (some ⟨w3.heap.size, 0, none⟩) 2 2, .int .i64 0] 26) w2.heap.size (by omega)).trans ((hb4.block w2.heap.size (by simp; omega)).trans ((Below.heap_alloc _ _ _ (by omega)).trans ((hb3.block w2.heap.size (by simp)).trans (blk_new _ _))))
  rw [← hw5] at V1 V2
  have hT := tv_in V1 V2
  have hb5 : Below w.heap.size w w5 := by
    rw [hw5]
    exact hb1.trans ((hb2.mono (by omega)).trans ((((below_box hb3).mono (by omega)).trans ((below_box hb4).mono (by omega))).trans ((Below.refl _ _).alloc (by omega) _)))
  rw [← hw5]
  clear V1 V2 hb1 hb2 hb3 hb4 z1 z2 z3
  have hz5 : w4.heap.size < w5.heap.size := (Array.getElem?_eq_some_iff.1 V).1
  have HW5 := Lib.hid hw5
  clear hw5
  have mB := fun (w' : World) (hb : Below w5.heap.size w5 w') => bytes_walk tv _ 2 w' w5.heap.size (T.At.below hb (Nat.le_refl _) hT) hb.size tv_wf
  rw [tv_bytes] at mB
  have mR := read_sv
  unfold sv at mB mR
  unfold T.val at mB
  have V0 := Lib.hid V
  obtain ⟨x0, x1, x2, x3, x4⟩ := blk5cc V
  clear V
  go_upto_region 4 with (first
    | (go_at_call 22; refine (mB _ (Below.refl _ _)).mono ?_; clear mB; rintro e wA ⟨rfl, hbA⟩)
    | (go_at_call 24; refine (mR _).mono ?_; clear mR; rintro e wB ⟨⟨aB, cB, he, hmB⟩, hbB⟩; unfold T.val at he; subst he))
  obtain ⟨w7, hw7⟩ : ∃ w7, w7 = wB.alloc (.cells #[.int .u8 tv.k, .int .i64 tv.n, .string tv.s, .slice aB tv.l.length cB, .int .i64 tv.r] 26) := ⟨_, rfl⟩
  have zA := hbA.size
  have zB := hbB.size
  have hb7 : Below w5.heap.size w5 w7 := by rw [hw7]; exact (hbA.trans (hbB.mono zA)).trans ((Below.refl _ _).alloc (by omega) _)
  have R7 : w7.heap[wB.heap.size]? = some (.cells #[.int .u8 tv.k, .int .i64 tv.n, .string tv.s, .slice aB tv.l.length cB, .int .i64 tv.r] 26 (0, 0)) := by rw [hw7]; exact blk_new _ _
  have hM7 : T.At w7 w7.heap.size tv aB cB := by
    refine T.In.keep (fun b hb => ?_) (fun b hb => ?_) id (T.Mut.lies hmB)
    · rw [hw7]; exact Below.heap_alloc _ _ _ hb.2
    · rw [hw7]; have := hb.2; simp; omega
  have hT7 := T.At.below hb7 (Nat.le_refl _) hT
  have V7 := (hb7.block w4.heap.size hz5).trans V0.out
  rw [← hw7]
  have HW7 := Lib.hid hw7
  have V7H := Lib.hid V7
  clear hw7 hbA hbB hmB x0 x1 x2 x3 x4
  have mT := fun pa w' (hb : Below w7.heap.size w7 w') (hp : Ints w' (· < w'.heap.size) [1, 0] pa 2) => at_tv _ 2 pa 2 w' w'.heap.size (T.At.mono (by have := hb.size; have := hb7.size; omega) (T.At.below hb hb7.size hT7)) hp (Nat.le_refl _)
  unfold T.val at mT
  obtain ⟨x0, x1, x2, x3, x4⟩ := blk5cc V7
  clear V7
  have mN := fun w' => num_walk 1 w'
  have mN2 := fun w' => num_walk 2 w'
  have mO := fun w' => order_12 w'
  unfold T.val at mN mN2 mO
  simp only [T.k, T.n, T.s, T.l, T.r, tn, List.length_nil] at mN mN2 mO
  go_upto_region 6 with (first
    | (go_at_call 44; refine (mT _ _ (by exact (Below.refl _ _).alloc (Nat.le_refl _) _) (by exact ints10 _)).mono ?_; clear mT; rintro e wD ⟨⟨aD, cD, rfl⟩, hbD⟩)
    | (go_at_call 55; refine (mN _).mono ?_; clear mN; rintro e wE ⟨rfl, hbE⟩)
    | (go_at_call 55; refine (mN2 _).mono ?_; clear mN2; rintro e wE2 ⟨rfl, hbE2⟩)
    | (go_at_call 31; refine (mO _).mono ?_; rintro e wF ⟨rfl, hbF⟩))
  have zD := hbD.size
  have zE := hbE.size
  have zE2 := hbE2.size
  have zF := hbF.size
  simp only [World.size_alloc] at zD zE
  have hbF1 : Below (wD.heap.size + 1) (wD.alloc (.cells #[.int .u8 tr7.k, .int .i64 tr7.n, .string tr7.s, .slice aD tr7.l.length cD, .int .i64 tr7.r] 26)) wF := (hbE.mono (by simp)).trans ((hbE2.mono (by omega)).trans (hbF.mono (by omega)))
  have hbF7 : Below w7.heap.size w7 wF := (below_box hbD).trans ((((Below.refl _ _).alloc (by omega) _)).trans (hbF1.mono (by omega)))
  have YF : wF.heap[wD.heap.size]? = some (.cells #[.int .u8 tr7.k, .int .i64 tr7.n, .string tr7.s, .slice aD tr7.l.length cD, .int .i64 tr7.r] 26 (0, 0)) := (hbF1.block _ (by omega)).trans (blk_new _ _)
  have XF := (hbF7.block wB.heap.size (Array.getElem?_eq_some_iff.1 R7).1).trans R7
  have VF := (hbF7.block w4.heap.size (Array.getElem?_eq_some_iff.1 V7H.out).1).trans V7H.out
  have hTF := T.At.below hbF7 hb7.size hT7
  have hMF := T.At.below hbF7 (Nat.le_refl _) hM7
  have hbWF : Below w.heap.size w wF := hb5.trans ((hb7.mono hb5.size).trans (hbF7.mono (by have := hb5.size; have := hb7.size; omega)))
  have zWF : w5.heap.size ≤ wF.heap.size := by have := hb7.size; omega
  have zWF2 : w7.heap.size ≤ wF.heap.size := by omega
  have mS := same_tv aB cB _ 2 wF wF.heap.size (T.At.mono zWF2 hMF) (T.At.mono zWF hTF) (Nat.le_refl _)
  have mP := fun w' (hb : Below wF.heap.size wF w') => parts_walk tv _ 2 w' wF.heap.size (T.At.below hb (Nat.le_refl _) (T.At.mono zWF hTF)) hb.size tv_wf
  have mDp := fun w' (hb : Below wF.heap.size wF w') => deep_walk tv _ 2 w' wF.heap.size (T.At.below hb (Nat.le_refl _) (T.At.mono zWF hTF)) hb.size tv_wf
  have mM := fun w' (hb : Below wF.heap.size wF w') => may_walk tv _ 2 w' wF.heap.size (T.At.below hb (Nat.le_refl _) (T.At.mono zWF hTF)) hb.size tv_wf
  have mE := fun w' (hb : Below wF.heap.size wF w') => each_tv _ 2 w' wF.heap.size (T.At.below hb (Nat.le_refl _) (T.At.mono zWF hTF)) hb.size
  rw [tv_parts] at mP
  rw [tv_may, if_pos rfl, tv_deep] at mDp
  rw [tv_may] at mM
  unfold T.val at mS mP mDp mM mE
  clear hbE hbE2 hbF hbF1 hbF7 hT7 hM7 hTF hMF hb7 hT hb5 hbD zD zE zE2 zF zA zB z4 x0 x1 x2 x3 x4 mO
  have VF0 := Lib.hid VF
  have YF0 := Lib.hid YF
  have zYF : wD.heap.size < wF.heap.size := (Array.getElem?_eq_some_iff.1 YF).1
  obtain ⟨x0, x1, x2, x3, x4⟩ := blk5cc VF
  obtain ⟨y0, y1, y2, y3, y4⟩ := blk5cc XF
  obtain ⟨u0, u1, u2, u3, u4⟩ := blk5cc YF
  have zVF : w4.heap.size < wF.heap.size := (Array.getElem?_eq_some_iff.1 VF).1
  clear VF XF YF R7
  go_upto_region 8 with (first
    | (go_at_call 30; refine mS.mono ?_; clear mS; rintro e wG ⟨rfl, hbG⟩; have VG := (hbG.block w4.heap.size zVF).trans VF0.out; clear x0 x1 x2 x3 x4 y0 y1 y2 y3 y4 u0 u1 u2 u3 u4; obtain ⟨x0, x1, x2, x3, x4⟩ := blk5cc VG; have YG := (hbG.block wD.heap.size zYF).trans YF0.out; obtain ⟨u0, u1, u2, u3, u4⟩ := blk5cc YG; have u5 : wG.cell? ⟨wD.heap.size, 4, none⟩ = some (.int .i64 7) := u4; clear YG u0 u1 u2 u3 u4))
  have zG := hbG.size
  have hnf := neq_func
  go_wp2_with (first
    | (go_at_call 32; refine (mP _ hbG).mono ?_; clear mP; rintro e wH ⟨rfl, hbH⟩; have hbGH := hbG.trans (hbH.mono hbG.size); have VH := (hbGH.block w4.heap.size zVF).trans VF0.out; clear x0 x1 x2 x3 x4; obtain ⟨x0, x1, x2, x3, x4⟩ := blk5cc VH; clear VH)
    | (go_at_call 33; refine (mDp _ hbGH).mono ?_; clear mDp; rintro e wI ⟨rfl, hbI⟩; have hbGI := hbGH.trans (hbI.mono hbGH.size); have VI := (hbGI.block w4.heap.size zVF).trans VF0.out; clear x0 x1 x2 x3 x4; obtain ⟨x0, x1, x2, x3, x4⟩ := blk5cc VI; clear VI)
    | (go_at_call 34; refine (mM _ hbGI).mono ?_; clear mM; rintro e wJ ⟨rfl, hbJ⟩; have hbGJ := hbGI.trans (hbJ.mono hbGI.size); have VJ := (hbGJ.block w4.heap.size zVF).trans VF0.out; clear x0 x1 x2 x3 x4; obtain ⟨x0, x1, x2, x3, x4⟩ := blk5cc VJ; clear VJ)
    | (go_at_call 17; refine (mE _ hbGJ).mono ?_; clear mE; rintro e wL ⟨rfl, hbL⟩))
  go_ret
  exact ⟨rfl, hbWF.trans ((hbGJ.mono hbWF.size).trans (hbL.mono (by have := hbGJ.size; have := hbWF.size; omega)))⟩
end Go.Proofs.Ytapfmfihhpafcaa
