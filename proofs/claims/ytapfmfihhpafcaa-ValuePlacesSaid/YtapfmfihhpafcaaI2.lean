/-
  value.all, value.Of; posternref02.MayAll, Of.
-/
import Derived.Test.YtapfmfihhpafcaaI1
import Derived.Test.YtapfmfihhpafcaaD8
import Derived.Test.YtapfmfihhpafcaaA5
namespace Go.Proofs.Ytapfmfihhpafcaa
open Go.RowKit
set_option linter.unusedVariables false

/-- The list of some values. -/
abbrev T.lst (l : List T) : T := .mk 3 0 ⟨#[]⟩ l 0

noncomputable def allMay (l : List T) : Bool := l.all fun t => t.may

/-- The place of the first that may not be; -1: there is none. -/
noncomputable def badAt : List T → Int → Int
  | [], _ => -1
  | t :: ts, i => if t.may = false then i else badAt ts (i + 1)

theorem badAt_all : ∀ (l : List T) (i : Int), 0 ≤ i → (decide (0 ≤ badAt l i) = !allMay l)
  | [], i, _ => by simp [badAt, allMay]
  | t :: ts, i, hi => by
    rw [badAt]
    have ih := badAt_all ts (i + 1) (by omega)
    by_cases h : t.may = false
    · rw [if_pos h]; simp [allMay, h, hi]
    · rw [if_neg h, ih]; simp at h; simp [allMay, h]

theorem all1_walk (t : T) (a : Option Addr) (c : Nat) (w : World) (B : Nat) (hin : T.At w B t a c) (hB : B ≤ w.heap.size) (hw : t.wf) :
    Calls Try.prog 103 #[t.val a c] w fun e w' => e = .returned (.bool (!t.may)) ∧ Below w.heap.size w w' := by
  have h1 := may_walk t a c (w.alloc (.cells #[.int .u8 t.k, .int .i64 t.n, .string t.s, .slice a t.l.length c, .int .i64 t.r] 26 (0, 0))) B
    (T.At.below ((Below.refl w.heap.size w).alloc (Nat.le_refl _) _) hB hin) (by simp; omega) hw
  unfold T.val at h1 ⊢
  generalize t.may = q at h1 ⊢
  go_enter Try.func103, Try.ntmps103
  go_wp2_with (go_at_call 34; refine h1.mono ?_; rintro e w' ⟨rfl, hb'⟩)
  go_ret
  exact ⟨rfl, below_box hb'⟩

set_option maxRecDepth 100000 in
set_option maxHeartbeats 1000000 in
theorem indexFuncV_walk (l : List T) (a : Option Addr) (c : Nat) (w : World) (B : Nat) (hin : T.At w B (T.lst l) a c) (hB : B ≤ w.heap.size) (hw : (T.lst l).wf) :
    Calls Try.prog 109 #[.slice a l.length c, .func (.func 103) #[] #[]] w fun e w' => e = .returned (.int .i64 (badAt l 0)) ∧ Below w.heap.size w w' := by
  rw [T.wf, T.wfs_iff] at hw
  obtain ⟨⟨_, _, _, _, _, _, _, hll⟩, hwl⟩ := hw
  obtain ⟨q, hq⟩ : ∃ q, badAt l 0 = q := ⟨_, rfl⟩
  rw [hq]
  have HQ := Lib.hid hq
  clear hq
  go_enter Try.func109, Try.ntmps109
  go_wp2_with fail
  go_loopg [8] l.length (fun g vi wr => ∃ (i : Nat), vi = .int .i64 i ∧ i + g = l.length ∧ Aside (badAt (l.drop i) i = q) ∧ Below w.heap.size w wr)
  case atStart => exact ⟨0, rfl, by simp, HQ.out, Below.refl _ _⟩
  case round =>
    obtain ⟨i, rfl, hi, hs, hb⟩ := hrel
    by_cases h : i < l.length
    · obtain ⟨b, o, a', c', rfl, hbB, ht, e0, e1, e2, e3, e4⟩ := (T.At.below hb hB hin).elem i h
      have hd : Aside (badAt (l.drop i) i = if l[i].may = false then (i : Int) else badAt (l.drop (i + 1)) (i + 1)) := by
        rw [List.drop_eq_getElem_cons h, badAt]; rfl
      have m := all1_walk l[i] a' c' wr B ht (by have := hb.size; omega) (hwl _ (List.getElem_mem h))
      have hs3 : Aside (q = if l[i].may = false then (i : Int) else badAt (l.drop (i + 1)) (i + 1)) := by rw [← hs.out, hd.out]; rfl
      unfold T.val at m
      clear hs hd hin
      cases hm : l[i].may
      · rw [hm] at m
        have HM := Lib.hid hm
        clear hm
        go_wp2_with (go_at_call 103; refine m.mono ?_; rintro e w' ⟨rfl, hb'⟩)
        go_ret
        exact ⟨ret_int (by rw [hs3.out, if_pos HM.out]), hb.trans (hb'.mono hb.size)⟩
      · rw [hm] at m
        have HM := Lib.hid hm
        clear hm
        go_wp2_with (go_at_call 103; refine m.mono ?_; rintro e w' ⟨rfl, hb'⟩)
        go_roundg (gk - 1)
        case measure => omega
        case rel => exact ⟨i + 1, by go_num, by omega, by rw [hs3.out, if_neg (by rw [HM.out]; simp)]; rfl, hb.trans (hb'.mono hb.size)⟩
    · have hs' : q = -1 := by rw [← hs.out, List.drop_of_length_le (by omega), badAt]
      have HS := Lib.hid hs'
      clear hs' hs
      go_wp2_with fail
      go_ret
      exact ⟨ret_int HS.out.symm, hb⟩

set_option maxRecDepth 100000 in
theorem all_walk (l : List T) (a : Option Addr) (c : Nat) (w : World) (B : Nat) (hin : T.At w B (T.lst l) a c) (hB : B ≤ w.heap.size) (hw : (T.lst l).wf) :
    Calls Try.prog 78 #[.slice a l.length c] w fun e w' => e = .returned (.bool (allMay l)) ∧ Below w.heap.size w w' := by
  have m := indexFuncV_walk l a c w B hin hB hw
  have hb := badAt_all l 0 (by omega)
  have hm : allMay l = !(decide (0 ≤ badAt l 0)) := by rw [hb]; simp
  rw [hm]
  clear hb hm
  generalize badAt l 0 = q at m ⊢
  have m2 : Calls Try.prog 102 #[.slice a l.length c, .func (.func 103) #[] #[]] w fun e w' => e = .returned (.bool (decide (0 ≤ q))) ∧ Below w.heap.size w w' := by
    go_enter Try.func102, Try.ntmps102
    go_wp2_with (go_at_call 109; refine m.mono ?_; rintro e w' ⟨rfl, hb⟩)
    go_ret
    exact ⟨rfl, hb⟩
  generalize decide (0 ≤ q) = z at m2 ⊢
  clear m
  go_enter Try.func78, Try.ntmps78
  go_wp2_with (go_at_call 102; refine m2.mono ?_; rintro e w' ⟨rfl, hb⟩)
  go_ret
  exact ⟨rfl, hb⟩

theorem allMay_take (l : List T) (i : Nat) (h : i < l.length) (h1 : ∀ x ∈ l.take i, x.may = true) (h2 : l[i].may = true) : ∀ x ∈ l.take (i + 1), x.may = true := by
  intro x hx
  rw [List.take_succ_eq_append_getElem h] at hx
  rcases List.mem_append.1 hx with hx | hx
  · exact h1 x hx
  · rw [List.mem_singleton.1 hx]; exact h2

set_option maxRecDepth 100000 in
set_option maxHeartbeats 1000000 in
theorem mayAll_walk (l : List T) (a : Option Addr) (c : Nat) (w : World) (B : Nat) (hin : T.At w B (T.lst l) a c) (hB : B ≤ w.heap.size) (hw : (T.lst l).wf) :
    Calls Try.prog 79 #[.slice a l.length c] w fun e w' => e = .returned (.bool (allMay l)) ∧ Below w.heap.size w w' := by
  rw [T.wf, T.wfs_iff] at hw
  obtain ⟨⟨_, _, _, _, _, _, _, hll⟩, hwl⟩ := hw
  obtain ⟨q, hq⟩ : ∃ q, allMay l = q := ⟨_, rfl⟩
  rw [hq]
  have HQ := Lib.hid hq
  clear hq
  go_enter Try.func79, Try.ntmps79
  go_wp2_with fail
  go_loopg [3] l.length (fun g vi wr => ∃ (i : Nat), vi = .int .i64 i ∧ i + g = l.length ∧ Aside (∀ x ∈ l.take i, T.may x = true) ∧ Below w.heap.size w wr)
  case atStart => exact ⟨0, rfl, by simp, by simp [Aside], Below.refl _ _⟩
  case round =>
    obtain ⟨i, rfl, hi, hs, hb⟩ := hrel
    by_cases h : i < l.length
    · obtain ⟨b, o, a', c', rfl, hbB, ht, e0, e1, e2, e3, e4⟩ := (T.At.below hb hB hin).elem i h
      have m := refMay_walk l[i] a' c' wr B ht (by have := hb.size; omega) (hwl _ (List.getElem_mem h))
      unfold T.val at m
      have HS := Lib.hid hs.out
      clear hs hin
      cases hm : l[i].may
      · rw [hm] at m
        have HM := Lib.hid hm
        clear hm
        go_wp2_with (go_at_call 64; refine m.mono ?_; rintro e w' ⟨rfl, hb'⟩)
        go_ret
        refine ⟨ret_bool ?_, hb.trans (hb'.mono hb.size)⟩
        rw [← HQ.out]
        cases ha : allMay l
        · rfl
        · unfold allMay at ha
          have := List.all_eq_true.1 ha l[i] (List.getElem_mem h)
          rw [HM.out] at this
          cases this
      · rw [hm] at m
        have HM := Lib.hid hm
        clear hm
        go_wp2_with (go_at_call 64; refine m.mono ?_; rintro e w' ⟨rfl, hb'⟩)
        go_roundg (gk - 1)
        case measure => omega
        case rel => exact ⟨i + 1, by go_num, by omega, allMay_take l i h HS.out HM.out, hb.trans (hb'.mono hb.size)⟩
    · have hall : allMay l = true := by
        unfold allMay
        rw [List.all_eq_true]
        intro x hx
        exact hs.out x (by rw [List.take_of_length_le (by omega)]; exact hx)
      have HA := Lib.hid hall
      clear hall hs
      go_wp2_with fail
      go_ret
      exact ⟨ret_bool (by rw [← HQ.out, HA.out]), hb⟩

/-- What Of hands back. -/
def OfPost (w : World) (l : List T) (R : World → Option Addr → Nat → Prop) (e : Ending) (w' : World) : Prop :=
  ((allMay l = false ∧ e = .returned (.tuple #[T.zero.val none 0, .int .i64 2])) ∨ (allMay l = true ∧ (T.lst l).may = false ∧ e = .returned (.tuple #[T.zero.val none 0, .int .i64 4])) ∨
    (allMay l = true ∧ (T.lst l).may = true ∧ ∃ a c, e = .returned (.tuple #[(T.lst l).val a c, .int .i64 0]) ∧ R w' a c)) ∧ Below w.heap.size w w'

set_option maxRecDepth 100000 in
set_option maxHeartbeats 1000000 in
theorem of_walk (l : List T) (a : Option Addr) (c : Nat) (w : World) (B : Nat) (hin : T.At w B (T.lst l) a c) (hB : B ≤ w.heap.size) (hw : (T.lst l).wf) :
    Calls Try.prog 41 #[.slice a l.length c] w (OfPost w l (fun w' a c => T.Mut w' (New w.heap.size w') (T.lst l) a c)) := by
  obtain ⟨w1, hw1⟩ : ∃ w1, w1 = w.alloc (.cells #[.int .u8 0, .int .i64 0, .string ⟨#[]⟩, .slice none 0 0, .int .i64 0] 26 (0, 0)) := ⟨_, rfl⟩
  have hb1 : Below w.heap.size w w1 := by rw [hw1]; exact (Below.refl _ _).alloc (Nat.le_refl _) _
  have D0 : w1.heap[w.heap.size]? = some (.cells #[.int .u8 0, .int .i64 0, .string ⟨#[]⟩, .slice none 0 0, .int .i64 0] 26 (0, 0)) := by rw [hw1]; exact blk_new _ _
  have hz1 : w.heap.size < w1.heap.size := (Array.getElem?_eq_some_iff.1 D0).1
  have m0 := all_walk l a c w1 B (T.At.below hb1 hB hin) (by omega) hw
  have m1 := fun (w2 : World) (hb2 : Below w1.heap.size w1 w2) => may_walk (T.lst l) a c w2 B (T.At.below hb2 (by omega) (T.At.below hb1 hB hin)) (by have := hb2.size; omega) hw
  have m2 := fun (w2 : World) (hb2 : Below w1.heap.size w1 w2) => own_walk (T.lst l) a c w2 B (T.At.below hb2 (by omega) (T.At.below hb1 hB hin)) (by have := hb2.size; omega) hw
  unfold T.val at m1 m2
  simp only [T.lst, T.k, T.n, T.s, T.l, T.r] at m1 m2
  have E0 := Lib.hid D0
  clear D0 hin
  cases hm : allMay l with
  | false =>
    rw [hm] at m0
    have HM := Lib.hid hm
    clear hm m1 m2
    go_enter Try.func41, Try.ntmps41
    go_upto_region 1 with (fail)
    rw [← hw1]
    clear hw1
    go_wp2_with (first
      | (go_at_call 78; refine m0.mono ?_; clear m0; rintro e w2 ⟨rfl, hb2⟩; have G1 := Lib.hid ((hb2.block w.heap.size hz1).trans E0.out))
      | (refine wpList_put _ rfl _ _ rfl w.heap.size _ _ _ _ _ _ _ _ _ _ (by rfl) (by rfl) (by simp [Value.oneCell']) G1.out ?_; rintro wP hP))
    exact post_cell26o Try.results41 rfl rfl rfl hP.at_ ⟨.inl ⟨HM.out, rfl⟩, hb1.trans ((hb2.mono (by omega)).trans (hP.below (by omega)))⟩
  | true =>
    rw [hm] at m0
    have HM := Lib.hid hm
    clear hm
    go_enter Try.func41, Try.ntmps41
    go_upto_region 1 with (fail)
    rw [← hw1]
    clear hw1
    go_upto_region 4 with (go_at_call 78; refine m0.mono ?_; clear m0; rintro e w2 ⟨rfl, hb2⟩)
    obtain ⟨w3, hw3⟩ : ∃ w3, w3 = w2.alloc (.cells #[.int .u8 3, .int .i64 0, .string ⟨#[]⟩, .slice a l.length c, .int .i64 0] 26 (0, 0)) := ⟨_, rfl⟩
    have hb3 : Below w1.heap.size w1 w3 := by rw [hw3]; exact hb2.trans ((Below.refl _ _).alloc hb2.size _)
    have C3 : w3.heap[w2.heap.size]? = some (.cells #[.int .u8 3, .int .i64 0, .string ⟨#[]⟩, .slice a l.length c, .int .i64 0] 26 (0, 0)) := by rw [hw3]; exact blk_new _ _
    have hz3 : w2.heap.size < w3.heap.size := (Array.getElem?_eq_some_iff.1 C3).1
    rw [← hw3]
    have hz13 := hb3.size
    obtain ⟨x0, x1, x2, x3, x4, _⟩ := blk5 C3
    have C3 := Lib.hid C3
    have mm := m1 w3 hb3
    clear hw3 hb2 m1
    cases hm : (T.lst l).may with
    | false =>
      rw [show (T.mk 3 0 ⟨#[]⟩ l 0).may = false from hm] at mm
      have HM2 := Lib.hid hm
      clear hm m2
      go_wp2_with (first
        | (go_at_call 34; refine mm.mono ?_; clear mm; rintro e w4 ⟨rfl, hb4⟩; have G1 := Lib.hid ((hb4.block w.heap.size (by omega)).trans ((hb3.block w.heap.size hz1).trans E0.out)))
        | (refine wpList_put _ rfl _ _ rfl w.heap.size _ _ _ _ _ _ _ _ _ _ (by rfl) (by rfl) (by simp [Value.oneCell']) G1.out ?_; rintro wP hP))
      exact post_cell26o Try.results41 rfl rfl rfl hP.at_ ⟨.inr (.inl ⟨HM.out, HM2.out, rfl⟩), hb1.trans ((hb3.mono (by omega)).trans ((hb4.mono (by omega)).trans (hP.below (by omega))))⟩
    | true =>
      rw [show (T.mk 3 0 ⟨#[]⟩ l 0).may = true from hm] at mm
      have HM2 := Lib.hid hm
      clear hm
      go_wp2_with (first
        | (go_at_call 34; refine mm.mono ?_; clear mm; rintro e w4 ⟨rfl, hb4⟩; have hb14 := hb3.trans (hb4.mono hz13); have mo := m2 w4 hb14; clear m2; have G1 := Lib.hid ((hb14.block w.heap.size hz1).trans E0.out); have G2 := (hb4.block w2.heap.size hz3).trans C3.out; clear x0 x1 x2 x3 x4; obtain ⟨x0, x1, x2, x3, x4, _⟩ := blk5 G2; clear G2; have hz4 := hb14.size)
        | (go_at_call 59; refine mo.mono ?_; clear mo; rintro e w5 ⟨a5, c5, he, hmt, hb5⟩; unfold T.val at he; subst he; have G5 := Lib.hid ((hb5.block w.heap.size (by omega)).trans G1.out))
        | (refine wpList_put _ rfl _ _ rfl w.heap.size _ _ _ _ _ _ _ _ _ _ (by rfl) (by rfl) (by simp [Value.oneCell']) G5.out ?_; rintro wP hP))
      exact post_cell26o Try.results41 rfl rfl rfl hP.at_ ⟨.inr (.inr ⟨HM.out, HM2.out, a5, c5, rfl, T.Mut.keep (fun b hb => hP.other b (by have := hb.1; omega)) (fun b hb => ⟨by have := hb.1; omega, by rw [hP.size]; exact hb.2⟩) hmt⟩), hb1.trans ((hb14.mono (by omega)).trans ((hb5.mono (by omega)).trans (hP.below (by omega))))⟩
end Go.Proofs.Ytapfmfihhpafcaa
