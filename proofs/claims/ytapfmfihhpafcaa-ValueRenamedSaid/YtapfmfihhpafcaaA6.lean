/-
  cmp.Compare at four kinds; slices.CompareFunc over value.order.
-/
import Derived.Test.YtapfmfihhpafcaaA3
namespace Go.Proofs.Ytapfmfihhpafcaa
open Go.RowKit
set_option linter.unusedVariables false

def cmpI (x y : Int) : Int := if x < y then -1 else if y < x then 1 else 0
open Classical in
noncomputable def cmpS (x y : ByteArray) : Int := if Op.bytesLess x.toList y.toList = true then -1 else if x.toList = y.toList then 0 else 1

theorem cmp_kind (x y : Int) (w : World) : Calls Try.prog 96 #[.int .u8 x, .int .u8 y] w fun e w' => e = .returned (.int .i64 (cmpI x y)) ∧ w = w' := by
  unfold cmpI
  go_enter Try.func96, Try.ntmps96
  go_wp2
  all_goals (go_ret; refine ⟨ret_int ?_, rfl⟩)
  all_goals (repeat' split) <;> omega

theorem cmp_int (x y : Int) (w : World) : Calls Try.prog 97 #[.int .i64 x, .int .i64 y] w fun e w' => e = .returned (.int .i64 (cmpI x y)) ∧ w = w' := by
  unfold cmpI
  go_enter Try.func97, Try.ntmps97
  go_wp2
  all_goals (go_ret; refine ⟨ret_int ?_, rfl⟩)
  all_goals (repeat' split) <;> omega

theorem cmp_ref (x y : Int) (w : World) : Calls Try.prog 99 #[.int .i64 x, .int .i64 y] w fun e w' => e = .returned (.int .i64 (cmpI x y)) ∧ w = w' := by
  unfold cmpI
  go_enter Try.func99, Try.ntmps99
  go_wp2
  all_goals (go_ret; refine ⟨ret_int ?_, rfl⟩)
  all_goals (repeat' split) <;> omega

theorem cmp_str (x y : ByteArray) (w : World) : Calls Try.prog 98 #[.string x, .string y] w fun e w' => e = .returned (.int .i64 (cmpS x y)) ∧ w = w' := by
  obtain ⟨q, hq⟩ : ∃ q, cmpS x y = q := ⟨_, rfl⟩
  rw [hq]
  have HQ := Lib.hid hq
  clear hq
  go_enter Try.func98, Try.ntmps98
  go_wp2
  all_goals (go_ret; refine ⟨ret_int ?_, rfl⟩; rw [← HQ.out]; unfold cmpS; simp_all)

open Classical in
mutual
noncomputable def T.vord : T → T → Int
  | .mk k n s l r, .mk k' n' s' l' r' => if k ≠ k' then cmpI k k' else if k = 1 then cmpI n n' else if k = 2 then cmpS s s' else if k = 4 then cmpI r r' else T.vords l l'
noncomputable def T.vords : List T → List T → Int
  | [], [] => 0
  | [], _ :: _ => -1
  | _ :: _, [] => 1
  | t :: ts, u :: us => if T.vord t u ≠ 0 then T.vord t u else T.vords ts us
end

theorem T.vords_end (l l' : List T) (i : Nat) (h : l.length ≤ i ∨ l'.length ≤ i) : T.vords (l.drop i) (l'.drop i) = if l.drop i = [] then (if l'.drop i = [] then 0 else -1) else 1 := by
  rcases h with h | h
  · rw [List.drop_of_length_le h, if_pos rfl]
    cases l'.drop i <;> simp [T.vords]
  · rw [List.drop_of_length_le h]
    cases l.drop i <;> simp [T.vords]

def VordCalls (x : T) : Prop := ∀ (u : T) (a : Option Addr) (c : Nat) (a' : Option Addr) (c' : Nat) (w : World) (B B' : Nat), T.At w B x a c → T.At w B' u a' c' → B ≤ w.heap.size → B' ≤ w.heap.size → x.wf → u.wf →
    Calls Try.prog 73 #[x.val a c, u.val a' c'] w fun e w' => e = .returned (.int .i64 (x.vord u)) ∧ Below w.heap.size w w'

set_option maxRecDepth 100000 in
set_option maxHeartbeats 4000000 in
theorem compareFunc_walk (k n r : Int) (s : ByteArray) (l : List T) (ih : ∀ x ∈ l, VordCalls x) (k' n' r' : Int) (s' : ByteArray) (l' : List T) (a : Option Addr) (c : Nat) (a' : Option Addr) (c' : Nat) (w : World) (B B' : Nat)
    (hin : T.At w B (.mk k n s l r) a c) (hin' : T.At w B' (.mk k' n' s' l' r') a' c') (hB : B ≤ w.heap.size) (hB' : B' ≤ w.heap.size) (hwf : (T.mk k n s l r).wf) (hwf' : (T.mk k' n' s' l' r').wf) :
    Calls Try.prog 100 #[.slice a l.length c, .slice a' l'.length c', .func (.func 73) #[] #[]] w fun e w' => e = .returned (.int .i64 (T.vords l l')) ∧ Below w.heap.size w w' := by
  rw [T.wf, T.wfs_iff] at hwf hwf'
  obtain ⟨⟨_, _, _, _, _, _, _, hll⟩, hwl⟩ := hwf
  obtain ⟨⟨_, _, _, _, _, _, _, hll'⟩, hwl'⟩ := hwf'
  go_enter Try.func100, Try.ntmps100
  go_wp2_with fail
  go_loopg [13] (l.length) (fun g vi wr => ∃ (i : Nat), vi = .int .i64 i ∧ i + g = l.length ∧ i ≤ l'.length ∧ Aside (T.vords l l' = T.vords (l.drop i) (l'.drop i)) ∧ Below w.heap.size w wr)
  case atStart => exact ⟨0, rfl, by simp, by simp, rfl, Below.refl _ _⟩
  case round =>
    obtain ⟨i, rfl, hi, hi', hs, hb⟩ := hrel
    by_cases h : i < l.length
    · obtain ⟨b, o, x, d, rfl, hbB, ht, f0, f1, f2, f3, f4⟩ := (T.At.below hb hB hin).elem i h
      by_cases h' : i < l'.length
      · obtain ⟨b', o', x', d', rfl, hbB', ht', g0, g1, g2, g3, g4⟩ := (T.At.below hb hB' hin').elem i h'
        have hd : Aside (T.vords (l.drop i) (l'.drop i) = if T.vord l[i] l'[i] ≠ 0 then T.vord l[i] l'[i] else T.vords (l.drop (i + 1)) (l'.drop (i + 1))) := by
          rw [List.drop_eq_getElem_cons h, List.drop_eq_getElem_cons h', T.vords]; rfl
        have hbz : b' < wr.heap.size := by have := hb.size; omega
        obtain ⟨w2, hw2⟩ : ∃ w2, w2 = (wr.alloc (.cells #[.int .u8 l[i].k, .int .i64 l[i].n, .string l[i].s, .slice x l[i].l.length d, .int .i64 l[i].r] 26 (0, 0))).alloc (.cells #[.int .u8 l'[i].k, .int .i64 l'[i].n, .string l'[i].s, .slice x' l'[i].l.length d', .int .i64 l'[i].r] 26 (0, 0)) := ⟨_, rfl⟩
        have hb2 : Below wr.heap.size wr w2 := by rw [hw2]; exact ((Below.refl _ _).alloc (Nat.le_refl _) _).alloc (by simp) _
        have ih' := ih l[i] (List.getElem_mem h) l'[i] x d x' d' w2 B B' (T.At.below hb2 (Nat.le_trans hB hb.size) ht) (T.At.below hb2 (Nat.le_trans hB' hb.size) ht') (by have := hb.size; have := hb2.size; omega) (by have := hb.size; have := hb2.size; omega) (hwl _ (List.getElem_mem h)) (hwl' _ (List.getElem_mem h'))
        unfold T.val at ih'
        obtain ⟨q, hq⟩ : ∃ q, T.vord l[i] l'[i] = q := ⟨_, rfl⟩
        have hs3 : Aside (T.vords l l' = if q ≠ 0 then q else T.vords (l.drop (i + 1)) (l'.drop (i + 1))) := by rw [hs.out, hd.out, hq]; rfl
        rw [hq] at ih'
        have HB := Lib.hid hb2
        clear ih hq hd hs hwl hwl' hin hin' hb2
        rw [hw2] at HB ih'
        clear hw2
        by_cases hq : q = 0
        · have HQ := Lib.hid hq
          have hq1 : (q != 0) = false := by simpa using hq
          clear hq
          go_wp2_with (go_at_call 73; refine ih'.mono ?_; clear ih'; rintro e w' ⟨rfl, hb'⟩)
          go_roundg (gk - 1)
          case measure => omega
          case rel => exact ⟨i + 1, by go_num, by omega, by omega, by rw [hs3.out, HQ.out]; rfl, hb.trans ((HB.out.trans (hb'.mono HB.out.size)).mono hb.size)⟩
        · have HQ := Lib.hid hq
          have hq1 : (q != 0) = true := by simpa using hq
          clear hq
          go_wp2_with (go_at_call 73; refine ih'.mono ?_; clear ih'; rintro e w' ⟨rfl, hb'⟩)
          go_ret
          exact ⟨ret_int (by rw [hs3.out, if_pos HQ.out]), hb.trans ((HB.out.trans (hb'.mono HB.out.size)).mono hb.size)⟩
      · go_wp2_with fail
        go_ret
        exact ⟨ret_int (by rw [hs.out, T.vords_end l l' i (.inr (by omega)), if_neg (by simp; omega)]), hb.trans ((Below.refl _ _).alloc hb.size _)⟩
    · go_wp2_with fail
      · go_ret
        exact ⟨ret_int (by rw [hs.out, T.vords_end l l' i (.inl (by omega)), if_pos (by simp; omega), if_neg (by simp; omega)]), hb⟩
      · go_ret
        exact ⟨ret_int (by rw [hs.out, T.vords_end l l' i (.inl (by omega)), if_pos (by simp; omega), if_pos (by simp; omega)]), hb⟩

theorem two_boxes (w : World) (X Y : Obj) : Below w.heap.size w ((w.alloc X).alloc Y) := ((Below.refl _ _).alloc (Nat.le_refl _) _).alloc (by simp) _

set_option maxRecDepth 100000 in
set_option maxHeartbeats 4000000 in
theorem vord_walk (t : T) : VordCalls t := by
  induction t using T.induct with
  | h k n s l r ih =>
  intro u a c a' c' w B B' hin hin' hB hB' hwf hwf'
  obtain ⟨k', n', s', l', r'⟩ := u
  unfold T.val
  simp only [T.k, T.n, T.s, T.l, T.r]
  rw [T.vord]
  by_cases hk : k ≠ k'
  · rw [if_pos hk]
    have hk1 : (k != k') = true := by simpa using hk
    clear ih
    go_enter Try.func73, Try.ntmps73
    go_wp2_with (go_at_call 96; refine (cmp_kind _ _ _).mono ?_; rintro e w' ⟨rfl, rfl⟩)
    go_ret
    exact ⟨rfl, two_boxes _ _ _⟩
  rw [if_neg hk]
  have hk : k = k' := Decidable.not_not.1 hk
  subst hk
  by_cases h1 : k = 1
  · rw [if_pos h1]
    subst h1
    clear ih
    go_enter Try.func73, Try.ntmps73
    go_wp2_with (go_at_call 97; refine (cmp_int _ _ _).mono ?_; rintro e w' ⟨rfl, rfl⟩)
    go_ret
    exact ⟨rfl, two_boxes _ _ _⟩
  rw [if_neg h1]
  by_cases h2 : k = 2
  · rw [if_pos h2]
    subst h2
    clear ih
    go_enter Try.func73, Try.ntmps73
    go_wp2_with (go_at_call 98; refine (cmp_str _ _ _).mono ?_; rintro e w' ⟨rfl, rfl⟩)
    go_ret
    exact ⟨rfl, two_boxes _ _ _⟩
  rw [if_neg h2]
  by_cases h4 : k = 4
  · rw [if_pos h4]
    subst h4
    clear ih
    go_enter Try.func73, Try.ntmps73
    go_wp2_with (go_at_call 99; refine (cmp_ref _ _ _).mono ?_; rintro e w' ⟨rfl, rfl⟩)
    go_ret
    exact ⟨rfl, two_boxes _ _ _⟩
  rw [if_neg h4]
  obtain ⟨w1, hw1⟩ : ∃ w1, w1 = (w.alloc (.cells #[.int .u8 k, .int .i64 n, .string s, .slice a l.length c, .int .i64 r] 26 (0, 0))).alloc (.cells #[.int .u8 k, .int .i64 n', .string s', .slice a' l'.length c', .int .i64 r'] 26 (0, 0)) := ⟨_, rfl⟩
  have hb1 : Below w.heap.size w w1 := by rw [hw1]; exact two_boxes _ _ _
  have m := compareFunc_walk k n r s l ih k n' r' s' l' a c a' c' w1 B B' (T.At.below hb1 hB hin) (T.At.below hb1 hB' hin') (by have := hb1.size; omega) (by have := hb1.size; omega) hwf hwf'
  have HB := Lib.hid hb1
  clear hb1 ih hin hin' hwf hwf' hB hB'
  rw [hw1] at m HB
  clear hw1
  go_enter Try.func73, Try.ntmps73
  go_wp2_with (go_at_call 100; refine m.mono ?_; rintro e w' ⟨rfl, hb⟩)
  go_ret
  exact ⟨rfl, HB.out.trans (hb.mono (by simp; omega))⟩
end Go.Proofs.Ytapfmfihhpafcaa
