/-
  The document's answer, the order of values: posternref02.order, Order, Same.
-/
import Derived.Test.YtapfmfihhpafcaaA2
import Derived.StillTailTactics
namespace Go.Proofs.Ytapfmfihhpafcaa
open Go.RowKit

/-- Of two nodes' own fields: one is below, one is above. -/
def below1 (n n' : Int) (s s' : ByteArray) (r r' : Int) : Prop := n < n' ∨ Op.bytesLess s.toList s'.toList = true ∨ r < r'
def above1 (n n' : Int) (s s' : ByteArray) (r r' : Int) : Prop := n' < n ∨ (¬ Op.bytesLess s.toList s'.toList = true ∧ ¬ s.toList = s'.toList) ∨ r' < r

open Classical in
mutual
noncomputable def T.ord : T → T → Int
  | .mk k n s l r, .mk k' n' s' l' r' => if k < k' then -1 else if k' < k then 1 else if below1 n n' s s' r r' then -1 else if above1 n n' s s' r r' then 1 else T.ords l l'
noncomputable def T.ords : List T → List T → Int
  | [], [] => 0
  | [], _ :: _ => -1
  | _ :: _, [] => 1
  | t :: ts, u :: us => if T.ord t u ≠ 0 then T.ord t u else T.ords ts us
end

theorem T.ords_end (l l' : List T) (i : Nat) (h : l.length ≤ i ∨ l'.length ≤ i) : T.ords (l.drop i) (l'.drop i) = if l.drop i = [] then (if l'.drop i = [] then 0 else -1) else 1 := by
  rcases h with h | h
  · rw [List.drop_of_length_le h, if_pos rfl]
    cases l'.drop i <;> simp [T.ords]
  · rw [List.drop_of_length_le h]
    cases l.drop i <;> simp [T.ords]

open Classical in
noncomputable def ordLead (k n r : Int) (s : ByteArray) (k' n' r' : Int) (s' : ByteArray) : Int := if k < k' then -1 else if k' < k then 1 else if below1 n n' s s' r r' then -1 else 1

def OrdLeaf (k n r : Int) (s : ByteArray) (k' n' r' : Int) (s' : ByteArray) (w : World) (e : Ending) (w' : World) : Prop :=
  (e = .returned (.int .i64 (ordLead k n r s k' n' r' s'))) ∧ Below w.heap.size w w'

set_option maxRecDepth 100000 in
set_option maxHeartbeats 4000000 in
theorem ord_leaf (k n r : Int) (s : ByteArray) (len c : Nat) (a : Option Addr) (k' n' r' : Int) (s' : ByteArray) (len' c' : Nat) (a' : Option Addr) (w : World)
    (hf : k ≠ k' ∨ below1 n n' s s' r r' ∨ above1 n n' s s' r r') :
    Calls Try.prog 86 #[.agg #[.int .u8 k, .int .i64 n, .string s, .slice a len c, .int .i64 r], .agg #[.int .u8 k', .int .i64 n', .string s', .slice a' len' c', .int .i64 r']] w (OrdLeaf k n r s k' n' r' s' w) := by
  have H := Lib.hid hf
  clear hf
  go_enter Try.func86, Try.ntmps86
  go_wp2_with fail
  all_goals have hf := H.out
  all_goals clear H
  all_goals unfold below1 above1 at hf
  all_goals first
    | (go_ret; refine ⟨ret_int ?_, ((Below.refl _ _).alloc (Nat.le_refl _) _).alloc (by simp) _⟩
       unfold ordLead below1
       simp_all; done)
    | (go_ret; refine ⟨ret_int ?_, ((Below.refl _ _).alloc (Nat.le_refl _) _).alloc (by simp) _⟩
       unfold ordLead below1
       simp_all; omega)
    | (go_ret; refine ⟨ret_int ?_, ((Below.refl _ _).alloc (Nat.le_refl _) _).alloc (by simp) _⟩
       unfold ordLead below1
       simp_all; rw [if_neg (by omega)]; done)
    | (exfalso; simp_all; done)
    | (exfalso; simp_all; omega)

set_option maxRecDepth 100000 in
set_option maxHeartbeats 4000000 in
theorem ord_walk (t : T) : ∀ (u : T) (a : Option Addr) (c : Nat) (a' : Option Addr) (c' : Nat) (w : World) (B B' : Nat), T.At w B t a c → T.At w B' u a' c' → B ≤ w.heap.size → B' ≤ w.heap.size → t.wf → u.wf → 
    Calls Try.prog 86 #[t.val a c, u.val a' c'] w fun e w' => e = .returned (.int .i64 (t.ord u)) ∧ Below w.heap.size w w' := by
  induction t using T.induct with
  | h k n s l r ih =>
  intro u a c a' c' w B B' hin hin' hB hB' hwf hwf'
  obtain ⟨k', n', s', l', r'⟩ := u
  have W1 := hwf
  have W2 := hwf'
  rw [T.wf, T.wfs_iff] at hwf hwf'
  obtain ⟨⟨_, _, _, _, _, _, _, hll⟩, hwl⟩ := hwf
  obtain ⟨⟨_, _, _, _, _, _, _, hll'⟩, hwl'⟩ := hwf'
  unfold T.val
  simp only [T.k, T.n, T.s, T.l, T.r]
  by_cases hf : k ≠ k' ∨ below1 n n' s s' r r' ∨ above1 n n' s s' r r'
  · refine (ord_leaf k n r s l.length c a k' n' r' s' l'.length c' a' w hf).mono ?_
    rintro e w' ⟨rfl, hb⟩
    refine ⟨ret_int ?_, hb⟩
    unfold ordLead
    rw [T.ord]
    split; · rfl
    split; · rfl
    split; · rfl
    rename_i h1 h2 h3
    rw [if_pos]
    rcases hf with h | h | h
    · omega
    · exact absurd h h3
    · exact h
  simp only [not_or, Decidable.not_not] at hf
  obtain ⟨hk, h1, h2⟩ := hf
  subst hk
  have e0 : T.ord (.mk k n s l r) (.mk k n' s' l' r') = T.ords l l' := by
    rw [T.ord, if_neg (by omega), if_neg (by omega), if_neg h1, if_neg h2]
  rw [e0]
  unfold below1 at h1
  unfold above1 at h2
  have h11 : ¬ n < n' := fun h => h1 (.inl h)
  have h12 : ¬ n' < n := fun h => h2 (.inl h)
  have h13 : ¬ r < r' := fun h => h1 (.inr (.inr h))
  have h14 : ¬ r' < r := fun h => h2 (.inr (.inr h))
  have h15 : Op.bytesLess s.toList s'.toList = false := by
    cases h : Op.bytesLess s.toList s'.toList with
    | false => rfl
    | true => exact absurd (.inr (.inl h)) h1
  have h16 : s.toList = s'.toList := by
    by_cases h : s.toList = s'.toList
    · exact h
    · exact absurd (.inr (.inl ⟨by rw [h15]; simp, h⟩)) h2
  rw [h16] at h15
  clear h1 h2
  go_enter Try.func86, Try.ntmps86
  go_wp2_with fail
  clear h11 h12 h13 h14 h15 h16
  go_loopg [5] (l.length) (fun g vi wr => ∃ (i : Nat), vi = .int .i64 i ∧ i + g = l.length ∧ i ≤ l'.length ∧ Aside (T.ords l l' = T.ords (l.drop i) (l'.drop i)) ∧
    Below w.heap.size w wr ∧ wr.cell? ⟨w.heap.size, 3, none⟩ = some (.slice a l.length c) ∧ wr.cell? ⟨w.heap.size + 1, 3, none⟩ = some (.slice a' l'.length c') ∧ w.heap.size + 1 < wr.heap.size)
  case atStart => exact ⟨0, rfl, by simp, by simp, rfl, ((Below.refl _ _).alloc (Nat.le_refl _) _).alloc (by simp) _, by simp, by simp, by simp⟩
  case round =>
    obtain ⟨i, rfl, hi, hi', hs, hb, hcell, hcell', hz⟩ := hrel
    by_cases h : i < l.length
    · by_cases h' : i < l'.length
      · obtain ⟨b, o, x, d, rfl, hbB, ht, f0, f1, f2, f3, f4⟩ := (T.At.below hb hB hin).elem i h
        obtain ⟨b', o', x', d', rfl, hbB', ht', g0, g1, g2, g3, g4⟩ := (T.At.below hb hB' hin').elem i h'
        have hd : Aside (T.ords (l.drop i) (l'.drop i) = if T.ord l[i] l'[i] ≠ 0 then T.ord l[i] l'[i] else T.ords (l.drop (i + 1)) (l'.drop (i + 1))) := by
          rw [List.drop_eq_getElem_cons h, List.drop_eq_getElem_cons h', T.ords]; rfl
        obtain ⟨w2, hw2⟩ : ∃ w2, w2 = wr.drew := ⟨_, rfl⟩
        have hb2 : Below wr.heap.size wr w2 := by rw [hw2]; exact (Below.refl _ _).drew
        have hz2 : wr.heap.size ≤ w2.heap.size := hb2.size
        have ih' := ih l[i] (List.getElem_mem h) l'[i] x d x' d' w2 B B' (T.At.below hb2 (Nat.le_trans hB hb.size) ht) (T.At.below hb2 (Nat.le_trans hB' hb.size) ht') (by have := hb.size; omega) (by have := hb.size; omega) (hwl _ (List.getElem_mem h)) (hwl' _ (List.getElem_mem h'))
        unfold T.val at ih'
        obtain ⟨q, hq⟩ : ∃ q, T.ord l[i] l'[i] = q := ⟨_, rfl⟩
        have hs3 : Aside (T.ords l l' = if q ≠ 0 then q else T.ords (l.drop (i + 1)) (l'.drop (i + 1))) := by rw [hs.out, hd.out, hq]; rfl
        rw [hq] at ih'
        clear ih hq hd hs hwl hwl' hin hin' W1 W2
        have HW := Lib.hid hw2
        clear hw2
        by_cases hq : q = 0
        · have HQ := Lib.hid hq
          have hq1 : (q != 0) = false := by simpa using hq
          clear hq
          go_wp2_with fail
          go_still_tail 10, (by kernel_rfl)
          change wpList _ _ _ _ _ wr.drew
          rw [← HW.out]
          clear HW
          go_wp2_with (go_at_call 86; refine ih'.mono ?_; clear ih'; rintro e w' ⟨rfl, hb'⟩)
          go_roundg (gk - 1)
          case measure => omega
          case rel => exact ⟨i + 1, by go_num, by omega, by omega, by rw [hs3.out, HQ.out]; rfl, hb.trans ((hb2.trans (hb'.mono hz2)).mono (by omega)), by rw [hb'.cell (by simp; omega), hb2.cell (by simp; omega)]; exact hcell, by rw [hb'.cell (by simp; omega), hb2.cell (by simp; omega)]; exact hcell', by have := hb'.size; omega⟩
        · have HQ := Lib.hid hq
          have hq1 : (q != 0) = true := by simpa using hq
          clear hq
          go_wp2_with fail
          go_still_tail 10, (by kernel_rfl)
          change wpList _ _ _ _ _ wr.drew
          rw [← HW.out]
          clear HW
          go_wp2_with (go_at_call 86; refine ih'.mono ?_; clear ih'; rintro e w' ⟨rfl, hb'⟩)
          go_ret
          exact ⟨ret_int (by rw [hs3.out, if_pos HQ.out]), hb.trans ((hb2.trans (hb'.mono hz2)).mono (by omega))⟩
      · go_wp2_with fail
        have hs := hs.out
        rw [T.ords_end l l' i (.inr (by omega)), if_neg (by simp; omega)] at hs
        all_goals (first | (go_ret; exact ⟨ret_int hs.symm, hb⟩) | go_ways)
    · go_wp2_with fail
      · go_ret
        exact ⟨ret_int (by rw [hs.out, T.ords_end l l' i (.inl (by omega)), if_pos (by simp; omega), if_neg (by simp; omega)]), hb⟩
      · go_ret
        exact ⟨ret_int (by rw [hs.out, T.ords_end l l' i (.inl (by omega)), if_pos (by simp; omega), if_pos (by simp; omega)]), hb⟩

/-- What both order functions answer. -/
noncomputable def T.ordAns (t u : T) : Value := .tuple (if t.may && u.may then #[.int .i64 (t.ord u), .int .i64 0] else #[.int .i64 0, .int .i64 2])

set_option maxRecDepth 100000 in
theorem refOrder_walk (t u : T) (a : Option Addr) (c : Nat) (a' : Option Addr) (c' : Nat) (w : World) (B B' : Nat) (hin : T.At w B t a c) (hin' : T.At w B' u a' c') (hB : B ≤ w.heap.size) (hB' : B' ≤ w.heap.size) (hw : t.wf) (hw' : u.wf) :
    Calls Try.prog 51 #[t.val a c, u.val a' c'] w fun e w' => e = .returned (t.ordAns u) ∧ Below w.heap.size w w' := by
  obtain ⟨w1, hw1⟩ : ∃ w1, w1 = (w.alloc (.cells #[.int .u8 t.k, .int .i64 t.n, .string t.s, .slice a t.l.length c, .int .i64 t.r] 26 (0, 0))).alloc (.cells #[.int .u8 u.k, .int .i64 u.n, .string u.s, .slice a' u.l.length c', .int .i64 u.r] 26 (0, 0)) := ⟨_, rfl⟩
  have hb1 : Below w.heap.size w w1 := by rw [hw1]; exact ((Below.refl _ _).alloc (Nat.le_refl _) _).alloc (by simp) _
  have hz1 : w1.heap.size = w.heap.size + 2 := by rw [hw1]; simp
  have m1 := refMay_walk t a c w1 B (T.At.below hb1 hB hin) (by omega) hw
  have m2 := fun (w2 : World) (hb2 : Below w1.heap.size w1 w2) => refMay_walk u a' c' w2 B' (T.At.below hb2 (by omega) (T.At.below hb1 hB' hin')) (by have := hb2.size; omega) hw'
  have m3 := fun (w2 : World) (hb2 : Below w1.heap.size w1 w2) => ord_walk t u a c a' c' w2 B B' (T.At.below hb2 (by omega) (T.At.below hb1 hB hin)) (T.At.below hb2 (by omega) (T.At.below hb1 hB' hin')) (by have := hb2.size; omega) (by have := hb2.size; omega) hw hw'
  have HB := Lib.hid hb1
  clear hb1 hz1 hB hB' hin hin' hw hw'
  rw [hw1] at m1 m2 m3 HB
  clear hw1
  unfold T.ordAns
  unfold T.val at m1 m2 m3 ⊢
  generalize t.may = p at m1 ⊢
  generalize u.may = q at m2 ⊢
  generalize t.ord u = z at m3 ⊢
  cases p with
  | false =>
    go_enter Try.func51, Try.ntmps51
    go_wp2_with (go_at_call 64; refine m1.mono ?_; clear m1; rintro e wA ⟨rfl, hbA⟩; obtain ⟨hcA, hfA⟩ := bcell hbA)
    go_ret2
    exact ⟨rfl, HB.out.trans (hbA.mono (by simp; omega))⟩
  | true =>
    cases q with
    | false =>
      go_enter Try.func51, Try.ntmps51
      go_wp2_with (first | (go_at_call 64; refine m1.mono ?_; clear m1; rintro e wA ⟨rfl, hbA⟩; obtain ⟨hcA, hfA⟩ := bcell hbA) | (go_at_call 64; refine (m2 _ hbA).mono ?_; clear m2; rintro e wB ⟨rfl, hbB⟩))
      go_ret2
      exact ⟨rfl, (HB.out.trans (hbA.mono (by simp; omega))).trans (hbB.mono (by have := hbA.size; simp at this; omega))⟩
    | true =>
      go_enter Try.func51, Try.ntmps51
      go_wp2_with (first | (go_at_call 64; refine m1.mono ?_; clear m1; rintro e wA ⟨rfl, hbA⟩; obtain ⟨hcA, hfA⟩ := bcell hbA) | (go_at_call 64; refine (m2 _ hbA).mono ?_; clear m2; rintro e wB ⟨rfl, hbB⟩; obtain ⟨hcB, hfB⟩ := bcell (hbA.trans (hbB.mono hbA.size))) | (go_at_call 86; refine (m3 _ (hbA.trans (hbB.mono hbA.size))).mono ?_; rintro e wC ⟨rfl, hbC⟩))
      go_ret2
      exact ⟨rfl, ((HB.out.trans (hbA.mono (by simp; omega))).trans (hbB.mono (by have := hbA.size; simp at this; omega))).trans (hbC.mono (by have := hbB.size; have := hbA.size; simp at this; omega))⟩
end Go.Proofs.Ytapfmfihhpafcaa
