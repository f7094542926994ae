/-
  How deep a value is nested: posternref02.Deep, value.deep, value.Deep.
-/
import Derived.Test.YtapfmfihhpafcaaA5
namespace Go.Proofs.Ytapfmfihhpafcaa
open Go.RowKit
set_option linter.unusedVariables false

mutual
def T.deep : T → Int
  | .mk k _ _ l _ => if k ≠ 3 then 0 else T.deeps 0 l + 1
def T.deeps (d : Int) : List T → Int
  | [] => d
  | t :: ts => T.deeps (if d < T.deep t then T.deep t else d) ts
end

theorem T.deeps_ge : ∀ (l : List T) (d : Int), d ≤ T.deeps d l ∧ ∀ x ∈ l, T.deep x ≤ T.deeps d l
  | [], d => by rw [T.deeps]; exact ⟨Int.le_refl _, by simp⟩
  | t :: ts, d => by
    rw [T.deeps]
    have h := T.deeps_ge ts (if d < T.deep t then T.deep t else d)
    refine ⟨?_, ?_⟩
    · have := h.1; split at this <;> (split <;> omega)
    · intro x hx
      rcases List.mem_cons.1 hx with rfl | hx
      · have := h.1; split at this <;> (split <;> omega)
      · exact h.2 x hx

theorem T.deep_nn (t : T) : 0 ≤ T.deep t := by
  obtain ⟨k, n, s, l, r⟩ := t
  rw [T.deep]
  split
  · omega
  · have := (T.deeps_ge l 0).1; omega

set_option maxRecDepth 100000 in
set_option maxHeartbeats 1000000 in
theorem refDeep_walk (t : T) : ∀ (a : Option Addr) (c : Nat) (w : World) (B : Nat), T.At w B t a c → B ≤ w.heap.size → t.deep ≤ 1000000 → t.wf →
    Calls Try.prog 39 #[t.val a c] w fun e w' => e = .returned (.int .i64 t.deep) ∧ Below w.heap.size w w' := by
  induction t using T.induct with
  | h k n s l r ih =>
  intro a c w B hin hB hdp hwf
  rw [T.wf, T.wfs_iff] at hwf
  obtain ⟨⟨_, _, _, _, _, _, _, hll⟩, hwl⟩ := hwf
  unfold T.val
  simp only [T.k, T.n, T.s, T.l, T.r]
  rw [T.deep] at hdp ⊢
  by_cases hk : k ≠ 3
  · rw [if_pos hk]
    have hk1 : (k != 3) = true := by simpa using hk
    clear ih
    go_enter Try.func39, Try.ntmps39
    go_wp2_with fail
    go_ret
    exact ⟨rfl, (Below.refl _ _).alloc (Nat.le_refl _) _⟩
  rw [if_neg hk] at hdp ⊢
  have hk : k = 3 := Decidable.not_not.1 hk
  subst hk
  have HD := Lib.hid hdp
  clear hdp
  go_enter Try.func39, Try.ntmps39
  go_wp2_with fail
  go_loopg [3, 4] l.length (fun g vn vi wr => ∃ (d : Int) (i : Nat), vn = .int .i64 d ∧ vi = .int .i64 i ∧ i + g = l.length ∧ 0 ≤ d ∧ d ≤ 1000000 ∧ Aside (T.deeps 0 l = T.deeps d (l.drop i)) ∧
    Below w.heap.size w wr ∧ wr.cell? ⟨w.heap.size, 3, none⟩ = some (.slice a l.length c) ∧ w.heap.size < wr.heap.size)
  case atStart => exact ⟨0, 0, rfl, rfl, by simp, by omega, by omega, rfl, (Below.refl _ _).alloc (Nat.le_refl _) _, by simp, by simp⟩
  case round =>
    obtain ⟨d, i, rfl, rfl, hi, hm1, hm2, hs, hb, hcell, hz⟩ := hrel
    by_cases h : i < l.length
    · obtain ⟨b, o, a', c', rfl, hbB, ht, e0, e1, e2, e3, e4⟩ := (T.At.below hb hB hin).elem i h
      have hle : T.deep l[i] ≤ 1000000 := by have := (T.deeps_ge l 0).2 l[i] (List.getElem_mem h); have := HD.out; omega
      have ih' := ih l[i] (List.getElem_mem h) a' c' wr B ht (Nat.le_trans hB hb.size) hle (hwl _ (List.getElem_mem h))
      unfold T.val at ih'
      have hs2 : Aside (∀ q, T.deep l[i] = q → T.deeps 0 l = T.deeps (if d < q then q else d) (l.drop (i + 1))) := by
        intro q hq
        rw [hs.out, List.drop_eq_getElem_cons h, T.deeps, hq]
      obtain ⟨q, hq⟩ : ∃ q, T.deep l[i] = q := ⟨_, rfl⟩
      have hs3 : Aside _ := hs2.out q hq
      have hnn := T.deep_nn l[i]
      rw [hq] at ih' hle hnn
      clear ih hq hs2 hs hwl
      by_cases hdq : d < q
      all_goals
        go_wp2_with (go_at_call 39; refine ih'.mono ?_; clear ih'; rintro e w' ⟨rfl, hb'⟩)
        go_roundg (gk - 1)
        case measure => omega
        case rel => exact ⟨_, i + 1, rfl, by go_num, by omega, by omega, by omega, by rw [hs3.out]; first | (rw [if_pos (by omega)]; rfl) | (rw [if_neg (by omega)]; rfl), hb.trans (hb'.mono (by omega)), by rw [hb'.cell (by simpa using hz)]; exact hcell, by have := hb'.size; omega⟩
    · have hs' : T.deeps 0 l = d := by rw [hs.out, List.drop_of_length_le (by omega), T.deeps]
      have HS := Lib.hid hs'
      clear hs' hs
      go_wp2_with fail
      go_ret
      exact ⟨ret_int (by rw [HS.out]), hb⟩

set_option maxRecDepth 100000 in
set_option maxHeartbeats 1000000 in
theorem vdeep_walk (t : T) : ∀ (a : Option Addr) (c : Nat) (w : World) (B : Nat), T.At w B t a c → B ≤ w.heap.size → t.deep ≤ 1000000 → t.wf →
    Calls Try.prog 75 #[t.val a c] w fun e w' => e = .returned (.int .i64 t.deep) ∧ Below w.heap.size w w' := by
  induction t using T.induct with
  | h k n s l r ih =>
  intro a c w B hin hB hdp hwf
  rw [T.wf, T.wfs_iff] at hwf
  obtain ⟨⟨_, _, _, _, _, _, _, hll⟩, hwl⟩ := hwf
  unfold T.val
  simp only [T.k, T.n, T.s, T.l, T.r]
  rw [T.deep] at hdp ⊢
  by_cases hk : k ≠ 3
  · rw [if_pos hk]
    have hk1 : (k != 3) = true := by simpa using hk
    clear ih
    go_enter Try.func75, Try.ntmps75
    go_wp2_with fail
    go_ret
    exact ⟨rfl, (Below.refl _ _).alloc (Nat.le_refl _) _⟩
  rw [if_neg hk] at hdp ⊢
  have hk : k = 3 := Decidable.not_not.1 hk
  subst hk
  have HD := Lib.hid hdp
  clear hdp
  go_enter Try.func75, Try.ntmps75
  go_wp2_with fail
  go_loopg [3, 12] l.length (fun g vn vi wr => ∃ (d : Int) (i : Nat), vn = .int .i64 d ∧ vi = .int .i64 i ∧ i + g = l.length ∧ 0 ≤ d ∧ d ≤ 1000000 ∧ Aside (T.deeps 0 l = T.deeps d (l.drop i)) ∧
    Below w.heap.size w wr ∧ w.heap.size < wr.heap.size)
  case atStart => exact ⟨0, 0, rfl, rfl, by simp, by omega, by omega, rfl, (Below.refl _ _).alloc (Nat.le_refl _) _, by simp⟩
  case round =>
    obtain ⟨d, i, rfl, rfl, hi, hm1, hm2, hs, hb, hz⟩ := hrel
    by_cases h : i < l.length
    · obtain ⟨b, o, a', c', rfl, hbB, ht, e0, e1, e2, e3, e4⟩ := (T.At.below hb hB hin).elem i h
      have hle : T.deep l[i] ≤ 1000000 := by have := (T.deeps_ge l 0).2 l[i] (List.getElem_mem h); have := HD.out; omega
      have ih' := ih l[i] (List.getElem_mem h) a' c' (wr.alloc (.cells #[.int .u8 l[i].k, .int .i64 l[i].n, .string l[i].s, .slice a' l[i].l.length c', .int .i64 l[i].r] 26 (0, 0))) B
        (T.At.below ((Below.refl wr.heap.size wr).alloc (Nat.le_refl _) _) (by have := hb.size; omega) ht) (by simp; omega) hle (hwl _ (List.getElem_mem h))
      unfold T.val at ih'
      have hs2 : Aside (∀ q, T.deep l[i] = q → T.deeps 0 l = T.deeps (if d < q then q else d) (l.drop (i + 1))) := by
        intro q hq
        rw [hs.out, List.drop_eq_getElem_cons h, T.deeps, hq]
      obtain ⟨q, hq⟩ : ∃ q, T.deep l[i] = q := ⟨_, rfl⟩
      have hs3 : Aside _ := hs2.out q hq
      have hnn := T.deep_nn l[i]
      rw [hq] at ih' hle hnn
      clear ih hq hs2 hs hwl
      by_cases hdq : d < q
      all_goals
        go_wp2_with (go_at_call 75; refine ih'.mono ?_; clear ih'; rintro e w' ⟨rfl, hb'⟩)
        go_roundg (gk - 1)
        case measure => omega
        case rel =>
          refine ⟨(if d < q then q else d), i + 1, by first | rfl | (rw [if_pos (by omega)]; done) | (rw [if_neg (by omega)]; done) | (simp; done), by go_num, by omega, ?_, ?_, hs3, hb.trans ((below_box hb').mono (by omega)), by have := hb'.size; simp at this; omega⟩
          · split <;> omega
          · split <;> omega
    · have hs' : T.deeps 0 l = d := by rw [hs.out, List.drop_of_length_le (by omega), T.deeps]
      have HS := Lib.hid hs'
      clear hs' hs
      go_wp2_with fail
      go_ret
      exact ⟨ret_int (by rw [HS.out]), hb⟩

theorem T.deep_of_look (t : T) : ∀ (room deep : Int), 1 ≤ T.look room deep t → 0 ≤ deep → T.deep t ≤ deep := by
  induction t using T.induct with
  | h k n s l r ih =>
    intro room deep h hd
    rw [T.deep]
    by_cases hk : k ≠ 3
    · rw [if_pos hk]; exact hd
    rw [if_neg hk]
    rw [T.look] at h
    split at h; · omega
    split at h; · omega
    try rw [if_neg hk] at h
    split at h; · omega
    split at h; · omega
    have key : ∀ (l : List T), (∀ x ∈ l, ∀ (room deep : Int), 1 ≤ T.look room deep x → 0 ≤ deep → T.deep x ≤ deep) → ∀ m d, d ≤ deep - 1 → 1 ≤ m → 1 ≤ T.looks room deep m l → T.deeps d l ≤ deep - 1 := by
      intro l
      induction l with
      | nil => intro _ m d hd _ _; rw [T.deeps]; exact hd
      | cons t ts ih2 =>
        intro hx m d hd h1 h2
        rw [T.looks] at h2
        split at h2
        · omega
        rename_i hq
        rw [T.deeps]
        have h3 : 1 ≤ T.look (room - m) (deep - 1) t := by
          rcases T.look_pos t (room - m) (deep - 1) with h | h
          · exact absurd h hq
          · exact h
        have h4 := hx t (by simp) (room - m) (deep - 1) h3 (by omega)
        exact ih2 (fun x hx' => hx x (by simp [hx'])) _ _ (by split <;> omega) (by omega) h2
    have := key l ih 1 0 (by omega) (by omega) h
    omega

theorem T.look_of_may {t : T} (h : t.may = true) : 1 ≤ T.look 512 16 t := by
  unfold T.may at h
  rw [T.parts_of] at h
  split at h
  · assumption
  · simp at h

theorem T.deep_of_may {t : T} (h : t.may = true) : T.deep t ≤ 16 := T.deep_of_look t 512 16 (T.look_of_may h) (by omega)

set_option maxRecDepth 100000 in
theorem deep_walk (t : T) (a : Option Addr) (c : Nat) (w : World) (B : Nat) (hin : T.At w B t a c) (hB : B ≤ w.heap.size) (hw : t.wf) :
    Calls Try.prog 33 #[t.val a c] w fun e w' => e = .returned (.int .i64 (if t.may = true then t.deep else 0)) ∧ Below w.heap.size w w' := by
  obtain ⟨w1, hw1⟩ : ∃ w1, w1 = w.alloc (.cells #[.int .u8 t.k, .int .i64 t.n, .string t.s, .slice a t.l.length c, .int .i64 t.r] 26 (0, 0)) := ⟨_, rfl⟩
  have hb1 : Below w.heap.size w w1 := by rw [hw1]; exact (Below.refl _ _).alloc (Nat.le_refl _) _
  have hz1 : w1.heap.size = w.heap.size + 1 := by rw [hw1]; simp
  have m1 := may_walk t a c w1 B (T.At.below hb1 hB hin) (by omega) hw
  have m2 := fun (hm : t.may = true) (w2 : World) (hb2 : Below w1.heap.size w1 w2) => vdeep_walk t a c w2 B (T.At.below hb2 (by omega) (T.At.below hb1 hB hin)) (by have := hb2.size; omega) (by have := T.deep_of_may hm; omega) hw
  have HB := Lib.hid hb1
  clear hb1 hz1 hB hin hw
  rw [hw1] at m1 m2 HB
  clear hw1
  unfold T.val at m1 m2 ⊢
  cases hm : t.may with
  | false =>
    rw [hm] at m1
    clear m2 hm
    rw [if_neg (by simp)]
    go_enter Try.func33, Try.ntmps33
    go_wp2_with (go_at_call 34; refine m1.mono ?_; rintro e wA ⟨rfl, hbA⟩)
    go_ret
    exact ⟨rfl, HB.out.trans (hbA.mono HB.out.size)⟩
  | true =>
    have m3 := m2 hm
    rw [hm] at m1
    clear m2 hm
    rw [if_pos rfl]
    go_enter Try.func33, Try.ntmps33
    go_wp2_with (first | (go_at_call 34; refine m1.mono ?_; clear m1; rintro e wA ⟨rfl, hbA⟩; obtain ⟨hcA, hfA⟩ := bcell hbA) | (go_at_call 75; refine (m3 _ hbA).mono ?_; clear m3; rintro e wB ⟨rfl, hbB⟩))
    go_ret
    exact ⟨rfl, (HB.out.trans (hbA.mono HB.out.size)).trans (hbB.mono (by have := hbA.size; have := HB.out.size; omega))⟩
end Go.Proofs.Ytapfmfihhpafcaa
