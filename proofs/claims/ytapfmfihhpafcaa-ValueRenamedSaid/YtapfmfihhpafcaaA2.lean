/-
  The document's answer, whether a value may be: posternref02.look, Parts, May.
-/
import Derived.Test.YtapfmfihhpafcaaA1
namespace Go.Proofs.Ytapfmfihhpafcaa
open Go.RowKit

/-- A node's own fields are such as its kind allows. -/
def fieldsOk (k n : Int) (s : ByteArray) (l : List T) (r : Int) : Prop :=
  (k = 1 ∨ n = 0) ∧ (k = 2 ∨ s.toList = []) ∧ (k = 3 ∨ l = []) ∧ (k = 4 ∨ r = 0) ∧ k ≤ 4 ∧ (k = 4 → 1 ≤ r) ∧ s.size ≤ 256

open Classical in
mutual
noncomputable def T.look (room deep : Int) : T → Int
  | .mk k n s l r => if room < 1 then -1 else if ¬ fieldsOk k n s l r then -1 else if k ≠ 3 then 1 else if deep < 1 then -1 else if room ≤ l.length then -1 else T.looks room deep 1 l
noncomputable def T.looks (room deep n : Int) : List T → Int
  | [] => n
  | t :: ts => if T.look (room - n) (deep - 1) t < 0 then -1 else T.looks room deep (n + T.look (room - n) (deep - 1) t) ts
end

theorem T.look_le (t : T) : ∀ (room deep : Int), 0 ≤ room → T.look room deep t ≤ room := by
  induction t using T.induct with
  | h k n s l r ih =>
    intro room deep hr
    have key : ∀ (l : List T), (∀ x ∈ l, ∀ (room deep : Int), 0 ≤ room → T.look room deep x ≤ room) → ∀ m, 1 ≤ m → m ≤ room → T.looks room deep m l ≤ room := by
      intro l
      induction l with
      | nil => intro _ m _ hm; rw [T.looks]; exact hm
      | cons t ts ih2 =>
        intro hx m h1 hm
        rw [T.looks]
        split
        · omega
        · have := hx t (by simp) (room - m) (deep - 1) (by omega)
          exact ih2 (fun x hx' => hx x (by simp [hx'])) _ (by omega) (by omega)
    rw [T.look]
    split; · omega
    split; · omega
    split; · omega
    split; · omega
    split; · omega
    exact key l ih 1 (by omega) (by omega)

def LookLeaf (k n r : Int) (s : ByteArray) (l : List T) (w : World) (e : Ending) (w' : World) : Prop :=
  ((fieldsOk k n s l r ∧ k ≠ 3 ∧ e = .returned (.int .i64 1)) ∨ (¬ fieldsOk k n s l r ∧ e = .returned (.int .i64 (-1)))) ∧ Below w.heap.size w w'

set_option maxRecDepth 100000 in
set_option maxHeartbeats 4000000 in
theorem look_leaf (k n r : Int) (s : ByteArray) (l : List T) (a : Option Addr) (c : Nat) (w : World) (room deep : Int) (hk0 : 0 ≤ k)
    (hr0 : 1 ≤ room) (hr1 : room ≤ 1000000) (hd0 : -1 ≤ deep) (hd1 : deep ≤ 1000) (hf : k = 3 → ¬ fieldsOk k n s l r) :
    Calls Try.prog 77 #[.agg #[.int .u8 k, .int .i64 n, .string s, .slice a l.length c, .int .i64 r], .int .i64 room, .int .i64 deep] w (LookLeaf k n r s l w) := by
  have H := Lib.hid hf
  clear hf
  go_enter Try.func77, Try.ntmps77
  go_wp2_with fail
  all_goals have hf := H.out
  all_goals unfold fieldsOk at hf
  all_goals first
    | (go_ret; refine ⟨?_, (Below.refl _ _).alloc (Nat.le_refl _) _⟩
       unfold fieldsOk
       simp_all; done)
    | (go_ret; refine ⟨?_, (Below.refl _ _).alloc (Nat.le_refl _) _⟩
       unfold fieldsOk
       simp_all; omega)
    | (exfalso; simp_all; done)
    | (exfalso; simp_all; omega)

set_option maxRecDepth 100000 in
set_option maxHeartbeats 1000000 in
theorem look_walk (t : T) : ∀ (a : Option Addr) (c : Nat) (w : World) (B : Nat) (room deep : Int),
    T.At w B t a c → B ≤ w.heap.size → 0 ≤ room → room ≤ 1000000 → -1 ≤ deep → deep ≤ 1000 → t.wf →
    Calls Try.prog 77 #[t.val a c, .int .i64 room, .int .i64 deep] w fun e w' => e = .returned (.int .i64 (t.look room deep)) ∧ Below w.heap.size w w' := by
  induction t using T.induct with
  | h k n s l r ih =>
  intro a c w B room deep hin hB hr0 hr1 hd0 hd1 hwf
  rw [T.wf, T.wfs_iff] at hwf
  obtain ⟨hk0, hwl⟩ := hwf
  unfold T.val
  simp only [T.k, T.n, T.s, T.l, T.r]
  rw [T.look]
  by_cases h1 : room < 1
  · rw [if_pos h1]
    go_enter Try.func77, Try.ntmps77
    go_wp2_with fail
    go_ret
    exact ⟨rfl, (Below.refl _ _).alloc (Nat.le_refl _) _⟩
  rw [if_neg h1]
  by_cases hg : k = 3 ∧ fieldsOk k n s l r
  case neg =>
    refine (look_leaf k n r s l a c w room deep hk0.1 (by omega) hr1 hd0 hd1 (fun h h' => hg ⟨h, h'⟩)).mono ?_
    rintro e w' ⟨⟨hf, hk, rfl⟩ | ⟨hf, rfl⟩, hb⟩
    · rw [if_neg (not_not_intro hf), if_pos hk]; exact ⟨rfl, hb⟩
    · rw [if_pos hf]; exact ⟨rfl, hb⟩
  obtain ⟨hk3, hf⟩ := hg
  rw [if_neg (not_not_intro hf), if_neg (not_not_intro hk3)]
  unfold fieldsOk at hf
  subst hk3
  have hn : n = 0 := by simpa using hf.1
  have hs : s.toList = [] := by simpa using hf.2.1
  have hr : r = 0 := by simpa using hf.2.2.2.1
  have hsz := size_of_nil hs
  subst hn hr
  clear hf hk0
  by_cases h2 : deep < 1
  · rw [if_pos h2]
    go_enter Try.func77, Try.ntmps77
    go_wp2_with fail
    go_ret
    exact ⟨rfl, (Below.refl _ _).alloc (Nat.le_refl _) _⟩
  rw [if_neg h2]
  by_cases h3 : room ≤ l.length
  · rw [if_pos h3]
    go_enter Try.func77, Try.ntmps77
    go_wp2_with fail
    go_ret
    exact ⟨rfl, (Below.refl _ _).alloc (Nat.le_refl _) _⟩
  rw [if_neg h3]
  go_enter Try.func77, Try.ntmps77
  go_wp2_with fail
  go_loopg [7, 8] l.length (fun g vn vi wr => ∃ (m : Int) (i : Nat), vn = .int .i64 m ∧ vi = .int .i64 i ∧ i + g = l.length ∧ 1 ≤ m ∧ m ≤ room ∧ Aside (T.looks room deep 1 l = T.looks room deep m (l.drop i)) ∧
    Below w.heap.size w wr ∧ wr.cell? ⟨w.heap.size, 3, none⟩ = some (.slice a l.length c) ∧ w.heap.size < wr.heap.size)
  case atStart => exact ⟨1, 0, rfl, rfl, by simp, by omega, by omega, rfl, (Below.refl _ _).alloc (Nat.le_refl _) _, by simp, by simp⟩
  case round =>
    obtain ⟨m, i, rfl, rfl, hi, hm1, hm2, hs, hb, hcell, hz⟩ := hrel
    by_cases h : i < l.length
    · obtain ⟨b, o, a', c', rfl, hbB, ht, e0, e1, e2, e3, e4⟩ := (T.At.below hb hB hin).elem i h
      have hle := T.look_le l[i] (room - m) (deep - 1) (by omega)
      have hd : Aside (l.drop i = l[i] :: l.drop (i + 1)) := List.drop_eq_getElem_cons h
      have ih' := ih l[i] (List.getElem_mem h) a' c' wr B (room - m) (deep - 1) ht (Nat.le_trans hB hb.size) (by omega) (by omega) (by omega) (by omega) (hwl _ (List.getElem_mem h))
      unfold T.val at ih'
      have hs2 : Aside (∀ q, T.look (room - m) (deep - 1) l[i] = q → T.looks room deep 1 l = if q < 0 then -1 else T.looks room deep (m + q) (l.drop (i + 1))) := by
        intro q hq
        rw [hs.out, hd.out, T.looks, hq]
      obtain ⟨q, hq⟩ : ∃ q, T.look (room - m) (deep - 1) l[i] = q := ⟨_, rfl⟩
      have hs3 : Aside _ := hs2.out q hq
      rw [hq] at hle ih'
      clear ih hq hs2 hs hwl
      by_cases hq : q < 0
      · go_wp2_with (go_at_call 77; refine ih'.mono ?_; clear ih'; rintro e w' ⟨rfl, hb'⟩)
        go_ret
        exact ⟨ret_int (by rw [hs3.out, if_pos hq]), hb.trans (hb'.mono (by omega))⟩
      · go_wp2_with (go_at_call 77; refine ih'.mono ?_; clear ih'; rintro e w' ⟨rfl, hb'⟩)
        go_roundg (gk - 1)
        case measure => omega
        case rel => exact ⟨m + q, i + 1, rfl, by go_num, by omega, by omega, by omega, by rw [hs3.out, if_neg (by omega)]; rfl, hb.trans (hb'.mono (by omega)), by rw [hb'.cell (by simpa using hz)]; exact hcell, by have := hb'.size; omega⟩
    · go_wp2_with fail
      have hs := hs.out
      rw [List.drop_of_length_le (by omega), T.looks] at hs
      go_ret
      exact ⟨ret_int hs.symm, hb⟩

/-- How many parts; 0: it may not be. -/
noncomputable def T.parts (t : T) : Int := if t.look 512 16 < 0 then 0 else t.look 512 16

set_option maxRecDepth 100000 in
theorem refParts_walk (t : T) (a : Option Addr) (c : Nat) (w : World) (B : Nat) (hin : T.At w B t a c) (hB : B ≤ w.heap.size) (hw : t.wf) :
    Calls Try.prog 36 #[t.val a c] w fun e w' => e = .returned (.int .i64 t.parts) ∧ Below w.heap.size w w' := by
  have h1 := look_walk t a c (w.alloc (.cells #[.int .u8 t.k, .int .i64 t.n, .string t.s, .slice a t.l.length c, .int .i64 t.r] 26 (0, 0))) B 512 16
    (T.At.below ((Below.refl w.heap.size w).alloc (Nat.le_refl _) _) hB hin) (by simp; omega) (by omega) (by omega) (by omega) (by omega) hw
  unfold T.val at h1 ⊢
  unfold T.parts
  generalize t.look 512 16 = q at h1 ⊢
  by_cases hq : q < 0
  · rw [if_pos hq]
    go_enter Try.func36, Try.ntmps36
    go_wp2_with (go_at_call 77; refine h1.mono ?_; rintro e w' ⟨rfl, hb'⟩)
    go_ret
    exact ⟨rfl, ((Below.refl _ _).alloc (Nat.le_refl _) _).trans (hb'.mono (by simp))⟩
  · rw [if_neg hq]
    go_enter Try.func36, Try.ntmps36
    go_wp2_with (go_at_call 77; refine h1.mono ?_; rintro e w' ⟨rfl, hb'⟩)
    go_ret
    exact ⟨rfl, ((Below.refl _ _).alloc (Nat.le_refl _) _).trans (hb'.mono (by simp))⟩

noncomputable def T.may (t : T) : Bool := decide (0 < t.parts)

set_option maxRecDepth 100000 in
theorem refMay_walk (t : T) (a : Option Addr) (c : Nat) (w : World) (B : Nat) (hin : T.At w B t a c) (hB : B ≤ w.heap.size) (hw : t.wf) :
    Calls Try.prog 64 #[t.val a c] w fun e w' => e = .returned (.bool t.may) ∧ Below w.heap.size w w' := by
  have h1 := refParts_walk t a c (w.alloc (.cells #[.int .u8 t.k, .int .i64 t.n, .string t.s, .slice a t.l.length c, .int .i64 t.r] 26 (0, 0))) B
    (T.At.below ((Below.refl w.heap.size w).alloc (Nat.le_refl _) _) hB hin) (by simp; omega) hw
  unfold T.val at h1 ⊢
  unfold T.may
  generalize t.parts = q at h1 ⊢
  go_enter Try.func64, Try.ntmps64
  go_wp2_with (go_at_call 36; refine h1.mono ?_; rintro e w' ⟨rfl, hb'⟩)
  go_ret
  exact ⟨rfl, ((Below.refl _ _).alloc (Nat.le_refl _) _).trans (hb'.mono (by simp))⟩
end Go.Proofs.Ytapfmfihhpafcaa
