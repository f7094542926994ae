import Derived.Test.YtapfmfihhpafcaaBase
namespace Go.Proofs.Ytapfmfihhpafcaa
open Go.RowKit

mutual
def T.small (room deep : Int) : T → Int
  | .mk _ _ _ l _ => if deep < 0 then -1 else if room < 1 then -1 else if room ≤ l.length then -1 else T.smalls room deep 1 l
def T.smalls (room deep n : Int) : List T → Int
  | [] => n
  | t :: ts => if T.small (room - n) (deep - 1) t < 0 then -1 else T.smalls room deep (n + T.small (room - n) (deep - 1) t) ts
end

theorem T.small_le (t : T) : ∀ (room deep : Int), 0 ≤ room → T.small room deep t ≤ room := by
  induction t using T.induct with
  | h k n s l r ih =>
    intro room deep hr
    have key : ∀ (l : List T), (∀ x ∈ l, ∀ (room deep : Int), 0 ≤ room → T.small room deep x ≤ room) → ∀ m, 1 ≤ m → m ≤ room → T.smalls room deep m l ≤ room := by
      intro l
      induction l with
      | nil => intro _ m _ hm; rw [T.smalls]; exact hm
      | cons t ts ih2 =>
        intro hx m h1 hm
        rw [T.smalls]
        split
        · omega
        · have := hx t (by simp) (room - m) (deep - 1) (by omega)
          exact ih2 (fun x hx' => hx x (by simp [hx'])) _ (by omega) (by omega)
    rw [T.small]
    split; · omega
    split; · omega
    split; · omega
    exact key l ih 1 (by omega) (by omega)

set_option maxRecDepth 100000 in
set_option maxHeartbeats 1000000 in
theorem small_walk (t : T) : ∀ (a : Option Addr) (c : Nat) (w : World) (B : Nat) (room deep : Int),
    T.At w B t a c → B ≤ w.heap.size → 0 ≤ room → room ≤ 1000000 → -1 ≤ deep → deep ≤ 1000 →
    Calls Try.prog 15 #[t.val a c, .int .i64 room, .int .i64 deep] w fun e w' => e = .returned (.int .i64 (t.small room deep)) ∧ Below w.heap.size w w' := by
  induction t using T.induct with
  | h k n s l r ih =>
  intro a c w B room deep hin hB hr0 hr1 hd0 hd1
  unfold T.val
  simp only [T.k, T.n, T.s, T.l, T.r]
  rw [T.small]
  by_cases h1 : deep < 0
  · rw [if_pos h1]
    go_enter Try.func15, Try.ntmps15
    go_wp2_with fail
    go_ret
    exact ⟨rfl, (Below.refl _ _).alloc (Nat.le_refl _) _⟩
  rw [if_neg h1]
  by_cases h2 : room < 1
  · rw [if_pos h2]
    go_enter Try.func15, Try.ntmps15
    go_wp2_with fail
    go_ret
    exact ⟨rfl, (Below.refl _ _).alloc (Nat.le_refl _) _⟩
  rw [if_neg h2]
  by_cases h3 : room ≤ l.length
  · rw [if_pos h3]
    go_enter Try.func15, Try.ntmps15
    go_wp2_with fail
    go_ret
    exact ⟨rfl, (Below.refl _ _).alloc (Nat.le_refl _) _⟩
  rw [if_neg h3]
  go_enter Try.func15, Try.ntmps15
  go_wp2_with fail
  go_loopg [7, 8] l.length (fun g vn vi wr => ∃ (m : Int) (i : Nat), vn = .int .i64 m ∧ vi = .int .i64 i ∧ i + g = l.length ∧ 1 ≤ m ∧ m ≤ room ∧ Aside (T.smalls room deep 1 l = T.smalls room deep m (l.drop i)) ∧ 
    Below w.heap.size w wr ∧ wr.cell? ⟨w.heap.size, 3, none⟩ = some (.slice a l.length c) ∧ w.heap.size < wr.heap.size)
  case atStart => exact ⟨1, 0, rfl, rfl, by simp, by omega, by omega, rfl, (Below.refl _ _).alloc (Nat.le_refl _) _, by simp, by simp⟩
  case round =>
    obtain ⟨m, i, rfl, rfl, hi, hm1, hm2, hs, hb, hcell, hz⟩ := hrel
    by_cases h : i < l.length
    · obtain ⟨b, o, a', c', rfl, hbB, ht, e0, e1, e2, e3, e4⟩ := (T.At.below hb hB hin).elem i h
      have hle := T.small_le l[i] (room - m) (deep - 1) (by omega)
      have hd : Aside (l.drop i = l[i] :: l.drop (i + 1)) := List.drop_eq_getElem_cons h
      have ih' := ih l[i] (List.getElem_mem h) a' c' wr B (room - m) (deep - 1) ht (Nat.le_trans hB hb.size) (by omega) (by omega) (by omega) (by omega)
      unfold T.val at ih'
      have hs2 : Aside (∀ q, T.small (room - m) (deep - 1) l[i] = q → T.smalls room deep 1 l = if q < 0 then -1 else T.smalls room deep (m + q) (l.drop (i + 1))) := by
        intro q hq
        rw [hs.out, hd.out, T.smalls, hq]
      obtain ⟨q, hq⟩ : ∃ q, T.small (room - m) (deep - 1) l[i] = q := ⟨_, rfl⟩
      have hs3 : Aside _ := hs2.out q hq
      rw [hq] at hle ih'
      clear ih hq hs2 hs
      by_cases hq : q < 0
      · go_wp2_with (go_at_call 15; refine ih'.mono ?_; clear ih'; rintro e w' ⟨rfl, hb'⟩)
        go_ret
        exact ⟨ret_int (by rw [hs3.out, if_pos hq]), hb.trans (hb'.mono (by omega))⟩
      · go_wp2_with (go_at_call 15; refine ih'.mono ?_; clear ih'; rintro e w' ⟨rfl, hb'⟩)
        go_roundg (gk - 1)
        case measure => omega
        case rel => exact ⟨m + q, i + 1, rfl, by go_num, by omega, by omega, by omega, by rw [hs3.out, if_neg (by omega)]; rfl, hb.trans (hb'.mono (by omega)), by rw [hb'.cell (by simpa using hz)]; exact hcell, by have := hb'.size; omega⟩
    · go_wp2_with fail
      have hs := hs.out
      rw [List.drop_of_length_le (by omega), T.smalls] at hs
      go_ret
      exact ⟨ret_int hs.symm, hb⟩
end Go.Proofs.Ytapfmfihhpafcaa
