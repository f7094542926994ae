/-
  value.Refs; slices.ContainsFunc and IndexFunc over references.
-/
import Derived.Test.YtapfmfihhpafcaaB3
import Derived.Test.YtapfmfihhpafcaaA8
namespace Go.Proofs.Ytapfmfihhpafcaa
open Go.RowKit
set_option linter.unusedVariables false

theorem T.count_of_look (t : T) : ∀ (room deep : Int), 1 ≤ T.look room deep t → (T.count t : Int) = T.look room deep t := by
  induction t using T.induct with
  | h k n s l r ih =>
    intro room deep h
    rw [T.count]
    have key : ∀ (l : List T), (∀ x ∈ l, ∀ (room deep : Int), 1 ≤ T.look room deep x → (T.count x : Int) = T.look room deep x) → ∀ m, 1 ≤ m → 1 ≤ T.looks room deep m l → (T.counts l : Int) + m = T.looks room deep m l := by
      intro l
      induction l with
      | nil => intro _ m _ _; rw [T.looks, T.counts]; simp
      | cons t ts ih2 =>
        intro hx m h1 h2
        rw [T.looks] at h2 ⊢
        by_cases hq : T.look (room - m) (deep - 1) t < 0
        · rw [if_pos hq] at h2; omega
        rw [if_neg hq] at h2 ⊢
        have h3 : 1 ≤ T.look (room - m) (deep - 1) t := by
          rcases T.look_pos t (room - m) (deep - 1) with h | h
          · exact absurd h hq
          · exact h
        have h4 := hx t (by simp) (room - m) (deep - 1) h3
        have h5 := ih2 (fun x hx' => hx x (by simp [hx'])) (m + T.look (room - m) (deep - 1) t) (by omega) h2
        rw [T.counts]
        omega
    have hl : ∀ k, (k : Int) ≠ 3 → fieldsOk k n s l r → l = [] := fun k hk hf => by
      rcases hf.2.2.1 with h | h
      · exact absurd h hk
      · exact h
    rw [T.look] at h ⊢
    by_cases h1 : room < 1
    · rw [if_pos h1] at h; omega
    rw [if_neg h1] at h ⊢
    by_cases h2 : fieldsOk k n s l r
    case neg => rw [if_pos h2] at h; omega
    rw [if_neg (not_not_intro h2)] at h ⊢
    by_cases h3 : k ≠ 3
    · rw [if_pos h3]
      have := hl k h3 h2
      subst this
      simp [T.counts]
    rw [if_neg h3] at h ⊢
    by_cases h4 : deep < 1
    · rw [if_pos h4] at h; omega
    rw [if_neg h4] at h ⊢
    by_cases h5 : room ≤ l.length
    · rw [if_pos h5] at h; omega
    rw [if_neg h5] at h ⊢
    have := key l ih 1 (by omega) h
    omega

theorem T.count_of_may {t : T} (h : t.may = true) : T.count t ≤ 512 := by
  have h1 := T.look_of_may h
  have h2 := T.count_of_look t 512 16 h1
  have h3 := T.look_le t 512 16 (by omega)
  omega

/-- What Refs hands back. -/
def RefsPost (w : World) (xs : List Int) (e : Ending) (w' : World) : Prop :=
  ∃ v, e = .returned v ∧ w'.ownsRow (w.heap.size + 1) 24 1 v xs.length (xs.map (.int .i64)) ∧ Below w.heap.size w w'

set_option maxRecDepth 100000 in
set_option maxHeartbeats 1000000 in
theorem refs_walk (t : T) (a : Option Addr) (c : Nat) (w : World) (B : Nat) (hin : T.At w B t a c) (hB : B ≤ w.heap.size) (hw : t.wf) :
    Calls Try.prog 35 #[t.val a c] w (RefsPost w (if t.may = true then t.refs else [])) := by
  obtain ⟨w1, hw1⟩ : ∃ w1, w1 = (w.alloc (.cells #[.int .u8 t.k, .int .i64 t.n, .string t.s, .slice a t.l.length c, .int .i64 t.r] 26 (0, 0))).alloc (.cells #[.slice none 0 0] 61 (0, 0)) := ⟨_, rfl⟩
  have hb1 : Below w.heap.size w w1 := by rw [hw1]; exact two_boxes _ _ _
  have D0 : w1.heap[w.heap.size]? = some (.cells #[.int .u8 t.k, .int .i64 t.n, .string t.s, .slice a t.l.length c, .int .i64 t.r] 26 (0, 0)) := by rw [hw1]; exact two_blk0 _ _ _
  have D1 : w1.heap[w.heap.size + 1]? = some (.cells #[.slice none 0 0] 61 (0, 0)) := by rw [hw1]; exact two_blk1 _ _ _
  have hz1 : w1.heap.size = w.heap.size + 2 := by rw [hw1]; simp
  have m1 := may_walk t a c w1 B (T.At.below hb1 hB hin) (by omega) hw
  have m2 := fun (hm : t.may = true) (w2 : World) (hb2 : Below w1.heap.size w1 w2) => walk_refs t [] none 0 a c (w.heap.size + 1) (.slice none 0 0) [] w2 B (T.At.below hb2 (by omega) (T.At.below hb1 hB hin)) (by omega) hw
    ⟨(hb2.block _ (by omega)).trans D1, World.ownsRow_nil _ _ _ _⟩ ⟨Nat.le_refl _, .inl rfl⟩ (by have := T.count_of_may hm; simp; omega) (by have := T.count_of_may hm; simp; omega)
  clear hin hw
  unfold T.val at m1 m2 ⊢
  obtain ⟨ys, hys⟩ : ∃ ys, (if t.may = true then t.refs else []) = ys := ⟨_, rfl⟩
  rw [hys]
  have HY := Lib.hid hys
  clear hys
  go_enter Try.func35, Try.ntmps35
  go_upto_region 2 with (fail)
  rw [← hw1]
  clear hw1
  have E0 := Lib.hid D0
  obtain ⟨x0, x1, x2, x3, x4, y0, y1, y2, y3, y4⟩ := blk5 D0
  obtain ⟨z0, z1⟩ := blk1 D1
  have D1 := Lib.hid D1
  clear D0
  cases hm : t.may with
  | false =>
    rw [hm] at m1
    have HM := Lib.hid hm
    clear hm m2
    go_wp2_with (go_at_call 34; refine m1.mono ?_; clear m1; rintro e wA ⟨rfl, hbA⟩; have D2 := (hbA.block (w.heap.size + 1) (by omega)).trans D1.out; clear z0 z1; obtain ⟨z0, z1⟩ := blk1 D2)
    go_ret
    refine ⟨.slice none 0 0, rfl, ?_, hb1.trans (hbA.mono (by omega))⟩
    rw [← HY.out, HM.out, if_neg (by simp)]
    exact World.ownsRow_nil _ _ _ _
  | true =>
    rw [hm] at m1
    have m3 := m2 hm
    have HM := Lib.hid hm
    clear hm m2
    go_wp2_with (first
      | (go_at_call 34; refine m1.mono ?_; clear m1; rintro e wA ⟨rfl, hbA⟩; have D3 := (hbA.block (w.heap.size) (by omega)).trans E0.out; clear x0 x1 x2 x3 x4 y0 y1 y2 y3 y4 z0 z1; obtain ⟨x0, x1, x2, x3, x4, y0, y1, y2, y3, y4⟩ := blk5 D3; have D3 := Lib.hid D3)
      | (go_at_call 61; refine (m3 _ hbA).mono ?_; clear m3; rintro e wB ⟨rfl, vo, ho, hs⟩; obtain ⟨z0, z1⟩ := blk1 ho.1))
    go_ret
    have hsA := hbA.size
    refine ⟨vo, rfl, ?_, hb1.trans ((hbA.mono (by omega)).trans ⟨hs.os, hs.tape, hs.output, hs.size, fun k hk => hs.block k (by omega) (by omega) (by simp [Value.ownBlock])⟩)⟩
    have h2 := ho.2
    rw [List.nil_append] at h2
    rw [← HY.out, HM.out, if_pos rfl]
    exact ⟨h2.1, h2.2.imp id fun ⟨g, cap, cur, h1, h3, h4⟩ => ⟨g, cap, cur, h1, by omega, h4⟩⟩

theorem bytes1_walk (x : Int) (w : World) : Calls Try.prog 67 #[.int .i64 x] w fun e w' => e = .returned (.bool (decide (4294967295 < x))) ∧ w = w' := by
  go_enter Try.func67, Try.ntmps67
  go_wp2_with fail
  go_ret
  exact ⟨rfl, rfl⟩

/-- Is one of them too great? -/
def someBig (l : List Int) : Bool := l.any fun x => decide (4294967295 < x)

/-- The place of the first that is too great; -1: there is none. -/
def bigAt : List Int → Int → Int
  | [], _ => -1
  | x :: xs, i => if 4294967295 < x then i else bigAt xs (i + 1)

theorem bigAt_some : ∀ (l : List Int) (i : Int), 0 ≤ i → (decide (0 ≤ bigAt l i) = someBig l)
  | [], i, _ => by simp [bigAt, someBig]
  | x :: xs, i, hi => by
    rw [bigAt]
    have ih := bigAt_some xs (i + 1) (by omega)
    by_cases h : 4294967295 < x
    · rw [if_pos h]; simp [someBig, h, hi]
    · rw [if_neg h, ih]; simp [someBig, h]

set_option maxRecDepth 100000 in
set_option maxHeartbeats 1000000 in
theorem indexFunc_walk (l : List Int) (a : Option Addr) (c : Nat) (w : World) (hl : Ints w (fun _ => True) l a c) (hx : l.length ≤ 1000000) :
    Calls Try.prog 89 #[.slice a l.length c, .func (.func 67) #[] #[]] w fun e w' => e = .returned (.int .i64 (bigAt l 0)) ∧ w = w' := by
  obtain ⟨q, hq⟩ : ∃ q, bigAt l 0 = q := ⟨_, rfl⟩
  rw [hq]
  have HQ := Lib.hid hq
  clear hq
  go_enter Try.func89, Try.ntmps89
  go_wp2_with fail
  go_loopg [8] l.length (fun g vi wr => ∃ (i : Nat), vi = .int .i64 i ∧ i + g = l.length ∧ Aside (bigAt (l.drop i) i = q) ∧ wr = w)
  case atStart => exact ⟨0, rfl, by simp, HQ.out, rfl⟩
  case round =>
    obtain ⟨i, rfl, hi, hs, rfl⟩ := hrel
    by_cases h : i < l.length
    · obtain ⟨b, o, rfl, _, he⟩ := hl.elem i h
      have hd : Aside (bigAt (l.drop i) i = if 4294967295 < l[i] then (i : Int) else bigAt (l.drop (i + 1)) (i + 1)) := by
        rw [List.drop_eq_getElem_cons h, bigAt]; rfl
      obtain ⟨x, hx⟩ : ∃ x, l[i] = x := ⟨_, rfl⟩
      rw [hx] at he hd
      clear hx hl
      have hs3 : Aside (q = if 4294967295 < x then (i : Int) else bigAt (l.drop (i + 1)) (i + 1)) := by rw [← hs.out, hd.out]; rfl
      clear hs hd
      by_cases hb : 4294967295 < x
      · go_wp2_with (go_at_call 67; refine (bytes1_walk _ _).mono ?_; rintro e w' ⟨rfl, rfl⟩)
        go_ret
        exact ⟨ret_int (by rw [hs3.out, if_pos hb]), rfl⟩
      · go_wp2_with (go_at_call 67; refine (bytes1_walk _ _).mono ?_; rintro e w' ⟨rfl, rfl⟩)
        go_roundg (gk - 1)
        case measure => omega
        case rel => exact ⟨i + 1, by go_num, by omega, by rw [hs3.out, if_neg (by omega)]; rfl, rfl⟩
    · have hs' : q = -1 := by rw [← hs.out, List.drop_of_length_le (by omega), bigAt]
      have HS := Lib.hid hs'
      clear hs' hs
      go_wp2_with fail
      go_ret
      exact ⟨ret_int HS.out.symm, rfl⟩

theorem containsFunc_walk (l : List Int) (a : Option Addr) (c : Nat) (w : World) (hl : Ints w (fun _ => True) l a c) (hx : l.length ≤ 1000000) :
    Calls Try.prog 66 #[.slice a l.length c, .func (.func 67) #[] #[]] w fun e w' => e = .returned (.bool (someBig l)) ∧ w = w' := by
  have m := indexFunc_walk l a c w hl hx
  have hb := bigAt_some l 0 (by omega)
  rw [← hb]
  clear hb
  generalize bigAt l 0 = q at m ⊢
  go_enter Try.func66, Try.ntmps66
  go_wp2_with (go_at_call 89; refine m.mono ?_; rintro e w' ⟨rfl, rfl⟩)
  go_ret
  exact ⟨rfl, rfl⟩
end Go.Proofs.Ytapfmfihhpafcaa
