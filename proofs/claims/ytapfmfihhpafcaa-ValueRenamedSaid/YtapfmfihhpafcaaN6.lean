/-
  posternref02.front: one value at the front of a text.
-/
import Derived.Test.YtapfmfihhpafcaaN5
import Derived.Test.YtapfmfihhpafcaaB9
import Derived.Test.YtapfmfihhpafcaaD5
import Derived.Test.YtapfmfihhpafcaaN2
import Derived.IntWalk
namespace Go.Proofs.Ytapfmfihhpafcaa
open Go.RowKit
set_option linter.unusedVariables false

theorem post_cell26f {fn : Func} {R : Ending → World → Prop} {a : Act} {w : World} {b : Nat} {v0 v1 v2 v3 v4 u u' : Value} (hr : fn.results = #[.cell 6 26, .tmp 7, .tmp 8]) (hp : a.tmps[6]?.getD undef = .pointer (some ⟨b, 0, none⟩)) (hu : a.tmps[7]?.getD undef = u) (hu' : a.tmps[8]?.getD undef = u') (hd : a.defers = [])
    (C : w.heap[b]? = some (.cells #[v0, v1, v2, v3, v4] 26 (0, 0))) (h : R (.returned (.tuple #[.agg #[v0, v1, v2, v3, v4], u, u'])) w) : bodyPost Try.prog fn R .ret a w := by
  obtain ⟨c0, c1, c2, c3, c4, _⟩ := blk5 C
  refine bodyPost_ret (v := .tuple #[.agg #[v0, v1, v2, v3, v4], u, u']) ?_ hd h
  simp only [results, hr]
  simp [hp, hu, hu', go_sem, c0, c1, c2, c3, c4]

/-- What front hands back. -/
def RefFront (w : World) (p : Nat) (r : Option (T × ByteArray × Nat)) (e : Ending) (w' : World) : Prop :=
  ((∃ t s' p' a c, r = some (t, s', p') ∧ e = .returned (.tuple #[t.val a c, .string s', .int .i64 ((p : Int) - p')]) ∧ T.In w' (New w.heap.size w') false t a c ∧ t.wf ∧ p' < p) ∨
    (r = none ∧ e = .returned (.tuple #[T.zero.val none 0, .string ⟨#[]⟩, .int .i64 (-1)]))) ∧ Below w.heap.size w w'

set_option maxRecDepth 100000 in
set_option maxHeartbeats 2000000 in
theorem refFront_none (s : ByteArray) (p d : Nat) (w : World) (h : s.size < 1 ∨ p = 0) (sub : Nat → Nat → ByteArray → Option (List T × ByteArray × Nat)) :
    Calls Try.prog 72 #[.string s, .int .i64 p, .int .i64 d] w (RefFront w p (rdNode d p s sub)) := by
  have e : rdNode d p s sub = none := by unfold rdNode; rw [if_pos h]
  rw [e]
  obtain ⟨w1, hw1⟩ : ∃ w1, w1 = w.alloc (.cells #[.int .u8 0, .int .i64 0, .string ⟨#[]⟩, .slice none 0 0, .int .i64 0] 26 (0, 0)) := ⟨_, rfl⟩
  have hb1 : Below w.heap.size w w1 := by rw [hw1]; exact (Below.refl _ _).alloc (Nat.le_refl _) _
  have D0 : w1.heap[w.heap.size]? = some (.cells #[.int .u8 0, .int .i64 0, .string ⟨#[]⟩, .slice none 0 0, .int .i64 0] 26 (0, 0)) := by rw [hw1]; exact blk_new _ _
  have E0 := Lib.hid D0
  have HB := Lib.hid hb1
  clear D0 hb1
  by_cases h0 : s.size < 1
  · have hs : s = ⟨#[]⟩ := by
      obtain ⟨⟨l⟩⟩ := s
      have : l = [] := List.length_eq_zero_iff.1 (by have : l.length < 1 := h0; omega)
      rw [this]
    subst hs
    go_enter Try.func72, Try.ntmps72
    go_upto_region 1 with (fail)
    rw [← hw1]
    clear hw1
    go_wp2_with (refine wpList_put _ rfl _ _ rfl w.heap.size _ _ _ _ _ _ _ _ _ _ (by rfl) (by rfl) (by simp [Value.oneCell']) E0.out ?_; rintro wP hP)
    exact post_cell26f Try.results72 rfl rfl rfl rfl hP.at_ ⟨.inr ⟨rfl, rfl⟩, HB.out.trans (hP.below (Nat.le_refl _))⟩
  · have hp : p = 0 := by omega
    subst hp
    have hs : s.toList.isEmpty = false := by
      rw [ByteArray.toList_eq]
      obtain ⟨⟨l⟩⟩ := s
      cases l with
      | nil => exact absurd (show 0 < 1 by omega) h0
      | cons x xs => rfl
    go_enter Try.func72, Try.ntmps72
    go_upto_region 1 with (fail)
    rw [← hw1]
    clear hw1
    go_wp2_with (refine wpList_put _ rfl _ _ rfl w.heap.size _ _ _ _ _ _ _ _ _ _ (by rfl) (by rfl) (by simp [Value.oneCell']) E0.out ?_; rintro wP hP)
    all_goals exact post_cell26f Try.results72 rfl rfl rfl rfl hP.at_ ⟨.inr ⟨rfl, rfl⟩, HB.out.trans (hP.below (Nat.le_refl _))⟩
theorem T.zero_in' (w : World) (ok : Nat → Prop) (m : Bool) : T.In w ok m (.mk 0 0 ⟨#[]⟩ [] 0) none 0 := by rw [T.In]; exact ⟨Nat.le_refl _, .inl rfl⟩

theorem hd_eq0 {s : ByteArray} (h : 0 < s.size) : ((s[0]'h).toNat : Int) = Go.Proofs.Ytapfmfihhpafcaa.hd s := by
  unfold Go.Proofs.Ytapfmfihhpafcaa.hd
  have hl : 0 < s.data.toList.length := by rw [Array.length_toList]; exact h
  rw [List.getD_eq_getElem?_getD, List.getElem?_eq_getElem hl, Option.getD_some]
  simp [ByteArray.getElem_eq_getElem_data]

theorem not_empty {s : ByteArray} (h0 : 0 < s.size) : s.toList.isEmpty = false := by
  rw [ByteArray.toList_eq]
  obtain ⟨⟨l⟩⟩ := s
  cases l with
  | nil => exact absurd h0 (by show ¬ 0 < 0; omega)
  | cons x xs => rfl

set_option maxRecDepth 100000 in
set_option maxHeartbeats 2000000 in
theorem refFront_zero (s : ByteArray) (p d : Nat) (w : World) (hs0 : 0 < s.size) (hsz : s.size ≤ 140737488351232) (hp : 0 < p) (hp2 : p ≤ 1000000) (hk : hd s = 0) (sub : Nat → Nat → ByteArray → Option (List T × ByteArray × Nat)) :
    Calls Try.prog 72 #[.string s, .int .i64 p, .int .i64 d] w (RefFront w p (rdNode d p s sub)) := by
  have e : rdNode d p s sub = some (.mk 0 0 ⟨#[]⟩ [] 0, tl s, p - 1) := by unfold rdNode; rw [if_neg (by omega), if_pos hk]
  rw [e]
  obtain ⟨w1, hw1⟩ : ∃ w1, w1 = w.alloc (.cells #[.int .u8 0, .int .i64 0, .string ⟨#[]⟩, .slice none 0 0, .int .i64 0] 26 (0, 0)) := ⟨_, rfl⟩
  have hb1 : Below w.heap.size w w1 := by rw [hw1]; exact (Below.refl _ _).alloc (Nat.le_refl _) _
  have D0 : w1.heap[w.heap.size]? = some (.cells #[.int .u8 0, .int .i64 0, .string ⟨#[]⟩, .slice none 0 0, .int .i64 0] 26 (0, 0)) := by rw [hw1]; exact blk_new _ _
  have hlt : w.heap.size < w1.heap.size := (Array.getElem?_eq_some_iff.1 D0).1
  have E0 := Lib.hid D0
  have HB := Lib.hid hb1
  have hse := not_empty hs0
  have hx : (s[0]'hs0).toNat = 0 := by have := hd_eq0 hs0; rw [hk] at this; omega
  have i1 : (1 : Int) ≤ (s.size : Int) := by omega
  have i2 : ¬ (p : Int) < 1 := by omega
  have E1 := Lib.hid ((Below.heap_alloc w1 (.cells #[.int .u8 0, .int .i64 0, .string ⟨#[]⟩, .slice none 0 0, .int .i64 0] 26) _ hlt).trans D0)
  clear D0 hb1 hk
  go_enter Try.func72, Try.ntmps72
  go_upto_region 1 with (fail)
  rw [← hw1]
  clear hw1
  go_wp2_with (refine wpList_put _ rfl _ _ rfl w.heap.size _ _ _ _ _ _ _ _ _ _ (by rfl) (by rfl) (by simp [Value.oneCell']) E1.out ?_; rintro wP hP)
  refine post_cell26f Try.results72 rfl rfl rfl rfl hP.at_ ⟨.inl ⟨.mk 0 0 ⟨#[]⟩ [] 0, tl s, p - 1, none, 0, rfl, ?_, T.zero_in' _ _ _, by simp [T.wf, T.wfs, ByteArray.size], by omega⟩, HB.out.trans (((Below.refl _ _).alloc (by omega) _).trans (hP.below (Nat.le_refl _)))⟩
  have e1 : (p : Int) - ((p - 1 : Nat) : Int) = 1 := by omega
  rw [e1]
  rfl
set_option maxRecDepth 100000 in
set_option maxHeartbeats 2000000 in
theorem refFront_oth (s : ByteArray) (p d : Nat) (w : World) (hs0 : 0 < s.size) (hsz : s.size ≤ 140737488351232) (hp : 0 < p) (hp2 : p ≤ 1000000) (k0 : ¬ hd s = 0) (k1 : ¬ hd s = 1) (k4 : ¬ hd s = 4) (k2 : ¬ hd s = 2) (k3 : ¬ hd s = 3) (sub : Nat → Nat → ByteArray → Option (List T × ByteArray × Nat)) :
    Calls Try.prog 72 #[.string s, .int .i64 p, .int .i64 d] w (RefFront w p (rdNode d p s sub)) := by
  have e : rdNode d p s sub = none := by unfold rdNode; rw [if_neg (by omega), if_neg k0, if_neg k1, if_neg k4, if_neg k2, if_neg k3]
  rw [e]
  obtain ⟨w1, hw1⟩ : ∃ w1, w1 = w.alloc (.cells #[.int .u8 0, .int .i64 0, .string ⟨#[]⟩, .slice none 0 0, .int .i64 0] 26 (0, 0)) := ⟨_, rfl⟩
  have hb1 : Below w.heap.size w w1 := by rw [hw1]; exact (Below.refl _ _).alloc (Nat.le_refl _) _
  have D0 : w1.heap[w.heap.size]? = some (.cells #[.int .u8 0, .int .i64 0, .string ⟨#[]⟩, .slice none 0 0, .int .i64 0] 26 (0, 0)) := by rw [hw1]; exact blk_new _ _
  have hlt : w.heap.size < w1.heap.size := (Array.getElem?_eq_some_iff.1 D0).1
  have E0 := Lib.hid D0
  have HB := Lib.hid hb1
  have hse := not_empty hs0
  obtain ⟨x, hx⟩ : ∃ x : Nat, (s[0]'hs0).toNat = x := ⟨_, rfl⟩
  have hxh : (x : Int) = hd s := by rw [← hx]; exact hd_eq0 hs0
  have g0 : ((x : Int) == 0) = false := by simp; omega
  have g1 : ((x : Int) == 1) = false := by simp; omega
  have g2 : ((x : Int) == 2) = false := by simp; omega
  have g3 : ((x : Int) == 3) = false := by simp; omega
  have g4 : ((x : Int) == 4) = false := by simp; omega
  have n0 : ¬ x = 0 := by omega
  have n1 : ¬ x = 1 := by omega
  have n2 : ¬ x = 2 := by omega
  have n3 : ¬ x = 3 := by omega
  have n4 : ¬ x = 4 := by omega
  have i1 : (1 : Int) ≤ (s.size : Int) := by omega
  have i2 : ¬ (p : Int) < 1 := by omega
  have E1 := Lib.hid ((Below.heap_alloc w1 (.cells #[.int .u8 x, .int .i64 0, .string ⟨#[]⟩, .slice none 0 0, .int .i64 0] 26) _ hlt).trans D0)
  clear D0 hb1 k0 k1 k2 k3 k4 hxh
  go_enter Try.func72, Try.ntmps72
  go_upto_region 1 with (fail)
  rw [← hw1]
  clear hw1
  go_wp2_with (refine wpList_put _ rfl _ _ rfl w.heap.size _ _ _ _ _ _ _ _ _ _ (by rfl) (by rfl) (by simp [Value.oneCell']) E1.out ?_; rintro wP hP)
  exact post_cell26f Try.results72 rfl rfl rfl rfl hP.at_ ⟨.inr ⟨rfl, rfl⟩, HB.out.trans (((Below.refl _ _).alloc (by omega) _).trans (hP.below (Nat.le_refl _)))⟩
theorem zbox0 {w w' : World} {o : Obj} (h : Below (w.alloc o).heap.size (w.alloc o) w') : w'.heap[w.heap.size]? = some o := (h.block _ (by simp)).trans (blk_new w o)

set_option maxRecDepth 100000 in
set_option maxHeartbeats 2000000 in
theorem refFront_num0 (s : ByteArray) (p d : Nat) (w : World) (hs0 : 0 < s.size) (hsz : s.size ≤ 140737488351232) (hp : 0 < p) (hp2 : p ≤ 1000000) (k1 : hd s = 1) (hq : (tl s).size < 8) (sub : Nat → Nat → ByteArray → Option (List T × ByteArray × Nat)) :
    Calls Try.prog 72 #[.string s, .int .i64 p, .int .i64 d] w (RefFront w p (rdNode d p s sub)) := by
  have e : rdNode d p s sub = none := by unfold rdNode; rw [if_neg (by omega), if_neg (by omega), if_pos k1, if_pos hq]
  rw [e]
  obtain ⟨w1, hw1⟩ : ∃ w1, w1 = w.alloc (.cells #[.int .u8 0, .int .i64 0, .string ⟨#[]⟩, .slice none 0 0, .int .i64 0] 26 (0, 0)) := ⟨_, rfl⟩
  have hb1 : Below w.heap.size w w1 := by rw [hw1]; exact (Below.refl _ _).alloc (Nat.le_refl _) _
  have D0 : w1.heap[w.heap.size]? = some (.cells #[.int .u8 0, .int .i64 0, .string ⟨#[]⟩, .slice none 0 0, .int .i64 0] 26 (0, 0)) := by rw [hw1]; exact blk_new _ _
  have hlt : w.heap.size < w1.heap.size := (Array.getElem?_eq_some_iff.1 D0).1
  have E0 := Lib.hid D0
  have hne9 : w.heap.size ≠ w1.heap.size := by omega
  have HB := Lib.hid hb1
  have hse := not_empty hs0
  have hx : (s[0]'hs0).toNat = 1 := by have := hd_eq0 hs0; rw [k1] at this; omega
  have htz : (s.extract 1 s.size).size ≤ 140737488351232 := by simp; omega
  have mN := fun W => refNumber_walk 8 (s.extract 1 s.size) W htz (by omega)
  have ha : numAns (s.extract 1 s.size) 8 = .tuple #[.int .u64 0, .string (s.extract 1 s.size), .bool false] := by unfold numAns; exact if_pos hq
  rw [ha] at mN
  have mN8 : ∀ W, Calls Try.prog 95 #[.string (s.extract 1 s.size), .int .i64 8] W fun e w' => e = .returned (.tuple #[.int .u64 0, .string (s.extract 1 s.size), .bool false]) ∧ Below W.heap.size W w' := mN
  have i1 : (1 : Int) ≤ (s.size : Int) := by omega
  have i2 : ¬ (p : Int) < 1 := by omega
  have E1 := Lib.hid ((Below.heap_alloc w1 (.cells #[.int .u8 1, .int .i64 0, .string ⟨#[]⟩, .slice none 0 0, .int .i64 0] 26) _ hlt).trans D0)
  clear D0 hb1 k1 mN ha
  go_enter Try.func72, Try.ntmps72
  go_upto_region 1 with (fail)
  rw [← hw1]
  clear hw1
  go_wp2_with (first
    | (go_at_call 95; refine (mN8 _).mono ?_; clear mN8; rintro e w2 ⟨rfl, hb2⟩; have G0 := (hb2.block w.heap.size (by rw [World.size_alloc]; omega)).trans E1.out; have Y1 := zbox0 hb2; obtain ⟨x0, x1, x2, x3, x4, f0, f1, f2, f3, f4⟩ := blk5 Y1; have hz2 := hb2.size)
    | (refine wpList_put _ rfl _ _ rfl w.heap.size _ _ _ _ _ _ _ _ _ _ (by rfl) (by rfl) (by simp [Value.oneCell']) ((Below.heap_setCell _ _ _ _ hne9).trans G0) ?_; rintro wP hP))
  exact post_cell26f Try.results72 rfl rfl rfl rfl hP.at_ ⟨.inr ⟨rfl, rfl⟩, HB.out.trans (((((Below.refl _ _).alloc (by omega) _).trans (hb2.mono (by simp; omega))).setCell (p := ⟨w1.heap.size, 1, none⟩) (by show w.heap.size ≤ w1.heap.size; omega) _).trans (hP.below (Nat.le_refl _)))⟩
theorem xor_back (N : Int) (h0 : 0 ≤ N) (h1 : N < 18446744073709551616) : IntKind.i64.wrap (bits .xor .u64 N 9223372036854775808) = N - 9223372036854775808 := by
  have hw : IntKind.u64.wrap (N - 9223372036854775808) = (N + 9223372036854775808) % 18446744073709551616 := by rw [IntKind.wrap_u64]; omega
  by_cases h : 9223372036854775808 ≤ N
  · obtain ⟨Y, hY⟩ : ∃ Y : Nat, N = (Y : Int) + 9223372036854775808 := ⟨(N - 9223372036854775808).toNat, by omega⟩
    subst hY
    have e : ((Y : Int) + 9223372036854775808) = ((Y + 9223372036854775808 : Nat) : Int) := by omega
    have e2 : (9223372036854775808 : Int) = ((9223372036854775808 : Nat) : Int) := rfl
    have q : bits .xor .u64 ((Y + 9223372036854775808 : Nat) : Int) ((9223372036854775808 : Nat) : Int) = (Y : Int) := by
      rw [bits_xor_u64_nat (Y + 9223372036854775808) 9223372036854775808 (by omega) (by omega), ← xor_top Y (by omega), Nat.xor_assoc, Nat.xor_self, Nat.xor_zero]
    have q2 : bits .xor .u64 ((Y : Int) + 9223372036854775808) 9223372036854775808 = (Y : Int) := by rw [e]; exact q
    rw [q2, IntWalk.i64_in _ (by omega)]
    omega
  · obtain ⟨X, rfl⟩ : ∃ X : Nat, N = (X : Int) := ⟨N.toNat, by omega⟩
    have q : bits .xor .u64 (X : Int) 9223372036854775808 = (X : Int) + 9223372036854775808 := by
      have e2 : (9223372036854775808 : Int) = ((9223372036854775808 : Nat) : Int) := rfl
      rw [e2, bits_xor_u64_nat X 9223372036854775808 (by omega) (by omega), xor_top X (by omega)]
      omega
    rw [q]
    unfold IntKind.wrap
    simp [IntKind.signed, IntKind.bits]
    omega

set_option maxRecDepth 100000 in
set_option maxHeartbeats 2000000 in
theorem refFront_num1 (s : ByteArray) (p d : Nat) (w : World) (hs0 : 0 < s.size) (hsz : s.size ≤ 140737488351232) (hp : 0 < p) (hp2 : p ≤ 1000000) (k1 : hd s = 1) (hq : ¬ (tl s).size < 8) (sub : Nat → Nat → ByteArray → Option (List T × ByteArray × Nat)) :
    Calls Try.prog 72 #[.string s, .int .i64 p, .int .i64 d] w (RefFront w p (rdNode d p s sub)) := by
  have e : rdNode d p s sub = some (.mk 1 (numOf ((tl s).extract 0 8) - 9223372036854775808) ⟨#[]⟩ [] 0, cut 8 (tl s), p - 1) := by unfold rdNode; rw [if_neg (by omega), if_neg (by omega), if_pos k1, if_neg hq]
  rw [e]
  obtain ⟨w1, hw1⟩ : ∃ w1, w1 = w.alloc (.cells #[.int .u8 0, .int .i64 0, .string ⟨#[]⟩, .slice none 0 0, .int .i64 0] 26 (0, 0)) := ⟨_, rfl⟩
  have hb1 : Below w.heap.size w w1 := by rw [hw1]; exact (Below.refl _ _).alloc (Nat.le_refl _) _
  have D0 : w1.heap[w.heap.size]? = some (.cells #[.int .u8 0, .int .i64 0, .string ⟨#[]⟩, .slice none 0 0, .int .i64 0] 26 (0, 0)) := by rw [hw1]; exact blk_new _ _
  have hlt : w.heap.size < w1.heap.size := (Array.getElem?_eq_some_iff.1 D0).1
  have E0 := Lib.hid D0
  have hne9 : w.heap.size ≠ w1.heap.size := by omega
  have HB := Lib.hid hb1
  have hse := not_empty hs0
  have hx : (s[0]'hs0).toNat = 1 := by have := hd_eq0 hs0; rw [k1] at this; omega
  have htz : (s.extract 1 s.size).size ≤ 140737488351232 := by simp; omega
  have mN := fun W => refNumber_walk 8 (s.extract 1 s.size) W htz (by omega)
  obtain ⟨N, hN⟩ : ∃ N, numOf ((s.extract 1 s.size).extract 0 8) = N := ⟨_, rfl⟩
  have hN' : numOf ((tl s).extract 0 8) = N := hN
  obtain ⟨r, hr⟩ : ∃ r, (s.extract 1 s.size).extract 8 (s.extract 1 s.size).size = r := ⟨_, rfl⟩
  have hr' : cut 8 (tl s) = r := hr
  have ha : numAns (s.extract 1 s.size) 8 = .tuple #[.int .u64 N, .string r, .bool true] := by unfold numAns; rw [hN, hr]; exact if_neg hq
  have hNr : 0 ≤ N ∧ N < 18446744073709551616 := by
    rw [← hN]
    have h1 := numL_lt ((s.extract 1 s.size).extract 0 8).data.toList
    have h2 : (256 : Nat) ^ ((s.extract 1 s.size).extract 0 8).data.toList.length ≤ 256 ^ 8 := Nat.pow_le_pow_right (by omega) (by rw [Array.length_toList]; show ((s.extract 1 s.size).extract 0 8).size ≤ 8; simp; omega)
    have h3 : ((256 : Int) ^ ((s.extract 1 s.size).extract 0 8).data.toList.length) = ((256 ^ ((s.extract 1 s.size).extract 0 8).data.toList.length : Nat) : Int) := by simp
    rw [h3] at h1
    unfold numOf
    omega
  have hxx : IntKind.i64.wrap (bits .xor .u64 N 9223372036854775808) = N - 9223372036854775808 := xor_back N hNr.1 hNr.2
  rw [ha] at mN
  rw [hN', hr']
  have mN8 : ∀ W, Calls Try.prog 95 #[.string (s.extract 1 s.size), .int .i64 8] W fun e w' => e = .returned (.tuple #[.int .u64 N, .string r, .bool true]) ∧ Below W.heap.size W w' := mN
  have HNR := Lib.hid hNr
  have i1 : (1 : Int) ≤ (s.size : Int) := by omega
  have i2 : ¬ (p : Int) < 1 := by omega
  have E1 := Lib.hid ((Below.heap_alloc w1 (.cells #[.int .u8 1, .int .i64 0, .string ⟨#[]⟩, .slice none 0 0, .int .i64 0] 26) _ hlt).trans D0)
  clear D0 hb1 k1 mN ha hN hN' hr hr' hq hNr htz
  go_enter Try.func72, Try.ntmps72
  go_upto_region 1 with (fail)
  rw [← hw1]
  clear hw1
  go_wp2_with (first
    | (go_at_call 95; refine (mN8 _).mono ?_; clear mN8; rintro e w2 ⟨rfl, hb2⟩; have G0 := (hb2.block w.heap.size (by rw [World.size_alloc]; omega)).trans E1.out; have Y1 := zbox0 hb2; obtain ⟨x0, x1, x2, x3, x4, f0, f1, f2, f3, f4⟩ := blk5 Y1; have hz2 := hb2.size)
    | (refine wpList_put _ rfl _ _ rfl w.heap.size _ _ _ _ _ _ _ _ _ _ (by rfl) (by rfl) (by simp [Value.oneCell']) ((Below.heap_setCell _ _ _ _ hne9).trans G0) ?_; rintro wP hP))
  have hnr := HNR.out
  refine post_cell26f Try.results72 rfl rfl rfl rfl hP.at_ ⟨.inl ⟨.mk 1 (N - 9223372036854775808) ⟨#[]⟩ [] 0, r, p - 1, none, 0, rfl, ?_, by rw [T.In]; exact ⟨Nat.le_refl _, .inl rfl⟩, by simp [T.wf, T.wfs, ByteArray.size]; omega, by omega⟩, HB.out.trans (((((Below.refl _ _).alloc (by omega) _).trans (hb2.mono (by simp; omega))).setCell (p := ⟨w1.heap.size, 1, none⟩) (by show w.heap.size ≤ w1.heap.size; omega) _).trans (hP.below (Nat.le_refl _)))⟩
  have e1 : (p : Int) - ((p - 1 : Nat) : Int) = 1 := by omega
  rw [e1]
  rfl
set_option maxRecDepth 100000 in
set_option maxHeartbeats 2000000 in
theorem refFront_ref0 (s : ByteArray) (p d : Nat) (w : World) (hs0 : 0 < s.size) (hsz : s.size ≤ 140737488351232) (hp : 0 < p) (hp2 : p ≤ 1000000) (k4 : hd s = 4) (hq : (tl s).size < 4) (sub : Nat → Nat → ByteArray → Option (List T × ByteArray × Nat)) :
    Calls Try.prog 72 #[.string s, .int .i64 p, .int .i64 d] w (RefFront w p (rdNode d p s sub)) := by
  have e : rdNode d p s sub = none := by unfold rdNode; rw [if_neg (by omega), if_neg (by omega), if_neg (by omega), if_pos k4, if_pos hq]
  rw [e]
  obtain ⟨w1, hw1⟩ : ∃ w1, w1 = w.alloc (.cells #[.int .u8 0, .int .i64 0, .string ⟨#[]⟩, .slice none 0 0, .int .i64 0] 26 (0, 0)) := ⟨_, rfl⟩
  have hb1 : Below w.heap.size w w1 := by rw [hw1]; exact (Below.refl _ _).alloc (Nat.le_refl _) _
  have D0 : w1.heap[w.heap.size]? = some (.cells #[.int .u8 0, .int .i64 0, .string ⟨#[]⟩, .slice none 0 0, .int .i64 0] 26 (0, 0)) := by rw [hw1]; exact blk_new _ _
  have hlt : w.heap.size < w1.heap.size := (Array.getElem?_eq_some_iff.1 D0).1
  have E0 := Lib.hid D0
  have hne9 : w.heap.size ≠ w1.heap.size := by omega
  have HB := Lib.hid hb1
  have hse := not_empty hs0
  have hx : (s[0]'hs0).toNat = 4 := by have := hd_eq0 hs0; rw [k4] at this; omega
  have htz : (s.extract 1 s.size).size ≤ 140737488351232 := by simp; omega
  have mN := fun W => refNumber_walk 4 (s.extract 1 s.size) W htz (by omega)
  have ha : numAns (s.extract 1 s.size) 4 = .tuple #[.int .u64 0, .string (s.extract 1 s.size), .bool false] := by unfold numAns; exact if_pos hq
  rw [ha] at mN
  have mN8 : ∀ W, Calls Try.prog 95 #[.string (s.extract 1 s.size), .int .i64 4] W fun e w' => e = .returned (.tuple #[.int .u64 0, .string (s.extract 1 s.size), .bool false]) ∧ Below W.heap.size W w' := mN
  have i1 : (1 : Int) ≤ (s.size : Int) := by omega
  have i2 : ¬ (p : Int) < 1 := by omega
  have E1 := Lib.hid ((Below.heap_alloc w1 (.cells #[.int .u8 4, .int .i64 0, .string ⟨#[]⟩, .slice none 0 0, .int .i64 0] 26) _ hlt).trans D0)
  clear D0 hb1 k4 mN ha
  go_enter Try.func72, Try.ntmps72
  go_upto_region 1 with (fail)
  rw [← hw1]
  clear hw1
  go_wp2_with (first
    | (go_at_call 95; refine (mN8 _).mono ?_; clear mN8; rintro e w2 ⟨rfl, hb2⟩; have G0 := (hb2.block w.heap.size (by rw [World.size_alloc]; omega)).trans E1.out; have Y1 := zbox0 hb2; obtain ⟨x0, x1, x2, x3, x4, f0, f1, f2, f3, f4⟩ := blk5 Y1; have hz2 := hb2.size)
    | (refine wpList_put _ rfl _ _ rfl w.heap.size _ _ _ _ _ _ _ _ _ _ (by rfl) (by rfl) (by simp [Value.oneCell']) ((Below.heap_setCell _ _ _ _ hne9).trans G0) ?_; rintro wP hP))
  exact post_cell26f Try.results72 rfl rfl rfl rfl hP.at_ ⟨.inr ⟨rfl, rfl⟩, HB.out.trans (((((Below.refl _ _).alloc (by omega) _).trans (hb2.mono (by simp; omega))).setCell (p := ⟨w1.heap.size, 4, none⟩) (by show w.heap.size ≤ w1.heap.size; omega) _).trans (hP.below (Nat.le_refl _)))⟩

set_option maxRecDepth 100000 in
set_option maxHeartbeats 2000000 in
theorem refFront_ref1 (s : ByteArray) (p d : Nat) (w : World) (hs0 : 0 < s.size) (hsz : s.size ≤ 140737488351232) (hp : 0 < p) (hp2 : p ≤ 1000000) (k4 : hd s = 4) (hq : ¬ (tl s).size < 4) (hz : ¬ numOf ((tl s).extract 0 4) = 0) (sub : Nat → Nat → ByteArray → Option (List T × ByteArray × Nat)) :
    Calls Try.prog 72 #[.string s, .int .i64 p, .int .i64 d] w (RefFront w p (rdNode d p s sub)) := by
  have e : rdNode d p s sub = some (.mk 4 0 ⟨#[]⟩ [] (numOf ((tl s).extract 0 4)), cut 4 (tl s), p - 1) := by unfold rdNode; rw [if_neg (by omega), if_neg (by omega), if_neg (by omega), if_pos k4, if_neg hq, if_neg hz]
  rw [e]
  obtain ⟨w1, hw1⟩ : ∃ w1, w1 = w.alloc (.cells #[.int .u8 0, .int .i64 0, .string ⟨#[]⟩, .slice none 0 0, .int .i64 0] 26 (0, 0)) := ⟨_, rfl⟩
  have hb1 : Below w.heap.size w w1 := by rw [hw1]; exact (Below.refl _ _).alloc (Nat.le_refl _) _
  have D0 : w1.heap[w.heap.size]? = some (.cells #[.int .u8 0, .int .i64 0, .string ⟨#[]⟩, .slice none 0 0, .int .i64 0] 26 (0, 0)) := by rw [hw1]; exact blk_new _ _
  have hlt : w.heap.size < w1.heap.size := (Array.getElem?_eq_some_iff.1 D0).1
  have E0 := Lib.hid D0
  have hne9 : w.heap.size ≠ w1.heap.size := by omega
  have HB := Lib.hid hb1
  have hse := not_empty hs0
  have hx : (s[0]'hs0).toNat = 4 := by have := hd_eq0 hs0; rw [k4] at this; omega
  have htz : (s.extract 1 s.size).size ≤ 140737488351232 := by simp; omega
  have mN := fun W => refNumber_walk 4 (s.extract 1 s.size) W htz (by omega)
  obtain ⟨N, hN⟩ : ∃ N, numOf ((s.extract 1 s.size).extract 0 4) = N := ⟨_, rfl⟩
  have hN' : numOf ((tl s).extract 0 4) = N := hN
  obtain ⟨r, hr⟩ : ∃ r, (s.extract 1 s.size).extract 4 (s.extract 1 s.size).size = r := ⟨_, rfl⟩
  have hr' : cut 4 (tl s) = r := hr
  have ha : numAns (s.extract 1 s.size) 4 = .tuple #[.int .u64 N, .string r, .bool true] := by unfold numAns; rw [hN, hr]; exact if_neg hq
  have hNr : 0 ≤ N ∧ N < 4294967296 := by
    rw [← hN]
    have h1 := numL_lt ((s.extract 1 s.size).extract 0 4).data.toList
    have h2 : (256 : Nat) ^ ((s.extract 1 s.size).extract 0 4).data.toList.length ≤ 256 ^ 4 := Nat.pow_le_pow_right (by omega) (by rw [Array.length_toList]; show ((s.extract 1 s.size).extract 0 4).size ≤ 4; simp; omega)
    have h3 : ((256 : Int) ^ ((s.extract 1 s.size).extract 0 4).data.toList.length) = ((256 ^ ((s.extract 1 s.size).extract 0 4).data.toList.length : Nat) : Int) := by simp
    rw [h3] at h1
    unfold numOf
    omega
  rw [hN'] at hz
  have hpos : (0 : Int) < N := by omega
  have hxx : IntKind.i64.wrap N = N := IntWalk.i64_in _ (by omega)
  rw [ha] at mN
  rw [hN', hr']
  have mN8 : ∀ W, Calls Try.prog 95 #[.string (s.extract 1 s.size), .int .i64 4] W fun e w' => e = .returned (.tuple #[.int .u64 N, .string r, .bool true]) ∧ Below W.heap.size W w' := mN
  have HNR := Lib.hid hNr
  have i1 : (1 : Int) ≤ (s.size : Int) := by omega
  have i2 : ¬ (p : Int) < 1 := by omega
  have E1 := Lib.hid ((Below.heap_alloc w1 (.cells #[.int .u8 4, .int .i64 0, .string ⟨#[]⟩, .slice none 0 0, .int .i64 0] 26) _ hlt).trans D0)
  clear D0 hb1 k4 mN ha hN hN' hr hr' hq hNr htz hz
  go_enter Try.func72, Try.ntmps72
  go_upto_region 1 with (fail)
  rw [← hw1]
  clear hw1
  go_wp2_with (first
    | (go_at_call 95; refine (mN8 _).mono ?_; clear mN8; rintro e w2 ⟨rfl, hb2⟩; have G0 := (hb2.block w.heap.size (by rw [World.size_alloc]; omega)).trans E1.out; have Y1 := zbox0 hb2; obtain ⟨x0, x1, x2, x3, x4, f0, f1, f2, f3, f4⟩ := blk5 Y1; have hz2 := hb2.size)
    | (refine wpList_put _ rfl _ _ rfl w.heap.size _ _ _ _ _ _ _ _ _ _ (by rfl) (by rfl) (by simp [Value.oneCell']) ((Below.heap_setCell _ _ _ _ hne9).trans G0) ?_; rintro wP hP))
  have hnr := HNR.out
  refine post_cell26f Try.results72 rfl rfl rfl rfl hP.at_ ⟨.inl ⟨.mk 4 0 ⟨#[]⟩ [] N, r, p - 1, none, 0, rfl, ?_, by rw [T.In]; exact ⟨Nat.le_refl _, .inl rfl⟩, by simp [T.wf, T.wfs, ByteArray.size]; omega, by omega⟩, HB.out.trans (((((Below.refl _ _).alloc (by omega) _).trans (hb2.mono (by simp; omega))).setCell (p := ⟨w1.heap.size, 4, none⟩) (by show w.heap.size ≤ w1.heap.size; omega) _).trans (hP.below (Nat.le_refl _)))⟩
  have e1 : (p : Int) - ((p - 1 : Nat) : Int) = 1 := by omega
  rw [e1]
  rfl
set_option maxRecDepth 100000 in
set_option maxHeartbeats 2000000 in
theorem refFront_refz (s : ByteArray) (p d : Nat) (w : World) (hs0 : 0 < s.size) (hsz : s.size ≤ 140737488351232) (hp : 0 < p) (hp2 : p ≤ 1000000) (k4 : hd s = 4) (hq : ¬ (tl s).size < 4) (hz : numOf ((tl s).extract 0 4) = 0) (sub : Nat → Nat → ByteArray → Option (List T × ByteArray × Nat)) :
    Calls Try.prog 72 #[.string s, .int .i64 p, .int .i64 d] w (RefFront w p (rdNode d p s sub)) := by
  have e : rdNode d p s sub = none := by unfold rdNode; rw [if_neg (by omega), if_neg (by omega), if_neg (by omega), if_pos k4, if_neg hq, if_pos hz]
  rw [e]
  obtain ⟨w1, hw1⟩ : ∃ w1, w1 = w.alloc (.cells #[.int .u8 0, .int .i64 0, .string ⟨#[]⟩, .slice none 0 0, .int .i64 0] 26 (0, 0)) := ⟨_, rfl⟩
  have hb1 : Below w.heap.size w w1 := by rw [hw1]; exact (Below.refl _ _).alloc (Nat.le_refl _) _
  have D0 : w1.heap[w.heap.size]? = some (.cells #[.int .u8 0, .int .i64 0, .string ⟨#[]⟩, .slice none 0 0, .int .i64 0] 26 (0, 0)) := by rw [hw1]; exact blk_new _ _
  have hlt : w.heap.size < w1.heap.size := (Array.getElem?_eq_some_iff.1 D0).1
  have E0 := Lib.hid D0
  have hne9 : w.heap.size ≠ w1.heap.size := by omega
  have HB := Lib.hid hb1
  have hse := not_empty hs0
  have hx : (s[0]'hs0).toNat = 4 := by have := hd_eq0 hs0; rw [k4] at this; omega
  have htz : (s.extract 1 s.size).size ≤ 140737488351232 := by simp; omega
  have mN := fun W => refNumber_walk 4 (s.extract 1 s.size) W htz (by omega)
  obtain ⟨N, hN⟩ : ∃ N, numOf ((s.extract 1 s.size).extract 0 4) = N := ⟨_, rfl⟩
  have hN' : numOf ((tl s).extract 0 4) = N := hN
  obtain ⟨r, hr⟩ : ∃ r, (s.extract 1 s.size).extract 4 (s.extract 1 s.size).size = r := ⟨_, rfl⟩
  have hr' : cut 4 (tl s) = r := hr
  have ha : numAns (s.extract 1 s.size) 4 = .tuple #[.int .u64 N, .string r, .bool true] := by unfold numAns; rw [hN, hr]; exact if_neg hq
  have hNr : 0 ≤ N ∧ N < 4294967296 := by
    rw [← hN]
    have h1 := numL_lt ((s.extract 1 s.size).extract 0 4).data.toList
    have h2 : (256 : Nat) ^ ((s.extract 1 s.size).extract 0 4).data.toList.length ≤ 256 ^ 4 := Nat.pow_le_pow_right (by omega) (by rw [Array.length_toList]; show ((s.extract 1 s.size).extract 0 4).size ≤ 4; simp; omega)
    have h3 : ((256 : Int) ^ ((s.extract 1 s.size).extract 0 4).data.toList.length) = ((256 ^ ((s.extract 1 s.size).extract 0 4).data.toList.length : Nat) : Int) := by simp
    rw [h3] at h1
    unfold numOf
    omega
  rw [hN'] at hz
  subst hz
  have hxx : IntKind.i64.wrap 0 = 0 := IntWalk.i64_in _ (by omega)
  rw [ha] at mN
  have mN8 : ∀ W, Calls Try.prog 95 #[.string (s.extract 1 s.size), .int .i64 4] W fun e w' => e = .returned (.tuple #[(.int .u64 0), .string r, .bool true]) ∧ Below W.heap.size W w' := mN
  have HNR := Lib.hid hNr
  have i1 : (1 : Int) ≤ (s.size : Int) := by omega
  have i2 : ¬ (p : Int) < 1 := by omega
  have E1 := Lib.hid ((Below.heap_alloc w1 (.cells #[.int .u8 4, .int .i64 0, .string ⟨#[]⟩, .slice none 0 0, .int .i64 0] 26) _ hlt).trans D0)
  clear D0 hb1 k4 mN ha hN hN' hr hr' hq hNr htz
  go_enter Try.func72, Try.ntmps72
  go_upto_region 1 with (fail)
  rw [← hw1]
  clear hw1
  go_wp2_with (first
    | (go_at_call 95; refine (mN8 _).mono ?_; clear mN8; rintro e w2 ⟨rfl, hb2⟩; have G0 := (hb2.block w.heap.size (by rw [World.size_alloc]; omega)).trans E1.out; have Y1 := zbox0 hb2; obtain ⟨x0, x1, x2, x3, x4, f0, f1, f2, f3, f4⟩ := blk5 Y1; have hz2 := hb2.size)
    | (refine wpList_put _ rfl _ _ rfl w.heap.size _ _ _ _ _ _ _ _ _ _ (by rfl) (by rfl) (by simp [Value.oneCell']) ((Below.heap_setCell _ _ _ _ hne9).trans G0) ?_; rintro wP hP))
  exact post_cell26f Try.results72 rfl rfl rfl rfl hP.at_ ⟨.inr ⟨rfl, rfl⟩, HB.out.trans (((((Below.refl _ _).alloc (by omega) _).trans (hb2.mono (by simp; omega))).setCell (p := ⟨w1.heap.size, 4, none⟩) (by show w.heap.size ≤ w1.heap.size; omega) _).trans (hP.below (Nat.le_refl _)))⟩
end Go.Proofs.Ytapfmfihhpafcaa
