/-
  posternref02.bytes: the document's bytes of a value.
-/
import Derived.Test.YtapfmfihhpafcaaN1
import Derived.Test.YtapfmfihhpafcaaB6
import Derived.Test.YtapfmfihhpafcaaD9
import Derived.Laws.Bits64
namespace Go.Proofs.Ytapfmfihhpafcaa
open Go.RowKit
set_option linter.unusedVariables false

theorem refBig8 (n : Int) (w : World) (hn0 : 0 ≤ n) (hn1 : n < 18446744073709551616) : Calls Try.prog 91 #[.int .u64 n, .int .i64 8] w (NewRow w (big n 8)) := refBig_walk n 8 w hn0 hn1 (by omega)
theorem refBig4 (n : Int) (w : World) (hn0 : 0 ≤ n) (hn1 : n < 18446744073709551616) : Calls Try.prog 91 #[.int .u64 n, .int .i64 4] w (NewRow w (big n 4)) := refBig_walk n 4 w hn0 hn1 (by omega)
theorem refBig2 (n : Int) (w : World) (hn0 : 0 ≤ n) (hn1 : n < 18446744073709551616) : Calls Try.prog 91 #[.int .u64 n, .int .i64 2] w (NewRow w (big n 2)) := refBig_walk n 2 w hn0 hn1 (by omega)

/-- One row behind another. -/
theorem newrow_app {w W w2 w3 : World} {v v3 : Value} {xs ys : List Int} {n m : Nat} {zs : List Value} (hbW : Below w.heap.size w W) (hown : W.ownsRow w.heap.size 5 1 v n zs) (hz : zs = xs.map (.int .u8)) (hn : n = xs.length) (hm : m = ys.length) (hb2 : Below W.heap.size W w2)
    (hown3 : w3.ownsRow w.heap.size 5 1 v3 (n + m) (zs ++ ys.map (.int .u8))) (hgrow3 : w2.grownBy w3 v.ownBlock) : Row w3 w.heap.size v3 (xs ++ ys) ∧ Below w.heap.size w w3 := by
  subst hz hn hm
  refine ⟨?_, Below.grown (hbW.trans (hb2.mono hbW.size)) hgrow3 (by have := hbW.size; have := hb2.size; omega) (fun k hk => (hown.lt k hk).1)⟩
  unfold Row
  rw [List.length_append, List.map_append]
  exact hown3

set_option maxRecDepth 100000 in
set_option maxHeartbeats 2000000 in
theorem refBytes_ref (n r : Int) (s : ByteArray) (l : List T) (a : Option Addr) (c : Nat) (w : World) :
    Calls Try.prog 69 #[(T.mk 4 n s l r).val a c] w (NewRow w (T.mk 4 n s l r).bytes) := by
  obtain ⟨i0, hi, hz0, hz1, hz2⟩ := info_parts info5
  unfold T.val
  simp only [T.k, T.n, T.s, T.l, T.r]
  obtain ⟨w1, hw1⟩ : ∃ w1, w1 = w.alloc (.cells #[.int .u8 4, .int .i64 n, .string s, .slice a l.length c, .int .i64 r] 26 (0, 0)) := ⟨_, rfl⟩
  have hb1 : Below w.heap.size w w1 := by rw [hw1]; exact (Below.refl _ _).alloc (Nat.le_refl _) _
  have D0 : w1.heap[w.heap.size]? = some (.cells #[.int .u8 4, .int .i64 n, .string s, .slice a l.length c, .int .i64 r] 26 (0, 0)) := by rw [hw1]; exact blk_new _ _
  have hz1' : w1.heap.size = w.heap.size + 1 := by rw [hw1]; simp
  obtain ⟨x0, x1, x2, x3, x4, _⟩ := blk5 D0
  have hz1'' := hz1'
  have hown0 : (w1.alloc (.cells #[.int .u8 4] 5)).ownsRow w.heap.size 5 1 (.slice (some ⟨w1.heap.size, 0, none⟩) 1 1) 1 [.int .u8 4] := World.ownsRow_lit (base := w.heap.size) (e := 5) (size := 1) w1 #[.int .u8 4] 1 (by omega) (by unfold maxLen; omega) rfl
  have hb12 : Below w1.heap.size w1 (w1.alloc (.cells #[.int .u8 4] 5)) := (Below.refl _ _).alloc (Nat.le_refl _) _
  have hne1 : ¬ w.heap.size = w1.heap.size := by omega
  have hlt1 : w.heap.size < w1.heap.size := by omega
  have HZ := Lib.hid hz1'
  clear hz1' hz1'' D0
  go_enter Try.func69, Try.ntmps69
  go_upto_region 1 with (fail)
  rw [← hw1]
  clear hw1
  go_wp2_with (first
    | (go_at_call 91; refine (refBig4 _ _ (wrapU_range _).1 (wrapU_range _).2).mono ?_; rintro e w2 ⟨v2, rfl, r3, hb2⟩; have hown2 := ownsRow_of_block'' (w' := w2) hown0 (fun g hg => hb2.block g (hown0.lt g hg).2); have r4 := r3; unfold Row at r4; rw [big_length] at r4)
    | (at_builtin; (refine wpList_append_rows _ rfl _ _ 97 rfl w.heap.size (w1.alloc (.cells #[.int .u8 4] 5)).heap.size 5 i0 _ 1 1 Try.underlying97 hi hz0 hz1 hz2 rfl (by decide) _ 1 _ (by rfl) hown2 v2 4 _ (by rfl) r4 (by simp [Value.oneCell']) (by unfold maxLen; omega) (by omega) (by have hq := hb2.size; rw [World.size_alloc] at hq; have := HZ.out; omega) ?_; intro v3 w3 hown3 hgrow3 hat3)))
  go_ret
  obtain ⟨r5, r6⟩ := newrow_app (xs := [4]) (ys := big (IntKind.u64.wrap r) 4) (hb1.trans (hb12.mono hb1.size)) hown0 rfl rfl (by rw [big_length]) hb2 hown3 hgrow3
  have e : (T.mk 4 n s l r).bytes = [4] ++ big (IntKind.u64.wrap r) 4 := by rw [T.bytes]; simp
  exact ⟨v3, rfl, by rw [e]; exact r5, r6⟩

theorem xor_top (X : Nat) (h : X < 9223372036854775808) : X ^^^ 9223372036854775808 = X + 9223372036854775808 := by
  have e : (9223372036854775808 : Nat) = 2 ^ 63 := by decide
  rw [e] at h ⊢
  apply Nat.eq_of_testBit_eq
  intro i
  rw [Nat.testBit_xor, Nat.testBit_two_pow, Nat.add_comm X]
  by_cases h1 : i < 63
  · rw [Nat.testBit_two_pow_add_gt h1]
    have : decide (63 = i) = false := by simp; omega
    rw [this]; simp
  · by_cases h2 : i = 63
    · subst h2
      rw [Nat.testBit_two_pow_add_eq]; simp
    · have h3 : 2 ^ 63 + X < 2 ^ i := Nat.lt_of_lt_of_le (by omega : 2 ^ 63 + X < 2 ^ 64) (Nat.pow_le_pow_right (by omega) (by omega))
      rw [Nat.testBit_lt_two_pow h3, Nat.testBit_lt_two_pow (by omega : X < 2 ^ i)]
      have : decide (63 = i) = false := by simp; omega
      rw [this]; rfl

theorem xor_sign (n : Int) (h0 : -9223372036854775808 ≤ n) (h1 : n ≤ 9223372036854775807) : bits .xor .u64 (IntKind.u64.wrap n) 9223372036854775808 = n + 9223372036854775808 := by
  rw [IntKind.wrap_u64]
  by_cases h : 0 ≤ n
  · obtain ⟨X, rfl⟩ : ∃ X : Nat, n = (X : Int) := ⟨n.toNat, by omega⟩
    have e : ((X : Int) % 18446744073709551616) = (X : Nat) := by omega
    have e2 : (9223372036854775808 : Int) = ((9223372036854775808 : Nat) : Int) := rfl
    rw [e, e2, bits_xor_u64_nat X 9223372036854775808 (by omega) (by omega), xor_top X (by omega)]
    omega
  · obtain ⟨Y, hY⟩ : ∃ Y : Nat, n = (Y : Int) - 9223372036854775808 := ⟨(n + 9223372036854775808).toNat, by omega⟩
    subst hY
    have e : (((Y : Int) - 9223372036854775808) % 18446744073709551616) = ((Y + 9223372036854775808 : Nat) : Int) := by omega
    have e2 : (9223372036854775808 : Int) = ((9223372036854775808 : Nat) : Int) := rfl
    rw [e]
    conv => lhs; rw [e2]
    rw [bits_xor_u64_nat (Y + 9223372036854775808) 9223372036854775808 (by omega) (by omega), ← xor_top Y (by omega), Nat.xor_assoc, Nat.xor_self, Nat.xor_zero]
    omega

set_option maxRecDepth 100000 in
set_option maxHeartbeats 2000000 in
theorem refBytes_num (n r : Int) (s : ByteArray) (l : List T) (a : Option Addr) (c : Nat) (w : World) (hn0 : -9223372036854775808 ≤ n) (hn1 : n ≤ 9223372036854775807) :
    Calls Try.prog 69 #[(T.mk 1 n s l r).val a c] w (NewRow w (T.mk 1 n s l r).bytes) := by
  obtain ⟨i0, hi, hz0, hz1, hz2⟩ := info_parts info5
  unfold T.val
  simp only [T.k, T.n, T.s, T.l, T.r]
  obtain ⟨w1, hw1⟩ : ∃ w1, w1 = w.alloc (.cells #[.int .u8 1, .int .i64 n, .string s, .slice a l.length c, .int .i64 r] 26 (0, 0)) := ⟨_, rfl⟩
  have hb1 : Below w.heap.size w w1 := by rw [hw1]; exact (Below.refl _ _).alloc (Nat.le_refl _) _
  have D0 : w1.heap[w.heap.size]? = some (.cells #[.int .u8 1, .int .i64 n, .string s, .slice a l.length c, .int .i64 r] 26 (0, 0)) := by rw [hw1]; exact blk_new _ _
  have hz1' : w1.heap.size = w.heap.size + 1 := by rw [hw1]; simp
  obtain ⟨x0, x1, x2, x3, x4, _⟩ := blk5 D0
  have hz1'' := hz1'
  have hown0 : (w1.alloc (.cells #[.int .u8 1] 5)).ownsRow w.heap.size 5 1 (.slice (some ⟨w1.heap.size, 0, none⟩) 1 1) 1 [.int .u8 1] := World.ownsRow_lit (base := w.heap.size) (e := 5) (size := 1) w1 #[.int .u8 1] 1 (by omega) (by unfold maxLen; omega) rfl
  have hb12 : Below w1.heap.size w1 (w1.alloc (.cells #[.int .u8 1] 5)) := (Below.refl _ _).alloc (Nat.le_refl _) _
  have hne1 : ¬ w.heap.size = w1.heap.size := by omega
  have hlt1 : w.heap.size < w1.heap.size := by omega
  have HZ := Lib.hid hz1'
  clear hz1' hz1'' D0
  have hx := xor_sign n hn0 hn1
  go_enter Try.func69, Try.ntmps69
  go_upto_region 1 with (fail)
  rw [← hw1]
  clear hw1
  go_wp2_with (first
    | (go_at_call 91; refine (refBig8 (n + 9223372036854775808) _ (by omega) (by omega)).mono ?_; rintro e w2 ⟨v2, rfl, r3, hb2⟩; have hown2 := ownsRow_of_block'' (w' := w2) hown0 (fun g hg => hb2.block g (hown0.lt g hg).2); have r4 := r3; unfold Row at r4; rw [big_length] at r4)
    | (at_builtin; (refine wpList_append_rows _ rfl _ _ 97 rfl w.heap.size (w1.alloc (.cells #[.int .u8 1] 5)).heap.size 5 i0 _ 1 1 Try.underlying97 hi hz0 hz1 hz2 rfl (by decide) _ 1 _ (by rfl) hown2 v2 8 _ (by rfl) r4 (by simp [Value.oneCell']) (by unfold maxLen; omega) (by omega) (by have hq := hb2.size; rw [World.size_alloc] at hq; have := HZ.out; omega) ?_; intro v3 w3 hown3 hgrow3 hat3)))
  go_ret
  obtain ⟨r5, r6⟩ := newrow_app (xs := [1]) (ys := big (n + 9223372036854775808) 8) (hb1.trans (hb12.mono hb1.size)) hown0 rfl rfl (by rw [big_length]) hb2 hown3 hgrow3
  have e : (T.mk 1 n s l r).bytes = [1] ++ big (n + 9223372036854775808) 8 := by rw [T.bytes]; simp
  exact ⟨v3, rfl, by rw [e]; exact r5, r6⟩

set_option maxRecDepth 100000 in
set_option maxHeartbeats 2000000 in
theorem refBytes_oth (k n r : Int) (s : ByteArray) (l : List T) (a : Option Addr) (c : Nat) (w : World) (h1 : ¬ k = 1) (h2 : ¬ k = 2) (h3 : ¬ k = 3) (h4 : ¬ k = 4) :
    Calls Try.prog 69 #[(T.mk k n s l r).val a c] w (NewRow w (T.mk k n s l r).bytes) := by
  obtain ⟨i0, hi, hz0, hz1, hz2⟩ := info_parts info5
  unfold T.val
  simp only [T.k, T.n, T.s, T.l, T.r]
  obtain ⟨w1, hw1⟩ : ∃ w1, w1 = w.alloc (.cells #[.int .u8 k, .int .i64 n, .string s, .slice a l.length c, .int .i64 r] 26 (0, 0)) := ⟨_, rfl⟩
  have hb1 : Below w.heap.size w w1 := by rw [hw1]; exact (Below.refl _ _).alloc (Nat.le_refl _) _
  have D0 : w1.heap[w.heap.size]? = some (.cells #[.int .u8 k, .int .i64 n, .string s, .slice a l.length c, .int .i64 r] 26 (0, 0)) := by rw [hw1]; exact blk_new _ _
  have hz1' : w1.heap.size = w.heap.size + 1 := by rw [hw1]; simp
  obtain ⟨x0, x1, x2, x3, x4, _⟩ := blk5 D0
  have hz1'' := hz1'
  have hown0 : (w1.alloc (.cells #[.int .u8 k] 5)).ownsRow w.heap.size 5 1 (.slice (some ⟨w1.heap.size, 0, none⟩) 1 1) 1 [.int .u8 k] := World.ownsRow_lit (base := w.heap.size) (e := 5) (size := 1) w1 #[.int .u8 k] 1 (by omega) (by unfold maxLen; omega) rfl
  have hb12 : Below w1.heap.size w1 (w1.alloc (.cells #[.int .u8 k] 5)) := (Below.refl _ _).alloc (Nat.le_refl _) _
  have hne1 : ¬ w.heap.size = w1.heap.size := by omega
  have hlt1 : w.heap.size < w1.heap.size := by omega
  have HZ := Lib.hid hz1'
  clear hz1' hz1'' D0
  have g1 : (k == 1) = false := by simpa using h1
  have g2 : (k == 2) = false := by simpa using h2
  have g3 : (k == 3) = false := by simpa using h3
  have g4 : (k == 4) = false := by simpa using h4
  go_enter Try.func69, Try.ntmps69
  go_upto_region 1 with (fail)
  rw [← hw1]
  clear hw1
  go_wp2_with fail
  go_ret
  have e : (T.mk k n s l r).bytes = [k] := by rw [T.bytes, if_neg h1, if_neg h2, if_neg h3, if_neg h4]
  refine ⟨_, rfl, ?_, hb1.trans (hb12.mono hb1.size)⟩
  rw [e]
  exact hown0

end Go.Proofs.Ytapfmfihhpafcaa
