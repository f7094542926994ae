/-
  posternlaw02.kept: a value is as it was, the marks too.
-/
import Derived.Test.YtapfmfihhpafcaaD3
import Derived.Test.YtapfmfihhpafcaaB9
import Derived.Test.YtapfmfihhpafcaaA6
import Derived.Test.YtapfmfihhpafcaaA5
import Derived.StillTailTactics
namespace Go.Proofs.Ytapfmfihhpafcaa
open Go.RowKit
set_option linter.unusedVariables false

theorem T.In.cap {w : World} {ok : Nat → Prop} {m : Bool} {k n r : Int} {s : ByteArray} {l : List T} {a : Option Addr} {c : Nat} (h : T.In w ok m (.mk k n s l r) a c) : l.length ≤ c := by rw [T.In] at h; exact h.1
theorem T.In.mark {w : World} {ok : Nat → Prop} {k n r : Int} {s : ByteArray} {l : List T} {a : Option Addr} {c : Nat} (h : T.In w ok true (.mk k n s l r) a c) (hl : l ≠ []) :
    ∃ b o, a = some ⟨b, o, none⟩ ∧ ok b ∧ l.length + 1 ≤ c ∧ w.cell? ⟨b, o + l.length * 5 + 1, none⟩ = some (.int .i64 77) := by
  rw [T.In] at h
  rcases h.2 with h0 | ⟨b, o, ha, hb, hm, _⟩
  · exact absurd h0 hl
  · exact ⟨b, o, ha, hb, (hm rfl).1, (hm rfl).2⟩

set_option maxRecDepth 100000 in
set_option maxHeartbeats 4000000 in
theorem kept_walk (t : T) : ∀ (a : Option Addr) (c : Nat) (a' : Option Addr) (c' : Nat) (w : World) (B B' : Nat), T.In w (· < B) true t a c → T.At w B' t a' c' → B ≤ w.heap.size → B' ≤ w.heap.size → t.wf →
    Calls Try.prog 21 #[t.val a c, t.val a' c'] w fun e w' => e = .returned (.bool true) ∧ Below w.heap.size w w' := by
  induction t using T.induct with
  | h k n s l r ih =>
  intro a c a' c' w B B' hin hin' hB hB' hwf
  rw [T.wf, T.wfs_iff] at hwf
  obtain ⟨⟨_, _, _, _, _, _, _, hll⟩, hwl⟩ := hwf
  unfold T.val
  simp only [T.k, T.n, T.s, T.l, T.r]
  obtain ⟨w1, hw1⟩ : ∃ w1, w1 = (w.alloc (.cells #[.int .u8 k, .int .i64 n, .string s, .slice a l.length c, .int .i64 r] 26 (0, 0))).alloc (.cells #[.int .u8 k, .int .i64 n, .string s, .slice a' l.length c', .int .i64 r] 26 (0, 0)) := ⟨_, rfl⟩
  have hb1 : Below w.heap.size w w1 := by rw [hw1]; exact two_boxes _ _ _
  have D0 : w1.heap[w.heap.size]? = some (.cells #[.int .u8 k, .int .i64 n, .string s, .slice a l.length c, .int .i64 r] 26 (0, 0)) := by rw [hw1]; exact two_blk0 _ _ _
  have D1 : w1.heap[w.heap.size + 1]? = some (.cells #[.int .u8 k, .int .i64 n, .string s, .slice a' l.length c', .int .i64 r] 26 (0, 0)) := by rw [hw1]; exact two_blk1 _ _ _
  obtain ⟨x0, x1, x2, x3, x4⟩ := blk5cc D0
  obtain ⟨y0, y1, y2, y3, y4⟩ := blk5cc D1
  have E0 := Lib.hid D0
  have E1 := Lib.hid D1
  clear D0 D1
  by_cases hl : l.length = 0
  · have hl1 : ((l.length : Int) == 0) = true := by simp [hl]
    clear ih hwl hl
    go_enter Try.func21, Try.ntmps21
    go_upto_region 1 with fail
    rw [← hw1]
    clear hw1
    go_wp2_with fail
    go_ret
    exact ⟨rfl, hb1⟩
  have hl1 : ((l.length : Int) == 0) = false := by simpa using hl
  go_enter Try.func21, Try.ntmps21
  go_upto_region 1 with fail
  rw [← hw1]
  clear hw1
  go_wp2_with fail
  go_loopg [5] l.length (fun gg vi wr => ∃ i : Nat, vi = .int .i64 i ∧ i + gg = l.length ∧ Below w1.heap.size w1 wr)
  case atStart => exact ⟨0, rfl, by simp, Below.refl _ _⟩
  case round =>
    obtain ⟨i, rfl, hi, hb⟩ := hrel
    have hzb := hb.size
    have hz1 := hb1.size
    have F0 := (hb.block w.heap.size (Array.getElem?_eq_some_iff.1 E0.out).1).trans E0.out
    have F1 := (hb.block (w.heap.size + 1) (Array.getElem?_eq_some_iff.1 E1.out).1).trans E1.out
    clear x0 x1 x2 x3 x4 y0 y1 y2 y3 y4
    obtain ⟨x0, x1, x2, x3, x4⟩ := blk5cc F0
    obtain ⟨y0, y1, y2, y3, y4⟩ := blk5cc F1
    clear F0 F1 x0 x1 x2 x4 y0 y1 y2 y4
    have hbw : Below w.heap.size w wr := hb1.trans (hb.mono hz1)
    have hinr : T.In wr (· < B) true (.mk k n s l r) a c := T.In.keep (fun b hk => hbw.block b (by omega)) (fun _ h => h) id hin
    by_cases h : i < l.length
    · obtain ⟨b, o, p, d, rfl, hbB, ht, e0, e1, e2, e3, e4⟩ := hinr.elem i h
      obtain ⟨b', o', p', d', rfl, hbB', ht', f0, f1, f2, f3, f4⟩ := (T.At.below hbw hB' hin').elem i h
      obtain ⟨w2, hw2⟩ : ∃ w2, w2 = wr.drew := ⟨_, rfl⟩
      have hb2 : Below wr.heap.size wr w2 := by rw [hw2]; exact (Below.refl _ _).drew
      have hz2 : wr.heap.size ≤ w2.heap.size := hb2.size
      have mC := ih l[i] (List.getElem_mem h) p d p' d' w2 B B' (T.In.keep (fun b hk => hb2.block b (by omega)) (fun _ h => h) id ht) (T.At.below hb2 (by omega) ht') (by omega) (by omega) (hwl _ (List.getElem_mem h))
      unfold T.val at mC
      have HW := Lib.hid hw2
      clear ih hw2 hwl hin hin' hinr ht ht'
      go_upto_region 8 with fail
      go_still_tail 10, (by kernel_rfl)
      change wpList _ _ _ _ _ wr.drew
      rw [← HW.out]
      clear HW
      go_wp2_with (go_at_call 21; refine mC.mono ?_; clear mC; rintro e w3 ⟨rfl, hb3⟩)
      go_roundg (gk - 1)
      case measure => omega
      case rel => exact ⟨i + 1, by go_num, by omega, hb.trans ((hb2.trans (hb3.mono hz2)).mono hzb)⟩
    · have hil : i = l.length := by omega
      subst hil
      obtain ⟨b, o, rfl, hbB, hcap, hmark⟩ := hinr.mark (fun e => hl (by rw [e]; rfl))
      have hcapI : (l.length : Int) + 1 ≤ (c : Int) := by omega
      clear ih hwl hin hin' hinr
      go_upto_region 10 with fail
      go_quiet (fail)
      go_wp2_with fail
      go_ret
      exact ⟨rfl, hbw.trans ⟨rfl, rfl, rfl, Nat.le_refl _, fun _ _ => rfl⟩⟩
end Go.Proofs.Ytapfmfihhpafcaa
