/-
  posternref02.Write.
-/
import Derived.Test.YtapfmfihhpafcaaN3
import Derived.Test.YtapfmfihhpafcaaB7
import Derived.Test.YtapfmfihhpafcaaB9
namespace Go.Proofs.Ytapfmfihhpafcaa
open Go.RowKit
set_option linter.unusedVariables false

theorem someBig_take {l : List Int} (h : ∀ x ∈ l, x ≤ 4294967295) : someBig l = false := by
  unfold someBig
  rw [List.any_eq_false]
  intro x hx
  simpa using h x hx

set_option maxRecDepth 100000 in
set_option maxHeartbeats 1000000 in
theorem refWrite_walk (t : T) (a : Option Addr) (c : Nat) (w : World) (B : Nat) (hin : T.At w B t a c) (hB : B ≤ w.heap.size) (hw : t.wf) :
    Calls Try.prog 23 #[t.val a c] w fun e w' => e = .returned t.bytesAns ∧ Below w.heap.size w w' := by
  obtain ⟨w1, hw1⟩ : ∃ w1, w1 = w.alloc (.cells #[.int .u8 t.k, .int .i64 t.n, .string t.s, .slice a t.l.length c, .int .i64 t.r] 26 (0, 0)) := ⟨_, rfl⟩
  have hb1 : Below w.heap.size w w1 := by rw [hw1]; exact (Below.refl _ _).alloc (Nat.le_refl _) _
  have D0 : w1.heap[w.heap.size]? = some (.cells #[.int .u8 t.k, .int .i64 t.n, .string t.s, .slice a t.l.length c, .int .i64 t.r] 26 (0, 0)) := by rw [hw1]; exact blk_new _ _
  have hlt : w.heap.size < w1.heap.size := (Array.getElem?_eq_some_iff.1 D0).1
  have m1 := refMay_walk t a c w1 B (T.At.below hb1 hB hin) (by omega) hw
  have m2 := fun (hm : t.may = true) (w2 : World) (hb2 : Below w1.heap.size w1 w2) => refRefs_walk t a c w2 B (T.At.below hb2 (by omega) (T.At.below hb1 hB hin)) (by have := hb2.size; omega) hw (by have := T.count_of_may hm; omega)
  have m3 := fun (hm : t.may = true) (w2 : World) (hb2 : Below w1.heap.size w1 w2) => refBytes_walk t a c w2 B (T.At.below hb2 (by omega) (T.At.below hb1 hB hin)) (by have := hb2.size; omega) hw (by have := T.bytes_of_may hm; omega)
  clear hin hw
  unfold T.val at m1 m2 m3 ⊢
  obtain ⟨ys, hys⟩ : ∃ ys, t.bytesAns = ys := ⟨_, rfl⟩
  rw [hys]
  have HY := Lib.hid hys
  clear hys
  go_enter Try.func23, Try.ntmps23
  go_upto_region 1 with (fail)
  rw [← hw1]
  clear hw1
  obtain ⟨x0, x1, x2, x3, x4⟩ := blk5cc D0
  have D0 := Lib.hid D0
  cases hm : t.may with
  | false =>
    rw [hm] at m1
    have HM := Lib.hid hm
    clear hm m2 m3
    go_wp2_with (go_at_call 64; refine m1.mono ?_; clear m1; rintro e wA ⟨rfl, hbA⟩)
    go_ret2
    exact ⟨by rw [← HY.out]; unfold T.bytesAns; rw [HM.out]; rfl, hb1.trans (hbA.mono (by omega))⟩
  | true =>
    rw [hm] at m1
    have m2' := m2 hm
    have m3' := m3 hm
    have hc := T.count_of_may hm
    have hrl := T.rrefs_le t
    have hrr : t.rrefs = t.refs := T.rrefs_eq t 512 16 (T.look_of_may hm)
    rw [hrr] at m2' hrl
    have HM := Lib.hid hm
    clear hm m2 m3 hrr
    obtain ⟨rs, hrs⟩ : ∃ rs, t.refs = rs := ⟨_, rfl⟩
    rw [hrs] at m2' hrl
    have HR := Lib.hid hrs
    clear hrs
    go_wp2_with (first
      | (go_at_call 64; refine m1.mono ?_; clear m1; rintro e wA ⟨rfl, hbA⟩; have D2 := (hbA.block (w.heap.size) hlt).trans D0.out; clear x0 x1 x2 x3 x4; obtain ⟨x0, x1, x2, x3, x4⟩ := blk5cc D2)
      | (go_at_call 38; refine (m2' _ hbA).mono ?_; clear m2'; rintro e wB ⟨v, rfl, hv, hbB⟩; obtain ⟨ra, rc, rfl, hri⟩ := ints_of_own hv))
    have hbAB : Below w1.heap.size w1 wB := hbA.trans (hbB.mono hbA.size)
    have D3 := (hbAB.block (w.heap.size) hlt).trans D0.out
    clear x0 x1 x2 x3 x4 hv
    go_loopg [5] rs.length (fun gg vi wr => ∃ i : Nat, vi = .int .i64 i ∧ i + gg = rs.length ∧ Aside (∀ x ∈ rs.take i, x ≤ 4294967295) ∧ wr = wB)
    case atStart => exact ⟨0, rfl, by simp, by simp [Aside], rfl⟩
    case round =>
      obtain ⟨i, rfl, hgi, hall, rfl⟩ := hrel
      by_cases h : i < rs.length
      · obtain ⟨b, o, rfl, _, he⟩ := hri.elem i h
        have hmem := List.getElem_mem h
        obtain ⟨q, hq⟩ : ∃ q, rs[i] = q := ⟨_, rfl⟩
        have htk := List.take_succ_eq_append_getElem h
        rw [hq] at he hmem htk
        have HTK := Lib.hid htk
        clear hq htk m3'
        by_cases hb : 4294967295 < q
        · go_wp2_with fail
          go_ret2
          have hsb : someBig t.refs = true := by rw [HR.out]; unfold someBig; rw [List.any_eq_true]; exact ⟨q, hmem, by simpa using hb⟩
          exact ⟨by rw [← HY.out]; unfold T.bytesAns; rw [HM.out, hsb]; rfl, hb1.trans (hbAB.mono (by omega))⟩
        · go_wp2_with fail
          go_roundg (gk - 1)
          case measure => omega
          case rel =>
            refine ⟨i + 1, by go_num, by omega, ?_, rfl⟩
            show ∀ x ∈ rs.take (i + 1), x ≤ 4294967295
            rw [HTK.out]
            intro x hx
            rcases List.mem_append.1 hx with hx | hx
            · exact hall.out x hx
            · rw [List.mem_singleton] at hx; subst hx; omega
      · have hsb : someBig t.refs = false := by rw [HR.out]; exact someBig_take (by have := hall.out; rw [List.take_of_length_le (by omega)] at this; exact this)
        have HSB := Lib.hid hsb
        have hbl := T.bytes_ne t
        clear hsb hall hri
        obtain ⟨x0, x1, x2, x3, x4⟩ := blk5cc D3
        go_wp2_with (go_at_call 69; refine (m3' _ hbAB).mono ?_; clear m3'; rintro e wD ⟨vd, rfl, rd, hbD⟩; obtain ⟨gd, cd, rfl, _, _⟩ := rd.form (by omega); have hcv := conv_row rd)
        go_ret2
        exact ⟨by rw [← HY.out]; unfold T.bytesAns; rw [HM.out, HSB.out]; rfl, hb1.trans ((hbAB.trans (hbD.mono hbAB.size)).mono (by omega))⟩
end Go.Proofs.Ytapfmfihhpafcaa
