/-
  posternref02.At.
-/
import Derived.Test.YtapfmfihhpafcaaB2
import Derived.Test.YtapfmfihhpafcaaD3
import Derived.RegionTactic
namespace Go.Proofs.Ytapfmfihhpafcaa
open Go.RowKit
set_option linter.unusedVariables false

/-- What the document's At hands back. -/
def RefAtPost (w : World) (B : Nat) (t : T) (p : List Int) (e : Ending) (w' : World) : Prop :=
  ((∃ u a c, t.may = true ∧ T.find p t = some u ∧ T.At w' B u a c ∧ u.wf ∧ e = .returned (.tuple #[u.val a c, .int .i64 0])) ∨ (t.may = true ∧ T.find p t = none ∧ e = .returned (.tuple #[T.zero.val none 0, .int .i64 22])) ∨
    (t.may = false ∧ e = .returned (.tuple #[T.zero.val none 0, .int .i64 2]))) ∧ Below w.heap.size w w'

set_option maxRecDepth 100000 in
set_option maxHeartbeats 4000000 in
theorem refAt_walk (t : T) (p : List Int) (a : Option Addr) (c : Nat) (pa : Option Addr) (pc : Nat) (w : World) (B : Nat) (hin : T.At w B t a c) (hp : Ints w (· < B) p pa pc) (hB : B ≤ w.heap.size) (hw : t.wf) (hpl : p.length ≤ 1000000) :
    Calls Try.prog 45 #[t.val a c, .slice pa p.length pc] w (RefAtPost w B t p) := by
  obtain ⟨w1, hw1⟩ : ∃ w1, w1 = (w.alloc (.cells #[.int .u8 t.k, .int .i64 t.n, .string t.s, .slice a t.l.length c, .int .i64 t.r] 26 (0, 0))).alloc (.cells #[.int .u8 0, .int .i64 0, .string ⟨#[]⟩, .slice none 0 0, .int .i64 0] 26 (0, 0)) := ⟨_, rfl⟩
  have hb1 : Below w.heap.size w w1 := by rw [hw1]; exact two_boxes _ _ _
  have D0 : w1.heap[w.heap.size]? = some (.cells #[.int .u8 t.k, .int .i64 t.n, .string t.s, .slice a t.l.length c, .int .i64 t.r] 26 (0, 0)) := by rw [hw1]; exact two_blk0 _ _ _
  have D1 : w1.heap[w.heap.size + 1]? = some (.cells #[.int .u8 0, .int .i64 0, .string ⟨#[]⟩, .slice none 0 0, .int .i64 0] 26 (0, 0)) := by rw [hw1]; exact two_blk1 _ _ _
  have hz1 : w.heap.size + 1 < w1.heap.size := (Array.getElem?_eq_some_iff.1 D1).1
  have m1 := refMay_walk t a c w1 B (T.At.below hb1 hB hin) (by omega) hw
  unfold T.val at m1 ⊢
  obtain ⟨x0, x1, x2, x3, x4, _⟩ := blk5 D0
  have E0 := Lib.hid D0
  have E1 := Lib.hid D1
  clear D0 D1
  cases hm : t.may with
  | false =>
    rw [hm] at m1
    have HM := Lib.hid hm
    clear hm hin hp
    go_enter Try.func45, Try.ntmps45
    go_upto_region 1 with (fail)
    rw [← hw1]
    clear hw1
    go_wp2_with (first
      | (go_at_call 64; refine m1.mono ?_; clear m1; rintro e w2 ⟨rfl, hb2⟩; have G1 := Lib.hid ((hb2.block (w.heap.size + 1) hz1).trans E1.out))
      | (refine wpList_put _ rfl _ _ rfl (w.heap.size + 1) _ _ _ _ _ _ _ _ _ _ (by rfl) (by rfl) (by simp [Value.oneCell']) G1.out ?_; rintro wP hP))
    obtain ⟨g0, g1, g2, g3, g4, _⟩ := blk5 hP.at_
    exact post_cell26b Try.results45 rfl rfl rfl g0 g1 g2 g3 g4 ⟨.inr (.inr ⟨HM.out, rfl⟩), hb1.trans ((hb2.mono (by omega)).trans (hP.below (by omega)))⟩
  | true =>
    rw [hm] at m1
    have HM := Lib.hid hm
    clear hm
    go_enter Try.func45, Try.ntmps45
    go_upto_region 1 with (fail)
    rw [← hw1]
    clear hw1
    go_wp2_with (go_at_call 64; refine m1.mono ?_; clear m1; rintro e w2 ⟨rfl, hb2⟩)
    have hb02 : Below w.heap.size w w2 := hb1.trans (hb2.mono hb1.size)
    have G0 := (hb2.block w.heap.size (by omega)).trans E0.out
    have G1 := (hb2.block (w.heap.size + 1) hz1).trans E1.out
    have hin2 := T.At.below hb02 hB hin
    clear x0 x1 x2 x3 x4 hin
    go_loopg [6] p.length (fun g vi wr => ∃ (i : Nat) (u : T) (ua : Option Addr) (uc : Nat), vi = .int .i64 i ∧ i + g = p.length ∧ Aside (T.find p t = T.find (p.drop i) u) ∧ T.At wr B u ua uc ∧ u.wf ∧
      Below w.heap.size w wr ∧ wr.heap[w.heap.size]? = some (.cells #[.int .u8 u.k, .int .i64 u.n, .string u.s, .slice ua u.l.length uc, .int .i64 u.r] 26 (0, 0)) ∧
      wr.heap[w.heap.size + 1]? = some (.cells #[.int .u8 0, .int .i64 0, .string ⟨#[]⟩, .slice none 0 0, .int .i64 0] 26 (0, 0)))
    case atStart => exact ⟨0, t, a, c, rfl, by simp, rfl, hin2, hw, hb02, G0, G1⟩
    case round =>
      obtain ⟨i, u, ua, uc, rfl, hi, hs, hu, huw, hb, C0, C1⟩ := hrel
      obtain ⟨x0, x1, x2, x3, x4, y0, y1, y2, y3, y4⟩ := blk5 C0
      clear hin2 hw G0 G1
      by_cases h : i < p.length
      · obtain ⟨b, o, rfl, hbB, he⟩ := (Ints.below hb hB hp).elem i h
        have hd : Aside (p.drop i = p[i] :: p.drop (i + 1)) := List.drop_eq_getElem_cons h
        obtain ⟨q, hq⟩ : ∃ q, p[i] = q := ⟨_, rfl⟩
        rw [hq] at he hd
        have iI : (i : Int) < (p.length : Int) := by omega
        clear hq
        by_cases hq : q < 0 ∨ (u.l.length : Int) ≤ q
        · have hn : T.find p t = none := by rw [hs.out, hd.out]; exact T.find_none _ _ _ hq
          have HN := Lib.hid hn
          have HB := Lib.hid hb
          have HC1 := Lib.hid C1
          clear hn hd hs hp hb C1 hu huw
          by_cases hq0 : q < 0
          · have g1 : decide (q < 0) = true := by simpa using hq0
            go_upto_region 6 with fail
            go_quiet (fail)
            go_wp2_with (refine wpList_put _ rfl _ _ rfl (w.heap.size + 1) _ _ _ _ _ _ _ _ _ _ (by rfl) (by rfl) (by simp [Value.oneCell']) HC1.out ?_; rintro wP hP)
            obtain ⟨g0, g1, g2, g3, g4, _⟩ := blk5 hP.at_
            refine post_cell26b Try.results45 rfl rfl rfl g0 g1 g2 g3 g4 ⟨.inr (.inl ⟨HM.out, HN.out, rfl⟩), HB.out.trans (Below.trans ?_ (hP.below (by omega)))⟩
            exact ⟨rfl, rfl, rfl, Nat.le_refl _, fun _ _ => rfl⟩
          · have g1 : decide (q < 0) = false := by simpa using hq0
            have g2 : decide ((u.l.length : Int) ≤ q) = true := by simp; omega
            go_upto_region 6 with fail
            go_quiet (fail)
            go_wp2_with (refine wpList_put _ rfl _ _ rfl (w.heap.size + 1) _ _ _ _ _ _ _ _ _ _ (by rfl) (by rfl) (by simp [Value.oneCell']) HC1.out ?_; rintro wP hP)
            obtain ⟨g0, g1, g2, g3, g4, _⟩ := blk5 hP.at_
            refine post_cell26b Try.results45 rfl rfl rfl g0 g1 g2 g3 g4 ⟨.inr (.inl ⟨HM.out, HN.out, rfl⟩), HB.out.trans (Below.trans ?_ (hP.below (by omega)))⟩
            exact ⟨rfl, rfl, rfl, Nat.le_refl _, fun _ _ => rfl⟩
        · have hq1 : 0 ≤ q := by omega
          have hq2 : q < (u.l.length : Int) := by omega
          have hq3 : q.toNat < u.l.length := by omega
          clear hq
          have g1 : decide (q < 0) = false := by simp; omega
          have g2 : decide ((u.l.length : Int) ≤ q) = false := by simp; omega
          obtain ⟨b', o', a', c', rfl, hbB', ht, e0, e1, e2, e3, e4⟩ := hu.elem' q.toNat hq3
          have hn : T.find p t = T.find (p.drop (i + 1)) u.l[q.toNat] := by rw [hs.out, hd.out]; exact T.find_step _ _ _ hq1 hq3
          have HN : Aside _ := hn
          have HT := Lib.hid ht
          have HW := Lib.hid (T.wf_elem huw q.toNat hq3)
          have HB := Lib.hid hb
          have HC0 := Lib.hid C0
          have HC1 := Lib.hid C1
          have hbz := hb.size
          clear ht huw hu hn hd hs hp hb C1 C0
          go_upto_region 6 with fail
          go_quiet (fail)
          go_upto_region 8 with fail
          go_region
          rename_i nq
          obtain ⟨f1, f2, f3⟩ := fill5 (w := wr.drewN (nq + 1)) (v0 := .int .u8 u.l[q.toNat].k) (v1 := .int .i64 u.l[q.toNat].n) (v2 := .string u.l[q.toNat].s) (v3 := .slice a' u.l[q.toNat].l.length c') (v4 := .int .i64 u.l[q.toNat].r) HC0.out
          go_wp2_with fail
          go_roundg (gk - 1)
          case measure => omega
          case rel =>
            refine ⟨i + 1, u.l[q.toNat], a', c', by go_num, by omega, HN, T.In.keep (w := wr) (fun b hb => f2 b (by omega)) (fun _ h => h) id HT.out, HW.out, ?_, f1, (f2 _ (by omega)).trans HC1.out⟩
            exact HB.out.trans ⟨rfl, rfl, rfl, by rw [f3]; exact Nat.le_refl _, fun q hq => f2 q (by omega)⟩
      · have hn : T.find p t = some u := by rw [hs.out, List.drop_of_length_le (by omega), T.find]
        have HN := Lib.hid hn
        have HU := Lib.hid hu
        have HW := Lib.hid huw
        have HB := Lib.hid hb
        have HC1 := Lib.hid C1
        clear hn hs hp hu huw hb C1
        go_wp2_with (refine wpList_put _ rfl _ _ rfl (w.heap.size + 1) _ _ _ _ _ _ _ _ _ _ (by rfl) (by rfl) (by simp [Value.oneCell']) HC1.out ?_; rintro wP hP)
        obtain ⟨g0, g1, g2, g3, g4, _⟩ := blk5 hP.at_
        exact post_cell26b Try.results45 rfl rfl rfl g0 g1 g2 g3 g4 ⟨.inl ⟨u, ua, uc, HM.out, HN.out, T.In.keep (fun b hb => hP.other b (by omega)) (fun _ h => h) id HU.out, HW.out, rfl⟩, HB.out.trans (hP.below (by omega))⟩
end Go.Proofs.Ytapfmfihhpafcaa
