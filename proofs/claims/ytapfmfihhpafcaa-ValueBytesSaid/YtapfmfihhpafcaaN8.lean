/-
  posternref02.front: lists, and all kinds.
-/
import Derived.Test.YtapfmfihhpafcaaN7
import Derived.Test.YtapfmfihhpafcaaI1
import Derived.Test.YtapfmfihhpafcaaC2
import Derived.Outline
namespace Go.Proofs.Ytapfmfihhpafcaa
open Go.RowKit
set_option linter.unusedVariables false

theorem RefFront.of_none {w w' : World} {p : Nat} {e : Ending} (h : RefFront w p none e w') : e = .returned (.tuple #[T.zero.val none 0, .string ⟨#[]⟩, .int .i64 (-1)]) ∧ Below w.heap.size w w' := by
  obtain ⟨(⟨_, _, _, _, _, h1, _⟩ | ⟨_, h1⟩), hs⟩ := h
  · cases h1
  · exact ⟨h1, hs⟩
theorem RefFront.of_some {w w' : World} {p p' : Nat} {t : T} {s' : ByteArray} {e : Ending} (h : RefFront w p (some (t, s', p')) e w') :
    ∃ a c, e = .returned (.tuple #[t.val a c, .string s', .int .i64 ((p : Int) - p')]) ∧ T.In w' (New w.heap.size w') false t a c ∧ t.wf ∧ p' < p ∧ Below w.heap.size w w' := by
  obtain ⟨(⟨t2, s2, p2, a, c, h1, h2, h3, h4, h5⟩ | ⟨h1, _⟩), hs⟩ := h
  · injection h1 with h1
    injection h1 with h6 h7
    injection h7 with h7 h8
    subst h6; subst h7; subst h8
    exact ⟨a, c, h2, h3, h4, h5, hs⟩
  · cases h1

def RefCalls (d' : Nat) : Prop := ∀ (p : Nat) (s : ByteArray) (w : World), s.size ≤ 140737488351232 → p ≤ 1000000 → Calls Try.prog 72 #[.string s, .int .i64 p, .int .i64 d'] w (RefFront w p (rd d' p s))

set_option maxRecDepth 100000 in
set_option maxHeartbeats 2000000 in
theorem refFront_lst0 (s : ByteArray) (p d : Nat) (w : World) (hs0 : 0 < s.size) (hsz : s.size ≤ 140737488351232) (hp : 0 < p) (hp2 : p ≤ 1000000) (k3 : hd s = 3) (hq : (tl s).size < 2) (sub : Nat → Nat → ByteArray → Option (List T × ByteArray × Nat)) :
    Calls Try.prog 72 #[.string s, .int .i64 p, .int .i64 d] w (RefFront w p (rdNode d p s sub)) := by
  have e : rdNode d p s sub = none := by unfold rdNode; rw [if_neg (by omega), if_neg (by omega), if_neg (by omega), if_neg (by omega), if_neg (by omega), if_pos k3, if_pos hq]
  rw [e]
  obtain ⟨w1, hw1⟩ : ∃ w1, w1 = w.alloc (.cells #[.int .u8 0, .int .i64 0, .string ⟨#[]⟩, .slice none 0 0, .int .i64 0] 26 (0, 0)) := ⟨_, rfl⟩
  have hb1 : Below w.heap.size w w1 := by rw [hw1]; exact (Below.refl _ _).alloc (Nat.le_refl _) _
  have D0 : w1.heap[w.heap.size]? = some (.cells #[.int .u8 0, .int .i64 0, .string ⟨#[]⟩, .slice none 0 0, .int .i64 0] 26 (0, 0)) := by rw [hw1]; exact blk_new _ _
  have hlt : w.heap.size < w1.heap.size := (Array.getElem?_eq_some_iff.1 D0).1
  have E0 := Lib.hid D0
  have hne9 : w.heap.size ≠ w1.heap.size := by omega
  have HB := Lib.hid hb1
  have hse := not_empty hs0
  have hx : (s[0]'hs0).toNat = 3 := by have := hd_eq0 hs0; rw [k3] at this; omega
  have htz : (s.extract 1 s.size).size ≤ 140737488351232 := by simp; omega
  have mN := fun W => refNumber_walk 2 (s.extract 1 s.size) W htz (by omega)
  have ha : numAns (s.extract 1 s.size) 2 = .tuple #[.int .u64 0, .string (s.extract 1 s.size), .bool false] := by unfold numAns; exact if_pos hq
  rw [ha] at mN
  have mN8 : ∀ W, Calls Try.prog 95 #[.string (s.extract 1 s.size), .int .i64 2] W fun e w' => e = .returned (.tuple #[.int .u64 0, .string (s.extract 1 s.size), .bool false]) ∧ Below W.heap.size W w' := mN
  have i1 : (1 : Int) ≤ (s.size : Int) := by omega
  have i2 : ¬ (p : Int) < 1 := by omega
  have E1 := Lib.hid ((Below.heap_alloc w1 (.cells #[.int .u8 3, .int .i64 0, .string ⟨#[]⟩, .slice none 0 0, .int .i64 0] 26) _ hlt).trans D0)
  clear D0 hb1 k3 mN ha
  go_enter Try.func72, Try.ntmps72
  go_upto_region 1 with (fail)
  rw [← hw1]
  clear hw1
  go_wp2_with (first
    | (go_at_call 95; refine (mN8 _).mono ?_; clear mN8; rintro e w2 ⟨rfl, hb2⟩; have G0 := (hb2.block w.heap.size (by rw [World.size_alloc]; omega)).trans E1.out; have Y1 := zbox0 hb2; obtain ⟨x0, x1, x2, x3, x4, f0, f1, f2, f3, f4⟩ := blk5 Y1; have hz2 := hb2.size)
    | (refine wpList_put _ rfl _ _ rfl w.heap.size _ _ _ _ _ _ _ _ _ _ (by rfl) (by rfl) (by simp [Value.oneCell']) G0 ?_; rintro wP hP))
  exact post_cell26f Try.results72 rfl rfl rfl rfl hP.at_ ⟨.inr ⟨rfl, rfl⟩, HB.out.trans ((((Below.refl _ _).alloc (by omega) _).trans (hb2.mono (by simp; omega))).trans (hP.below (Nat.le_refl _)))⟩

set_option maxRecDepth 100000 in
set_option maxHeartbeats 2000000 in
theorem refFront_lstb (s : ByteArray) (p d : Nat) (w : World) (hs0 : 0 < s.size) (hsz : s.size ≤ 140737488351232) (hp : 0 < p) (hp2 : p ≤ 1000000) (k3 : hd s = 3) (hq : ¬ (tl s).size < 2) (hb : d = 0 ∨ p - 1 < (numOf ((tl s).extract 0 2)).toNat) (hd9 : d ≤ 1000) (sub : Nat → Nat → ByteArray → Option (List T × ByteArray × Nat)) :
    Calls Try.prog 72 #[.string s, .int .i64 p, .int .i64 d] w (RefFront w p (rdNode d p s sub)) := by
  have e : rdNode d p s sub = none := by unfold rdNode; rw [if_neg (by omega), if_neg (by omega), if_neg (by omega), if_neg (by omega), if_neg (by omega), if_pos k3, if_neg hq, if_pos hb]
  rw [e]
  obtain ⟨w1, hw1⟩ : ∃ w1, w1 = w.alloc (.cells #[.int .u8 0, .int .i64 0, .string ⟨#[]⟩, .slice none 0 0, .int .i64 0] 26 (0, 0)) := ⟨_, rfl⟩
  have hb1 : Below w.heap.size w w1 := by rw [hw1]; exact (Below.refl _ _).alloc (Nat.le_refl _) _
  have D0 : w1.heap[w.heap.size]? = some (.cells #[.int .u8 0, .int .i64 0, .string ⟨#[]⟩, .slice none 0 0, .int .i64 0] 26 (0, 0)) := by rw [hw1]; exact blk_new _ _
  have hlt : w.heap.size < w1.heap.size := (Array.getElem?_eq_some_iff.1 D0).1
  have E0 := Lib.hid D0
  have hne9 : w.heap.size ≠ w1.heap.size := by omega
  have HB := Lib.hid hb1
  have hse := not_empty hs0
  have hx : (s[0]'hs0).toNat = 3 := by have := hd_eq0 hs0; rw [k3] at this; omega
  have htz : (s.extract 1 s.size).size ≤ 140737488351232 := by simp; omega
  have mN := fun W => refNumber_walk 2 (s.extract 1 s.size) W htz (by omega)
  obtain ⟨q, hN⟩ : ∃ q : Nat, numOf ((s.extract 1 s.size).extract 0 2) = q := numOf_nat _
  have hN' : numOf ((tl s).extract 0 2) = q := hN
  obtain ⟨r, hr⟩ : ∃ r, (s.extract 1 s.size).extract 2 (s.extract 1 s.size).size = r := ⟨_, rfl⟩
  have hr' : cut 2 (tl s) = r := hr
  have ha : numAns (s.extract 1 s.size) 2 = .tuple #[.int .u64 (q : Int), .string r, .bool true] := by unfold numAns; rw [hN, hr]; exact if_neg hq
  have hNr : q < 65536 := by
    have h1 := (numOf_lt ((s.extract 1 s.size).extract 0 2) 2 (by simp; omega)).2
    have h3 : (256 ^ 2 : Nat) = 65536 := (by decide)
    rw [hN] at h1
    omega
  have hrz : r.size ≤ 140737488351232 := by rw [← hr]; simp; omega
  rw [hN', Int.toNat_natCast] at hb
  have hwr : IntKind.u64.wrap (p : Int) = p := by rw [IntKind.wrap_u64]; omega
  rw [ha] at mN
  have mN8 : ∀ W, Calls Try.prog 95 #[.string (s.extract 1 s.size), .int .i64 2] W fun e w' => e = .returned (.tuple #[.int .u64 (q : Int), .string r, .bool true]) ∧ Below W.heap.size W w' := mN
  have i1 : (1 : Int) ≤ (s.size : Int) := by omega
  have i2 : ¬ (p : Int) < 1 := by omega
  have E1 := Lib.hid ((Below.heap_alloc w1 (.cells #[.int .u8 3, .int .i64 0, .string ⟨#[]⟩, .slice none 0 0, .int .i64 0] 26) _ hlt).trans D0)
  clear D0 hb1 k3 mN ha hN hN' hr hr' hq htz
  by_cases hd0 : d = 0
  · subst hd0
    clear hb
    go_enter Try.func72, Try.ntmps72
    go_upto_region 1 with (fail)
    rw [← hw1]
    clear hw1
    go_wp2_with (first
      | (go_at_call 95; refine (mN8 _).mono ?_; clear mN8; rintro e w2 ⟨rfl, hb2⟩; have G0 := (hb2.block w.heap.size (by rw [World.size_alloc]; omega)).trans E1.out; have Y1 := zbox0 hb2; obtain ⟨x0, x1, x2, x3, x4, f0, f1, f2, f3, f4⟩ := blk5 Y1; have hz2 := hb2.size)
      | (refine wpList_put _ rfl _ _ rfl w.heap.size _ _ _ _ _ _ _ _ _ _ (by rfl) (by rfl) (by simp [Value.oneCell']) G0 ?_; rintro wP hP)
      | (refine wpList_put _ rfl _ _ rfl w.heap.size _ _ _ _ _ _ _ _ _ _ (by rfl) (by rfl) (by simp [Value.oneCell']) ((Below.heap_setCell _ _ _ _ hne9).trans G0) ?_; rintro wP hP))
    exact post_cell26f Try.results72 rfl rfl rfl rfl hP.at_ ⟨.inr ⟨rfl, rfl⟩, HB.out.trans ((((Below.refl _ _).alloc (by omega) _).trans (hb2.mono (by simp; omega))).trans (hP.below (Nat.le_refl _)))⟩
  · have hd1 : ¬ (d : Int) < 1 := by omega
    have hd2 : decide ((d : Int) < 1) = false := by simp; omega
    have hb2 : p ≤ q := by omega
    have hb3 : (p : Int) ≤ (q : Int) := by omega
    have hb4 : decide ((p : Int) ≤ (q : Int)) = true := by simp; omega
    have hb5 : decide (p ≤ q) = true := by simp; omega
    clear hb hd0
    go_enter Try.func72, Try.ntmps72
    go_upto_region 1 with (fail)
    rw [← hw1]
    clear hw1
    go_wp2_with (first
      | (go_at_call 95; refine (mN8 _).mono ?_; clear mN8; rintro e w2 ⟨rfl, hb2⟩; have G0 := (hb2.block w.heap.size (by rw [World.size_alloc]; omega)).trans E1.out; have Y1 := zbox0 hb2; obtain ⟨x0, x1, x2, x3, x4, f0, f1, f2, f3, f4⟩ := blk5 Y1; have hz2 := hb2.size)
      | (refine wpList_put _ rfl _ _ rfl w.heap.size _ _ _ _ _ _ _ _ _ _ (by rfl) (by rfl) (by simp [Value.oneCell']) G0 ?_; rintro wP hP)
      | (refine wpList_put _ rfl _ _ rfl w.heap.size _ _ _ _ _ _ _ _ _ _ (by rfl) (by rfl) (by simp [Value.oneCell']) ((Below.heap_setCell _ _ _ _ hne9).trans G0) ?_; rintro wP hP))
    exact post_cell26f Try.results72 rfl rfl rfl rfl hP.at_ ⟨.inr ⟨rfl, rfl⟩, HB.out.trans ((((Below.refl _ _).alloc (by omega) _).trans (hb2.mono (by simp; omega))).trans (hP.below (Nat.le_refl _)))⟩

set_option maxRecDepth 100000 in
set_option maxHeartbeats 2000000 in
theorem refFront_lst1 (s : ByteArray) (p d' : Nat) (w : World) (hs0 : 0 < s.size) (hsz : s.size ≤ 140737488351232) (hp : 0 < p) (hp2 : p ≤ 1000000) (k3 : hd s = 3) (hq : ¬ (tl s).size < 2) (hb : ¬ (d' + 1 = 0 ∨ p - 1 < (numOf ((tl s).extract 0 2)).toNat)) (hd9 : d' ≤ 1000) (hsub : RefCalls d') :
    Calls Try.prog 72 #[.string s, .int .i64 p, .int .i64 ((d' + 1 : Nat) : Int)] w (RefFront w p (rdNode (d' + 1) p s (rds (rd d')))) := by
  obtain ⟨rs, hrs⟩ : ∃ rs, rdNode (d' + 1) p s (rds (rd d')) = rs := ⟨_, rfl⟩
  have e := hrs
  unfold rdNode at e
  rw [if_neg (by omega), if_neg (by omega), if_neg (by omega), if_neg (by omega), if_neg (by omega), if_pos k3, if_neg hq, if_neg hb] at e
  rw [hrs]
  clear hrs
  obtain ⟨w1, hw1⟩ : ∃ w1, w1 = w.alloc (.cells #[.int .u8 0, .int .i64 0, .string ⟨#[]⟩, .slice none 0 0, .int .i64 0] 26 (0, 0)) := ⟨_, rfl⟩
  have hb1 : Below w.heap.size w w1 := by rw [hw1]; exact (Below.refl _ _).alloc (Nat.le_refl _) _
  have D0 : w1.heap[w.heap.size]? = some (.cells #[.int .u8 0, .int .i64 0, .string ⟨#[]⟩, .slice none 0 0, .int .i64 0] 26 (0, 0)) := by rw [hw1]; exact blk_new _ _
  have hz1 : w1.heap.size = w.heap.size + 1 := by rw [hw1]; simp
  have Z1 := Lib.hid hz1
  clear hz1
  have hlt : w.heap.size < w1.heap.size := (Array.getElem?_eq_some_iff.1 D0).1
  have E0 := Lib.hid D0
  have hne9 : w.heap.size ≠ w1.heap.size := by omega
  have HB := Lib.hid hb1
  have hse := not_empty hs0
  have hx : (s[0]'hs0).toNat = 3 := by have := hd_eq0 hs0; rw [k3] at this; omega
  have htz : (s.extract 1 s.size).size ≤ 140737488351232 := by simp; omega
  have mN := fun W => refNumber_walk 2 (s.extract 1 s.size) W htz (by omega)
  obtain ⟨q, hN⟩ : ∃ q : Nat, numOf ((s.extract 1 s.size).extract 0 2) = q := numOf_nat _
  have hN' : numOf ((tl s).extract 0 2) = q := hN
  obtain ⟨r, hr⟩ : ∃ r, (s.extract 1 s.size).extract 2 (s.extract 1 s.size).size = r := ⟨_, rfl⟩
  have hr' : cut 2 (tl s) = r := hr
  have ha : numAns (s.extract 1 s.size) 2 = .tuple #[.int .u64 (q : Int), .string r, .bool true] := by unfold numAns; rw [hN, hr]; exact if_neg hq
  have hNr : q < 65536 := by
    have h1 := (numOf_lt ((s.extract 1 s.size).extract 0 2) 2 (by simp; omega)).2
    have h3 : (256 ^ 2 : Nat) = 65536 := (by decide)
    rw [hN] at h1
    omega
  have hrz : r.size ≤ 140737488351232 := by rw [← hr]; simp; omega
  rw [hN', Int.toNat_natCast] at hb
  rw [hN', hr', Int.toNat_natCast] at e
  have HE := Lib.hid e
  have hwr : IntKind.u64.wrap (p : Int) = p := by rw [IntKind.wrap_u64]; omega
  have hd1 : ¬ ((d' + 1 : Nat) : Int) < 1 := by omega
  have hd2 : decide (((d' + 1 : Nat) : Int) < 1) = false := by simp; omega
  have hb2 : ¬ p ≤ q := by omega
  have hb3 : ¬ (p : Int) ≤ (q : Int) := by omega
  have hb4 : decide ((p : Int) ≤ (q : Int)) = false := by simp; omega
  have hb5 : decide (p ≤ q) = false := by simp; omega
  have hx1 : ((d' + 1 : Nat) : Int) - 1 = (d' : Int) := by omega
  clear hb e
  rw [ha] at mN
  have mN8 : ∀ W, Calls Try.prog 95 #[.string (s.extract 1 s.size), .int .i64 2] W fun e w' => e = .returned (.tuple #[.int .u64 (q : Int), .string r, .bool true]) ∧ Below W.heap.size W w' := mN
  have i1 : (1 : Int) ≤ (s.size : Int) := by omega
  have i2 : ¬ (p : Int) < 1 := by omega
  have E1 := Lib.hid ((Below.heap_alloc w1 (.cells #[.int .u8 3, .int .i64 0, .string ⟨#[]⟩, .slice none 0 0, .int .i64 0] 26) _ hlt).trans D0)
  clear D0 hb1 k3 mN ha hN hN' hr hr' hq htz
  go_enter Try.func72, Try.ntmps72
  go_upto_region 1 with (fail)
  rw [← hw1]
  clear hw1
  go_upto_region 28 with (first
    | (go_at_call 95; refine (mN8 _).mono ?_; clear mN8; rintro e w2 ⟨rfl, hb2⟩; have G0 := (hb2.block w.heap.size (by rw [World.size_alloc]; omega)).trans E1.out; have Y1 := zbox0 hb2; obtain ⟨x0, x1, x2, x3, x4, f0, f1, f2, f3, f4⟩ := blk5 Y1; have hz2 := hb2.size))
  have z1 : w1.heap.size = w.heap.size + 1 := Z1.out
  rw [z1] at Y1 x0 x1 x2 x3 x4 f0 f1 f2 f3 f4 ⊢
  have hbw := HB.out.trans ((((Below.refl _ _).alloc (by omega) _).trans (hb2.mono (by simp; omega))))
  have hzz : w.heap.size + 2 ≤ w2.heap.size := by have := hb2.size; simp at this; omega
  obtain ⟨i0, hi, hy0, hy1, hy2⟩ := info_parts info26
  have HZZ := Lib.hid hzz
  have HG0 := Lib.hid G0
  have HY1 := Lib.hid Y1
  have HBW := Lib.hid hbw
  clear G0 Y1 x0 x1 x2 x3 x4 f0 f1 f2 f3 f4 hbw hb2 hz2 hd1 hd2 hb3 hb4 hb5 hwr z1 hx i1 i2 hse
  go_wp2_with fail
  go_loopg [0, 12, 13] q (fun gg vs vp vi wr => ∃ (ts : List T) (v : Value) (xs : List Value) (si : ByteArray) (pi : Nat), vs = .string si ∧ vp = .int .i64 ((p : Int) - (pi : Int)) ∧ vi = .int .u64 (ts.length : Nat) ∧ ts.length + gg = q ∧
    Below w.heap.size w wr ∧ w.heap.size + 2 ≤ wr.heap.size ∧ wr.heap[w.heap.size]? = some (.cells #[.int .u8 0, .int .i64 0, .string ⟨#[]⟩, .slice none 0 0, .int .i64 0] 26 (0, 0)) ∧ wr.heap[w.heap.size + 1]? = some (.cells #[.int .u8 3, .int .i64 0, .string ⟨#[]⟩, v, .int .i64 0] 26 (0, 0)) ∧
    wr.ownsRow (w.heap.size + 2) 26 5 v ts.length xs ∧ Lie wr (fun b => w.heap.size + 2 ≤ b ∧ b < wr.heap.size ∧ v.ownBlock ≠ some b) false ts xs ∧ pi < p ∧ si.size ≤ 140737488351232 ∧
    Aside (rds (rd d') q (p - 1) r = (rds (rd d') (q - ts.length) pi si).map (fun z => (ts ++ z.1, z.2))) ∧ Aside (∀ t ∈ ts, t.wf))
  case atStart =>
    refine ⟨[], .slice none 0 0, [], r, p - 1, rfl, ?_, rfl, by simp, HBW.out, HZZ.out, HG0.out, HY1.out, World.ownsRow_nil _ _ _ _, by rw [Lie], by omega, hrz, ?_, by intro t ht; cases ht⟩
    · have : (p : Int) - ((p - 1 : Nat) : Int) = 1 := by omega
      rw [this]
    · show rds (rd d') q (p - 1) r = _
      rw [List.length_nil, Nat.sub_zero]
      cases rds (rd d') q (p - 1) r <;> simp
  case round =>
    obtain ⟨ts, v, xs, si, pi, rfl, rfl, rfl, hig, hb, hzr, C0, C1, hown, hlie, hpi, hsi, hrds, hwfs⟩ := hrel
    have hlt9 := hown.lt
    obtain ⟨x0, x1, x2, x3, x4, f0, f1, f2, f3, f4⟩ := blk5 C1
    have HC0 := Lib.hid C0
    have HC1 := Lib.hid C1
    have HBB := Lib.hid hb
    have HOW := Lib.hid hown
    have HLI := Lib.hid hlie
    clear C0 C1 hb hown hlie
    by_cases h : ts.length < q
    · have hm := hsub pi si wr hsi (by omega)
      have hpp : (p : Int) - ((p : Int) - (pi : Int)) = (pi : Int) := by omega
      obtain ⟨rr, hrr⟩ : ∃ rr, rd d' pi si = rr := ⟨_, rfl⟩
      rw [hrr] at hm
      have HRR := Lib.hid hrr
      clear hrr
      cases rr with
      | none =>
        have hm2 := hm.mono (R' := fun e w' => e = .returned (.tuple #[T.zero.val none 0, .string ⟨#[]⟩, .int .i64 (-1)]) ∧ Below wr.heap.size wr w') (fun e w' h => h.of_none)
        clear hm hsub
        go_wp2_with (first
          | (go_at_call 72; refine hm2.mono ?_; clear hm2; rintro e w3 ⟨he, hb3⟩; unfold T.val at he; subst he; have G3 := (hb3.block w.heap.size (by omega)).trans HC0.out; have hz3 := hb3.size)
          | (refine wpList_put _ rfl _ _ rfl w.heap.size _ _ _ _ _ _ _ _ _ _ (by rfl) (by rfl) (by simp [Value.oneCell']) ((Below.heap_alloc _ _ _ (by omega)).trans G3) ?_; rintro wP hP))
        have e := HE.out
        have hq1 : q - ts.length = (q - ts.length - 1) + 1 := by omega
        rw [hrds.out, hq1, rds, HRR.out] at e
        rw [← show none = rs from e]
        exact post_cell26f Try.results72 rfl rfl rfl rfl hP.at_ ⟨.inr ⟨rfl, rfl⟩, HBB.out.trans (((hb3.mono (by omega)).alloc (by omega) _).trans (hP.below (Nat.le_refl _)))⟩
      | some vv =>
        obtain ⟨t, s', p'⟩ := vv
        have hle := rd_le d' pi si (t, s', p') HRR.out
        have hm2 := hm.mono (R' := fun e w' => ∃ a c, e = .returned (.tuple #[t.val a c, .string s', .int .i64 ((pi : Int) - p')]) ∧ T.In w' (New wr.heap.size w') false t a c ∧ t.wf ∧ p' < pi ∧ Below wr.heap.size wr w') (fun e w' h => h.of_some)
        have hp9 : p' ≤ pi := hle.1
        have hk1 : ¬ (pi : Int) - (p' : Int) < 0 := by omega
        have hk2 : decide ((pi : Int) - (p' : Int) < 0) = false := by simp; omega
        clear hm hsub
        go_wp2_with (first
          | (go_at_call 72; refine hm2.mono ?_; clear hm2; rintro e w3 ⟨a2, c2, he, hi2, htw, hpl, hb3⟩; unfold T.val at he; subst he; have G3 := (hb3.block w.heap.size (by omega)).trans HC0.out; have Y3 := (hb3.block (w.heap.size + 1) (by omega)).trans HC1.out; have hz3 := hb3.size; have hv3 : w.heap.size + 1 < w3.heap.size := (by omega); have hv4 : w.heap.size < w3.heap.size := (by omega); clear x0 x1 x2 x3 x4 f0 f1 f2 f3 f4; obtain ⟨x0, x1, x2, x3, x4, f0, f1, f2, f3, f4⟩ := blk5 Y3; have own3 := Lib.hid (ownsRow_of_block' (w' := w3) HOW.out (fun g hg => hb3.block g (hlt9 g hg).2)); have HI2 := Lib.hid hi2; have HB3 := Lib.hid hb3; have HY3 := Lib.hid Y3; clear hi2 hb3 Y3)
          | (at_builtin; go_loud (refine wpList_append_lies _ rfl _ _ 23 rfl (w.heap.size + 2) 26 i0 _ 5 64 Try.underlying23 hi hy0 hy1 hy2 rfl (by decide) v _ xs (by rfl) ((own3.out.alloc _).alloc _) ⟨w3.heap.size + 1, 0, none⟩ 1 1 (t.cells5 a2 c2) (by rfl) rfl (World.news_of_block (cs := #[.int .u8 t.k, .int .i64 t.n, .string t.s, .slice a2 t.l.length c2, .int .i64 t.r]) (t := 26) (fr := (0, 0)) (two_blk1 _ _ _)) (by simp [T.cells5, Value.oneCell']) (by omega) (by unfold maxLen; omega) (by omega) (by simp; omega) _ rfl ?_; intro g cap w4 hown4 hgrow4 hat4 hlt4; have V4 := (hgrow4.block (w.heap.size + 1) (by simp; omega) (fun e => by have := (hlt9 _ e.symm).1; omega)).trans ((Below.heap_alloc _ _ _ (by simp; omega)).trans ((Below.heap_alloc _ _ _ (by omega)).trans HY3.out)); clear x0 x1 x2 x3 x4 f0 f1 f2 f3 f4; obtain ⟨x0, x1, x2, x3, x4, f0, f1, f2, f3, f4⟩ := blk5 V4; have V4 := Lib.hid V4)))
        have hz4 := hgrow4.size
        simp only [World.size_alloc] at hz4
        have hi2' : T.In (w3.alloc (.cells #[.int .u8 t.k, .int .i64 t.n, .string t.s, .slice a2 t.l.length c2, .int .i64 t.r] 26)) (New wr.heap.size (w3.alloc (.cells #[.int .u8 t.k, .int .i64 t.n, .string t.s, .slice a2 t.l.length c2, .int .i64 t.r] 26))) false t a2 c2 :=
          T.In.keep (fun b hb => Below.heap_alloc _ _ _ hb.2) (fun b hb => ⟨hb.1, by have := hb.2; rw [World.size_alloc]; omega⟩) id HI2.out
        obtain ⟨r1, r2, r3, r4, r5⟩ := lie_step (ob := w.heap.size + 1) (base := w.heap.size + 2) HBB.out (by omega) (by omega) (by omega) (HB3.out.alloc (by omega) _) HOW.out HLI.out hi2' hown4 hgrow4 hat4 HC1.out
        have Q0 := (r2 w.heap.size (by omega) (by omega)).trans HC0.out
        have rz := r1.size
        have hlen : (ts ++ [t]).length = ts.length + 1 := by simp
        go_roundg (gk - 1)
        case measure => omega
        case rel =>
          refine ⟨ts ++ [t], _, _, s', p', rfl, ?_, by rw [hlen]; go_num, by rw [hlen]; omega, r1, by simp [World.setCell]; omega, Q0, r3, by rw [hlen]; exact r4, r5, by omega, by have h9 : s'.size ≤ si.size := hle.2; omega, ?_, ?_⟩
          · have e9 : (p : Int) - (pi : Int) + ((pi : Int) - (p' : Int)) = (p : Int) - (p' : Int) := by omega
            rw [e9]
          · show rds (rd d') q (p - 1) r = _
            have hq1 : q - ts.length = (q - (ts ++ [t]).length) + 1 := by rw [hlen]; omega
            rw [hrds.out, hq1, rds, HRR.out]
            simp only [Option.bind_some]
            cases rds (rd d') (q - (ts ++ [t]).length) p' s' <;> simp
          · intro x hx
            rcases List.mem_append.1 hx with hx | hx
            · exact hwfs.out x hx
            · rw [List.mem_singleton.1 hx]; exact htw
    · have hq : q = ts.length := by omega
      have e := HE.out
      have hz : q - ts.length = 0 := by omega
      rw [hrds.out, hz, rds] at e
      simp only [Option.map_some, List.append_nil] at e
      have HE2 := Lib.hid e
      have hn : ¬ (ts.length : Int) < (q : Int) := by omega
      have ho := HOW.out
      obtain ⟨va, vc, rfl⟩ := own_form ho
      have hlies := Lib.hid (own_lies ho HLI.out (B := w.heap.size + 1) (by omega))
      have htl : ts.length ≤ 65535 := by omega
      clear e hz hq ho HOW HLI hsub
      go_wp2_with (refine wpList_put _ rfl _ _ rfl w.heap.size _ _ _ _ _ _ _ _ _ _ (by rfl) (by rfl) (by simp [Value.oneCell']) HC0.out ?_; rintro wP hP)
      have e9 : (p : Int) - (pi : Int) = (p : Int) - (pi : Int) := rfl
      refine post_cell26f Try.results72 rfl rfl rfl rfl hP.at_ ⟨.inl ⟨.mk 3 0 ⟨#[]⟩ ts 0, si, pi, va, vc, HE2.out.symm, rfl, ?_, ?_, hpi⟩, HBB.out.trans (hP.below (Nat.le_refl _))⟩
      · exact T.In.keep (fun b hb => hP.other b (by have := hb.1; omega)) (fun b hb => ⟨by have := hb.1; omega, by rw [hP.size]; exact hb.2⟩) id (hlies.out 3 0 ⟨#[]⟩ 0)
      · rw [T.wf, T.wfs_iff]
        refine ⟨⟨by omega, by omega, by omega, by omega, by omega, by omega, by show 0 ≤ _; omega, by omega⟩, hwfs.out⟩

theorem refFront_walk : ∀ d, d ≤ 1000 → RefCalls d := by
  have core : ∀ (d p : Nat) (s : ByteArray) (w : World) (sub : Nat → Nat → ByteArray → Option (List T × ByteArray × Nat)) (hsub : d = 0 ∨ ∃ d', d = d' + 1 ∧ sub = rds (rd d') ∧ RefCalls d') (hd9 : d ≤ 1000) (hsz : s.size ≤ 140737488351232) (hp2 : p ≤ 1000000),
      Calls Try.prog 72 #[.string s, .int .i64 p, .int .i64 d] w (RefFront w p (rdNode d p s sub)) := by
    intro d p s w sub hsub hd9 hsz hp2
    by_cases he : s.size < 1 ∨ p = 0
    · exact refFront_none s p d w he sub
    have hs0 : 0 < s.size := by omega
    have hp : 0 < p := by omega
    by_cases k0 : hd s = 0
    · exact refFront_zero s p d w hs0 hsz hp hp2 k0 sub
    by_cases k1 : hd s = 1
    · by_cases hq : (tl s).size < 8
      · exact refFront_num0 s p d w hs0 hsz hp hp2 k1 hq sub
      · exact refFront_num1 s p d w hs0 hsz hp hp2 k1 hq sub
    by_cases k4 : hd s = 4
    · by_cases hq : (tl s).size < 4
      · exact refFront_ref0 s p d w hs0 hsz hp hp2 k4 hq sub
      by_cases hz : numOf ((tl s).extract 0 4) = 0
      · exact refFront_refz s p d w hs0 hsz hp hp2 k4 hq hz sub
      · exact refFront_ref1 s p d w hs0 hsz hp hp2 k4 hq hz sub
    by_cases k2 : hd s = 2
    · by_cases hq : (tl s).size < 2
      · exact refFront_txt0 s p d w hs0 hsz hp hp2 k2 hq sub
      by_cases hb : 256 < numOf ((tl s).extract 0 2)
      · exact refFront_txtb s p d w hs0 hsz hp hp2 k2 hq hb sub
      by_cases ho : (cut 2 (tl s)).size < (numOf ((tl s).extract 0 2)).toNat
      · exact refFront_txto s p d w hs0 hsz hp hp2 k2 hq hb ho sub
      · exact refFront_txt1 s p d w hs0 hsz hp hp2 k2 hq hb ho sub
    by_cases k3 : hd s = 3
    · by_cases hq : (tl s).size < 2
      · exact refFront_lst0 s p d w hs0 hsz hp hp2 k3 hq sub
      by_cases hb : d = 0 ∨ p - 1 < (numOf ((tl s).extract 0 2)).toNat
      · exact refFront_lstb s p d w hs0 hsz hp hp2 k3 hq hb hd9 sub
      · rcases hsub with h | ⟨d', rfl, rfl, hc⟩
        · exact absurd (.inl h) hb
        · exact refFront_lst1 s p d' w hs0 hsz hp hp2 k3 hq hb (by omega) hc
    · exact refFront_oth s p d w hs0 hsz hp hp2 k0 k1 k4 k2 k3 sub
  intro d
  induction d with
  | zero => intro hd p s w hs hp; rw [rd]; exact core 0 p s w _ (.inl rfl) hd hs hp
  | succ d ih => intro hd p s w hs hp; rw [rd]; exact core (d + 1) p s w _ (.inr ⟨d, rfl, rfl, ih (by omega)⟩) hd hs hp

end Go.Proofs.Ytapfmfihhpafcaa
