/-
  posternref02.front: texts.
-/
import Derived.Test.YtapfmfihhpafcaaN6
namespace Go.Proofs.Ytapfmfihhpafcaa
open Go.RowKit
set_option linter.unusedVariables false

set_option maxRecDepth 100000 in
set_option maxHeartbeats 2000000 in
theorem refFront_txt0 (s : ByteArray) (p d : Nat) (w : World) (hs0 : 0 < s.size) (hsz : s.size ≤ 140737488351232) (hp : 0 < p) (hp2 : p ≤ 1000000) (k2 : hd s = 2) (hq : (tl s).size < 2) (sub : Nat → Nat → ByteArray → Option (List T × ByteArray × Nat)) :
    Calls Try.prog 72 #[.string s, .int .i64 p, .int .i64 d] w (RefFront w p (rdNode d p s sub)) := by
  have e : rdNode d p s sub = none := by unfold rdNode; rw [if_neg (by omega), if_neg (by omega), if_neg (by omega), if_neg (by omega), if_pos k2, if_pos hq]
  rw [e]
  obtain ⟨w1, hw1⟩ : ∃ w1, w1 = w.alloc (.cells #[.int .u8 0, .int .i64 0, .string ⟨#[]⟩, .slice none 0 0, .int .i64 0] 26 (0, 0)) := ⟨_, rfl⟩
  have hb1 : Below w.heap.size w w1 := by rw [hw1]; exact (Below.refl _ _).alloc (Nat.le_refl _) _
  have D0 : w1.heap[w.heap.size]? = some (.cells #[.int .u8 0, .int .i64 0, .string ⟨#[]⟩, .slice none 0 0, .int .i64 0] 26 (0, 0)) := by rw [hw1]; exact blk_new _ _
  have hlt : w.heap.size < w1.heap.size := (Array.getElem?_eq_some_iff.1 D0).1
  have E0 := Lib.hid D0
  have hne9 : w.heap.size ≠ w1.heap.size := by omega
  have HB := Lib.hid hb1
  have hse := not_empty hs0
  have hx : (s[0]'hs0).toNat = 2 := by have := hd_eq0 hs0; rw [k2] at this; omega
  have htz : (s.extract 1 s.size).size ≤ 140737488351232 := by simp; omega
  have mN := fun W => refNumber_walk 2 (s.extract 1 s.size) W htz (by omega)
  have ha : numAns (s.extract 1 s.size) 2 = .tuple #[.int .u64 0, .string (s.extract 1 s.size), .bool false] := by unfold numAns; exact if_pos hq
  rw [ha] at mN
  have mN8 : ∀ W, Calls Try.prog 95 #[.string (s.extract 1 s.size), .int .i64 2] W fun e w' => e = .returned (.tuple #[.int .u64 0, .string (s.extract 1 s.size), .bool false]) ∧ Below W.heap.size W w' := mN
  have i1 : (1 : Int) ≤ (s.size : Int) := by omega
  have i2 : ¬ (p : Int) < 1 := by omega
  have E1 := Lib.hid ((Below.heap_alloc w1 (.cells #[.int .u8 2, .int .i64 0, .string ⟨#[]⟩, .slice none 0 0, .int .i64 0] 26) _ hlt).trans D0)
  clear D0 hb1 k2 mN ha
  go_enter Try.func72, Try.ntmps72
  go_upto_region 1 with (fail)
  rw [← hw1]
  clear hw1
  go_wp2_with (first
    | (go_at_call 95; refine (mN8 _).mono ?_; clear mN8; rintro e w2 ⟨rfl, hb2⟩; have G0 := (hb2.block w.heap.size (by rw [World.size_alloc]; omega)).trans E1.out; have Y1 := zbox0 hb2; obtain ⟨x0, x1, x2, x3, x4, f0, f1, f2, f3, f4⟩ := blk5 Y1; have hz2 := hb2.size)
    | (refine wpList_put _ rfl _ _ rfl w.heap.size _ _ _ _ _ _ _ _ _ _ (by rfl) (by rfl) (by simp [Value.oneCell']) G0 ?_; rintro wP hP))
  exact post_cell26f Try.results72 rfl rfl rfl rfl hP.at_ ⟨.inr ⟨rfl, rfl⟩, HB.out.trans ((((Below.refl _ _).alloc (by omega) _).trans (hb2.mono (by simp; omega))).trans (hP.below (Nat.le_refl _)))⟩

set_option maxRecDepth 100000 in
set_option maxHeartbeats 2000000 in
theorem refFront_txtb (s : ByteArray) (p d : Nat) (w : World) (hs0 : 0 < s.size) (hsz : s.size ≤ 140737488351232) (hp : 0 < p) (hp2 : p ≤ 1000000) (k2 : hd s = 2) (hq : ¬ (tl s).size < 2) (hb : 256 < numOf ((tl s).extract 0 2)) (sub : Nat → Nat → ByteArray → Option (List T × ByteArray × Nat)) :
    Calls Try.prog 72 #[.string s, .int .i64 p, .int .i64 d] w (RefFront w p (rdNode d p s sub)) := by
  have e : rdNode d p s sub = none := by unfold rdNode; rw [if_neg (by omega), if_neg (by omega), if_neg (by omega), if_neg (by omega), if_pos k2, if_neg hq, if_pos hb]
  rw [e]
  obtain ⟨w1, hw1⟩ : ∃ w1, w1 = w.alloc (.cells #[.int .u8 0, .int .i64 0, .string ⟨#[]⟩, .slice none 0 0, .int .i64 0] 26 (0, 0)) := ⟨_, rfl⟩
  have hb1 : Below w.heap.size w w1 := by rw [hw1]; exact (Below.refl _ _).alloc (Nat.le_refl _) _
  have D0 : w1.heap[w.heap.size]? = some (.cells #[.int .u8 0, .int .i64 0, .string ⟨#[]⟩, .slice none 0 0, .int .i64 0] 26 (0, 0)) := by rw [hw1]; exact blk_new _ _
  have hlt : w.heap.size < w1.heap.size := (Array.getElem?_eq_some_iff.1 D0).1
  have E0 := Lib.hid D0
  have hne9 : w.heap.size ≠ w1.heap.size := by omega
  have HB := Lib.hid hb1
  have hse := not_empty hs0
  have hx : (s[0]'hs0).toNat = 2 := by have := hd_eq0 hs0; rw [k2] at this; omega
  have htz : (s.extract 1 s.size).size ≤ 140737488351232 := by simp; omega
  have mN := fun W => refNumber_walk 2 (s.extract 1 s.size) W htz (by omega)
  obtain ⟨q, hN⟩ : ∃ q : Nat, numOf ((s.extract 1 s.size).extract 0 2) = q := numOf_nat _
  have hN' : numOf ((tl s).extract 0 2) = q := hN
  obtain ⟨r, hr⟩ : ∃ r, (s.extract 1 s.size).extract 2 (s.extract 1 s.size).size = r := ⟨_, rfl⟩
  have hr' : cut 2 (tl s) = r := hr
  have ha : numAns (s.extract 1 s.size) 2 = .tuple #[.int .u64 (q : Int), .string r, .bool true] := by unfold numAns; rw [hN, hr]; exact if_neg hq
  have hNr : q < 65536 := by
    have h1 := (numOf_lt ((s.extract 1 s.size).extract 0 2) 2 (by simp; omega)).2
    have h3 : (256 ^ 2 : Nat) = 65536 := (by decide)
    rw [hN] at h1
    omega
  have hrz : r.size ≤ 140737488351232 := by rw [← hr]; simp; omega
  rw [hN'] at hb
  have hb' : (256 : Int) < (q : Int) := by omega
  have hb3 : decide ((256 : Int) < (q : Int)) = true := by simp; omega
  have hb4 : 256 < q := by omega
  clear hb
  rw [ha] at mN
  have mN8 : ∀ W, Calls Try.prog 95 #[.string (s.extract 1 s.size), .int .i64 2] W fun e w' => e = .returned (.tuple #[.int .u64 (q : Int), .string r, .bool true]) ∧ Below W.heap.size W w' := mN
  have i1 : (1 : Int) ≤ (s.size : Int) := by omega
  have i2 : ¬ (p : Int) < 1 := by omega
  have E1 := Lib.hid ((Below.heap_alloc w1 (.cells #[.int .u8 2, .int .i64 0, .string ⟨#[]⟩, .slice none 0 0, .int .i64 0] 26) _ hlt).trans D0)
  clear D0 hb1 k2 mN ha hN hN' hr hr' hq htz
  go_enter Try.func72, Try.ntmps72
  go_upto_region 1 with (fail)
  rw [← hw1]
  clear hw1
  go_wp2_with (first
    | (go_at_call 95; refine (mN8 _).mono ?_; clear mN8; rintro e w2 ⟨rfl, hb2⟩; have G0 := (hb2.block w.heap.size (by rw [World.size_alloc]; omega)).trans E1.out; have Y1 := zbox0 hb2; obtain ⟨x0, x1, x2, x3, x4, f0, f1, f2, f3, f4⟩ := blk5 Y1; have hz2 := hb2.size)
    | (refine wpList_put _ rfl _ _ rfl w.heap.size _ _ _ _ _ _ _ _ _ _ (by rfl) (by rfl) (by simp [Value.oneCell']) G0 ?_; rintro wP hP)
    | (refine wpList_put _ rfl _ _ rfl w.heap.size _ _ _ _ _ _ _ _ _ _ (by rfl) (by rfl) (by simp [Value.oneCell']) ((Below.heap_setCell _ _ _ _ hne9).trans G0) ?_; rintro wP hP))
  exact post_cell26f Try.results72 rfl rfl rfl rfl hP.at_ ⟨.inr ⟨rfl, rfl⟩, HB.out.trans ((((Below.refl _ _).alloc (by omega) _).trans (hb2.mono (by simp; omega))).trans (hP.below (Nat.le_refl _)))⟩

set_option maxRecDepth 100000 in
set_option maxHeartbeats 2000000 in
theorem refFront_txto (s : ByteArray) (p d : Nat) (w : World) (hs0 : 0 < s.size) (hsz : s.size ≤ 140737488351232) (hp : 0 < p) (hp2 : p ≤ 1000000) (k2 : hd s = 2) (hq : ¬ (tl s).size < 2) (hb : ¬ 256 < numOf ((tl s).extract 0 2)) (ho : (cut 2 (tl s)).size < (numOf ((tl s).extract 0 2)).toNat) (sub : Nat → Nat → ByteArray → Option (List T × ByteArray × Nat)) :
    Calls Try.prog 72 #[.string s, .int .i64 p, .int .i64 d] w (RefFront w p (rdNode d p s sub)) := by
  have e : rdNode d p s sub = none := by unfold rdNode; rw [if_neg (by omega), if_neg (by omega), if_neg (by omega), if_neg (by omega), if_pos k2, if_neg hq, if_neg hb, if_pos ho]
  rw [e]
  obtain ⟨w1, hw1⟩ : ∃ w1, w1 = w.alloc (.cells #[.int .u8 0, .int .i64 0, .string ⟨#[]⟩, .slice none 0 0, .int .i64 0] 26 (0, 0)) := ⟨_, rfl⟩
  have hb1 : Below w.heap.size w w1 := by rw [hw1]; exact (Below.refl _ _).alloc (Nat.le_refl _) _
  have D0 : w1.heap[w.heap.size]? = some (.cells #[.int .u8 0, .int .i64 0, .string ⟨#[]⟩, .slice none 0 0, .int .i64 0] 26 (0, 0)) := by rw [hw1]; exact blk_new _ _
  have hlt : w.heap.size < w1.heap.size := (Array.getElem?_eq_some_iff.1 D0).1
  have E0 := Lib.hid D0
  have hne9 : w.heap.size ≠ w1.heap.size := by omega
  have HB := Lib.hid hb1
  have hse := not_empty hs0
  have hx : (s[0]'hs0).toNat = 2 := by have := hd_eq0 hs0; rw [k2] at this; omega
  have htz : (s.extract 1 s.size).size ≤ 140737488351232 := by simp; omega
  have mN := fun W => refNumber_walk 2 (s.extract 1 s.size) W htz (by omega)
  obtain ⟨q, hN⟩ : ∃ q : Nat, numOf ((s.extract 1 s.size).extract 0 2) = q := numOf_nat _
  have hN' : numOf ((tl s).extract 0 2) = q := hN
  obtain ⟨r, hr⟩ : ∃ r, (s.extract 1 s.size).extract 2 (s.extract 1 s.size).size = r := ⟨_, rfl⟩
  have hr' : cut 2 (tl s) = r := hr
  have ha : numAns (s.extract 1 s.size) 2 = .tuple #[.int .u64 (q : Int), .string r, .bool true] := by unfold numAns; rw [hN, hr]; exact if_neg hq
  have hNr : q < 65536 := by
    have h1 := (numOf_lt ((s.extract 1 s.size).extract 0 2) 2 (by simp; omega)).2
    have h3 : (256 ^ 2 : Nat) = 65536 := (by decide)
    rw [hN] at h1
    omega
  have hrz : r.size ≤ 140737488351232 := by rw [← hr]; simp; omega
  rw [hN'] at hb
  rw [hN', hr', Int.toNat_natCast] at ho
  have hb' : ¬ (256 : Int) < (q : Int) := by omega
  have hb3 : decide ((256 : Int) < (q : Int)) = false := by simp; omega
  have hb4 : ¬ 256 < q := by omega
  have hb5 : decide (256 < q) = false := by simp; omega
  have ho' : (r.size : Int) < (q : Int) := by omega
  have hwr : IntKind.u64.wrap (r.size : Int) = r.size := by rw [IntKind.wrap_u64]; omega
  clear hb
  rw [ha] at mN
  have mN8 : ∀ W, Calls Try.prog 95 #[.string (s.extract 1 s.size), .int .i64 2] W fun e w' => e = .returned (.tuple #[.int .u64 (q : Int), .string r, .bool true]) ∧ Below W.heap.size W w' := mN
  have i1 : (1 : Int) ≤ (s.size : Int) := by omega
  have i2 : ¬ (p : Int) < 1 := by omega
  have E1 := Lib.hid ((Below.heap_alloc w1 (.cells #[.int .u8 2, .int .i64 0, .string ⟨#[]⟩, .slice none 0 0, .int .i64 0] 26) _ hlt).trans D0)
  clear D0 hb1 k2 mN ha hN hN' hr hr' hq htz
  go_enter Try.func72, Try.ntmps72
  go_upto_region 1 with (fail)
  rw [← hw1]
  clear hw1
  go_wp2_with (first
    | (go_at_call 95; refine (mN8 _).mono ?_; clear mN8; rintro e w2 ⟨rfl, hb2⟩; have G0 := (hb2.block w.heap.size (by rw [World.size_alloc]; omega)).trans E1.out; have Y1 := zbox0 hb2; obtain ⟨x0, x1, x2, x3, x4, f0, f1, f2, f3, f4⟩ := blk5 Y1; have hz2 := hb2.size)
    | (refine wpList_put _ rfl _ _ rfl w.heap.size _ _ _ _ _ _ _ _ _ _ (by rfl) (by rfl) (by simp [Value.oneCell']) G0 ?_; rintro wP hP)
    | (refine wpList_put _ rfl _ _ rfl w.heap.size _ _ _ _ _ _ _ _ _ _ (by rfl) (by rfl) (by simp [Value.oneCell']) ((Below.heap_setCell _ _ _ _ hne9).trans G0) ?_; rintro wP hP))
  exact post_cell26f Try.results72 rfl rfl rfl rfl hP.at_ ⟨.inr ⟨rfl, rfl⟩, HB.out.trans ((((Below.refl _ _).alloc (by omega) _).trans (hb2.mono (by simp; omega))).trans (hP.below (Nat.le_refl _)))⟩

set_option maxRecDepth 100000 in
set_option maxHeartbeats 2000000 in
theorem refFront_txt1 (s : ByteArray) (p d : Nat) (w : World) (hs0 : 0 < s.size) (hsz : s.size ≤ 140737488351232) (hp : 0 < p) (hp2 : p ≤ 1000000) (k2 : hd s = 2) (hq : ¬ (tl s).size < 2) (hb : ¬ 256 < numOf ((tl s).extract 0 2)) (ho : ¬ (cut 2 (tl s)).size < (numOf ((tl s).extract 0 2)).toNat) (sub : Nat → Nat → ByteArray → Option (List T × ByteArray × Nat)) :
    Calls Try.prog 72 #[.string s, .int .i64 p, .int .i64 d] w (RefFront w p (rdNode d p s sub)) := by
  have e : rdNode d p s sub = some (.mk 2 0 ((cut 2 (tl s)).extract 0 (numOf ((tl s).extract 0 2)).toNat) [] 0, cut (numOf ((tl s).extract 0 2)).toNat (cut 2 (tl s)), p - 1) := by unfold rdNode; rw [if_neg (by omega), if_neg (by omega), if_neg (by omega), if_neg (by omega), if_pos k2, if_neg hq, if_neg hb, if_neg ho]
  rw [e]
  obtain ⟨w1, hw1⟩ : ∃ w1, w1 = w.alloc (.cells #[.int .u8 0, .int .i64 0, .string ⟨#[]⟩, .slice none 0 0, .int .i64 0] 26 (0, 0)) := ⟨_, rfl⟩
  have hb1 : Below w.heap.size w w1 := by rw [hw1]; exact (Below.refl _ _).alloc (Nat.le_refl _) _
  have D0 : w1.heap[w.heap.size]? = some (.cells #[.int .u8 0, .int .i64 0, .string ⟨#[]⟩, .slice none 0 0, .int .i64 0] 26 (0, 0)) := by rw [hw1]; exact blk_new _ _
  have hlt : w.heap.size < w1.heap.size := (Array.getElem?_eq_some_iff.1 D0).1
  have E0 := Lib.hid D0
  have hne9 : w.heap.size ≠ w1.heap.size := by omega
  have HB := Lib.hid hb1
  have hse := not_empty hs0
  have hx : (s[0]'hs0).toNat = 2 := by have := hd_eq0 hs0; rw [k2] at this; omega
  have htz : (s.extract 1 s.size).size ≤ 140737488351232 := by simp; omega
  have mN := fun W => refNumber_walk 2 (s.extract 1 s.size) W htz (by omega)
  obtain ⟨q, hN⟩ : ∃ q : Nat, numOf ((s.extract 1 s.size).extract 0 2) = q := numOf_nat _
  have hN' : numOf ((tl s).extract 0 2) = q := hN
  obtain ⟨r, hr⟩ : ∃ r, (s.extract 1 s.size).extract 2 (s.extract 1 s.size).size = r := ⟨_, rfl⟩
  have hr' : cut 2 (tl s) = r := hr
  have ha : numAns (s.extract 1 s.size) 2 = .tuple #[.int .u64 (q : Int), .string r, .bool true] := by unfold numAns; rw [hN, hr]; exact if_neg hq
  have hNr : q < 65536 := by
    have h1 := (numOf_lt ((s.extract 1 s.size).extract 0 2) 2 (by simp; omega)).2
    have h3 : (256 ^ 2 : Nat) = 65536 := (by decide)
    rw [hN] at h1
    omega
  have hrz : r.size ≤ 140737488351232 := by rw [← hr]; simp; omega
  rw [hN'] at hb
  rw [hN', hr', Int.toNat_natCast] at ho
  rw [hN', hr', Int.toNat_natCast]
  have hb' : ¬ (256 : Int) < (q : Int) := by omega
  have hb3 : decide ((256 : Int) < (q : Int)) = false := by simp; omega
  have hb4 : ¬ 256 < q := by omega
  have hb5 : decide (256 < q) = false := by simp; omega
  have ho' : ¬ (r.size : Int) < (q : Int) := by omega
  have ho2 : (q : Int) ≤ (r.size : Int) := by omega
  have ho3 : decide ((r.size : Int) < (q : Int)) = false := by simp; omega
  have ho4 : decide (r.size < q) = false := by simp; omega
  have hwr : IntKind.u64.wrap (r.size : Int) = r.size := by rw [IntKind.wrap_u64]; omega
  clear hb
  rw [ha] at mN
  have mN8 : ∀ W, Calls Try.prog 95 #[.string (s.extract 1 s.size), .int .i64 2] W fun e w' => e = .returned (.tuple #[.int .u64 (q : Int), .string r, .bool true]) ∧ Below W.heap.size W w' := mN
  have i1 : (1 : Int) ≤ (s.size : Int) := by omega
  have i2 : ¬ (p : Int) < 1 := by omega
  have E1 := Lib.hid ((Below.heap_alloc w1 (.cells #[.int .u8 2, .int .i64 0, .string ⟨#[]⟩, .slice none 0 0, .int .i64 0] 26) _ hlt).trans D0)
  clear D0 hb1 k2 mN ha hN hN' hr hr' hq htz
  go_enter Try.func72, Try.ntmps72
  go_upto_region 1 with (fail)
  rw [← hw1]
  clear hw1
  go_wp2_with (first
    | (go_at_call 95; refine (mN8 _).mono ?_; clear mN8; rintro e w2 ⟨rfl, hb2⟩; have G0 := (hb2.block w.heap.size (by rw [World.size_alloc]; omega)).trans E1.out; have Y1 := zbox0 hb2; obtain ⟨x0, x1, x2, x3, x4, f0, f1, f2, f3, f4⟩ := blk5 Y1; have hz2 := hb2.size)
    | (refine wpList_put _ rfl _ _ rfl w.heap.size _ _ _ _ _ _ _ _ _ _ (by rfl) (by rfl) (by simp [Value.oneCell']) G0 ?_; rintro wP hP)
    | (refine wpList_put _ rfl _ _ rfl w.heap.size _ _ _ _ _ _ _ _ _ _ (by rfl) (by rfl) (by simp [Value.oneCell']) ((Below.heap_setCell _ _ _ _ hne9).trans G0) ?_; rintro wP hP))
  refine post_cell26f Try.results72 rfl rfl rfl rfl hP.at_ ⟨.inl ⟨.mk 2 0 (r.extract 0 q) [] 0, cut q r, p - 1, none, 0, rfl, ?_, by rw [T.In]; exact ⟨Nat.le_refl _, .inl rfl⟩, T.wf_flat _ _ _ _ (by omega) (by simp; omega), by omega⟩, HB.out.trans (((((Below.refl _ _).alloc (by omega) _).trans (hb2.mono (by simp; omega))).setCell (p := ⟨w1.heap.size, 2, none⟩) (by show w.heap.size ≤ w1.heap.size; omega) _).trans (hP.below (Nat.le_refl _)))⟩
  have e1 : (p : Int) - ((p - 1 : Nat) : Int) = 1 := by omega
  rw [e1]
  rfl

end Go.Proofs.Ytapfmfihhpafcaa
