/-
  posternref02.With; the answers of At and With, as one.
-/
import Derived.Test.YtapfmfihhpafcaaM2
import Derived.Test.YtapfmfihhpafcaaM1
import Derived.Test.YtapfmfihhpafcaaI4
import Derived.Test.YtapfmfihhpafcaaG5
import Derived.Test.YtapfmfihhpafcaaG1
import Derived.Test.YtapfmfihhpafcaaB2
namespace Go.Proofs.Ytapfmfihhpafcaa
open Go.RowKit
set_option linter.unusedVariables false

/-- What the document's With hands back. -/
def RefWithPost (w : World) (B : Nat) (t v : T) (p : List Int) (e : Ending) (w' : World) : Prop :=
  ((t.may = true ∧ v.may = true ∧ T.find p t ≠ none ∧ (T.put p v t).may = true ∧ ∃ a c, e = .returned (.tuple #[(T.put p v t).val a c, .int .i64 0]) ∧ T.In w' (fun b => b < B ∨ New w.heap.size w' b) false (T.put p v t) a c) ∨
    (t.may = true ∧ v.may = true ∧ T.find p t ≠ none ∧ (T.put p v t).may = false ∧ e = .returned (.tuple #[T.zero.val none 0, .int .i64 4])) ∨
    (t.may = true ∧ v.may = true ∧ T.find p t = none ∧ e = .returned (.tuple #[T.zero.val none 0, .int .i64 22])) ∨
    ((t.may && v.may) = false ∧ e = .returned (.tuple #[T.zero.val none 0, .int .i64 2]))) ∧ Below w.heap.size w w'

set_option maxRecDepth 100000 in
set_option maxHeartbeats 4000000 in
theorem refWith_walk (t v : T) (p : List Int) (a : Option Addr) (c : Nat) (a' : Option Addr) (c' : Nat) (pa : Option Addr) (pc : Nat) (w : World) (B : Nat) (hin : T.At w B t a c) (hin' : T.At w B v a' c') (hp : Ints w (· < B) p pa pc) (hB : B ≤ w.heap.size) (hw : t.wf) (hw' : v.wf) (hpl : p.length ≤ 1000000) :
    Calls Try.prog 47 #[t.val a c, v.val a' c', .slice pa p.length pc] w (RefWithPost w B t v p) := by
  obtain ⟨w1, hw1⟩ : ∃ w1, w1 = ((w.alloc (.cells #[.int .u8 t.k, .int .i64 t.n, .string t.s, .slice a t.l.length c, .int .i64 t.r] 26 (0, 0))).alloc (.cells #[.int .u8 v.k, .int .i64 v.n, .string v.s, .slice a' v.l.length c', .int .i64 v.r] 26 (0, 0))).alloc (.cells #[.int .u8 0, .int .i64 0, .string ⟨#[]⟩, .slice none 0 0, .int .i64 0] 26 (0, 0)) := ⟨_, rfl⟩
  have hb1 : Below w.heap.size w w1 := by rw [hw1]; exact (two_boxes _ _ _).alloc (by simp; omega) _
  obtain ⟨D0, D1, D2⟩ : w1.heap[w.heap.size]? = _ ∧ w1.heap[w.heap.size + 1]? = _ ∧ w1.heap[w.heap.size + 1 + 1]? = _ := by rw [hw1]; exact three_blk _ _ _ _
  have z1 : w1.heap.size = w.heap.size + 3 := by rw [hw1]; simp
  have i1 := T.At.below hb1 hB hin
  have i1' := T.At.below hb1 hB hin'
  have p1 := Ints.below hb1 hB hp
  have m1 := fun w' (hb : Below w1.heap.size w1 w') => refMay_walk t a c w' B (T.At.below hb (by omega) i1) (by have := hb.size; omega) hw
  have m2 := fun w' (hb : Below w1.heap.size w1 w') => refMay_walk v a' c' w' B (T.At.below hb (by omega) i1') (by have := hb.size; omega) hw'
  have m3 := fun w' (hb : Below w1.heap.size w1 w') => refAt_walk t p a c pa pc w' B (T.At.below hb (by omega) i1) (Ints.below hb (by omega) p1) (by have := hb.size; omega) hw hpl
  have m4 := fun w' (hb : Below w1.heap.size w1 w') (hf : T.find p t ≠ none) => laid_walk v hw' p t a c a' c' pa pc w' B (T.At.below hb (by omega) i1) (T.At.below hb (by omega) i1') (Ints.below hb (by omega) p1) (by have := hb.size; omega) hw hpl hf
  have P1 := Lib.hid p1
  clear hin hin' hp i1 i1' p1
  have HW := Lib.hid hw
  have HW' := Lib.hid hw'
  unfold T.val at m1 m2 m3 m4 ⊢
  obtain ⟨x0, x1, x2, x3, x4⟩ := blk5cc D0
  have E0 := Lib.hid D0
  have E1 := Lib.hid D1
  have E2 := Lib.hid D2
  have Z1 := Lib.hid z1
  have HB1 := Lib.hid hb1
  clear D0 D1 D2 hw hw' hb1 z1
  cases hm : t.may with
  | false =>
    rw [hm] at m1
    have HM := Lib.hid hm
    clear hm m2 m3 m4
    go_enter Try.func47, Try.ntmps47
    go_upto_region 1 with (fail)
    rw [← hw1]
    clear hw1
    go_wp2_with (first
      | (go_at_call 64; refine (m1 _ (Below.refl _ _)).mono ?_; clear m1; rintro e w2 ⟨rfl, hb2⟩; have G2 := Lib.hid ((hb2.block _ (by rw [Z1.out]; omega)).trans E2.out))
      | (refine wpList_put _ rfl _ _ rfl (w.heap.size + 1 + 1) _ _ _ _ _ _ _ _ _ _ (by rfl) (by rfl) (by simp [Value.oneCell']) G2.out ?_; rintro wP hP))
    exact post_cell26w Try.results47 rfl rfl rfl hP.at_ ⟨.inr (.inr (.inr ⟨by rw [HM.out]; rfl, rfl⟩)), HB1.out.trans ((hb2.mono (by rw [Z1.out]; omega)).trans (hP.below (by omega)))⟩
  | true =>
    rw [hm] at m1
    have HM := Lib.hid hm
    clear hm
    cases hv : v.may with
    | false =>
      rw [hv] at m2
      have HV := Lib.hid hv
      clear hv m3 m4
      go_enter Try.func47, Try.ntmps47
      go_upto_region 1 with (fail)
      rw [← hw1]
      clear hw1
      go_wp2_with (first
        | (go_at_call 64; refine (m1 _ (Below.refl _ _)).mono ?_; clear m1; rintro e w2 ⟨rfl, hb2⟩; have G1 := (hb2.block _ (by rw [Z1.out]; omega)).trans E1.out; clear x0 x1 x2 x3 x4; obtain ⟨x0, x1, x2, x3, x4⟩ := blk5cc G1; clear G1)
        | (go_at_call 64; refine (m2 _ hb2).mono ?_; clear m2; rintro e w3 ⟨rfl, hb3⟩; have hb23 := hb2.trans (hb3.mono hb2.size); have G2 := Lib.hid ((hb23.block _ (by rw [Z1.out]; omega)).trans E2.out))
        | (refine wpList_put _ rfl _ _ rfl (w.heap.size + 1 + 1) _ _ _ _ _ _ _ _ _ _ (by rfl) (by rfl) (by simp [Value.oneCell']) G2.out ?_; rintro wP hP))
      exact post_cell26w Try.results47 rfl rfl rfl hP.at_ ⟨.inr (.inr (.inr ⟨by rw [HM.out, HV.out]; rfl, rfl⟩)), HB1.out.trans ((hb23.mono (by rw [Z1.out]; omega)).trans (hP.below (by omega)))⟩
    | true =>
      rw [hv] at m2
      have HV := Lib.hid hv
      clear hv
      cases hf : T.find p t with
      | none =>
        have HF := Lib.hid hf
        have m3' : ∀ w' (hb : Below w1.heap.size w1 w'), Calls Try.prog 45 #[.agg #[.int .u8 t.k, .int .i64 t.n, .string t.s, .slice a t.l.length c, .int .i64 t.r], .slice pa p.length pc] w' fun e w'' => e = .returned (.tuple #[.agg #[.int .u8 0, .int .i64 0, .string ⟨#[]⟩, .slice none 0 0, .int .i64 0], .int .i64 22]) ∧ Below w'.heap.size w' w'' := fun w' hb => (m3 w' hb).mono fun e w'' hp => by
          rcases hp with ⟨⟨u, ua, uc, _, h1, _⟩ | ⟨_, _, h2⟩ | ⟨h1, _⟩, hb2⟩
          · rw [hf] at h1; cases h1
          · exact ⟨h2, hb2⟩
          · rw [HM.out] at h1; cases h1
        clear hf m3 m4
        go_enter Try.func47, Try.ntmps47
        go_upto_region 1 with (fail)
        rw [← hw1]
        clear hw1
        go_wp2_with (first
          | (go_at_call 64; refine (m1 _ (Below.refl _ _)).mono ?_; clear m1; rintro e w2 ⟨rfl, hb2⟩; have G1 := (hb2.block _ (by rw [Z1.out]; omega)).trans E1.out; clear x0 x1 x2 x3 x4; obtain ⟨x0, x1, x2, x3, x4⟩ := blk5cc G1; clear G1)
          | (go_at_call 64; refine (m2 _ hb2).mono ?_; clear m2; rintro e w3 ⟨rfl, hb3⟩; have hb23 := hb2.trans (hb3.mono hb2.size); have G0 := (hb23.block _ (by rw [Z1.out]; omega)).trans E0.out; clear x0 x1 x2 x3 x4; obtain ⟨x0, x1, x2, x3, x4⟩ := blk5cc G0; clear G0)
          | (go_at_call 45; refine (m3' _ hb23).mono ?_; clear m3'; rintro e w4 ⟨rfl, hb4⟩; have hb24 := hb23.trans (hb4.mono hb23.size); have zz4 := hb24.size; have G2 := (hb24.block (w.heap.size + 1 + 1) (by rw [Z1.out]; omega)).trans E2.out; have z24 : w.heap.size + 1 + 1 < w4.heap.size := (by have := Z1.out; omega); have G3 := Lib.hid ((Below.heap_alloc w4 (.cells #[.int .u8 0, .int .i64 0, .string ⟨#[]⟩, .slice none 0 0, .int .i64 0] 26) _ z24).trans G2); clear G2)
          | (refine wpList_put _ rfl _ _ rfl (w.heap.size + 1 + 1) _ _ _ _ _ _ _ _ _ _ (by rfl) (by rfl) (by simp [Value.oneCell']) G3.out ?_; rintro wP hP))
        exact post_cell26w Try.results47 rfl rfl rfl hP.at_ ⟨.inr (.inr (.inl ⟨HM.out, HV.out, HF.out, rfl⟩)), HB1.out.trans (((hb24.mono (by rw [Z1.out]; omega)).alloc (by omega) _).trans (hP.below (by omega)))⟩
      | some u0 =>
        have HF := Lib.hid hf
        have m3' : ∀ w' (hb : Below w1.heap.size w1 w'), Calls Try.prog 45 #[.agg #[.int .u8 t.k, .int .i64 t.n, .string t.s, .slice a t.l.length c, .int .i64 t.r], .slice pa p.length pc] w' fun e w'' => (∃ k n r s la ll lc, e = .returned (.tuple #[.agg #[.int .u8 k, .int .i64 n, .string s, .slice la ll lc, .int .i64 r], .int .i64 0])) ∧ Below w'.heap.size w' w'' := fun w' hb => (m3 w' hb).mono fun e w'' hp => by
          rcases hp with ⟨⟨u, ua, uc, _, h1, _, _, h4⟩ | ⟨_, h1, _⟩ | ⟨h1, _⟩, hb2⟩
          · exact ⟨⟨_, _, _, _, _, _, _, h4⟩, hb2⟩
          · rw [hf] at h1; cases h1
          · rw [HM.out] at h1; cases h1
        have hf' : T.find p t ≠ none := by rw [hf]; simp
        have hwF : (T.put p v t).wf := T.put_wf HW'.out HW.out hf'
        have m4' := fun W hb => m4 W hb hf'
        have m6 := fun (W : World) (b9 : Option Addr) (d9 : Nat) (hm : T.At W W.heap.size (T.put p v t) b9 d9) => refMay_walk (T.put p v t) b9 d9 W W.heap.size hm (Nat.le_refl _) hwF
        unfold T.val at m6
        have HFN := Lib.hid hf'
        clear hf m3 m4 hf' hwF
        cases hmF : (T.put p v t).may with
        | false =>
          rw [hmF] at m6
          have HMF := Lib.hid hmF
          clear hmF
          go_enter Try.func47, Try.ntmps47
          go_upto_region 1 with (fail)
          rw [← hw1]
          clear hw1
          go_wp2_with (first
            | (go_at_call 64; refine (m1 _ (Below.refl _ _)).mono ?_; clear m1; rintro e w2 ⟨rfl, hb2⟩; have G1 := (hb2.block _ (by rw [Z1.out]; omega)).trans E1.out; clear x0 x1 x2 x3 x4; obtain ⟨x0, x1, x2, x3, x4⟩ := blk5cc G1; clear G1)
            | (go_at_call 64; refine (m2 _ hb2).mono ?_; clear m2; rintro e w3 ⟨rfl, hb3⟩; have hb23 := hb2.trans (hb3.mono hb2.size); have G0 := (hb23.block _ (by rw [Z1.out]; omega)).trans E0.out; clear x0 x1 x2 x3 x4; obtain ⟨x0, x1, x2, x3, x4⟩ := blk5cc G0; clear G0)
            | (go_at_call 45; refine (m3' _ hb23).mono ?_; clear m3'; rintro e w4 ⟨⟨k4, n4, r4, s4, la4, ll4, lc4, rfl⟩, hb4⟩; have hb24 := hb23.trans (hb4.mono hb23.size); have hb25 : Below w1.heap.size w1 (w4.alloc (.cells #[.int .u8 k4, .int .i64 n4, .string s4, .slice la4 ll4 lc4, .int .i64 r4] 26)) := hb24.alloc hb24.size _; have G0 := (hb25.block _ (by rw [Z1.out]; omega)).trans E0.out; have G1 := (hb25.block _ (by rw [Z1.out]; omega)).trans E1.out; clear x0 x1 x2 x3 x4; obtain ⟨x0, x1, x2, x3, x4⟩ := blk5cc G0; obtain ⟨y0, y1, y2, y3, y4⟩ := blk5cc G1; clear G0 G1)
            | (go_at_call 82; refine (m4' _ hb25).mono ?_; clear m4'; rintro e w6 ⟨a6, c6, he, hi6, hb6⟩; unfold T.val at he; subst he; have hb16 := hb25.trans (hb6.mono hb25.size); have hz16 := hb16.size; have hb17 := hb16.alloc hz16 (.cells #[.int .u8 (T.put p v t).k, .int .i64 (T.put p v t).n, .string (T.put p v t).s, .slice a6 (T.put p v t).l.length c6, .int .i64 (T.put p v t).r] 26); have hb67 := (Below.refl w6.heap.size w6).alloc (Nat.le_refl _) (.cells #[.int .u8 (T.put p v t).k, .int .i64 (T.put p v t).n, .string (T.put p v t).s, .slice a6 (T.put p v t).l.length c6, .int .i64 (T.put p v t).r] 26); have hz25 := hb25.size; have hi7 : T.At (w6.alloc (.cells #[.int .u8 (T.put p v t).k, .int .i64 (T.put p v t).n, .string (T.put p v t).s, .slice a6 (T.put p v t).l.length c6, .int .i64 (T.put p v t).r] 26)) (w6.alloc (.cells #[.int .u8 (T.put p v t).k, .int .i64 (T.put p v t).n, .string (T.put p v t).s, .slice a6 (T.put p v t).l.length c6, .int .i64 (T.put p v t).r] 26)).heap.size (T.put p v t) a6 c6 := T.In.keep (fun q hq => hb67.block q (hq.elim (fun h => by have := Z1.out; omega) (fun h => h.2))) (fun q hq => hq.elim (fun h => by have := Z1.out; rw [World.size_alloc]; omega) (fun h => by have := h.2; rw [World.size_alloc]; omega)) id hi6; clear x0 x1 x2 x3 x4 y0 y1 y2 y3 y4)
            | (go_at_call 64; refine (m6 _ _ _ hi7).mono ?_; clear m6; rintro e w8 ⟨rfl, hb8⟩; have hb18 := hb17.trans (hb8.mono hb17.size); have G2 := Lib.hid ((hb18.block (w.heap.size + 1 + 1) (by rw [Z1.out]; omega)).trans E2.out))
            | (refine wpList_put _ rfl _ _ rfl (w.heap.size + 1 + 1) _ _ _ _ _ _ _ _ _ _ (by rfl) (by rfl) (by simp [Value.oneCell']) G2.out ?_; rintro wP hP))
          exact post_cell26w Try.results47 rfl rfl rfl hP.at_ ⟨.inr (.inl ⟨HM.out, HV.out, HFN.out, HMF.out, rfl⟩), HB1.out.trans ((hb18.mono (by rw [Z1.out]; omega)).trans (hP.below (by omega)))⟩
        | true =>
          rw [hmF] at m6
          have HMF := Lib.hid hmF
          clear hmF
          go_enter Try.func47, Try.ntmps47
          go_upto_region 1 with (fail)
          rw [← hw1]
          clear hw1
          go_wp2_with (first
            | (go_at_call 64; refine (m1 _ (Below.refl _ _)).mono ?_; clear m1; rintro e w2 ⟨rfl, hb2⟩; have G1 := (hb2.block _ (by rw [Z1.out]; omega)).trans E1.out; clear x0 x1 x2 x3 x4; obtain ⟨x0, x1, x2, x3, x4⟩ := blk5cc G1; clear G1)
            | (go_at_call 64; refine (m2 _ hb2).mono ?_; clear m2; rintro e w3 ⟨rfl, hb3⟩; have hb23 := hb2.trans (hb3.mono hb2.size); have G0 := (hb23.block _ (by rw [Z1.out]; omega)).trans E0.out; clear x0 x1 x2 x3 x4; obtain ⟨x0, x1, x2, x3, x4⟩ := blk5cc G0; clear G0)
            | (go_at_call 45; refine (m3' _ hb23).mono ?_; clear m3'; rintro e w4 ⟨⟨k4, n4, r4, s4, la4, ll4, lc4, rfl⟩, hb4⟩; have hb24 := hb23.trans (hb4.mono hb23.size); have hb25 : Below w1.heap.size w1 (w4.alloc (.cells #[.int .u8 k4, .int .i64 n4, .string s4, .slice la4 ll4 lc4, .int .i64 r4] 26)) := hb24.alloc hb24.size _; have G0 := (hb25.block _ (by rw [Z1.out]; omega)).trans E0.out; have G1 := (hb25.block _ (by rw [Z1.out]; omega)).trans E1.out; clear x0 x1 x2 x3 x4; obtain ⟨x0, x1, x2, x3, x4⟩ := blk5cc G0; obtain ⟨y0, y1, y2, y3, y4⟩ := blk5cc G1; clear G0 G1)
            | (go_at_call 82; refine (m4' _ hb25).mono ?_; clear m4'; rintro e w6 ⟨a6, c6, he, hi6, hb6⟩; unfold T.val at he; subst he; have HI6 := Lib.hid hi6; have hb16 := hb25.trans (hb6.mono hb25.size); have hz16 := hb16.size; have hb17 := hb16.alloc hz16 (.cells #[.int .u8 (T.put p v t).k, .int .i64 (T.put p v t).n, .string (T.put p v t).s, .slice a6 (T.put p v t).l.length c6, .int .i64 (T.put p v t).r] 26); have hb67 := (Below.refl w6.heap.size w6).alloc (Nat.le_refl _) (.cells #[.int .u8 (T.put p v t).k, .int .i64 (T.put p v t).n, .string (T.put p v t).s, .slice a6 (T.put p v t).l.length c6, .int .i64 (T.put p v t).r] 26); have hz25 := hb25.size; have hi7 : T.At (w6.alloc (.cells #[.int .u8 (T.put p v t).k, .int .i64 (T.put p v t).n, .string (T.put p v t).s, .slice a6 (T.put p v t).l.length c6, .int .i64 (T.put p v t).r] 26)) (w6.alloc (.cells #[.int .u8 (T.put p v t).k, .int .i64 (T.put p v t).n, .string (T.put p v t).s, .slice a6 (T.put p v t).l.length c6, .int .i64 (T.put p v t).r] 26)).heap.size (T.put p v t) a6 c6 := T.In.keep (fun q hq => hb67.block q (hq.elim (fun h => by have := Z1.out; omega) (fun h => h.2))) (fun q hq => hq.elim (fun h => by have := Z1.out; rw [World.size_alloc]; omega) (fun h => by have := h.2; rw [World.size_alloc]; omega)) id hi6; clear x0 x1 x2 x3 x4 y0 y1 y2 y3 y4)
            | (go_at_call 64; refine (m6 _ _ _ hi7).mono ?_; clear m6; rintro e w8 ⟨rfl, hb8⟩; have hb18 := hb17.trans (hb8.mono hb17.size); have G6 := (hb8.block w6.heap.size (by rw [World.size_alloc]; omega)).trans (blk_new _ _); obtain ⟨x0, x1, x2, x3, x4⟩ := blk5cc G6; clear G6; have G2 := Lib.hid ((hb18.block (w.heap.size + 1 + 1) (by rw [Z1.out]; omega)).trans E2.out))
            | (refine wpList_put _ rfl _ _ rfl (w.heap.size + 1 + 1) _ _ _ _ _ _ _ _ _ _ (by rfl) (by rfl) (by simp [Value.oneCell']) G2.out ?_; rintro wP hP))
          refine post_cell26w Try.results47 rfl rfl rfl hP.at_ ⟨.inl ⟨HM.out, HV.out, HFN.out, HMF.out, a6, c6, rfl, ?_⟩, HB1.out.trans ((hb18.mono (by rw [Z1.out]; omega)).trans (hP.below (by omega)))⟩
          have hz1 := Z1.out
          have hz8 := hb8.size
          rw [World.size_alloc] at hz8
          exact T.In.keep (ok := fun q => q < B ∨ New (w4.alloc (.cells #[.int .u8 k4, .int .i64 n4, .string s4, .slice la4 ll4 lc4, .int .i64 r4] 26)).heap.size w6 q) (fun q hq => (hP.other q (hq.elim (fun h => by omega) (fun h => by have := h.1; omega))).trans ((hb8.block q (by rw [World.size_alloc]; exact hq.elim (fun h => by omega) (fun h => by have := h.2; omega))).trans (hb67.block q (hq.elim (fun h => by omega) (fun h => h.2)))))
            (fun q hq => hq.imp id (fun h => ⟨by have := h.1; omega, by rw [hP.size]; have := h.2; omega⟩)) id HI6.out

/-- More room, and more depth, tell the same. -/
theorem T.look_grow (t : T) : ∀ (room deep room' deep' : Int), room ≤ room' → deep ≤ deep' → 1 ≤ T.look room deep t → T.look room' deep' t = T.look room deep t := by
  induction t using T.induct with
  | h k n s l r ih =>
    intro room deep room' deep' hr hd h
    rw [T.look] at h ⊢
    rw [T.look]
    by_cases h1 : room < 1
    · rw [if_pos h1] at h; omega
    rw [if_neg h1] at h ⊢
    rw [if_neg (by omega)]
    by_cases h2 : ¬ fieldsOk k n s l r
    · rw [if_pos h2] at h; omega
    rw [if_neg h2] at h ⊢
    rw [if_neg h2]
    by_cases h3 : k ≠ 3
    · rw [if_pos h3, if_pos h3]
    rw [if_neg h3] at h ⊢
    rw [if_neg h3]
    by_cases h4 : deep < 1
    · rw [if_pos h4] at h; omega
    rw [if_neg h4] at h ⊢
    rw [if_neg (by omega)]
    by_cases h5 : room ≤ l.length
    · rw [if_pos h5] at h; omega
    rw [if_neg h5] at h ⊢
    rw [if_neg (by omega)]
    have key : ∀ (l : List T), (∀ x ∈ l, ∀ (room deep room' deep' : Int), room ≤ room' → deep ≤ deep' → 1 ≤ T.look room deep x → T.look room' deep' x = T.look room deep x) → ∀ m, 1 ≤ T.looks room deep m l → T.looks room' deep' m l = T.looks room deep m l := by
      intro l
      induction l with
      | nil => intro _ m _; rw [T.looks, T.looks]
      | cons x xs ih2 =>
        intro ihl m hm
        rw [T.looks] at hm ⊢
        rw [T.looks]
        by_cases h6 : T.look (room - m) (deep - 1) x < 0
        · rw [if_pos h6] at hm; omega
        rw [if_neg h6] at hm ⊢
        have h7 := T.look_pos x (room - m) (deep - 1)
        rw [ihl x (by simp) (room - m) (deep - 1) (room' - m) (deep' - 1) (by omega) (by omega) (by omega), if_neg h6]
        exact ih2 (fun y hy => ihl y (by simp [hy])) _ hm
    exact key l ih 1 h

theorem T.looks_mem {room deep : Int} : ∀ {l : List T} {m : Int}, 1 ≤ m → 1 ≤ T.looks room deep m l → ∀ x ∈ l, 1 ≤ T.look room deep x
  | [], _, _, _, x, hx => absurd hx (by simp)
  | t :: ts, m, hm, h, x, hx => by
    rw [T.looks] at h
    by_cases h6 : T.look (room - m) (deep - 1) t < 0
    · rw [if_pos h6] at h; omega
    rw [if_neg h6] at h
    have h7 : 1 ≤ T.look (room - m) (deep - 1) t := by have := T.look_pos t (room - m) (deep - 1); omega
    rcases List.mem_cons.1 hx with rfl | hx
    · rw [T.look_grow _ (room - m) (deep - 1) room deep (by omega) (by omega) h7]; exact h7
    · exact T.looks_mem (by omega) h x hx

theorem T.look_mem {room deep : Int} {t : T} (h : 1 ≤ T.look room deep t) : ∀ x ∈ t.l, 1 ≤ T.look room deep x := by
  obtain ⟨k, n, s, l, r⟩ := t
  simp only [T.l]
  intro x hx
  rw [T.look] at h
  by_cases h1 : room < 1
  · rw [if_pos h1] at h; omega
  rw [if_neg h1] at h
  by_cases h2 : ¬ fieldsOk k n s l r
  · rw [if_pos h2] at h; omega
  rw [if_neg h2] at h
  by_cases h3 : k ≠ 3
  · rcases (Classical.not_not.1 h2).2.2.1 with h4 | h4
    · exact absurd h4 h3
    · rw [h4] at hx; exact absurd hx (by simp)
  rw [if_neg h3] at h
  by_cases h4 : deep < 1
  · rw [if_pos h4] at h; omega
  rw [if_neg h4] at h
  by_cases h5 : room ≤ l.length
  · rw [if_pos h5] at h; omega
  rw [if_neg h5] at h
  exact T.looks_mem (by omega) h x hx

theorem T.find_may : ∀ {p : List Int} {t u : T}, t.may = true → t.wf → T.find p t = some u → u.may = true ∧ u.wf
  | [], t, u, h, hw, hf => by rw [T.find] at hf; injection hf with hf; subst hf; exact ⟨h, hw⟩
  | i :: is, .mk k n s l r, u, h, hw, hf => by
    rw [T.find] at hf
    by_cases h0 : 0 ≤ i
    · rw [if_pos h0] at hf
      by_cases h1 : i.toNat < l.length
      · rw [List.getElem?_eq_getElem h1] at hf
        have h2 := T.look_mem (T.look_of_may h) l[i.toNat] (List.getElem_mem h1)
        exact T.find_may (T.may_of_look h2) (T.wf_elem hw i.toNat h1) hf
      · rw [List.getElem?_eq_none (by omega)] at hf
        cases hf
    · rw [if_neg h0] at hf
      cases hf

/-- What stands at a place, and the answer's number. -/
noncomputable def atT (t : T) (p : List Int) : T := if t.may = true then (T.find p t).getD T.zero else T.zero
noncomputable def atC (t : T) (p : List Int) : Int := if t.may = true then (if (T.find p t).isSome = true then 0 else 22) else 2

theorem atT_may {t : T} (hw : t.wf) (p : List Int) : (atT t p).may = true ∧ (atT t p).wf := by
  unfold atT
  by_cases h : t.may = true
  · rw [if_pos h]
    cases hf : T.find p t with
    | none => exact ⟨T.zero_may, T.zero_wf⟩
    | some u => exact T.find_may h hw hf
  · rw [if_neg h]
    exact ⟨T.zero_may, T.zero_wf⟩

theorem at_ans {w w' : World} {t : T} {p : List Int} {e : Ending} (h : AtPost w t p e w') : Ans w (atT t p) (atC t p) (fun W a c => T.Mut W (New w.heap.size W) (atT t p) a c) e w' := by
  obtain ⟨u, a, c, hm, hor, hb⟩ := h
  unfold atT atC
  rcases hor with ⟨h1, h2, h3⟩ | ⟨rfl, h1, h2, h3⟩ | ⟨rfl, h1, h3⟩
  · simp only [h1, h2, if_true, Option.getD_some, Option.isSome_some]
    exact ⟨a, c, h3, hm, hb⟩
  · simp only [h1, h2, if_true, Option.getD_none, Option.isSome_none]
    exact ⟨a, c, h3, hm, hb⟩
  · simp only [h1]
    exact ⟨a, c, h3, hm, hb⟩

theorem refAt_ans {w w' : World} {B : Nat} {t : T} {p : List Int} {e : Ending} (h : RefAtPost w B t p e w') : Ans w (atT t p) (atC t p) (fun W a c => T.At W B (atT t p) a c) e w' := by
  obtain ⟨hor, hb⟩ := h
  unfold atT atC
  rcases hor with ⟨u, a, c, h1, h2, hi, _, h3⟩ | ⟨h1, h2, h3⟩ | ⟨h1, h3⟩
  · simp only [h1, h2, if_true, Option.getD_some, Option.isSome_some]
    exact ⟨a, c, h3, hi, hb⟩
  · simp only [h1, h2, if_true, Option.getD_none, Option.isSome_none]
    exact ⟨none, 0, h3, T.zero_in _ _ _, hb⟩
  · simp only [h1]
    exact ⟨none, 0, h3, T.zero_in _ _ _, hb⟩

/-- The value with another laid at a place, and the answer's number. -/
noncomputable def withT (t v : T) (p : List Int) : T := if (t.may && v.may) = true then (if (T.find p t).isSome = true then (if (T.put p v t).may = true then T.put p v t else T.zero) else T.zero) else T.zero
noncomputable def withC (t v : T) (p : List Int) : Int := if (t.may && v.may) = true then (if (T.find p t).isSome = true then (if (T.put p v t).may = true then 0 else 4) else 22) else 2

theorem withT_may {t v : T} (hw : t.wf) (hv : v.wf) (p : List Int) : (withT t v p).may = true ∧ (withT t v p).wf := by
  unfold withT
  by_cases h : (t.may && v.may) = true
  · rw [if_pos h]
    by_cases h2 : (T.find p t).isSome = true
    · rw [if_pos h2]
      by_cases h3 : (T.put p v t).may = true
      · rw [if_pos h3]
        exact ⟨h3, T.put_wf hv hw (fun e => by rw [e] at h2; cases h2)⟩
      · rw [if_neg h3]; exact ⟨T.zero_may, T.zero_wf⟩
    · rw [if_neg h2]; exact ⟨T.zero_may, T.zero_wf⟩
  · rw [if_neg h]; exact ⟨T.zero_may, T.zero_wf⟩

theorem with_ans {w w' : World} {t v : T} {p : List Int} {e : Ending} (h : WithPost w t v p e w') : Ans w (withT t v p) (withC t v p) (fun W a c => T.Mut W (New w.heap.size W) (withT t v p) a c) e w' := by
  obtain ⟨hor, hb⟩ := h
  unfold withT withC
  rcases hor with ⟨h1, h2, h3, h4, a, c, h5, hm⟩ | ⟨h1, h2, h3, h4, h5⟩ | ⟨h1, h2, h3, h5⟩ | ⟨h1, h5⟩
  · have h6 : (T.find p t).isSome = true := by cases hf : T.find p t with | none => exact absurd hf h3 | some _ => rfl
    simp only [h1, h2, h6, h4, Bool.and_self, if_true]
    exact ⟨a, c, h5, hm, hb⟩
  · have h6 : (T.find p t).isSome = true := by cases hf : T.find p t with | none => exact absurd hf h3 | some _ => rfl
    simp only [h1, h2, h6, h4, Bool.and_self, if_true]
    exact ⟨none, 0, h5, T.Mut.zero _ _, hb⟩
  · simp only [h1, h2, h3, Bool.and_self, if_true, Option.isSome_none]
    exact ⟨none, 0, h5, T.Mut.zero _ _, hb⟩
  · simp only [h1]
    exact ⟨none, 0, h5, T.Mut.zero _ _, hb⟩

theorem refWith_ans {w w' : World} {B : Nat} {t v : T} {p : List Int} {e : Ending} (h : RefWithPost w B t v p e w') : Ans w (withT t v p) (withC t v p) (fun W a c => T.In W (fun b => b < B ∨ New w.heap.size W b) false (withT t v p) a c) e w' := by
  obtain ⟨hor, hb⟩ := h
  unfold withT withC
  rcases hor with ⟨h1, h2, h3, h4, a, c, h5, hm⟩ | ⟨h1, h2, h3, h4, h5⟩ | ⟨h1, h2, h3, h5⟩ | ⟨h1, h5⟩
  · have h6 : (T.find p t).isSome = true := by cases hf : T.find p t with | none => exact absurd hf h3 | some _ => rfl
    simp only [h1, h2, h6, h4, Bool.and_self, if_true]
    exact ⟨a, c, h5, hm, hb⟩
  · have h6 : (T.find p t).isSome = true := by cases hf : T.find p t with | none => exact absurd hf h3 | some _ => rfl
    simp only [h1, h2, h6, h4, Bool.and_self, if_true]
    exact ⟨none, 0, h5, T.zero_in _ _ _, hb⟩
  · simp only [h1, h2, h3, Bool.and_self, if_true, Option.isSome_none]
    exact ⟨none, 0, h5, T.zero_in _ _ _, hb⟩
  · simp only [h1]
    exact ⟨none, 0, h5, T.zero_in _ _ _, hb⟩

end Go.Proofs.Ytapfmfihhpafcaa
