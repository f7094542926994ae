/-
  The law ValueLooks, of a value that may be.
-/
import Derived.Test.YtapfmfihhpafcaaG3
namespace Go.Proofs.Ytapfmfihhpafcaa
open Go.RowKit
set_option linter.unusedVariables false

theorem T.refs_pos {t : T} (h : t.may = true) (hw : t.wf) : ∀ x ∈ t.refs, 1 ≤ x ∧ x ≤ 9223372036854775807 := by
  have key : ∀ (t : T) (p d : Int), 1 ≤ T.look p d t → t.wf → ∀ x ∈ t.refs, 1 ≤ x ∧ x ≤ 9223372036854775807 := by
    intro t
    induction t using T.induct with
    | h k n s l r ih =>
      intro p d h hw x hx
      rw [T.wf, T.wfs_iff] at hw
      obtain ⟨⟨_, _, _, _, _, hr1, _, _⟩, hwl⟩ := hw
      have lst : ∀ (l : List T), (∀ y ∈ l, ∀ (p d : Int), 1 ≤ T.look p d y → y.wf → ∀ x ∈ y.refs, 1 ≤ x ∧ x ≤ 9223372036854775807) → (∀ y ∈ l, y.wf) → ∀ m, 1 ≤ T.looks p d m l → ∀ x ∈ T.refss l, 1 ≤ x ∧ x ≤ 9223372036854775807 := by
        intro l
        induction l with
        | nil => intro _ _ m _ x hx; simp [T.refss] at hx
        | cons y ys ih2 =>
          intro hy hyw m h2 x hx
          rw [T.looks] at h2
          by_cases hq : T.look (p - m) (d - 1) y < 0
          · rw [if_pos hq] at h2; omega
          rw [if_neg hq] at h2
          have h3 : 1 ≤ T.look (p - m) (d - 1) y := by have := T.look_pos y (p - m) (d - 1); omega
          rw [T.refss] at hx
          rcases List.mem_append.1 hx with hx | hx
          · exact hy y (by simp) _ _ h3 (hyw y (by simp)) x hx
          · exact ih2 (fun z hz => hy z (by simp [hz])) (fun z hz => hyw z (by simp [hz])) _ h2 x hx
      rw [T.look] at h
      by_cases h1 : p < 1
      · rw [if_pos h1] at h; omega
      rw [if_neg h1] at h
      by_cases h2 : fieldsOk k n s l r
      case neg => rw [if_pos h2] at h; omega
      rw [if_neg (not_not_intro h2)] at h
      rw [T.refs] at hx
      rcases List.mem_append.1 hx with hx | hx
      · by_cases k4 : k = 4
        · rw [if_pos k4] at hx
          simp at hx
          subst hx
          exact ⟨h2.2.2.2.2.2.1 k4, hr1⟩
        · rw [if_neg k4] at hx; simp at hx
      · by_cases k3 : k ≠ 3
        · have := h2.2.2.1.resolve_left k3
          subst this
          simp [T.refss] at hx
        rw [if_neg k3] at h
        by_cases h4 : d < 1
        · rw [if_pos h4] at h; omega
        rw [if_neg h4] at h
        by_cases h5 : p ≤ l.length
        · rw [if_pos h5] at h; omega
        rw [if_neg h5] at h
        exact lst l ih hwl 1 h x hx
  exact key t 512 16 (T.look_of_may h) hw

/-- The first i turned. -/
def mixR (rs : List Int) (i : Nat) : List Int := (rs.take i).map (fun x => -x - 1) ++ rs.drop i
theorem mixR_length (rs : List Int) (i : Nat) : (mixR rs i).length = rs.length := by simp [mixR]; omega
theorem mixR_get (rs : List Int) (i : Nat) (h : i < rs.length) : (mixR rs i)[i]? = some rs[i] := by
  unfold mixR
  rw [List.getElem?_append_right (by simp; omega), List.length_map, List.length_take, Nat.min_eq_left (by omega), Nat.sub_self, List.getElem?_drop]
  simp [h]
theorem mixR_set (rs : List Int) (i : Nat) (h : i < rs.length) : (mixR rs i).set i (-rs[i] - 1) = mixR rs (i + 1) := by
  unfold mixR
  rw [List.set_append, if_neg (by simp; omega), List.length_map, List.length_take, Nat.min_eq_left (by omega), Nat.sub_self, List.drop_eq_getElem_cons h, List.set_cons_zero, List.take_succ_eq_append_getElem h, List.map_append, List.append_assoc]
  rfl
theorem mixR_end (rs : List Int) : mixR rs rs.length = rs.map (fun x => -x - 1) := by simp [mixR]

set_option maxRecDepth 100000 in
set_option maxHeartbeats 2000000 in
theorem looks_yes (t : T) (a : Option Addr) (c : Nat) (w : World) (h : T.At w w.heap.size t a c) (hw : t.wf) (hs : ¬ t.small 1200 40 < 0) (hm : t.may = true) :
    Calls Try.prog 6 #[t.val a c] w fun e w' => e = .returned (.bool true) ∧ Below w.heap.size w w' := by
  obtain ⟨w1, hw1⟩ : ∃ w1, w1 = w.alloc (.cells #[.int .u8 t.k, .int .i64 t.n, .string t.s, .slice a t.l.length c, .int .i64 t.r] 26 (0, 0)) := ⟨_, rfl⟩
  have hb1 : Below w.heap.size w w1 := by rw [hw1]; exact (Below.refl _ _).alloc (Nat.le_refl _) _
  have D0 : w1.heap[w.heap.size]? = some (.cells #[.int .u8 t.k, .int .i64 t.n, .string t.s, .slice a t.l.length c, .int .i64 t.r] 26 (0, 0)) := by rw [hw1]; exact blk_new _ _
  have z1 : w.heap.size < w1.heap.size := (Array.getElem?_eq_some_iff.1 D0).1
  have hi := T.At.below hb1 (Nat.le_refl _) h
  have m0 := small_walk t a c w1 w.heap.size 1200 40 hi (by omega) (by omega) (by omega) (by omega) (by omega)
  have m1 := fun w' (hb : Below w1.heap.size w1 w') => lent_walk t a c w' w.heap.size (T.At.below hb (by omega) hi) (by have := hb.size; omega) hw
  obtain ⟨q, hq⟩ : ∃ q, t.small 1200 40 = q := ⟨_, rfl⟩
  rw [hq] at m0 hs
  unfold T.val at m0 m1 ⊢
  obtain ⟨x0, x1, x2, x3, x4, _⟩ := blk5 D0
  have E0 := Lib.hid D0
  clear D0 h hq
  go_enter Try.func6, Try.ntmps6
  go_upto_region 1 with fail
  rw [← hw1]
  clear hw1
  go_upto_region 4 with (first
    | (go_at_call 15; refine m0.mono ?_; clear m0; rintro e wA ⟨rfl, hbA⟩; have G0 := (hbA.block w.heap.size z1).trans E0.out; clear x0 x1 x2 x3 x4; obtain ⟨x0, x1, x2, x3, x4, _⟩ := blk5 G0; clear G0)
    | (go_at_call 16; refine (m1 _ hbA).mono ?_; clear m1; rintro e wL ⟨aL, cL, he, hiL, hbL⟩; unfold T.val at he; subst he))
  obtain ⟨w3, hw3⟩ : ∃ w3, w3 = wL.alloc (.cells #[.int .u8 t.k, .int .i64 t.n, .string t.s, .slice aL t.l.length cL, .int .i64 t.r] 26) := ⟨_, rfl⟩
  rw [← hw3]
  have zA := hbA.size
  have zL := hbL.size
  have O3 : w3.heap[wL.heap.size]? = some (.cells #[.int .u8 t.k, .int .i64 t.n, .string t.s, .slice aL t.l.length cL, .int .i64 t.r] 26 (0, 0)) := by rw [hw3]; exact blk_new _ _
  have hbL3 : Below wL.heap.size wL w3 := by rw [hw3]; exact (Below.refl _ _).alloc (Nat.le_refl _) _
  have z3 : wL.heap.size < w3.heap.size := (Array.getElem?_eq_some_iff.1 O3).1
  have hb13 : Below w1.heap.size w1 w3 := hbA.trans ((hbL.mono zA).trans (hbL3.mono (by omega)))
  have V3 := (hb13.block w.heap.size z1).trans E0.out
  have iv : T.At w3 w.heap.size t a c := T.At.below hb13 (by omega) hi
  have io : T.In w3 (· < wL.heap.size) true t aL cL := T.In.keep (fun b hb => hbL3.block b hb.2) (fun b hb => hb.2) id hiL
  have hb3 : Below w.heap.size w w3 := hb1.trans (hb13.mono hb1.size)
  have n0 := fun w' (hb : Below w3.heap.size w3 w') => refParts_walk t a c w' w.heap.size (T.At.below hb (by omega) iv) (by have := hb.size; omega) hw
  have n1 := fun w' (hb : Below w3.heap.size w3 w') => ownAll_walk t aL cL w' wL.heap.size (T.At.below hb (by omega) io.to_at) (by have := hb.size; omega) hw
  have n2 := fun w' (hb : Below w3.heap.size w3 w') => parts_walk t aL cL w' wL.heap.size (T.At.below hb (by omega) io.to_at) (by have := hb.size; omega) hw
  have n3 := fun w' (hb : Below w3.heap.size w3 w') => may_walk t aL cL w' wL.heap.size (T.At.below hb (by omega) io.to_at) (by have := hb.size; omega) hw
  have n4 := fun w' (hb : Below w3.heap.size w3 w') => deep_walk t aL cL w' wL.heap.size (T.At.below hb (by omega) io.to_at) (by have := hb.size; omega) hw
  have n5 := fun w' (hb : Below w3.heap.size w3 w') => refs_walk t aL cL w' wL.heap.size (T.At.below hb (by omega) io.to_at) (by have := hb.size; omega) hw
  have n6 := fun w' (hb : Below w3.heap.size w3 w') => kept_own (a := aL) (c := cL) (a' := a) (c' := c) (w := w') (T.In.keep (fun b hk => hb.block b (by omega)) (fun _ h => h) id io) (T.At.below hb (by omega) iv) (by have := hb.size; omega) (by have := hb.size; omega) hw
  have hpp := T.parts_yes hm
  have hpp1 : t.parts ≤ 512 := by have := T.look_le t 512 16 (by omega); rw [T.parts_of]; split <;> omega
  rw [hm] at n3
  rw [hm, if_pos rfl] at n4 n5
  have n7 := fun w' (hb : Below w3.heap.size w3 w') => refRefs_walk t a c w' w.heap.size (T.At.below hb (by omega) iv) (by have := hb.size; omega) hw (by have := T.count_of_may hm; omega)
  have n8 := fun w' (hb : Below w3.heap.size w3 w') => refDeep_walk t a c w' w.heap.size (T.At.below hb (by omega) iv) (by have := hb.size; omega) (by have := T.deep_of_may hm; omega) hw
  rw [T.rrefs_eq t 512 16 (T.look_of_may hm)] at n7
  have n1' : ∀ w' (hb : Below w3.heap.size w3 w'), Calls Try.prog 37 #[t.val aL cL] w' fun e w'' => (∃ p q, e = .returned (.tuple #[t.val p q, .int .i64 0]) ∧ T.Mut w'' (New w'.heap.size w'') t p q) ∧ Below w'.heap.size w' w'' := fun w' hb => (n1 w' hb).mono fun e w'' hp => by
    obtain ⟨⟨_, p, q, h1, h2⟩ | ⟨h1, _⟩, hb2⟩ := hp
    · exact ⟨⟨p, q, h1, h2⟩, hb2⟩
    · rw [hm] at h1; cases h1
  have hcm := T.count_of_may hm
  have hrl := T.refs_le t
  obtain ⟨P, hP⟩ : ∃ P, t.parts = P := ⟨_, rfl⟩
  rw [hP] at n0 n2 hpp hpp1
  obtain ⟨DD, hDD⟩ : ∃ DD, t.deep = DD := ⟨_, rfl⟩
  rw [hDD] at n4 n8
  obtain ⟨rs, hrs⟩ : ∃ rs, t.refs = rs := ⟨_, rfl⟩
  rw [hrs] at n5 n7 hrl
  have HRS := Lib.hid hrs
  have HM := Lib.hid hm
  unfold T.val at n0 n1' n2 n3 n4 n5 n6 n7 n8
  clear hP hDD hrs
  obtain ⟨y0, y1, y2, y3, y4, _⟩ := blk5 O3
  clear x0 x1 x2 x3 x4
  obtain ⟨x0, x1, x2, x3, x4, _⟩ := blk5 V3
  have O3 := Lib.hid O3
  have V3 := Lib.hid V3
  have HIV := Lib.hid iv
  have HIO := Lib.hid io
  clear hw3 hi hiL hbL hbA hbL3 hb13 iv io n1 E0 hb1 hm
  have zw3 : w.heap.size < w3.heap.size := by omega
  go_upto_region 6 with (first
    | (go_at_call 36; refine (n0 _ (Below.refl _ _)).mono ?_; clear n0; rintro e wN ⟨rfl, hbN⟩; have G0 := (hbN.block wL.heap.size z3).trans O3.out; clear x0 x1 x2 x3 x4 y0 y1 y2 y3 y4; obtain ⟨y0, y1, y2, y3, y4, _⟩ := blk5 G0; clear G0)
    | (go_at_call 37; refine (n1' _ hbN).mono ?_; rintro e wP ⟨⟨p1, q1, rfl, hm1⟩, hbP⟩))
  obtain ⟨w5, hw5⟩ : ∃ w5, w5 = wP.alloc (.cells #[.int .u8 t.k, .int .i64 t.n, .string t.s, .slice p1 t.l.length q1, .int .i64 t.r] 26) := ⟨_, rfl⟩
  rw [← hw5]
  have A5 : w5.heap[wP.heap.size]? = some (.cells #[.int .u8 t.k, .int .i64 t.n, .string t.s, .slice p1 t.l.length q1, .int .i64 t.r] 26 (0, 0)) := by rw [hw5]; exact blk_new _ _
  have zN := hbN.size
  have zP := hbP.size
  have hbP5 : Below wP.heap.size wP w5 := by rw [hw5]; exact (Below.refl _ _).alloc (Nat.le_refl _) _
  have hb5 : Below w3.heap.size w3 w5 := (hbN.trans (hbP.mono zN)).trans (hbP5.mono (by omega))
  have z5 := hb5.size
  have zA5 : wP.heap.size < w5.heap.size := (Array.getElem?_eq_some_iff.1 A5).1
  have hm1' : T.Mut w5 (fun b => w3.heap.size ≤ b ∧ b < wP.heap.size) t p1 q1 := T.Mut.keep (fun b hb => hbP5.block b hb.2) (fun b hb => ⟨by have := hb.1; omega, hb.2⟩) hm1
  have A5 := Lib.hid A5
  have HM1 := Lib.hid hm1'
  have G0 := (hb5.block wL.heap.size z3).trans O3.out
  clear y0 y1 y2 y3 y4 hw5 hbP hbN hm1 hm1' hbP5
  obtain ⟨y0, y1, y2, y3, y4, _⟩ := blk5 G0
  clear G0
  go_upto_region 7 with (go_at_call 37; refine (n1' _ hb5).mono ?_; rintro e wQ ⟨⟨p2, q2, rfl, hm2⟩, hbQ⟩)
  obtain ⟨w7, hw7⟩ : ∃ w7, w7 = wQ.alloc (.cells #[.int .u8 t.k, .int .i64 t.n, .string t.s, .slice p2 t.l.length q2, .int .i64 t.r] 26) := ⟨_, rfl⟩
  rw [← hw7]
  have zQ := hbQ.size
  have hbQ7 : Below wQ.heap.size wQ w7 := by rw [hw7]; exact (Below.refl _ _).alloc (Nat.le_refl _) _
  have hb57 : Below w5.heap.size w5 w7 := hbQ.trans (hbQ7.mono zQ)
  have hb7 : Below w3.heap.size w3 w7 := hb5.trans (hb57.mono z5)
  have A7 := (hb57.block wP.heap.size zA5).trans A5.out
  have B7 : w7.heap[wQ.heap.size]? = some (.cells #[.int .u8 t.k, .int .i64 t.n, .string t.s, .slice p2 t.l.length q2, .int .i64 t.r] 26 (0, 0)) := by rw [hw7]; exact blk_new _ _
  have zB7 : wQ.heap.size < w7.heap.size := (Array.getElem?_eq_some_iff.1 B7).1
  have iA := T.Mut.keep (w' := w7) (S' := fun b => w3.heap.size ≤ b ∧ b < wP.heap.size) (fun b hb => hb57.block b (by omega)) (fun _ h => h) HM1.out
  have iB : T.In w7 (fun b => w5.heap.size ≤ b ∧ b < wQ.heap.size) false t p2 q2 := T.Mut.lies (T.Mut.keep (fun b hb => hbQ7.block b hb.2) (fun b hb => ⟨hb.1, hb.2⟩) hm2)
  have G0 := (hb7.block wL.heap.size z3).trans O3.out
  have V7 := (hb7.block w.heap.size zw3).trans V3.out
  have iV7 := T.At.below hb7 (by omega) HIV.out
  have z57 := hb57.size
  have O7 := Lib.hid G0
  have V7 := Lib.hid V7
  have A7 := Lib.hid A7
  have B7 := Lib.hid B7
  have HIA := Lib.hid iA
  have HIB := Lib.hid iB
  have HIV7 := Lib.hid iV7
  clear y0 y1 y2 y3 y4 hw7 hbQ n1' HM1 A5 iA iB iV7 hbQ7 hm2 hb5
  obtain ⟨y0, y1, y2, y3, y4, _⟩ := blk5 G0
  clear G0
  go_upto_region 14 with (first
    | (go_at_call 32; refine (n2 _ hb7).mono ?_; clear n2; rintro e wR ⟨rfl, hbR⟩; have G0 := (hbR.block wL.heap.size (by omega)).trans O7.out; clear y0 y1 y2 y3 y4; obtain ⟨y0, y1, y2, y3, y4, _⟩ := blk5 G0; clear G0)
    | (go_at_call 34; refine (n3 _ (hb7.trans (hbR.mono hb7.size))).mono ?_; clear n3; rintro e wS ⟨rfl, hbS⟩; have hb7S := hbR.trans (hbS.mono hbR.size); have G0 := (hb7S.block wL.heap.size (by omega)).trans O7.out; clear y0 y1 y2 y3 y4; obtain ⟨y0, y1, y2, y3, y4, _⟩ := blk5 G0; clear G0)
    | (go_at_call 35; refine (n5 _ (hb7.trans (hb7S.mono hb7.size))).mono ?_; rintro e wT ⟨lv, rfl, hl1, hbT⟩; have hb7T := hb7S.trans (hbT.mono hb7S.size); have G0 := (hb7T.block wL.heap.size (by omega)).trans O7.out; clear y0 y1 y2 y3 y4; obtain ⟨y0, y1, y2, y3, y4, _⟩ := blk5 G0; clear G0; obtain ⟨la, lc, rfl, lI⟩ := ints_of_own hl1; have HL1 := Lib.hid hl1; clear hl1 lI)
    | (go_at_call 35; refine (n5 _ (hb7.trans (hb7T.mono hb7.size))).mono ?_; clear n5; rintro e wU ⟨mv, rfl, hl2, hbU⟩; have hb7U := hb7T.trans (hbU.mono hb7T.size); have G0 := (hb7U.block w.heap.size (by omega)).trans V7.out; clear y0 y1 y2 y3 y4; obtain ⟨x0, x1, x2, x3, x4, _⟩ := blk5 G0; clear G0; obtain ⟨ma, mc, rfl, mI⟩ := ints_of_own hl2; have HL2 := Lib.hid hl2; clear hl2 mI)
    | (go_at_call 38; refine (n7 _ (hb7.trans (hb7U.mono hb7.size))).mono ?_; clear n7; rintro e wV ⟨wv, rfl, hl3, hbV⟩; have hb7V := hb7U.trans (hbV.mono hb7U.size); obtain ⟨wa, wc, rfl, wI⟩ := ints_of_own hl3; have HL3 := Lib.hid hl3; clear hl3 wI))
  have zV7 := hb7V.size
  have hH : ∀ W (hb : Below w7.heap.size w7 W), Calls Try.prog 26 #[t.val p1 q1, t.val p2 q2, t.val a c] W (HeldPost W (fun b => w3.heap.size ≤ b ∧ b < wP.heap.size)) := fun W hb =>
    held_walk t p1 p2 a q1 q2 c W _ (fun b => (w5.heap.size ≤ b ∧ b < wQ.heap.size) ∨ b < w.heap.size) HM.out hw (T.Mut.keep (fun b hk => hb.block b (by omega)) (fun _ h => h) HIA.out) (fun b hk => by have := hb.size; omega)
      (T.In.keep (fun b hk => hb.block b (by omega)) (fun b hk => .inl hk) id HIB.out) (T.In.keep (fun b hk => hb.block b (by omega)) (fun b hk => .inr hk) id HIV7.out) (fun b hk => by have := hb.size; omega)
  have KS : ∀ W : World, W.heap[w.heap.size]? = w7.heap[w.heap.size]? → W.heap[wL.heap.size]? = w7.heap[wL.heap.size]? → W.heap[wP.heap.size]? = w7.heap[wP.heap.size]? → W.heap[wQ.heap.size]? = w7.heap[wQ.heap.size]? →
      (W.cell? ⟨w.heap.size, 0, none⟩ = some (.int .u8 t.k) ∧ W.cell? ⟨w.heap.size, 1, none⟩ = some (.int .i64 t.n) ∧ W.cell? ⟨w.heap.size, 2, none⟩ = some (.string t.s) ∧ W.cell? ⟨w.heap.size, 3, none⟩ = some (.slice a t.l.length c) ∧ W.cell? ⟨w.heap.size, 4, none⟩ = some (.int .i64 t.r)) ∧
      (W.cell? ⟨wL.heap.size, 0, none⟩ = some (.int .u8 t.k) ∧ W.cell? ⟨wL.heap.size, 1, none⟩ = some (.int .i64 t.n) ∧ W.cell? ⟨wL.heap.size, 2, none⟩ = some (.string t.s) ∧ W.cell? ⟨wL.heap.size, 3, none⟩ = some (.slice aL t.l.length cL) ∧ W.cell? ⟨wL.heap.size, 4, none⟩ = some (.int .i64 t.r)) ∧
      (W.cell? ⟨wP.heap.size, 0, none⟩ = some (.int .u8 t.k) ∧ W.cell? ⟨wP.heap.size, 1, none⟩ = some (.int .i64 t.n) ∧ W.cell? ⟨wP.heap.size, 2, none⟩ = some (.string t.s) ∧ W.cell? ⟨wP.heap.size, 3, none⟩ = some (.slice p1 t.l.length q1) ∧ W.cell? ⟨wP.heap.size, 4, none⟩ = some (.int .i64 t.r)) ∧
      (W.cell? ⟨wQ.heap.size, 0, none⟩ = some (.int .u8 t.k) ∧ W.cell? ⟨wQ.heap.size, 1, none⟩ = some (.int .i64 t.n) ∧ W.cell? ⟨wQ.heap.size, 2, none⟩ = some (.string t.s) ∧ W.cell? ⟨wQ.heap.size, 3, none⟩ = some (.slice p2 t.l.length q2) ∧ W.cell? ⟨wQ.heap.size, 4, none⟩ = some (.int .i64 t.r)) :=
    fun W h1 h2 h3 h4 => ⟨blk5cc (h1.trans V7.out), blk5cc (h2.trans O7.out), blk5cc (h3.trans A7.out), blk5cc (h4.trans B7.out)⟩
  have HKS := Lib.hid KS
  unfold T.val at hH
  have zT := hbT.size
  have zU := hbU.size
  have zVV := hbV.size
  have z7S := hb7S.size
  have L1V : wV.ownsRow (wS.heap.size + 1) 24 1 (.slice la rs.length lc) rs.length (rs.map (.int .i64)) := ownsRow_of_block'' HL1.out (fun g hg => by have := (HL1.out.lt g hg).2; exact (hbV.block g (by omega)).trans (hbU.block g (by omega)))
  have L2V : wV.ownsRow (wT.heap.size + 1) 24 1 (.slice ma rs.length mc) rs.length (rs.map (.int .i64)) := ownsRow_of_block'' HL2.out (fun g hg => by have := (HL2.out.lt g hg).2; exact hbV.block g (by omega))
  have R1 := HL1.out.lt
  have R2 := HL2.out.lt
  have R3 := HL3.out.lt
  have L1V := Lib.hid L1V
  have L2V := Lib.hid L2V
  have K0 := Lib.hid (KS wV.drew (hb7V.block _ (by omega)) (hb7V.block _ (by omega)) (hb7V.block _ (by omega)) (hb7V.block _ (by omega)))
  have hbD : Below w7.heap.size w7 wV.drew := hb7V.drew
  have hb7H := Lib.hid hb7
  clear x0 x1 x2 x3 x4 KS hbR hbS hb7S hbT hb7T hbU hb7U hbV
  go_region_held3 (fun W => (W.cell? ⟨w.heap.size, 0, none⟩ = some (.int .u8 t.k) ∧ W.cell? ⟨w.heap.size, 1, none⟩ = some (.int .i64 t.n) ∧ W.cell? ⟨w.heap.size, 2, none⟩ = some (.string t.s) ∧ W.cell? ⟨w.heap.size, 3, none⟩ = some (.slice a t.l.length c) ∧ W.cell? ⟨w.heap.size, 4, none⟩ = some (.int .i64 t.r)) ∧
      (W.cell? ⟨wL.heap.size, 0, none⟩ = some (.int .u8 t.k) ∧ W.cell? ⟨wL.heap.size, 1, none⟩ = some (.int .i64 t.n) ∧ W.cell? ⟨wL.heap.size, 2, none⟩ = some (.string t.s) ∧ W.cell? ⟨wL.heap.size, 3, none⟩ = some (.slice aL t.l.length cL) ∧ W.cell? ⟨wL.heap.size, 4, none⟩ = some (.int .i64 t.r)) ∧
      (W.cell? ⟨wP.heap.size, 0, none⟩ = some (.int .u8 t.k) ∧ W.cell? ⟨wP.heap.size, 1, none⟩ = some (.int .i64 t.n) ∧ W.cell? ⟨wP.heap.size, 2, none⟩ = some (.string t.s) ∧ W.cell? ⟨wP.heap.size, 3, none⟩ = some (.slice p1 t.l.length q1) ∧ W.cell? ⟨wP.heap.size, 4, none⟩ = some (.int .i64 t.r)) ∧
      (W.cell? ⟨wQ.heap.size, 0, none⟩ = some (.int .u8 t.k) ∧ W.cell? ⟨wQ.heap.size, 1, none⟩ = some (.int .i64 t.n) ∧ W.cell? ⟨wQ.heap.size, 2, none⟩ = some (.string t.s) ∧ W.cell? ⟨wQ.heap.size, 3, none⟩ = some (.slice p2 t.l.length q2) ∧ W.cell? ⟨wQ.heap.size, 4, none⟩ = some (.int .i64 t.r)))
    (first | with_reducible exact K0.out | with_reducible exact K1.out | with_reducible exact K2.out | with_reducible exact K3.out | go_keep)
    (first
      | (go_simp; go_at_call 33; refine (n4 _ (by exact hb7H.out.trans (hbD.mono hb7H.out.size))).mono ?_; clear n4; rintro e wX ⟨rfl, hbX⟩; have hb7X := hbD.trans (hbX.mono hbD.size); have K1 := Lib.hid (HKS.out wX (hb7X.block _ (by omega)) (hb7X.block _ (by omega)) (hb7X.block _ (by omega)) (hb7X.block _ (by omega))))
      | (go_simp; go_at_call 39; refine (n8 _ (by exact hb7H.out.trans (hb7X.mono hb7H.out.size))).mono ?_; clear n8; rintro e wY ⟨rfl, hbY⟩; have hb7Y := hb7X.trans (hbY.mono hb7X.size); have K2 := Lib.hid (HKS.out wY (hb7Y.block _ (by omega)) (hb7Y.block _ (by omega)) (hb7Y.block _ (by omega)) (hb7Y.block _ (by omega))))
      | (go_simp; go_at_call 26; refine (hH _ hb7Y).mono ?_; clear hH; rintro e wH ⟨rfl, hsp⟩; have hz := hb7Y.size; have K3 := Lib.hid (HKS.out wH ((hsp.block _ (by omega) (by omega)).trans (hb7Y.block _ (by omega))) ((hsp.block _ (by omega) (by omega)).trans (hb7Y.block _ (by omega))) ((hsp.block _ (by omega) (by omega)).trans (hb7Y.block _ (by omega))) ((hsp.block _ (by omega) (by omega)).trans (hb7Y.block _ (by omega))))))
  have hbY3 := hb7H.out.trans (hb7Y.mono hb7H.out.size)
  have hVY : ∀ k, k < wV.heap.size → wY.heap[k]? = wV.heap[k]? := fun k hk => (hbY.block k (by have := hbX.size; have : wV.drew.heap.size = wV.heap.size := rfl; omega)).trans (hbX.block k hk)
  have hVH : ∀ k, w7.heap.size ≤ k → k < wV.heap.size → wH.heap[k]? = wV.heap[k]? := fun k hk hk2 => (hsp.block k (by have := hbY.size; have := hbX.size; have : wV.drew.heap.size = wV.heap.size := rfl; omega) (by omega)).trans (hVY k hk2)
  have zH : wV.heap.size ≤ wH.heap.size := by have := hsp.size; have := hbY.size; have := hbX.size; have : wV.drew.heap.size = wV.heap.size := rfl; omega
  have L1 : wH.ownsRow (wS.heap.size + 1) 24 1 (.slice la rs.length lc) rs.length (rs.map (.int .i64)) := ownsRow_of_block'' L1V.out (fun g hg => by have := R1 g hg; exact hVH g (by omega) (by omega))
  have L2 : wH.ownsRow (wT.heap.size + 1) 24 1 (.slice ma rs.length mc) rs.length (rs.map (.int .i64)) := ownsRow_of_block'' L2V.out (fun g hg => by have := R2 g hg; exact hVH g (by omega) (by omega))
  have L3 : wH.ownsRow wU.heap.size 24 1 (.slice wa rs.length wc) rs.length (rs.map (.int .i64)) := ownsRow_of_block'' HL3.out (fun g hg => by have := R3 g hg; exact hVH g (by omega) (by omega))
  have hb3H : Below w3.heap.size w3 wH := hbY3.trans ⟨hsp.os, hsp.tape, hsp.output, hsp.size, fun k hk => hsp.block k (by have := hbY3.size; omega) (by omega)⟩
  have hrb := T.refs_pos HM.out hw
  rw [HRS.out] at hrb
  have z37 := hb7H.out.size
  clear hbY3 hsp hbX hbY hVY hVH K0 K1 K2 K3 HKS hb7X hb7Y hbD hb7V L1V L2V HL1 HL2 HL3 hb7H HIA HIB HIV7 A7 B7 hb57
  have hn5 : rs.length ≤ 512 := by omega
  have hm0 : mixR rs 0 = rs := by simp [mixR]
  go_wp2_with fail
  go_loopg [12] rs.length (fun gg vi wr => ∃ i : Nat, vi = .int .i64 i ∧ i + gg = rs.length ∧ wr.ownsRow (wS.heap.size + 1) 24 1 (.slice la rs.length lc) rs.length ((mixR rs i).map (.int .i64)) ∧ wH.grownBy wr (Value.slice la rs.length lc).ownBlock)
  case atStart => exact ⟨0, rfl, by simp, by rw [hm0]; exact L1, ⟨rfl, rfl, rfl, Nat.le_refl _, fun _ _ _ => rfl⟩⟩
  case round =>
    obtain ⟨i, rfl, hgi, hrow, hgr⟩ := hrel
    by_cases h : i < rs.length
    · obtain ⟨g, cap, hv, hg1, hg2⟩ := hrow.form (by omega)
      injection hv with hla _ hlc
      subst hla hlc
      have hx := hrb rs[i] (List.getElem_mem h)
      have hst := Lib.hid (mixR_set rs i h)
      have e0 : wr.cell? ⟨g, i, none⟩ = some (.int .i64 rs[i]) := by
        rw [hrow.cellAt i (by omega), List.getElem?_map, mixR_get rs i h]; rfl
      obtain ⟨x, hxx⟩ : ∃ x, rs[i] = x := ⟨_, rfl⟩
      rw [hxx] at hx e0 hst
      have hx1 := hx.1
      have hx2 := hx.2
      have hx3 : -9223372036854775807 ≤ -x := by omega
      have f0 := hrow.frozenAt i
      have S1 := Lib.hid (hrow.stored i (.int .i64 (-x - 1)))
      have HG := Lib.hid hgr
      clear hrow hgr hxx hx L1 L2 L3 n6
      go_wp2_with fail
      go_roundg (gk - 1)
      case measure => omega
      case rel =>
        refine ⟨i + 1, by go_num, by omega, ?_, grown_trans HG.out S1.out.2⟩
        have e := S1.out.1
        rw [← List.map_set, hst.out] at e
        exact e
    · have hil : i = rs.length := by omega
      subst hil
      rw [mixR_end] at hrow
      have hgrL : ∀ k, k < wH.heap.size → (∀ g, (Value.slice la rs.length lc).ownBlock = some g → g ≠ k) → wr.heap[k]? = wH.heap[k]? := fun k hk hne => hgr.block k hk (fun e => hne k e.symm rfl)
      have M2 : wr.ownsRow (wT.heap.size + 1) 24 1 (.slice ma rs.length mc) rs.length (rs.map (.int .i64)) := ownsRow_of_block'' L2 (fun g hg => hgrL g (L2.lt g hg).2 (fun g' hg' => by have := R1 g' hg'; have := (L2.lt g hg).1; omega))
      have M3 : wr.ownsRow wU.heap.size 24 1 (.slice wa rs.length wc) rs.length (rs.map (.int .i64)) := ownsRow_of_block'' L3 (fun g hg => hgrL g (L3.lt g hg).2 (fun g' hg' => by have := R1 g' hg'; have := (L3.lt g hg).1; omega))
      have hb3r : Below w3.heap.size w3 wr := hb3H.trans ⟨hgr.os, hgr.tape, hgr.output, hgr.size, fun k hk => hgrL k (by have := hb3H.size; omega) (fun g hg => by have := R1 g hg; omega)⟩
      obtain ⟨wz, rfl⟩ : ∃ wz : World, wz = wr := ⟨_, rfl⟩
      have N1 := Lib.hid hrow
      have N2 := Lib.hid M2
      have N3 := Lib.hid M3
      have HB := Lib.hid hb3r
      clear hrow M2 M3 hb3r hgr hgrL L1 L2 L3 hb3H
      go_wp2_with fail
      go_loopg [13] rs.length (fun gg vi wq => ∃ i : Nat, vi = .int .i64 i ∧ i + gg = rs.length ∧ Below wz.heap.size wz wq)
      case atStart => exact ⟨0, rfl, by simp, Below.refl _ _⟩
      case round =>
        obtain ⟨i, rfl, hgi, hb⟩ := hrel
        have hzb := hb.size
        have HBB := Lib.hid hb
        by_cases h : i < rs.length
        · obtain ⟨g1, cap1, hv1, _, hz1⟩ := N1.out.form (by omega)
          obtain ⟨g2, cap2, hv2, _, hz2⟩ := N2.out.form (by omega)
          obtain ⟨g3, cap3, hv3, _, hz3⟩ := N3.out.form (by omega)
          injection hv1 with hla _ hlc
          injection hv2 with hma _ hmc
          injection hv3 with hwa _ hwc
          subst hla hlc hma hmc hwa hwc
          have hx := hrb rs[i] (List.getElem_mem h)
          have e1 : wr.cell? ⟨g1, i, none⟩ = some (.int .i64 (-rs[i] - 1)) := by
            rw [hb.cell (by exact hz1), N1.out.cellAt i (by omega), List.getElem?_map, List.getElem?_map, List.getElem?_eq_getElem h]; rfl
          have e2 : wr.cell? ⟨g2, i, none⟩ = some (.int .i64 rs[i]) := by
            rw [hb.cell (by exact hz2), N2.out.cellAt i (by omega), List.getElem?_map, List.getElem?_eq_getElem h]; rfl
          have e3 : wr.cell? ⟨g3, i, none⟩ = some (.int .i64 rs[i]) := by
            rw [hb.cell (by exact hz3), N3.out.cellAt i (by omega), List.getElem?_map, List.getElem?_eq_getElem h]; rfl
          obtain ⟨x, hxx⟩ : ∃ x, rs[i] = x := ⟨_, rfl⟩
          rw [hxx] at hx e1 e2 e3
          have hx1 := hx.1
          have hx2 := hx.2
          have hw1 : IntKind.i64.wrap (-x) = -x := IntWalk.i64_in _ (by omega)
          have hw2 : IntKind.i64.wrap (-x - 1) = -x - 1 := IntWalk.i64_in _ (by omega)
          have i1 : (i : Int) < (rs.length : Int) := by omega
          clear hb hxx hx hrb n6 R1 R2 R3
          go_upto_region 23 with fail
          go_quiet (fail)
          go_wp2_with fail
          go_roundg (gk - 1)
          case measure => omega
          case rel => exact ⟨i + 1, by go_num, by omega, ⟨HBB.out.os, HBB.out.tape, HBB.out.output, HBB.out.size, HBB.out.block⟩⟩
        · have hb3q := HB.out.trans (HBB.out.mono HB.out.size)
          have mK := n6 wr hb3q
          have zq := hb3q.size
          have G0 := (hb3q.block wL.heap.size z3).trans O3.out
          have G1 := (hb3q.block w.heap.size zw3).trans V3.out
          obtain ⟨y0, y1, y2, y3, y4, _⟩ := blk5 G0
          obtain ⟨x0, x1, x2, x3, x4, _⟩ := blk5 G1
          have HQ := Lib.hid hb3q
          clear G0 G1 hb hb3q n6 R1 R2 R3 hrb
          go_wp2_with (first
            | (go_at_call 21; refine mK.mono ?_; clear mK; rintro e wX2 ⟨rfl, hbX⟩)
            | (go_at_call 14; refine (awake_walk _).mono ?_; rintro e wY2 ⟨rfl, hbY⟩))
          go_ret
          exact ⟨rfl, hb3.trans ((HQ.out.trans ((hbX.mono zq).trans (hbY.mono (by have := hbX.size; omega)))).mono hb3.size)⟩

theorem looks_law (w : World) (t : T) (a : Option Addr) (c : Nat) (h : T.At w w.heap.size t a c) (hw : t.wf) : Calls Try.prog 6 #[t.val a c] w fun e w' => e = .returned (.bool true) ∧ Below w.heap.size w w' := by
  by_cases hs : t.small 1200 40 < 0
  · exact looks_big t a c w h hw hs
  cases hm : t.may
  · exact looks_no t a c w h hw hs hm
  · exact looks_yes t a c w h hw hs hm
end Go.Proofs.Ytapfmfihhpafcaa
