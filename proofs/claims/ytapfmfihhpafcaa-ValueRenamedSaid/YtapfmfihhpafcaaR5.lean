/-
  posternref02.Rename; what a renamed value is.
-/
import Derived.Test.YtapfmfihhpafcaaR4
import Derived.Test.YtapfmfihhpafcaaA5
namespace Go.Proofs.Ytapfmfihhpafcaa
open Go.RowKit Go.Maps
set_option linter.unusedVariables false

/-- A renamed value may be just as the value may. -/
theorem T.ren_look {f : Int → Option Int} (hf : ∀ r y, f r = some y → 1 ≤ y) (t : T) : ∀ (p d : Int) (t' : T), t.ren f = some t' → 1 ≤ T.look p d t → T.look p d t' = T.look p d t := by
  induction t using T.induct with
  | h k n s l r ih =>
    intro p d t' ht h
    rw [T.ren] at ht
    rw [T.look] at h
    by_cases h1 : p < 1
    · rw [if_pos h1] at h; omega
    rw [if_neg h1] at h
    by_cases h2 : fieldsOk k n s l r
    case neg => rw [if_pos h2] at h; omega
    rw [if_neg (not_not_intro h2)] at h
    by_cases k4 : k = 4
    · rw [if_pos k4] at ht
      obtain ⟨y, hy, rfl⟩ := Option.map_eq_some_iff.1 ht
      have h3 : fieldsOk k n s l y := ⟨h2.1, h2.2.1, h2.2.2.1, .inl k4, h2.2.2.2.2.1, fun _ => hf _ _ hy, h2.2.2.2.2.2.2⟩
      rw [T.look, T.look, if_neg h1, if_neg h1, if_neg (not_not_intro h2), if_neg (not_not_intro h3), if_pos (show k ≠ 3 by omega)]
    · rw [if_neg k4] at ht
      obtain ⟨l', hl, rfl⟩ := Option.map_eq_some_iff.1 ht
      have hlen := T.rens_length hl
      have h3 : fieldsOk k n s l' r := ⟨h2.1, h2.2.1, h2.2.2.1.imp id (fun e => by subst e; exact List.length_eq_zero_iff.1 hlen), h2.2.2.2.1, h2.2.2.2.2.1, h2.2.2.2.2.2.1, h2.2.2.2.2.2.2⟩
      rw [T.look, T.look, if_neg h1, if_neg h1, if_neg (not_not_intro h2), if_neg (not_not_intro h3)]
      by_cases k3 : k ≠ 3
      · rw [if_pos k3, if_pos k3]
      rw [if_neg k3] at h
      rw [if_neg k3, if_neg k3]
      by_cases h4 : d < 1
      · rw [if_pos h4] at h; omega
      rw [if_neg h4] at h
      rw [if_neg h4, if_neg h4, hlen]
      by_cases h5 : p ≤ l.length
      · rw [if_pos h5] at h; omega
      rw [if_neg h5] at h
      rw [if_neg h5, if_neg h5]
      have key : ∀ (l : List T), (∀ x ∈ l, ∀ (p d : Int) (t' : T), x.ren f = some t' → 1 ≤ T.look p d x → T.look p d t' = T.look p d x) → ∀ (l' : List T) (m : Int), T.rens f l = some l' → 1 ≤ T.looks p d m l → T.looks p d m l' = T.looks p d m l := by
        intro l
        induction l with
        | nil => intro _ l' m hl _; rw [T.rens] at hl; cases hl; rfl
        | cons y ys ih2 =>
          intro hx l' m hl h
          rw [T.rens] at hl
          obtain ⟨y', hy', hl⟩ := Option.bind_eq_some_iff.1 hl
          obtain ⟨ys', hys, rfl⟩ := Option.map_eq_some_iff.1 hl
          rw [T.looks] at h
          by_cases hq : T.look (p - m) (d - 1) y < 0
          · rw [if_pos hq] at h; omega
          rw [if_neg hq] at h
          have h3 : 1 ≤ T.look (p - m) (d - 1) y := by have := T.look_pos y (p - m) (d - 1); omega
          have e := hx y (by simp) _ _ _ hy' h3
          rw [T.looks, T.looks, e, if_neg hq, if_neg hq]
          exact ih2 (fun x hx' => hx x (by simp [hx'])) _ _ hys h
      exact key l ih l' 1 hl h

theorem T.ren_may {f : Int → Option Int} (hf : ∀ r y, f r = some y → 1 ≤ y) {t t' : T} (h : t.ren f = some t') (hm : t.may = true) : t'.may = true := by
  have h1 := T.look_of_may hm
  have e := T.ren_look hf t 512 16 t' h h1
  unfold T.may
  rw [T.parts_of, e, if_pos h1]
  simpa using (by omega : 0 < t.look 512 16)

theorem T.ren_wf {f : Int → Option Int} (hf : ∀ r y, f r = some y → -9223372036854775808 ≤ y ∧ y ≤ 9223372036854775807) (t : T) : ∀ (t' : T), t.ren f = some t' → t.wf → t'.wf := by
  induction t using T.induct with
  | h k n s l r ih =>
    intro t' ht hw
    rw [T.ren] at ht
    rw [T.wf, T.wfs_iff] at hw
    by_cases k4 : k = 4
    · rw [if_pos k4] at ht
      obtain ⟨y, hy, rfl⟩ := Option.map_eq_some_iff.1 ht
      have := hf _ _ hy
      rw [T.wf, T.wfs_iff]
      exact ⟨⟨hw.1.1, hw.1.2.1, hw.1.2.2.1, hw.1.2.2.2.1, this.1, this.2, hw.1.2.2.2.2.2.2.1, hw.1.2.2.2.2.2.2.2⟩, hw.2⟩
    · rw [if_neg k4] at ht
      obtain ⟨l', hl, rfl⟩ := Option.map_eq_some_iff.1 ht
      rw [T.wf, T.wfs_iff, T.rens_length hl]
      refine ⟨hw.1, ?_⟩
      have key : ∀ (l : List T), (∀ x ∈ l, ∀ t', x.ren f = some t' → x.wf → t'.wf) → ∀ l', T.rens f l = some l' → (∀ x ∈ l, x.wf) → ∀ x ∈ l', x.wf := by
        intro l
        induction l with
        | nil => intro _ l' hl _; rw [T.rens] at hl; cases hl; intro x hx; cases hx
        | cons y ys ih2 =>
          intro hx l' hl hwl
          rw [T.rens] at hl
          obtain ⟨y', hy', hl⟩ := Option.bind_eq_some_iff.1 hl
          obtain ⟨ys', hys, rfl⟩ := Option.map_eq_some_iff.1 hl
          intro x hx'
          rcases List.mem_cons.1 hx' with rfl | hx'
          · exact hx y (by simp) _ hy' (hwl y (by simp))
          · exact ih2 (fun x h => hx x (by simp [h])) _ hys (fun x h => hwl x (by simp [h])) x hx'
      exact key l ih l' hl hw.2

theorem nameOf_mem : ∀ (xs ys : List Int) (r y : Int), nameOf xs ys r = some y → y ∈ ys
  | x :: xs, y' :: ys, r, y, h => by
    rw [nameOf] at h
    by_cases hx : x = r
    · rw [if_pos hx] at h; cases h; simp
    · rw [if_neg hx] at h; exact List.mem_cons_of_mem _ (nameOf_mem xs ys r y h)
  | [], _, _, _, h => by simp [nameOf] at h
  | _ :: _, [], _, _, h => by simp [nameOf] at h

theorem low_none {l : List Int} (h : someLow l = false) : ∀ x ∈ l, 1 ≤ x := by
  intro x hx
  unfold someLow at h
  have := List.any_eq_false.1 h x hx
  simpa using this

/-- A value and a code, in memory that is new. -/
def GotRI (w : World) (x : T × Int) (e : Ending) (w' : World) : Prop := (∃ a c, e = .returned (.tuple #[x.1.val a c, .int .i64 x.2]) ∧ T.In w' (New w.heap.size w') false x.1 a c) ∧ Below w.heap.size w w'

theorem someLow_drop (l : List Int) (i : Nat) (h : i < l.length) : someLow (l.drop i) = (decide (l[i] < 1) || someLow (l.drop (i + 1))) := by
  rw [List.drop_eq_getElem_cons h]; rfl

theorem zero_in5 (w : World) (ok : Nat → Prop) (m : Bool) : T.In w ok m T.zero none 0 := by rw [T.zero, T.In]; exact ⟨Nat.le_refl _, .inl rfl⟩

set_option maxRecDepth 100000 in
set_option maxHeartbeats 2000000 in
theorem refRename_early (t : T) (fr nx : List Int) (a : Option Addr) (c : Nat) (fa : Option Addr) (fc : Nat) (na : Option Addr) (nc : Nat) (w : World) (B : Nat) (hin : T.At w B t a c) (hw : t.wf) (hB : B ≤ w.heap.size) (hfl : fr.length ≤ 1000000) (hnl : nx.length ≤ 1000000)
    (hno : t.may = false ∨ ¬ fr.length = nx.length) :
    Calls Try.prog 49 #[t.val a c, .slice fa fr.length fc, .slice na nx.length nc] w (GotRI w (T.zero, 2)) := by
  obtain ⟨w1, hw1⟩ : ∃ w1, w1 = (w.alloc (.cells #[.int .u8 t.k, .int .i64 t.n, .string t.s, .slice a t.l.length c, .int .i64 t.r] 26 (0, 0))).alloc (.cells #[.int .u8 0, .int .i64 0, .string ⟨#[]⟩, .slice none 0 0, .int .i64 0] 26 (0, 0)) := ⟨_, rfl⟩
  have hb1 : Below w.heap.size w w1 := by rw [hw1]; exact two_boxes _ _ _
  have D0 : w1.heap[w.heap.size]? = some (.cells #[.int .u8 t.k, .int .i64 t.n, .string t.s, .slice a t.l.length c, .int .i64 t.r] 26 (0, 0)) := by rw [hw1]; exact two_blk0 _ _ _
  have D1 : w1.heap[w.heap.size + 1]? = some (.cells #[.int .u8 0, .int .i64 0, .string ⟨#[]⟩, .slice none 0 0, .int .i64 0] 26 (0, 0)) := by rw [hw1]; exact two_blk1 _ _ _
  have z1 : w1.heap.size = w.heap.size + 2 := by rw [hw1]; simp
  have Z1 := Lib.hid z1
  have hi := T.At.below hb1 hB hin
  have m1 := fun w' (hb : Below w1.heap.size w1 w') => refMay_walk t a c w' B (T.At.below hb (by omega) hi) (by have := hb.size; omega) hw
  have tval : ∀ (u : T) p q, u.val p q = .agg #[.int .u8 u.k, .int .i64 u.n, .string u.s, .slice p u.l.length q, .int .i64 u.r] := fun _ _ _ => rfl
  simp only [tval] at m1
  rw [tval]
  obtain ⟨x0, x1, x2, x3, x4⟩ := blk5cc D0
  have E0 := Lib.hid D0
  have E1 := Lib.hid D1
  have HB1 := Lib.hid hb1
  obtain ⟨mm, hmm⟩ : ∃ mm, t.may = mm := ⟨_, rfl⟩
  rw [hmm] at hno
  simp only [hmm] at m1
  have fin : ∀ (wA wP : World), Below w1.heap.size w1 wA → Put wA (w.heap.size + 1) #[.int .u8 0, .int .i64 0, .string ⟨#[]⟩, .slice none 0 0, .int .i64 0] wP → GotRI w (T.zero, 2) (.returned (.tuple #[.agg #[.int .u8 0, .int .i64 0, .string ⟨#[]⟩, .slice none 0 0, .int .i64 0], .int .i64 2])) wP := fun wA wP hA hP =>
    ⟨⟨none, 0, rfl, zero_in5 _ _ _⟩, HB1.out.trans ((hA.mono (by rw [Z1.out]; omega)).trans (hP.below (by omega)))⟩
  have FIN := Lib.hid fin
  clear D0 D1 hb1 hin hi tval hmm z1 fin
  cases mm with
  | false =>
    go_enter Try.func49, Try.ntmps49
    go_upto_region 1 with (fail)
    rw [← hw1]
    clear hw1
    go_wp2_with (first
      | (go_at_call 64; refine (m1 _ (Below.refl _ _)).mono ?_; clear m1; rintro e wA ⟨rfl, hbA⟩; have G1 := Lib.hid ((hbA.block _ (by rw [Z1.out]; omega)).trans E1.out))
      | (refine wpList_put _ rfl _ _ rfl (w.heap.size + 1) _ _ _ _ _ _ _ _ _ _ (by rfl) (by rfl) (by simp [Value.oneCell']) G1.out ?_; rintro wP hP))
    exact post_cell26r Try.results49 rfl rfl rfl hP.at_ (FIN.out _ _ hbA hP)
  | true =>
    have hl : ¬ fr.length = nx.length := hno.resolve_left (by simp)
    have hl1 : ((fr.length : Int) == (nx.length : Int)) = false := by simp; omega
    have hl2 : ((fr.length : Int) != (nx.length : Int)) = true := by simp; omega
    have hl3 : (fr.length == nx.length) = false := by simpa using hl
    clear hl hno
    go_enter Try.func49, Try.ntmps49
    go_upto_region 1 with (fail)
    rw [← hw1]
    clear hw1
    go_wp2_with (first
      | (go_at_call 64; refine (m1 _ (Below.refl _ _)).mono ?_; clear m1; rintro e wA ⟨rfl, hbA⟩; have G1 := Lib.hid ((hbA.block _ (by rw [Z1.out]; omega)).trans E1.out))
      | (refine wpList_put _ rfl _ _ rfl (w.heap.size + 1) _ _ _ _ _ _ _ _ _ _ (by rfl) (by rfl) (by simp [Value.oneCell']) G1.out ?_; rintro wP hP))
    exact post_cell26r Try.results49 rfl rfl rfl hP.at_ (FIN.out _ _ hbA hP)

/-- What the second half answers. -/
noncomputable def renTwo (t : T) (fr nx : List Int) : T × Int := if (!someLow fr && !someLow nx) = true then (match t.ren (nameOf fr nx) with | some t' => (t', 0) | none => (T.zero, 21)) else (T.zero, 2)

set_option maxRecDepth 100000 in
set_option maxHeartbeats 4000000 in
theorem refRename_late (t : T) (fr nx : List Int) (a : Option Addr) (c : Nat) (fa : Option Addr) (fc : Nat) (na : Option Addr) (nc : Nat) (w : World) (B : Nat) (hin : T.At w B t a c) (hw : t.wf) (h1 : Ints w (· < B) fr fa fc) (h2 : Ints w (· < B) nx na nc) (hB : B ≤ w.heap.size) (hfl : fr.length ≤ 1000000)
    (hm : t.may = true) (hl : fr.length = nx.length) :
    Calls Try.prog 49 #[t.val a c, .slice fa fr.length fc, .slice na nx.length nc] w (GotRI w (renTwo t fr nx)) := by
  obtain ⟨w1, hw1⟩ : ∃ w1, w1 = (w.alloc (.cells #[.int .u8 t.k, .int .i64 t.n, .string t.s, .slice a t.l.length c, .int .i64 t.r] 26 (0, 0))).alloc (.cells #[.int .u8 0, .int .i64 0, .string ⟨#[]⟩, .slice none 0 0, .int .i64 0] 26 (0, 0)) := ⟨_, rfl⟩
  have hb1 : Below w.heap.size w w1 := by rw [hw1]; exact two_boxes _ _ _
  have D0 : w1.heap[w.heap.size]? = some (.cells #[.int .u8 t.k, .int .i64 t.n, .string t.s, .slice a t.l.length c, .int .i64 t.r] 26 (0, 0)) := by rw [hw1]; exact two_blk0 _ _ _
  have D1 : w1.heap[w.heap.size + 1]? = some (.cells #[.int .u8 0, .int .i64 0, .string ⟨#[]⟩, .slice none 0 0, .int .i64 0] 26 (0, 0)) := by rw [hw1]; exact two_blk1 _ _ _
  have z1 : w1.heap.size = w.heap.size + 2 := by rw [hw1]; simp
  have Z1 := Lib.hid z1
  have hi := T.At.below hb1 hB hin
  have m1 := fun w' (hb : Below w1.heap.size w1 w') => refMay_walk t a c w' B (T.At.below hb (by omega) hi) (by have := hb.size; omega) hw
  have tval : ∀ (u : T) p q, u.val p q = .agg #[.int .u8 u.k, .int .i64 u.n, .string u.s, .slice p u.l.length q, .int .i64 u.r] := fun _ _ _ => rfl
  simp only [tval] at m1
  rw [tval]
  obtain ⟨x0, x1, x2, x3, x4⟩ := blk5cc D0
  have E0 := Lib.hid D0
  have E1 := Lib.hid D1
  have HB1 := Lib.hid hb1
  simp only [hm] at m1
  have m3 := fun w' (hb : Below w1.heap.size w1 w') => renamed_walk fr nx fa fc na nc hl hfl t a c w' B (T.At.below hb (by omega) hi) (Ints.below hb (by omega) (Ints.below hb1 hB h1)) (Ints.below hb (by omega) (Ints.below hb1 hB h2)) (by have := hb.size; omega) hw (T.flat_of_look t _ _ (T.look_of_may hm))
  simp only [tval] at m3
  obtain ⟨ans, hans⟩ : ∃ ans, renTwo t fr nx = ans := ⟨_, rfl⟩
  rw [hans]
  have HANS := Lib.hid hans
  have hl1 : ((fr.length : Int) == (nx.length : Int)) = true := by simp; omega
  have hl2 : ((fr.length : Int) != (nx.length : Int)) = false := by simp; omega
  have hl3 : (fr.length == nx.length) = true := by simpa using hl
  have P1 := Lib.hid (Ints.below hb1 hB h1)
  have P2 := Lib.hid (Ints.below hb1 hB h2)
  have HL := Lib.hid hl
  clear D0 D1 hb1 hin hi h1 h2 tval z1 hm hl hans hw
  go_enter Try.func49, Try.ntmps49
  go_upto_region 1 with (fail)
  rw [← hw1]
  clear hw1
  go_wp2_with (go_at_call 64; refine (m1 _ (Below.refl _ _)).mono ?_; clear m1; rintro e wA ⟨rfl, hbA⟩)
  clear x0 x1 x2 x3 x4
  have zA := hbA.size
  have HBA := Lib.hid hbA
  have G0 := Lib.hid ((hbA.block _ (by rw [Z1.out]; omega)).trans E0.out)
  have G1 := Lib.hid ((hbA.block _ (by rw [Z1.out]; omega)).trans E1.out)
  have Q1 := Lib.hid (Ints.below hbA (by rw [Z1.out]; omega) P1.out)
  have Q2 := Lib.hid (Ints.below hbA (by rw [Z1.out]; omega) P2.out)
  have m4 := m3 _ hbA
  have zA2 : w.heap.size + 2 ≤ wA.heap.size := by have := Z1.out; omega
  clear hbA m3 hl1 hl2 hl3 E0 E1 P1 P2
  go_loopg [8] fr.length (fun gg vi wr => ∃ i : Nat, vi = .int .i64 i ∧ i + gg = fr.length ∧ wr = wA ∧ Aside (someLow fr = someLow (fr.drop i)) ∧ Aside (someLow nx = someLow (nx.drop i)))
  case atStart => exact ⟨0, rfl, by simp, rfl, rfl, rfl⟩
  case round =>
    obtain ⟨i, rfl, hgi, rfl, hs1, hs2⟩ := hrel
    by_cases h : i < fr.length
    · have h' : i < nx.length := by have := HL.out; omega
      obtain ⟨b, o, rfl, hbB, e1⟩ := Q1.out.elem i h
      obtain ⟨b', o', rfl, hbB', e2⟩ := Q2.out.elem i h'
      have hd1 := someLow_drop fr i h
      have hd2 := someLow_drop nx i h'
      obtain ⟨x, hxx⟩ : ∃ x, fr[i] = x := ⟨_, rfl⟩
      obtain ⟨y, hyy⟩ : ∃ y, nx[i] = y := ⟨_, rfl⟩
      rw [hxx] at e1 hd1
      rw [hyy] at e2 hd2
      have i3 : (i : Int) < (nx.length : Int) := by omega
      have HD1 := Lib.hid hd1
      have HD2 := Lib.hid hd2
      clear hxx hyy hd1 hd2
      by_cases hx : x < 1
      · have hlow : ans = (T.zero, 2) := by
          rw [← HANS.out]
          unfold renTwo
          rw [hs1.out, HD1.out, decide_eq_true hx]
          rfl
        subst hlow
        clear m4
        go_wp2_with (refine wpList_put _ rfl _ _ rfl (w.heap.size + 1) _ _ _ _ _ _ _ _ _ _ (by rfl) (by rfl) (by simp [Value.oneCell']) G1.out ?_; rintro wP hP)
        exact post_cell26r Try.results49 rfl rfl rfl hP.at_ ⟨⟨none, 0, rfl, zero_in5 _ _ _⟩, HB1.out.trans ((HBA.out.mono (by rw [Z1.out]; omega)).trans (hP.below (by omega)))⟩
      by_cases hy : y < 1
      · have hlow : ans = (T.zero, 2) := by
          rw [← HANS.out]
          unfold renTwo
          rw [hs2.out, HD2.out, decide_eq_true hy]
          simp
        subst hlow
        clear m4
        go_wp2_with (refine wpList_put _ rfl _ _ rfl (w.heap.size + 1) _ _ _ _ _ _ _ _ _ _ (by rfl) (by rfl) (by simp [Value.oneCell']) G1.out ?_; rintro wP hP)
        exact post_cell26r Try.results49 rfl rfl rfl hP.at_ ⟨⟨none, 0, rfl, zero_in5 _ _ _⟩, HB1.out.trans ((HBA.out.mono (by rw [Z1.out]; omega)).trans (hP.below (by omega)))⟩
      go_wp2_with fail
      go_roundg (gk - 1)
      case measure => omega
      case rel => exact ⟨i + 1, by go_num, by omega, rfl, by show someLow fr = _; rw [hs1.out, HD1.out, decide_eq_false (show ¬ x < 1 by omega)]; rfl, by show someLow nx = _; rw [hs2.out, HD2.out, decide_eq_false (show ¬ y < 1 by omega)]; rfl⟩
    · have hlow : ans = (match t.ren (nameOf fr nx) with | some t' => (t', 0) | none => (T.zero, 21)) := by
        rw [← HANS.out]
        unfold renTwo
        rw [hs1.out, hs2.out, List.drop_of_length_le (by omega), List.drop_of_length_le (by have := HL.out; omega)]
        rfl
      obtain ⟨x0, x1, x2, x3, x4⟩ := blk5cc G0.out
      have HLO := Lib.hid hlow
      clear hlow hs1 hs2
      cases hr : t.ren (nameOf fr nx) with
      | none =>
        rw [hr] at m4
        have e := HLO.out
        rw [hr] at e
        subst e
        have m5 := m4.mono (R' := fun e w' => e = .returned (.tuple #[T.zero.val none 0, .bool false]) ∧ Below wr.heap.size wr w') (fun e w' h => h.of_none)
        clear m4 hr HLO HANS
        go_wp2_with (first
          | (go_at_call 85; refine m5.mono ?_; clear m5; rintro e w3 ⟨he, hb3⟩; unfold T.val at he; subst he; have G3 := (hb3.block (w.heap.size + 1) (by omega)).trans G1.out; have hz3 := hb3.size)
          | (refine wpList_put _ rfl _ _ rfl (w.heap.size + 1) _ _ _ _ _ _ _ _ _ _ (by rfl) (by rfl) (by simp [Value.oneCell']) ((Below.heap_alloc _ _ _ (by omega)).trans G3) ?_; rintro wP hP))
        exact post_cell26r Try.results49 rfl rfl rfl hP.at_ ⟨⟨none, 0, rfl, zero_in5 _ _ _⟩, HB1.out.trans ((HBA.out.mono (by rw [Z1.out]; omega)).trans (((hb3.mono (by omega)).alloc (by omega) _).trans (hP.below (by omega))))⟩
      | some t' =>
        rw [hr] at m4
        have e := HLO.out
        rw [hr] at e
        subst e
        have m5 := m4.mono (R' := fun e w' => ∃ a' c', e = .returned (.tuple #[t'.val a' c', .bool true]) ∧ T.In w' (New wr.heap.size w') false t' a' c' ∧ Below wr.heap.size wr w') (fun e w' h => h.of_some)
        clear m4 hr HLO HANS
        go_wp2_with (first
          | (go_at_call 85; refine m5.mono ?_; clear m5; rintro e w3 ⟨a2, c2, he, hi2, hb3⟩; unfold T.val at he; subst he; have G3 := (hb3.block (w.heap.size + 1) (by omega)).trans G1.out; have hz3 := hb3.size)
          | (refine wpList_put _ rfl _ _ rfl (w.heap.size + 1) _ _ _ _ _ _ _ _ _ _ (by rfl) (by rfl) (by simp [Value.oneCell']) ((Below.heap_alloc _ _ _ (by omega)).trans G3) ?_; rintro wP hP))
        refine post_cell26r Try.results49 rfl rfl rfl hP.at_ ⟨⟨a2, c2, rfl, ?_⟩, HB1.out.trans ((HBA.out.mono (by rw [Z1.out]; omega)).trans (((hb3.mono (by omega)).alloc (by omega) _).trans (hP.below (by omega))))⟩
        refine T.In.keep (fun b hb => ?_) (fun b hb => ?_) id hi2
        · have q1 := hb.1
          have q2 := hb.2
          exact (hP.other b (by omega)).trans (Below.heap_alloc _ _ _ q2)
        · have q1 := hb.1
          have q2 := hb.2
          exact ⟨by omega, by rw [hP.size, World.size_alloc]; omega⟩

/-- Both rename alike. -/
theorem rename_same (t : T) (fr nx : List Int) (hw : t.wf) (hfl : fr.length ≤ 1000000) (hnl : nx.length ≤ 1000000) (hfr : ∀ x ∈ fr, -9223372036854775808 ≤ x ∧ x ≤ 9223372036854775807) (hnr : ∀ x ∈ nx, -9223372036854775808 ≤ x ∧ x ≤ 9223372036854775807) :
    ∃ x : T × Int, x = renAns t fr nx ∧ x.1.wf ∧ x.1.may = true ∧
      (∀ (a : Option Addr) (c : Nat) (w : World) (B : Nat) (fa na : Option Addr) (fc nc : Nat), T.At w B t a c → Ints w (· < B) fr fa fc → Ints w (· < B) nx na nc → B ≤ w.heap.size → Calls Try.prog 48 #[t.val a c, .slice fa fr.length fc, .slice na nx.length nc] w (GotR w x)) ∧
      (∀ (a : Option Addr) (c : Nat) (w : World) (B : Nat) (fa na : Option Addr) (fc nc : Nat), T.At w B t a c → Ints w (· < B) fr fa fc → Ints w (· < B) nx na nc → B ≤ w.heap.size → Calls Try.prog 49 #[t.val a c, .slice fa fr.length fc, .slice na nx.length nc] w (GotRI w x)) := by
  have zm : T.zero.may = true := by
    have : T.zero.look 512 16 = 1 := by simp [T.zero, T.look, fieldsOk, ByteArray.size, ByteArray.toList_eq]
    unfold T.may T.parts; rw [this]; rfl
  have zw : T.zero.wf := by simp [T.zero, T.wf, T.wfs, ByteArray.size]
  by_cases hok : (t.may && decide (fr.length = nx.length) && !someLow fr && !someLow nx) = true
  · have e : renAns t fr nx = (match t.ren (nameOf fr nx) with | some t' => (t', 0) | none => (T.zero, 21)) := by unfold renAns; rw [if_pos hok]; rfl
    have h9 := hok
    simp only [Bool.and_eq_true, decide_eq_true_eq, Bool.not_eq_true'] at h9
    obtain ⟨⟨⟨hm, hl⟩, hf⟩, hn⟩ := h9
    have e2 : renTwo t fr nx = (match t.ren (nameOf fr nx) with | some t' => (t', 0) | none => (T.zero, 21)) := by unfold renTwo; rw [hf, hn]; rfl
    refine ⟨_, rfl, ?_, ?_, fun a c w B fa na fc nc h0 h1 h2 hB => ?_, fun a c w B fa na fc nc h0 h1 h2 hB => ?_⟩
    · rw [e]
      cases hr : t.ren (nameOf fr nx) with
      | none => exact zw
      | some t' => exact T.ren_wf (fun r y h => hnr y (nameOf_mem _ _ _ _ h)) t t' hr hw
    · rw [e]
      cases hr : t.ren (nameOf fr nx) with
      | none => exact zm
      | some t' => exact T.ren_may (fun r y h => low_none hn y (nameOf_mem _ _ _ _ h)) hr hm
    · rw [e]
      exact rename_yes t fr nx a c fa fc na nc w B h0 hw h1 h2 hB hfl hfr hnr hm hl hf hn
    · rw [e, ← e2]
      exact refRename_late t fr nx a c fa fc na nc w B h0 hw h1 h2 hB hfl hm hl
  · have e : renAns t fr nx = (T.zero, 2) := by unfold renAns; rw [if_neg hok]
    have hno : (t.may && decide (fr.length = nx.length) && !someLow fr && !someLow nx) = false := by simpa using hok
    refine ⟨_, rfl, by rw [e]; exact zw, by rw [e]; exact zm, fun a c w B fa na fc nc h0 h1 h2 hB => ?_, fun a c w B fa na fc nc h0 h1 h2 hB => ?_⟩
    · rw [e]
      exact rename_arg t fr nx a c fa fc na nc w B h0 hw h1 h2 hB hfl hnl hno
    · rw [e]
      by_cases hm : t.may = true
      · by_cases hl : fr.length = nx.length
        · have e2 : renTwo t fr nx = (T.zero, 2) := by
            unfold renTwo
            rw [hm, decide_eq_true hl] at hok
            rw [if_neg (by simpa using hok)]
          rw [← e2]
          exact refRename_late t fr nx a c fa fc na nc w B h0 hw h1 h2 hB hfl hm hl
        · exact refRename_early t fr nx a c fa fc na nc w B h0 hw hB hfl hnl (.inr hl)
      · exact refRename_early t fr nx a c fa fc na nc w B h0 hw hB hfl hnl (.inl (by simpa using hm))
end Go.Proofs.Ytapfmfihhpafcaa
