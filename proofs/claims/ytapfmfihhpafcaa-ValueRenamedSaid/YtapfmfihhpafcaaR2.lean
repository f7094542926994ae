/-
  value.Rename.
-/
import Derived.Test.YtapfmfihhpafcaaR1
import Derived.Test.YtapfmfihhpafcaaB4
import Derived.Outline
namespace Go.Proofs.Ytapfmfihhpafcaa
open Go.RowKit Go.Maps
set_option linter.unusedVariables false

theorem rename1_walk (x : Int) (w : World) : Calls Try.prog 83 #[.int .i64 x] w fun e w' => e = .returned (.bool (decide (x < 1))) ∧ w = w' := by
  go_enter Try.func83, Try.ntmps83
  go_wp2_with fail
  go_ret
  exact ⟨rfl, rfl⟩

/-- Is one of them too low? -/
def someLow (l : List Int) : Bool := l.any fun x => decide (x < 1)

/-- The place of the first that is too low; -1: there is none. -/
def lowAt : List Int → Int → Int
  | [], _ => -1
  | x :: xs, i => if x < 1 then i else lowAt xs (i + 1)

theorem lowAt_some : ∀ (l : List Int) (i : Int), 0 ≤ i → (decide (0 ≤ lowAt l i) = someLow l)
  | [], i, _ => by simp [lowAt, someLow]
  | x :: xs, i, hi => by
    rw [lowAt]
    have ih := lowAt_some xs (i + 1) (by omega)
    by_cases h : x < 1
    · rw [if_pos h]; simp [someLow, h, hi]
    · rw [if_neg h, ih]; simp [someLow, h]

set_option maxRecDepth 100000 in
set_option maxHeartbeats 1000000 in
theorem indexLow_walk (l : List Int) (a : Option Addr) (c : Nat) (w : World) (hl : Ints w (fun _ => True) l a c) (hx : l.length ≤ 1000000) :
    Calls Try.prog 89 #[.slice a l.length c, .func (.func 83) #[] #[]] w fun e w' => e = .returned (.int .i64 (lowAt l 0)) ∧ w = w' := by
  obtain ⟨q, hq⟩ : ∃ q, lowAt l 0 = q := ⟨_, rfl⟩
  rw [hq]
  have HQ := Lib.hid hq
  clear hq
  go_enter Try.func89, Try.ntmps89
  go_wp2_with fail
  go_loopg [8] l.length (fun g vi wr => ∃ (i : Nat), vi = .int .i64 i ∧ i + g = l.length ∧ Aside (lowAt (l.drop i) i = q) ∧ wr = w)
  case atStart => exact ⟨0, rfl, by simp, HQ.out, rfl⟩
  case round =>
    obtain ⟨i, rfl, hi, hs, rfl⟩ := hrel
    by_cases h : i < l.length
    · obtain ⟨b, o, rfl, _, he⟩ := hl.elem i h
      have hd : Aside (lowAt (l.drop i) i = if l[i] < 1 then (i : Int) else lowAt (l.drop (i + 1)) (i + 1)) := by
        rw [List.drop_eq_getElem_cons h, lowAt]; rfl
      obtain ⟨x, hx⟩ : ∃ x, l[i] = x := ⟨_, rfl⟩
      rw [hx] at he hd
      clear hx hl
      have hs3 : Aside (q = if x < 1 then (i : Int) else lowAt (l.drop (i + 1)) (i + 1)) := by rw [← hs.out, hd.out]; rfl
      clear hs hd
      by_cases hb : x < 1
      · go_wp2_with (go_at_call 83; refine (rename1_walk _ _).mono ?_; rintro e w' ⟨rfl, rfl⟩)
        go_ret
        exact ⟨ret_int (by rw [hs3.out, if_pos hb]), rfl⟩
      · go_wp2_with (go_at_call 83; refine (rename1_walk _ _).mono ?_; rintro e w' ⟨rfl, rfl⟩)
        go_roundg (gk - 1)
        case measure => omega
        case rel => exact ⟨i + 1, by go_num, by omega, by rw [hs3.out, if_neg (by omega)]; rfl, rfl⟩
    · have hs' : q = -1 := by rw [← hs.out, List.drop_of_length_le (by omega), lowAt]
      have HS := Lib.hid hs'
      clear hs' hs
      go_wp2_with fail
      go_ret
      exact ⟨ret_int HS.out.symm, rfl⟩

theorem containsLow_walk (l : List Int) (a : Option Addr) (c : Nat) (w : World) (hl : Ints w (fun _ => True) l a c) (hx : l.length ≤ 1000000) :
    Calls Try.prog 66 #[.slice a l.length c, .func (.func 83) #[] #[]] w fun e w' => e = .returned (.bool (someLow l)) ∧ w = w' := by
  have m := indexLow_walk l a c w hl hx
  have hb := lowAt_some l 0 (by omega)
  rw [← hb]
  clear hb
  generalize lowAt l 0 = q at m ⊢
  go_enter Try.func66, Try.ntmps66
  go_wp2_with (go_at_call 89; refine m.mono ?_; rintro e w' ⟨rfl, rfl⟩)
  go_ret
  exact ⟨rfl, rfl⟩

/-- The names that have been laid so far. -/
def NamesN (w : World) (mb N : Nat) (f : Int → Option Int) : Prop :=
  ∃ D : DataW Unit, w.ownsMap Try.prog 24 (plainElem Try.prog 24) mb N D ∧ IsMap D ∧
    ∀ r, (Lit.int .i64 r).wf = true → Maps.has D (.int .i64 r) = (f r).isSome ∧ ∀ y, f r = some y → D.atKey (.int .i64 r) (.lit (.int .i64 0)) = .lit (.int .i64 y)

theorem NamesN.names {w : World} {mb N : Nat} {f : Int → Option Int} (h : NamesN w mb N f) (hN : N ≤ 1000000) : Names w mb f := by
  obtain ⟨D, h1, h2, h3⟩ := h
  exact ⟨N, D, h1, h2, hN, h3⟩

theorem nameOf_snoc : ∀ (xs ys : List Int) (x y r : Int), xs.length = ys.length → nameOf (xs ++ [x]) (ys ++ [y]) r = match nameOf xs ys r with | some v => some v | none => if x = r then some y else none
  | [], [], x, y, r, _ => by simp [nameOf]
  | x' :: xs, y' :: ys, x, y, r, h => by
    rw [List.cons_append, List.cons_append, nameOf, nameOf]
    by_cases hx : x' = r
    · simp [hx]
    · rw [if_neg hx, if_neg hx, nameOf_snoc xs ys x y r (by simpa using h)]
  | [], _ :: _, _, _, _, h => by simp at h
  | _ :: _, [], _, _, _, h => by simp at h

theorem lit_int_ne {a b : Int} (h : a ≠ b) : (Lit.int .i64 a) ≠ .int .i64 b := fun e => h (by injection e)

/-- What Rename answers. -/
noncomputable def renAns (t : T) (fr nx : List Int) : T × Int :=
  if (t.may && decide (fr.length = nx.length) && !someLow fr && !someLow nx) = true then (match t.ren (nameOf fr nx) with | some t' => (t', 0) | none => (T.zero, 21)) else (T.zero, 2)

/-- A value and a code, in memory of the call's own. -/
def GotR (w : World) (x : T × Int) (e : Ending) (w' : World) : Prop := (∃ a c, e = .returned (.tuple #[x.1.val a c, .int .i64 x.2]) ∧ T.Mut w' (New w.heap.size w') x.1 a c) ∧ Below w.heap.size w w'

theorem run_makeMap_hint (w : World) (n : Int) : (Instr.makeMap 115 (some (.int .i64 n))).run Try.prog w = .ok (.map (some w.heap.size)) (w.alloc (.map #[] 0)) := by kernel_rfl

theorem isKey24 (r : Int) : WideAt.IsKeyLit (.int .i64 r) := by trivial

theorem NamesN.put {w' : World} {mb N : Nat} {f : Int → Option Int} {D : DataW Unit} (hm : IsMap D) (h : ∀ r, (Lit.int .i64 r).wf = true → Maps.has D (.int .i64 r) = (f r).isSome ∧ ∀ y, f r = some y → D.atKey (.int .i64 r) (.lit (.int .i64 0)) = .lit (.int .i64 y))
    (x y : Int) (hn : f x = none) (hown : w'.ownsMap Try.prog 24 (plainElem Try.prog 24) mb N (D.put (.int .i64 x) (.lit (.int .i64 y)))) {f' : Int → Option Int} (hf : ∀ r, f' r = match f r with | some v => some v | none => if x = r then some y else none) : NamesN w' mb N f' := by
  refine ⟨_, hown, hm.put _ _, fun r hr => ?_⟩
  rw [hf r]
  by_cases hx : x = r
  · subst hx
    rw [hn, has_put_same hm (isKey24 _), if_pos rfl]
    refine ⟨rfl, fun v hv => ?_⟩
    simp only [Option.some.injEq] at hv
    subst hv
    exact atKey_put_same hm (isKey24 _) _ _
  · rw [has_put_other (lit_int_ne (fun e => hx e.symm))]
    obtain ⟨h1, h2⟩ := h r hr
    rw [h1]
    cases hfr : f r with
    | none => simp [hx]
    | some v =>
      refine ⟨rfl, fun v' hv' => ?_⟩
      cases hv'
      rw [atKey_put_other (lit_int_ne (fun e => hx e.symm))]
      exact h2 _ hfr

theorem post_cell26r {fn : Func} {R : Ending → World → Prop} {a : Act} {w : World} {b : Nat} {v0 v1 v2 v3 v4 u : Value} (hr : fn.results = #[.cell 6 26, .tmp 7]) (hp : a.tmps[6]?.getD undef = .pointer (some ⟨b, 0, none⟩)) (hu : a.tmps[7]?.getD undef = u) (hd : a.defers = [])
    (C : w.heap[b]? = some (.cells #[v0, v1, v2, v3, v4] 26 (0, 0))) (h : R (.returned (.tuple #[.agg #[v0, v1, v2, v3, v4], u])) w) : bodyPost Try.prog fn R .ret a w := by
  obtain ⟨c0, c1, c2, c3, c4, _⟩ := blk5 C
  refine bodyPost_ret (v := .tuple #[.agg #[v0, v1, v2, v3, v4], u]) ?_ hd h
  simp only [results, hr]
  simp [hp, hu, go_sem, c0, c1, c2, c3, c4]

theorem Ints.all {w w' : World} {B : Nat} {l : List Int} {a : Option Addr} {c : Nat} (hb : ∀ b, b < B → w'.heap[b]? = w.heap[b]?) (h : Ints w (· < B) l a c) : Ints w' (fun _ => True) l a c :=
  Ints.keep hb (fun _ _ => trivial) h

set_option maxRecDepth 100000 in
set_option maxHeartbeats 2000000 in
/-- Rename refuses. -/
theorem rename_arg (t : T) (fr nx : List Int) (a : Option Addr) (c : Nat) (fa : Option Addr) (fc : Nat) (na : Option Addr) (nc : Nat) (w : World) (B : Nat) (hin : T.At w B t a c) (hw : t.wf) (h1 : Ints w (· < B) fr fa fc) (h2 : Ints w (· < B) nx na nc) (hB : B ≤ w.heap.size) (hfl : fr.length ≤ 1000000) (hnl : nx.length ≤ 1000000)
    (hno : (t.may && decide (fr.length = nx.length) && !someLow fr && !someLow nx) = false) :
    Calls Try.prog 48 #[t.val a c, .slice fa fr.length fc, .slice na nx.length nc] w (GotR w (T.zero, 2)) := by
  obtain ⟨w1, hw1⟩ : ∃ w1, w1 = (w.alloc (.cells #[.int .u8 t.k, .int .i64 t.n, .string t.s, .slice a t.l.length c, .int .i64 t.r] 26 (0, 0))).alloc (.cells #[.int .u8 0, .int .i64 0, .string ⟨#[]⟩, .slice none 0 0, .int .i64 0] 26 (0, 0)) := ⟨_, rfl⟩
  have hb1 : Below w.heap.size w w1 := by rw [hw1]; exact two_boxes _ _ _
  have D0 : w1.heap[w.heap.size]? = some (.cells #[.int .u8 t.k, .int .i64 t.n, .string t.s, .slice a t.l.length c, .int .i64 t.r] 26 (0, 0)) := by rw [hw1]; exact two_blk0 _ _ _
  have D1 : w1.heap[w.heap.size + 1]? = some (.cells #[.int .u8 0, .int .i64 0, .string ⟨#[]⟩, .slice none 0 0, .int .i64 0] 26 (0, 0)) := by rw [hw1]; exact two_blk1 _ _ _
  have z1 : w1.heap.size = w.heap.size + 2 := by rw [hw1]; simp
  have Z1 := Lib.hid z1
  have hi := T.At.below hb1 hB hin
  have m1 := fun w' (hb : Below w1.heap.size w1 w') => may_walk t a c w' B (T.At.below hb (by omega) hi) (by have := hb.size; omega) hw
  have i1 : ∀ w' (hb : Below w1.heap.size w1 w'), Calls Try.prog 66 #[.slice fa fr.length fc, .func (.func 83) #[] #[]] w' fun e w'' => e = .returned (.bool (someLow fr)) ∧ w' = w'' := fun w' hb => containsLow_walk fr fa fc w' (Ints.all (fun b hk => (hb.block b (by omega)).trans (hb1.block b (by omega))) h1) hfl
  have i2 : ∀ w' (hb : Below w1.heap.size w1 w'), Calls Try.prog 66 #[.slice na nx.length nc, .func (.func 83) #[] #[]] w' fun e w'' => e = .returned (.bool (someLow nx)) ∧ w' = w'' := fun w' hb => containsLow_walk nx na nc w' (Ints.all (fun b hk => (hb.block b (by omega)).trans (hb1.block b (by omega))) h2) hnl
  obtain ⟨mm, hmm⟩ : ∃ mm, t.may = mm := ⟨_, rfl⟩
  obtain ⟨lf, hlf⟩ : ∃ lf, someLow fr = lf := ⟨_, rfl⟩
  obtain ⟨ln, hln⟩ : ∃ ln, someLow nx = ln := ⟨_, rfl⟩
  rw [hmm] at m1 hno
  rw [hlf] at i1 hno
  rw [hln] at i2 hno
  have tval : ∀ (u : T) p q, u.val p q = .agg #[.int .u8 u.k, .int .i64 u.n, .string u.s, .slice p u.l.length q, .int .i64 u.r] := fun _ _ _ => rfl
  rw [tval] at m1 ⊢
  obtain ⟨x0, x1, x2, x3, x4⟩ := blk5cc D0
  have E1 := Lib.hid D1
  have HB1 := Lib.hid hb1
  have fin : ∀ (wA wP : World), Below w1.heap.size w1 wA → Put wA (w.heap.size + 1) #[.int .u8 0, .int .i64 0, .string ⟨#[]⟩, .slice none 0 0, .int .i64 0] wP → GotR w (T.zero, 2) (.returned (.tuple #[.agg #[.int .u8 0, .int .i64 0, .string ⟨#[]⟩, .slice none 0 0, .int .i64 0], .int .i64 2])) wP := fun wA wP hA hP =>
    ⟨⟨none, 0, rfl, T.Mut.zero _ _⟩, HB1.out.trans ((hA.mono (by rw [Z1.out]; omega)).trans (hP.below (by omega)))⟩
  have FIN := Lib.hid fin
  clear D0 D1 hb1 hin hi h1 h2 tval hmm hlf hln z1 fin
  cases mm with
  | false =>
    go_enter Try.func48, Try.ntmps48
    go_upto_region 1 with (fail)
    rw [← hw1]
    clear hw1
    go_wp2_with (first
      | (go_at_call 34; refine (m1 _ (Below.refl _ _)).mono ?_; clear m1; rintro e wA ⟨rfl, hbA⟩; have G1 := Lib.hid ((hbA.block _ (by rw [Z1.out]; omega)).trans E1.out))
      | (refine wpList_put _ rfl _ _ rfl (w.heap.size + 1) _ _ _ _ _ _ _ _ _ _ (by rfl) (by rfl) (by simp [Value.oneCell']) G1.out ?_; rintro wP hP))
    exact post_cell26r Try.results48 rfl rfl rfl hP.at_ (FIN.out _ _ hbA hP)
  | true =>
    by_cases hl : fr.length = nx.length
    case neg =>
      have hl1 : ((fr.length : Int) == (nx.length : Int)) = false := by simp; omega
      have hl2 : ((fr.length : Int) != (nx.length : Int)) = true := by simp; omega
      have hl3 : (fr.length == nx.length) = false := by simpa using hl
      clear hl hno
      go_enter Try.func48, Try.ntmps48
      go_upto_region 1 with (fail)
      rw [← hw1]
      clear hw1
      go_wp2_with (first
        | (go_at_call 34; refine (m1 _ (Below.refl _ _)).mono ?_; clear m1; rintro e wA ⟨rfl, hbA⟩; have G1 := Lib.hid ((hbA.block _ (by rw [Z1.out]; omega)).trans E1.out))
        | (refine wpList_put _ rfl _ _ rfl (w.heap.size + 1) _ _ _ _ _ _ _ _ _ _ (by rfl) (by rfl) (by simp [Value.oneCell']) G1.out ?_; rintro wP hP))
      exact post_cell26r Try.results48 rfl rfl rfl hP.at_ (FIN.out _ _ hbA hP)
    have hl1 : ((fr.length : Int) == (nx.length : Int)) = true := by simp; omega
    have hl2 : ((fr.length : Int) != (nx.length : Int)) = false := by simp; omega
    have hl3 : (fr.length == nx.length) = true := by simpa using hl
    have hno' : lf = true ∨ ln = true := by
      rw [decide_eq_true hl] at hno
      revert hno; cases lf <;> cases ln <;> simp
    clear hl hno
    cases lf with
    | true =>
      go_enter Try.func48, Try.ntmps48
      go_upto_region 1 with (fail)
      rw [← hw1]
      clear hw1
      go_wp2_with (first
        | (go_at_call 34; refine (m1 _ (Below.refl _ _)).mono ?_; clear m1; rintro e wA ⟨rfl, hbA⟩; have G1 := Lib.hid ((hbA.block _ (by rw [Z1.out]; omega)).trans E1.out))
        | (go_at_call 66; refine (i1 _ hbA).mono ?_; clear i1; rintro e w' ⟨rfl, rfl⟩)
        | (refine wpList_put _ rfl _ _ rfl (w.heap.size + 1) _ _ _ _ _ _ _ _ _ _ (by rfl) (by rfl) (by simp [Value.oneCell']) G1.out ?_; rintro wP hP))
      exact post_cell26r Try.results48 rfl rfl rfl hP.at_ (FIN.out _ _ hbA hP)
    | false =>
      obtain rfl : ln = true := by simpa using hno'
      clear hno'
      go_enter Try.func48, Try.ntmps48
      go_upto_region 1 with (fail)
      rw [← hw1]
      clear hw1
      go_wp2_with (first
        | (go_at_call 34; refine (m1 _ (Below.refl _ _)).mono ?_; clear m1; rintro e wA ⟨rfl, hbA⟩; have G1 := Lib.hid ((hbA.block _ (by rw [Z1.out]; omega)).trans E1.out))
        | (go_at_call 66; refine (i1 _ hbA).mono ?_; clear i1; rintro e w' ⟨rfl, rfl⟩)
        | (go_at_call 66; refine (i2 _ hbA).mono ?_; clear i2; rintro e w' ⟨rfl, rfl⟩)
        | (refine wpList_put _ rfl _ _ rfl (w.heap.size + 1) _ _ _ _ _ _ _ _ _ _ (by rfl) (by rfl) (by simp [Value.oneCell']) G1.out ?_; rintro wP hP))
      exact post_cell26r Try.results48 rfl rfl rfl hP.at_ (FIN.out _ _ hbA hP)
end Go.Proofs.Ytapfmfihhpafcaa
