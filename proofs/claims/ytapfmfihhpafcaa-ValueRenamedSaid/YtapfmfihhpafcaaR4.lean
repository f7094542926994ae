/-
  posternref02.renamed, Rename; what a renamed value is.
-/
import Derived.Test.YtapfmfihhpafcaaR3
import Derived.Test.YtapfmfihhpafcaaI1
import Derived.Test.YtapfmfihhpafcaaN6
namespace Go.Proofs.Ytapfmfihhpafcaa
open Go.RowKit Go.Maps
set_option linter.unusedVariables false

mutual
/-- A reference holds no list. -/
def T.flat : T → Prop
  | .mk k _ _ l _ => (k = 4 → l = []) ∧ T.flats l
def T.flats : List T → Prop
  | [] => True
  | t :: ts => T.flat t ∧ T.flats ts
end
theorem T.flats_iff : ∀ {l : List T}, T.flats l ↔ ∀ x ∈ l, x.flat
  | [] => by simp [T.flats]
  | t :: ts => by rw [T.flats, T.flats_iff (l := ts)]; simp

theorem T.looks_each (d : Int) : ∀ (l : List T) (p m : Int), 1 ≤ T.looks p d m l → ∀ x ∈ l, ∃ p', 1 ≤ T.look p' (d - 1) x
  | [], p, m, _, x, hx => by cases hx
  | y :: ys, p, m, h, x, hx => by
    rw [T.looks] at h
    by_cases hq : T.look (p - m) (d - 1) y < 0
    · rw [if_pos hq] at h; omega
    rw [if_neg hq] at h
    have h3 : 1 ≤ T.look (p - m) (d - 1) y := by have := T.look_pos y (p - m) (d - 1); omega
    rcases List.mem_cons.1 hx with rfl | hx
    · exact ⟨_, h3⟩
    · exact T.looks_each d ys p _ h x hx

theorem T.flat_of_look (t : T) : ∀ (p d : Int), 1 ≤ T.look p d t → t.flat := by
  induction t using T.induct with
  | h k n s l r ih =>
    intro p d h
    rw [T.look] at h
    by_cases h1 : p < 1
    · rw [if_pos h1] at h; omega
    rw [if_neg h1] at h
    by_cases h2 : fieldsOk k n s l r
    case neg => rw [if_pos h2] at h; omega
    rw [if_neg (not_not_intro h2)] at h
    rw [T.flat, T.flats_iff]
    by_cases k3 : k ≠ 3
    · have := h2.2.2.1.resolve_left k3
      subst this
      exact ⟨fun _ => rfl, fun x hx => by cases hx⟩
    · refine ⟨fun e => by omega, ?_⟩
      rw [if_neg k3] at h
      by_cases h4 : d < 1
      · rw [if_pos h4] at h; omega
      rw [if_neg h4] at h
      by_cases h5 : p ≤ l.length
      · rw [if_pos h5] at h; omega
      rw [if_neg h5] at h
      intro x hx
      obtain ⟨p', hp'⟩ := T.looks_each d l p 1 h x hx
      exact ih x hx p' _ hp'

/-- What renamed hands back. -/
def RefRen (w : World) (res : Option T) (e : Ending) (w' : World) : Prop :=
  ((∃ t' a' c', res = some t' ∧ e = .returned (.tuple #[t'.val a' c', .bool true]) ∧ T.In w' (New w.heap.size w') false t' a' c') ∨ (res = none ∧ e = .returned (.tuple #[T.zero.val none 0, .bool false]))) ∧ Below w.heap.size w w'
theorem RefRen.of_none {w w' : World} {e : Ending} (h : RefRen w none e w') : e = .returned (.tuple #[T.zero.val none 0, .bool false]) ∧ Below w.heap.size w w' := by
  obtain ⟨⟨_, _, _, h1, _⟩ | ⟨_, h1⟩, h2⟩ := h
  · cases h1
  · exact ⟨h1, h2⟩
theorem RefRen.of_some {w w' : World} {t' : T} {e : Ending} (h : RefRen w (some t') e w') : ∃ a' c', e = .returned (.tuple #[t'.val a' c', .bool true]) ∧ T.In w' (New w.heap.size w') false t' a' c' ∧ Below w.heap.size w w' := by
  obtain ⟨⟨_, a', c', h1, h2, h3⟩ | ⟨h1, _⟩, h4⟩ := h
  · cases h1; exact ⟨a', c', h2, h3, h4⟩
  · cases h1

theorem nameOf_drop (xs ys : List Int) (i : Nat) (r : Int) (h : i < xs.length) (h' : i < ys.length) : nameOf (xs.drop i) (ys.drop i) r = if xs[i] = r then some ys[i] else nameOf (xs.drop (i + 1)) (ys.drop (i + 1)) r := by
  rw [List.drop_eq_getElem_cons h, List.drop_eq_getElem_cons h', nameOf]

set_option maxRecDepth 100000 in
set_option maxHeartbeats 4000000 in
theorem renamed_walk (fr nx : List Int) (fa : Option Addr) (fc : Nat) (na : Option Addr) (nc : Nat) (hl : fr.length = nx.length) (hfl : fr.length ≤ 1000000) (t : T) : ∀ (a : Option Addr) (c : Nat) (w : World) (B : Nat), T.At w B t a c → Ints w (· < B) fr fa fc → Ints w (· < B) nx na nc → B ≤ w.heap.size → t.wf → t.flat →
    Calls Try.prog 85 #[t.val a c, .slice fa fr.length fc, .slice na nx.length nc] w (RefRen w (t.ren (nameOf fr nx))) := by
  induction t using T.induct with
  | h k n s l r ih =>
  intro a c w B hin hI1 hI2 hB hwf hfla
  rw [T.wf, T.wfs_iff] at hwf
  obtain ⟨⟨_, _, _, _, _, _, _, hll⟩, hwl⟩ := hwf
  rw [T.flat, T.flats_iff] at hfla
  obtain ⟨hf4, hfl2⟩ := hfla
  have tval : ∀ (u : T) p q, u.val p q = .agg #[.int .u8 u.k, .int .i64 u.n, .string u.s, .slice p u.l.length q, .int .i64 u.r] := fun _ _ _ => rfl
  rw [tval]
  simp only [T.k, T.n, T.s, T.l, T.r]
  obtain ⟨w1, hw1⟩ : ∃ w1, w1 = ((w.alloc (.cells #[.int .u8 k, .int .i64 n, .string s, .slice a l.length c, .int .i64 r] 26 (0, 0))).alloc (.cells #[.int .u8 0, .int .i64 0, .string ⟨#[]⟩, .slice none 0 0, .int .i64 0] 26 (0, 0))).alloc (.cells #[.int .u8 k, .int .i64 n, .string s, .slice a l.length c, .int .i64 r] 26 (0, 0)) := ⟨_, rfl⟩
  have hb1 : Below w.heap.size w w1 := by rw [hw1]; exact (two_boxes _ _ _).alloc (by simp; omega) _
  obtain ⟨D0, D1, D2⟩ : w1.heap[w.heap.size]? = _ ∧ w1.heap[w.heap.size + 1]? = _ ∧ w1.heap[w.heap.size + 1 + 1]? = _ := by rw [hw1]; exact three_blk _ _ _ _
  have z1 : w1.heap.size = w.heap.size + 3 := by rw [hw1]; simp
  have Z1 := Lib.hid z1
  have j1 := Ints.below hb1 hB hI1
  have j2 := Ints.below hb1 hB hI2
  have hin1 := T.At.below hb1 hB hin
  have hll' : (l.length : Int) ≤ 2199023255488 := by omega
  have HJ1 := Lib.hid j1
  have HJ2 := Lib.hid j2
  have HIN := Lib.hid hin1
  have HB1 := Lib.hid hb1
  have hlI : (fr.length : Int) = (nx.length : Int) := by omega
  have HL := Lib.hid hl
  have HWL := Lib.hid hwl
  have HFL := Lib.hid hfl2
  obtain ⟨x0, x1, x2, x3, x4⟩ := blk5cc D0
  obtain ⟨y0, y1, y2, y3, y4, f0, f1, f2, f3, f4⟩ := blk5 D2
  have E0 := Lib.hid D0
  have E1 := Lib.hid D1
  have E2 := Lib.hid D2
  clear D0 D1 D2 j1 j2 hin1 hb1 hin hI1 hI2 z1 hl hwl hfl2 hlI
  by_cases hk : k = 4
  · subst hk
    have HL0 := Lib.hid (hf4 rfl)
    have hren : T.ren (nameOf fr nx) (.mk 4 n s l r) = (nameOf fr nx r).map fun r' => .mk 4 n s l r' := by rw [T.ren, if_pos rfl]
    rw [hren]
    clear hren ih tval HWL HFL hf4
    go_enter Try.func85, Try.ntmps85
    go_upto_region 2 with fail
    rw [← hw1]
    clear hw1
    go_wp2_with fail
    go_loopg [9] fr.length (fun gg vi wr => ∃ (i : Nat), vi = .int .i64 i ∧ i + gg = fr.length ∧ Aside (Below w1.heap.size w1 wr) ∧ Aside (nameOf fr nx r = nameOf (fr.drop i) (nx.drop i) r))
    case atStart => exact ⟨0, rfl, by simp, Below.refl _ _, rfl⟩
    case round =>
      obtain ⟨i, rfl, hgi, hb, hnm⟩ := hrel
      have zr := hb.out.size
      have hB1 : B ≤ w1.heap.size := by rw [Z1.out]; omega
      have V0 := (hb.out.block w.heap.size (by rw [Z1.out]; omega)).trans E0.out
      have V1 := Lib.hid ((hb.out.block (w.heap.size + 1) (by rw [Z1.out]; omega)).trans E1.out)
      have V2 := (hb.out.block (w.heap.size + 1 + 1) (by rw [Z1.out]; omega)).trans E2.out
      clear x0 x1 x2 x3 x4 y0 y1 y2 y3 y4 f0 f1 f2 f3 f4
      obtain ⟨x0, x1, x2, x3, x4⟩ := blk5cc V0
      obtain ⟨y0, y1, y2, y3, y4, f0, f1, f2, f3, f4⟩ := blk5 V2
      clear V0 V2
      by_cases h : i < fr.length
      · have h' : i < nx.length := by have := HL.out; omega
        obtain ⟨b, o, rfl, hbB, e1⟩ := (Ints.below hb.out hB1 HJ1.out).elem i h
        obtain ⟨b', o', rfl, hbB', e2⟩ := (Ints.below hb.out hB1 HJ2.out).elem i h'
        have hnd := nameOf_drop fr nx i r h h'
        obtain ⟨x, hxx⟩ : ∃ x, fr[i] = x := ⟨_, rfl⟩
        obtain ⟨y, hyy⟩ : ∃ y, nx[i] = y := ⟨_, rfl⟩
        rw [hxx, hyy] at hnd
        rw [hxx] at e1
        rw [hyy] at e2
        have HND := Lib.hid hnd
        have i3 : (i : Int) < (nx.length : Int) := by omega
        clear hxx hyy hnd
        by_cases hx : x = r
        · subst hx
          go_upto_region 6 with fail
          go_quiet (fail)
          go_wp2_with (refine wpList_put _ rfl _ _ rfl (w.heap.size + 1) _ _ _ _ _ _ _ _ _ _ (by rfl) (by rfl) (by simp [Value.oneCell']) ((Below.heap_setCell _ _ _ _ (by show w.heap.size + 1 ≠ w.heap.size + 1 + 1; omega)).trans V1.out) ?_; rintro wP hP)
          have e := hnm.out
          rw [HND.out] at e
          simp only [if_true] at e
          refine post_cell26r Try.results85 rfl rfl rfl hP.at_ ⟨.inl ⟨.mk 4 n s l y, a, c, by rw [e]; rfl, rfl, ?_⟩, HB1.out.trans (Below.trans (hb.out.mono (by rw [Z1.out]; omega)) ?_)⟩
          · rw [T.In, HL0.out]; exact ⟨Nat.zero_le _, .inl rfl⟩
          · have q := hP.below (B := w.heap.size) (by omega)
            exact ⟨q.os, q.tape, q.output, by have := hP.size; simp [World.setCell] at this; rw [this]; exact Nat.le_refl _, fun k hk => (q.block k hk).trans (Below.heap_setCell _ _ _ _ (by show k ≠ w.heap.size + 1 + 1; omega))⟩
        · have hx' : (x == r) = false := by simpa using hx
          have HX := Lib.hid hx
          clear hx
          go_upto_region 6 with fail
          go_quiet (fail)
          go_wp2_with fail
          go_roundg (gk - 1)
          case measure => omega
          case rel =>
            have hb0 := hb.out
            exact ⟨i + 1, by go_num, by omega, by show Below _ _ _; exact ⟨hb0.os, hb0.tape, hb0.output, hb0.size, hb0.block⟩, by show nameOf fr nx r = _; rw [hnm.out, HND.out, if_neg HX.out]⟩
      · have hn0 : nameOf fr nx r = none := by
          rw [hnm.out, List.drop_of_length_le (by omega), nameOf]
          intro _ _ _ _ h; cases h
        have HN0 := Lib.hid hn0
        clear hn0 hnm
        go_wp2_with (refine wpList_put _ rfl _ _ rfl (w.heap.size + 1) _ _ _ _ _ _ _ _ _ _ (by rfl) (by rfl) (by simp [Value.oneCell']) V1.out ?_; rintro wP hP)
        exact post_cell26r Try.results85 rfl rfl rfl hP.at_ ⟨.inr ⟨by rw [HN0.out]; rfl, rfl⟩, HB1.out.trans ((hb.out.mono (by rw [Z1.out]; omega)).trans (hP.below (by omega)))⟩
  · have hk' : (k == 4) = false := by simpa using hk
    have hren : ∀ o, T.rens (nameOf fr nx) l = o → T.ren (nameOf fr nx) (.mk k n s l r) = o.map fun l' => .mk k n s l' r := fun o ho => by rw [T.ren, if_neg hk, ho]
    have HR := Lib.hid hren
    obtain ⟨i0, hi, hy0, hy1, hy2⟩ := info_parts info26
    clear hren hf4 tval hk
    go_enter Try.func85, Try.ntmps85
    go_upto_region 2 with fail
    rw [← hw1]
    clear hw1
    go_upto_region 11 with fail
    obtain ⟨w2, hw2⟩ : ∃ w2, w2 = w1.setCell ⟨w.heap.size + 1 + 1, 3, none⟩ (.slice none 0 0) := ⟨_, rfl⟩
    have hb2 : Below w.heap.size w w2 := by rw [hw2]; exact HB1.out.setCell (p := ⟨w.heap.size + 1 + 1, 3, none⟩) (by show w.heap.size ≤ w.heap.size + 1 + 1; omega) _
    have z2 : w2.heap.size = w1.heap.size := by rw [hw2]; simp [World.setCell]
    have C0 : w2.heap[w.heap.size]? = some (.cells #[.int .u8 k, .int .i64 n, .string s, .slice a l.length c, .int .i64 r] 26 (0, 0)) := by rw [hw2]; exact (Below.heap_setCell _ _ _ _ (by show w.heap.size ≠ w.heap.size + 1 + 1; omega)).trans E0.out
    have C1 : w2.heap[w.heap.size + 1]? = some (.cells #[.int .u8 0, .int .i64 0, .string ⟨#[]⟩, .slice none 0 0, .int .i64 0] 26 (0, 0)) := by rw [hw2]; exact (Below.heap_setCell _ _ _ _ (by show w.heap.size + 1 ≠ w.heap.size + 1 + 1; omega)).trans E1.out
    have C2 : w2.heap[w.heap.size + 1 + 1]? = some (.cells #[.int .u8 k, .int .i64 n, .string s, .slice none 0 0, .int .i64 r] 26 (0, 0)) := by rw [hw2]; exact (setF E2.out).2.2.1
    have hb12 : ∀ b, b < w.heap.size → w2.heap[b]? = w1.heap[b]? := fun b hb => by rw [hw2]; exact Below.heap_setCell _ _ _ _ (by show b ≠ w.heap.size + 1 + 1; omega)
    rw [← hw2]
    have j1 : Ints w2 (· < B) fr fa fc := Ints.keep (fun b hb => hb12 b (by omega)) (fun _ h => h) HJ1.out
    have j2 : Ints w2 (· < B) nx na nc := Ints.keep (fun b hb => hb12 b (by omega)) (fun _ h => h) HJ2.out
    have hin2 : T.At w2 B (.mk k n s l r) a c := T.In.keep (fun b hb => hb12 b (by omega)) (fun _ h => h) id HIN.out
    have z2' : w2.heap.size = w.heap.size + 3 := by rw [z2, Z1.out]
    have Z2 := Lib.hid z2'
    have G0 := Lib.hid C0
    have G1 := Lib.hid C1
    have G2 := Lib.hid C2
    have HB2 := Lib.hid hb2
    have K1 := Lib.hid j1
    have K2 := Lib.hid j2
    have KN := Lib.hid hin2
    clear x0 x1 x2 x3 x4 y0 y1 y2 y3 y4 f0 f1 f2 f3 f4 hw2 hb2 z2 z2' C0 C1 C2 hb12 j1 j2 hin2 HJ1 HJ2 HIN E0 E1 E2 HB1
    go_wp2_with fail
    go_loopg [10] l.length (fun gg vi wr => ∃ (i : Nat) (v : Value) (xs : List Value) (l1 : List T), vi = .int .i64 i ∧ i + gg = l.length ∧ Aside (l1.length = i) ∧ Aside (T.rens (nameOf fr nx) (l.take i) = some l1) ∧
      Below w.heap.size w wr ∧ w.heap.size + 3 ≤ wr.heap.size ∧ wr.heap[w.heap.size]? = some (.cells #[.int .u8 k, .int .i64 n, .string s, .slice a l.length c, .int .i64 r] 26 (0, 0)) ∧ wr.heap[w.heap.size + 1]? = some (.cells #[.int .u8 0, .int .i64 0, .string ⟨#[]⟩, .slice none 0 0, .int .i64 0] 26 (0, 0)) ∧ wr.heap[w.heap.size + 1 + 1]? = some (.cells #[.int .u8 k, .int .i64 n, .string s, v, .int .i64 r] 26 (0, 0)) ∧
      wr.ownsRow (w.heap.size + 3) 26 5 v i xs ∧ Lie wr (fun b => w.heap.size + 3 ≤ b ∧ b < wr.heap.size ∧ v.ownBlock ≠ some b) false l1 xs)
    case atStart => exact ⟨0, .slice none 0 0, [], [], rfl, by simp, rfl, by show T.rens _ [] = _; rw [T.rens], HB2.out, by rw [Z2.out]; exact Nat.le_refl _, G0.out, G1.out, G2.out, World.ownsRow_nil _ _ _ _, by rw [Lie]⟩
    case round =>
      obtain ⟨i, v, xs, l1, rfl, hig, hl1, hrs, hb, hzr, C0, C1, C2, hown, hlie⟩ := hrel
      have hlt9 := hown.lt
      obtain ⟨x0, x1, x2, x3, x4⟩ := blk5cc C0
      have HC1 := Lib.hid C1
      have HC2 := Lib.hid C2
      have HC0 := Lib.hid C0
      by_cases h : i < l.length
      · obtain ⟨b, o, a', c', rfl, hbB, ht, e0, e1, e2, e3, e4⟩ := (T.At.below (hb.mono (by omega) : Below B w wr) (Nat.le_refl _) ((T.In.keep (fun b hk => ((HB2.out.block b (by omega)).symm)) (fun _ h => h) id KN.out : T.At w B (.mk k n s l r) a c))).elem i h
        have jr1 : Ints wr (· < B) fr fa fc := Ints.keep (fun b hk => (hb.block b (by omega)).trans (HB2.out.block b (by omega)).symm) (fun _ h => h) K1.out
        have jr2 : Ints wr (· < B) nx na nc := Ints.keep (fun b hk => (hb.block b (by omega)).trans (HB2.out.block b (by omega)).symm) (fun _ h => h) K2.out
        have hm := ih l[i] (List.getElem_mem h) a' c' wr B ht jr1 jr2 (by omega) (HWL.out _ (List.getElem_mem h)) (HFL.out _ (List.getElem_mem h))
        obtain ⟨st1, st2⟩ := T.rens_step hrs.out h
        have HBB := Lib.hid hb
        have HOW := Lib.hid hown
        have HLI := Lib.hid hlie
        unfold T.val at hm
        clear ih C0 C1 C2 hb hown hlie jr1 jr2 ht
        cases hr : T.ren (nameOf fr nx) l[i] with
        | none =>
          have hn := HR.out _ (st2 hr)
          rw [hr] at hm
          have hm2 := hm.mono (R' := fun e w' => e = .returned (.tuple #[T.zero.val none 0, .bool false]) ∧ Below wr.heap.size wr w') (fun e w' h => h.of_none)
          have HNN := Lib.hid hn
          clear hn hr st1 st2 hm
          go_wp2_with (first
            | (go_at_call 85; refine hm2.mono ?_; clear hm2; rintro e w3 ⟨he, hb3⟩; unfold T.val at he; subst he; have G3 := (hb3.block (w.heap.size + 1) (by omega)).trans HC1.out; have hz3 := hb3.size)
            | (refine wpList_put _ rfl _ _ rfl (w.heap.size + 1) _ _ _ _ _ _ _ _ _ _ (by rfl) (by rfl) (by simp [Value.oneCell']) ((Below.heap_alloc _ _ _ (by omega)).trans G3) ?_; rintro wP hP))
          exact post_cell26r Try.results85 rfl rfl rfl hP.at_ ⟨.inr ⟨by rw [HNN.out]; rfl, rfl⟩, HBB.out.trans (((hb3.mono (by omega)).alloc (by omega) _).trans (hP.below (by omega)))⟩
        | some t' =>
          have hn := st1 t' hr
          rw [hr] at hm
          have hm2 := hm.mono (R' := fun e w' => ∃ a' c', e = .returned (.tuple #[t'.val a' c', .bool true]) ∧ T.In w' (New wr.heap.size w') false t' a' c' ∧ Below wr.heap.size wr w') (fun e w' h => h.of_some)
          have HNN := Lib.hid hn
          clear hn hr st1 st2 hm
          go_wp2_with (first
            | (go_at_call 85; refine hm2.mono ?_; clear hm2; rintro e w3 ⟨a2, c2, he, hi2, hb3⟩; unfold T.val at he; subst he; have G3 := (hb3.block (w.heap.size + 1) (by omega)).trans HC1.out; have Y3 := (hb3.block (w.heap.size + 1 + 1) (by omega)).trans HC2.out; have hz3 := hb3.size; have hv3 : w.heap.size + 1 + 1 < w3.heap.size := (by omega); obtain ⟨y0, y1, y2, y3, y4, f0, f1, f2, f3, f4⟩ := blk5 Y3; have own3 := Lib.hid (ownsRow_of_block' (w' := w3) HOW.out (fun g hg => hb3.block g (hlt9 g hg).2)); have HI2 := Lib.hid hi2; have HB3 := Lib.hid hb3; have HY3 := Lib.hid Y3; clear hi2 hb3 Y3 x0 x1 x2 x3 x4)
            | (at_builtin; refine wpList_append_lies _ rfl _ _ 23 rfl (w.heap.size + 3) 26 i0 _ 5 64 Try.underlying23 hi hy0 hy1 hy2 rfl (by decide) v _ xs (by rfl) ((own3.out.alloc _).alloc _) ⟨w3.heap.size + 1, 0, none⟩ 1 1 (t'.cells5 a2 c2) (by rfl) rfl (World.news_of_block (cs := #[.int .u8 t'.k, .int .i64 t'.n, .string t'.s, .slice a2 t'.l.length c2, .int .i64 t'.r]) (t := 26) (fr := (0, 0)) (two_blk1 _ _ _)) (by simp [T.cells5, Value.oneCell']) (by omega) (by unfold maxLen; omega) (by omega) (by simp; omega) _ rfl ?_; intro g cap w4 hown4 hgrow4 hat4 hlt4; have V4 := (hgrow4.block (w.heap.size + 1 + 1) (by simp; omega) (fun e => by have := (hlt9 _ e.symm).1; omega)).trans ((Below.heap_alloc _ _ _ (by simp; omega)).trans ((Below.heap_alloc _ _ _ (by omega)).trans HY3.out)); clear y0 y1 y2 y3 y4 f0 f1 f2 f3 f4; obtain ⟨y0, y1, y2, y3, y4, f0, f1, f2, f3, f4⟩ := blk5 V4; have V4 := Lib.hid V4))
          have hz4 := hgrow4.size
          simp only [World.size_alloc] at hz4
          have hi2' : T.In (w3.alloc (.cells #[.int .u8 t'.k, .int .i64 t'.n, .string t'.s, .slice a2 t'.l.length c2, .int .i64 t'.r] 26)) (New wr.heap.size (w3.alloc (.cells #[.int .u8 t'.k, .int .i64 t'.n, .string t'.s, .slice a2 t'.l.length c2, .int .i64 t'.r] 26))) false t' a2 c2 :=
            T.In.keep (fun b hb => Below.heap_alloc _ _ _ hb.2) (fun b hb => ⟨hb.1, by have := hb.2; rw [World.size_alloc]; omega⟩) id HI2.out
          obtain ⟨r1, r2, r3, r4, r5⟩ := lie_step (ob := w.heap.size + 1 + 1) (base := w.heap.size + 3) HBB.out (by omega) (by omega) (by omega) (HB3.out.alloc (by omega) _) HOW.out HLI.out hi2' hown4 hgrow4 hat4 HC2.out
          have Q0 := (r2 w.heap.size (by omega) (by omega)).trans HC0.out
          have Q1 := (r2 (w.heap.size + 1) (by omega) (by omega)).trans HC1.out
          have rz := r1.size
          go_roundg (gk - 1)
          case measure => omega
          case rel =>
            exact ⟨i + 1, _, _, l1 ++ [t'], by go_num, by omega, by show (l1 ++ [t']).length = i + 1; rw [List.length_append, hl1.out]; rfl, HNN.out, r1, by simp [World.setCell]; omega, Q0, Q1, r3, r4, r5⟩
      · have hil : i = l.length := by omega
        have hrs' := hrs.out
        rw [List.take_of_length_le (by omega)] at hrs'
        have hn := HR.out _ hrs'
        have hown2 := hown
        rw [show i = l1.length from hl1.out.symm] at hown2
        obtain ⟨va, vc, rfl⟩ := own_form hown2
        have hlies := Lib.hid (own_lies hown2 hlie (B := w.heap.size + 1 + 1) (by omega))
        obtain ⟨y0, y1, y2, y3, y4⟩ := blk5cc C2
        have HNN := Lib.hid hn
        have HBB := Lib.hid hb
        clear ih hil hrs' hn C0 C1 C2 hb hown hown2 hlie hlt9
        go_wp2_with (refine wpList_put _ rfl _ _ rfl (w.heap.size + 1) _ _ _ _ _ _ _ _ _ _ (by rfl) (by rfl) (by simp [Value.oneCell']) HC1.out ?_; rintro wP hP)
        refine post_cell26r Try.results85 rfl rfl rfl hP.at_ ⟨.inl ⟨.mk k n s l1 r, va, vc, by rw [HNN.out]; rfl, rfl, ?_⟩, HBB.out.trans (hP.below (by omega))⟩
        exact T.In.keep (fun b hb => hP.other b (by have := hb.1; omega)) (fun b hb => ⟨by have := hb.1; omega, by rw [hP.size]; exact hb.2⟩) id (hlies.out k n s r)
end Go.Proofs.Ytapfmfihhpafcaa
