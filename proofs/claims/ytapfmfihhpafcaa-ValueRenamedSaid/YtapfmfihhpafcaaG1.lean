/-
  The law ValueBack.
-/
import Derived.Test.YtapfmfihhpafcaaE1
import Derived.Test.YtapfmfihhpafcaaE2
import Derived.Test.YtapfmfihhpafcaaF3
import Derived.Deep.DeepCutAuto
namespace Go.Proofs.Ytapfmfihhpafcaa
open Go.RowKit
set_option linter.unusedVariables false

/-- Two values in a list of their own. -/
theorem two_in {w : World} {B : Nat} {t u : T} {a a' : Option Addr} {c c' g : Nat} (h : T.At w B t a c) (h' : T.At w B u a' c') (hg : w.heap[g]? = some (.cells #[.int .u8 t.k, .int .i64 t.n, .string t.s, .slice a t.l.length c, .int .i64 t.r, .int .u8 u.k, .int .i64 u.n, .string u.s, .slice a' u.l.length c', .int .i64 u.r] 26 (0, 0))) (hB : B ≤ w.heap.size) :
    T.At w w.heap.size (.mk 3 0 ⟨#[]⟩ [t, u] 0) (some ⟨g, 0, none⟩) 2 := by
  have l1 := (Array.getElem?_eq_some_iff.1 hg).1
  unfold T.At; rw [T.In]
  refine ⟨by simp, .inr ⟨g, 0, rfl, l1, by simp, ?_⟩⟩
  rw [T.Ins, T.Ins, T.Ins]
  exact ⟨⟨a, c, T.At.mono hB h, by simp [World.cell?, hg], by simp [World.cell?, hg], by simp [World.cell?, hg], by simp [World.cell?, hg], by simp [World.cell?, hg]⟩,
    ⟨a', c', T.At.mono hB h', by simp [World.cell?, hg], by simp [World.cell?, hg], by simp [World.cell?, hg], by simp [World.cell?, hg], by simp [World.cell?, hg]⟩, trivial⟩

/-- What Bytes answers, in two cases. -/
theorem bytesAns_cases (t : T) : ∃ (sa : ByteArray) (ea : Int), t.bytesAns = .tuple #[.string sa, .int .i64 ea] ∧ ((t.may && !someBig t.refs) = true → sa = strOf t.bytes ∧ ea = 0) ∧ ((t.may && !someBig t.refs) = false → sa = ⟨#[]⟩ ∧ ea = 2) := by
  unfold T.bytesAns
  cases h : (t.may && !someBig t.refs)
  · exact ⟨_, _, rfl, fun h => by (cases h), fun _ => ⟨rfl, rfl⟩⟩
  · exact ⟨_, _, rfl, fun _ => ⟨rfl, rfl⟩, fun h => by (cases h)⟩

theorem T.may_of_look {t : T} (h : 1 ≤ t.look 512 16) : t.may = true := by
  unfold T.may
  rw [T.parts_of, if_pos h]
  simpa using (by omega : 0 < t.look 512 16)

theorem read_back {s : ByteArray} {t : T} {r : ByteArray} {p : Nat} (h : rd 16 512 s = some (t, r, p)) (hr : r.toList = []) : t.bytesAns = .tuple #[.string s, .int .i64 0] := by
  rw [mkS_of s] at h
  obtain ⟨r', rfl, hs, hl, hb, _⟩ := rd_inv _ _ _ _ _ _ h
  rw [mkS_toList] at hr
  subst hr
  unfold T.bytesAns
  rw [T.may_of_look hl, hb, strOf_mk]
  rw [List.append_nil] at hs
  rw [← hs, ← mkS_of]
  rfl

theorem okay {t : T} (h : (t.may && !someBig t.refs) = true) : t.may = true ∧ someBig t.refs = false := by
  revert h; cases t.may <;> cases someBig t.refs <;> simp

theorem rd_okay {t : T} (hw : t.wf) (h : (t.may && !someBig t.refs) = true) (s : ByteArray) : rd 16 512 (strOf t.bytes ++ s) = some (t, s, 512 - t.count) := by
  obtain ⟨h1, h2⟩ := okay h
  have := rd_bytes t 16 512 s.data.toList (T.look_of_may h1) hw h2 (by omega)
  rw [mkS_of s, strOf_mk, mkS_append]
  rw [← mkS_of s] at this ⊢
  exact this.1

theorem strOf_size (xs : List Int) : (strOf xs).size = xs.length := by rw [strOf_mk, mkS_size, B8_length]

theorem front_okay {t : T} (hw : t.wf) (h : (t.may && !someBig t.refs) = true) (s : ByteArray) (hs : s.size ≤ 1048576) (w : World) :
    Calls Try.prog 27 #[.string (strOf t.bytes ++ s)] w fun e w' => (∃ a c, e = .returned (.tuple #[t.val a c, .string s, .int .i64 0]) ∧ T.Mut w' (New w.heap.size w') t a c) ∧ Below w.heap.size w w' := by
  have hb := T.bytes_of_may (okay h).1
  refine (front_walk _ w (by rw [ByteArray.size_append, strOf_size]; omega)).mono fun e w' hp => ?_
  obtain ⟨⟨t', r, p, a, c, h1, h2, h3, _⟩ | ⟨h1, _⟩, hb⟩ := hp
  · rw [rd_okay hw h s] at h1
    injection h1 with h1
    injection h1 with h1 h4
    injection h4 with h4 _
    subst h1 h4
    exact ⟨⟨a, c, h2, h3⟩, hb⟩
  · rw [rd_okay hw h s] at h1; cases h1

theorem read_okay {t : T} (hw : t.wf) (h : (t.may && !someBig t.refs) = true) (w : World) :
    Calls Try.prog 24 #[.string (strOf t.bytes)] w fun e w' => (∃ a c, e = .returned (.tuple #[t.val a c, .int .i64 0]) ∧ T.Mut w' (New w.heap.size w') t a c) ∧ Below w.heap.size w w' := by
  have hb := T.bytes_of_may (okay h).1
  have hrd := rd_okay hw h ⟨#[]⟩
  have e0 : strOf t.bytes ++ (⟨#[]⟩ : ByteArray) = strOf t.bytes := by
    have : (⟨#[]⟩ : ByteArray) = mkS [] := rfl
    rw [this, strOf_mk, mkS_append, List.append_nil]
  rw [e0] at hrd
  refine (read_walk _ w (by rw [strOf_size]; omega)).mono fun e w' hp => ?_
  obtain ⟨⟨h1, _⟩ | ⟨_, t', r, p, a, c, h1, _, h2, h3, _⟩ | ⟨_, h1, _⟩, hb⟩ := hp
  · rw [strOf_size] at h1; omega
  · rw [hrd] at h1
    injection h1 with h1
    injection h1 with h1 h4
    subst h1
    exact ⟨⟨a, c, h2, h3⟩, hb⟩
  · exact absurd (by simp [ByteArray.toList_eq]) (h1 _ _ _ hrd)

theorem same_self (t : T) (h : t.may = true) (hw : t.wf) (a : Option Addr) (c : Nat) (a' : Option Addr) (c' : Nat) (w : World) (B : Nat) (hi : T.At w B t a c) (hi' : T.At w B t a' c') (hB : B ≤ w.heap.size) : Calls Try.prog 30 #[t.val a c, t.val a' c'] w fun e w' => e = .returned (.bool true) ∧ Below w.heap.size w w' := by
  have := same_walk t t a c a' c' w B B hi hi' hB hB hw hw
  rw [h, T.vord_refl] at this
  exact this

theorem same_okay {t u : T} (h : (t.may && !someBig t.refs) = true) (h' : (u.may && !someBig u.refs) = true) (ht : t.wf) (hu : u.wf) : (t.may && u.may && decide (t.vord u = 0)) = ((strOf t.bytes).toList == (strOf u.bytes).toList) := by
  rw [(okay h).1, (okay h').1, strOf_mk, strOf_mk, mkS_toList, mkS_toList]
  rw [Bool.eq_iff_iff]
  simp only [Bool.and_true, Bool.true_and, decide_eq_true_eq, beq_iff_eq]
  constructor
  · intro hv
    rw [T.vord_eq t u _ _ _ _ (T.look_of_may (okay h).1) (T.look_of_may (okay h').1) hv]
  · intro he
    have e1 := rd_okay ht h ⟨#[]⟩
    have e2 := rd_okay hu h' ⟨#[]⟩
    rw [strOf_mk, he, ← strOf_mk, e2] at e1
    injection e1 with e1
    injection e1 with e1 _
    rw [e1, T.vord_refl]

theorem cmpI_neg (x y : Int) : decide (cmpI x y < 0) = decide (x < y) := by
  unfold cmpI
  split
  · rename_i h; simp [h]
  · rename_i h
    split <;> simp [h]

theorem order_okay {t u : T} (h : (t.may && !someBig t.refs) = true) (h' : (u.may && !someBig u.refs) = true) (ht : t.wf) (hu : u.wf) (hk : t.k = u.k) (h14 : t.k = 1 ∨ t.k = 4) :
    decide (t.vord u < 0) = Op.bytesLess (strOf t.bytes).toList (strOf u.bytes).toList := by
  obtain ⟨m1, b1⟩ := okay h
  obtain ⟨m2, b2⟩ := okay h'
  have l1 := T.look_of_may m1
  have l2 := T.look_of_may m2
  obtain ⟨k, n, s, l, r⟩ := t
  obtain ⟨k', n', s', l', r'⟩ := u
  simp only [T.k] at hk h14
  subst hk
  rw [T.wf] at ht hu
  obtain ⟨⟨_, _, hn0, hn1, hr0, hr1, _, _⟩, _⟩ := ht
  obtain ⟨⟨_, _, hn0', hn1', hr0', hr1', _, _⟩, _⟩ := hu
  rcases h14 with rfl | rfl
  · rw [T.bytes1, T.bytes1, less_big 1 _ _ 8 (by omega) (by omega) (by omega) (by omega), T.vord, if_neg (by simp), if_pos rfl, cmpI_neg]
    rw [Bool.eq_iff_iff]; simp
  · rw [T.look] at l1 l2
    by_cases f1 : fieldsOk 4 n s l r
    case neg => rw [if_neg (by omega), if_pos f1] at l1; omega
    by_cases f2 : fieldsOk 4 n' s' l' r'
    case neg => rw [if_neg (by omega), if_pos f2] at l2; omega
    have p1 := f1.2.2.2.2.2.1 rfl
    have p2 := f2.2.2.2.2.2.1 rfl
    rw [T.refs, if_pos rfl, someBig_app] at b1 b2
    have q1 := ((Bool.or_eq_false_iff).1 b1).1
    have q2 := ((Bool.or_eq_false_iff).1 b2).1
    simp [someBig] at q1 q2
    rw [T.bytes4, T.bytes4, u64_ref (by omega) q1, u64_ref (by omega) q2, less_big 4 _ _ 4 (by omega) (by omega) (by omega) (by omega), T.vord, if_neg (by simp), if_neg (by simp), if_neg (by simp), if_pos rfl, cmpI_neg]

set_option maxRecDepth 100000 in
set_option maxHeartbeats 1000000 in
theorem back_law (t u : T) (s : ByteArray) (a a' : Option Addr) (c c' : Nat) (w : World) (h : T.At w w.heap.size t a c) (h' : T.At w w.heap.size u a' c') (ht : t.wf) (hu : u.wf) (hs : s.size ≤ 140737488351232) :
    Calls Try.prog 5 #[t.val a c, u.val a' c', .string s] w fun e w' => e = .returned (.bool true) ∧ Below w.heap.size w w' := by
  unfold T.val
  obtain ⟨w1, hw1⟩ : ∃ w1, w1 = (w.alloc (.cells #[.int .u8 t.k, .int .i64 t.n, .string t.s, .slice a t.l.length c, .int .i64 t.r] 26 (0, 0))).alloc (.cells #[.int .u8 u.k, .int .i64 u.n, .string u.s, .slice a' u.l.length c', .int .i64 u.r] 26 (0, 0)) := ⟨_, rfl⟩
  have hb1 : Below w.heap.size w w1 := by rw [hw1]; exact two_boxes _ _ _
  have D0 : w1.heap[w.heap.size]? = some (.cells #[.int .u8 t.k, .int .i64 t.n, .string t.s, .slice a t.l.length c, .int .i64 t.r] 26 (0, 0)) := by rw [hw1]; exact two_blk0 _ _ _
  have D1 : w1.heap[w.heap.size + 1]? = some (.cells #[.int .u8 u.k, .int .i64 u.n, .string u.s, .slice a' u.l.length c', .int .i64 u.r] 26 (0, 0)) := by rw [hw1]; exact two_blk1 _ _ _
  have hz1 : w1.heap.size = w.heap.size + 2 := by rw [hw1]; simp
  have h1 := T.At.below hb1 (Nat.le_refl _) h
  have h2 := T.At.below hb1 (Nat.le_refl _) h'
  have hz1' : w.heap.size + 1 < w1.heap.size := by omega
  have HZ := Lib.hid hz1
  clear h h' hz1
  go_enter Try.func5, Try.ntmps5
  go_upto_region 1 with (fail)
  rw [← hw1]
  clear hw1
  obtain ⟨w2, hw2⟩ : ∃ w2, w2 = w1.alloc (.cells #[.int .u8 t.k, .int .i64 t.n, .string t.s, .slice a t.l.length c, .int .i64 t.r, .int .u8 u.k, .int .i64 u.n, .string u.s, .slice a' u.l.length c', .int .i64 u.r] 26 (0, 0)) := ⟨_, rfl⟩
  have hb2 : Below w1.heap.size w1 w2 := by rw [hw2]; exact (Below.refl _ _).alloc (Nat.le_refl _) _
  have m1 := smallAll_walk [t, u] (some ⟨w1.heap.size, 0, none⟩) 2 w2 w2.heap.size (two_in (T.At.below hb2 (by omega) h1) (T.At.below hb2 (by omega) h2) (by rw [hw2]; exact blk_new _ _) (by have := hb2.size; omega)) (Nat.le_refl _)
  have HB2 := Lib.hid hb2
  rw [hw2] at m1 HB2
  clear hw2 hb2
  unfold SmallAllPost at m1
  simp only [List.length_cons, List.length_nil, Nat.zero_add] at m1
  obtain ⟨x0, x1, x2, x3, x4⟩ := blk5cc D0
  obtain ⟨y0, y1, y2, y3, y4⟩ := blk5cc D1
  have D0 := Lib.hid D0
  have D1 := Lib.hid D1
  by_cases hsz : 1048576 < s.size
  · have g1 : decide (1048576 < s.size) = true := by simpa using hsz
    have g2 : decide ((1048576 : Int) < (s.size : Int)) = true := by simp; omega
    go_wp2_with (first
      | (go_at_call 29; refine m1.mono ?_; clear m1; rintro e wS ⟨⟨b, rfl, hb⟩, hbS⟩; cases b)
      | (go_at_call 14; refine (awake_walk _).mono ?_; rintro e wA ⟨rfl, hbA⟩))
    all_goals
      go_ret
      exact ⟨rfl, hb1.trans ((HB2.out.trans ((hbS.mono HB2.out.size).trans (hbA.mono (by have := hbS.size; have := HB2.out.size; omega)))).mono hb1.size)⟩
  have g1 : decide (1048576 < s.size) = false := by simpa using hsz
  have g2 : decide ((1048576 : Int) < (s.size : Int)) = false := by simp; omega
  go_upto_region 3 with (first
    | (go_at_call 29; refine m1.mono ?_; clear m1; rintro e wS ⟨⟨b, rfl, hb⟩, hbS⟩; cases b)
    | (go_at_call 14; refine (awake_walk _).mono ?_; rintro e wA ⟨rfl, hbA⟩))
  · go_ret
    exact ⟨rfl, hb1.trans ((HB2.out.trans ((hbS.mono HB2.out.size).trans (hbA.mono (by have := hbS.size; have := HB2.out.size; omega)))).mono hb1.size)⟩
  have hbS1 : Below w1.heap.size w1 wS := HB2.out.trans (hbS.mono HB2.out.size)
  clear g1 g2 hb hbS HB2 x0 x1 x2 x3 x4 y0 y1 y2 y3 y4
  obtain ⟨sa, ea, hA, hAok, hAno⟩ := bytesAns_cases t
  obtain ⟨sb, eb, hB, hBok, hBno⟩ := bytesAns_cases u
  have mA := fun w' (hb : Below w1.heap.size w1 w') => bytes_walk t a c w' w1.heap.size (T.At.below hb (Nat.le_refl _) (T.At.mono hb1.size h1)) hb.size ht
  have mB := fun w' (hb : Below w1.heap.size w1 w') => bytes_walk u a' c' w' w1.heap.size (T.At.below hb (Nat.le_refl _) (T.At.mono hb1.size h2)) hb.size hu
  rw [hA] at mA
  rw [hB] at mB
  unfold T.val at mA mB
  clear hA hB
  have HA1 := Lib.hid hAok
  have HA2 := Lib.hid hAno
  have HB1 := Lib.hid hBok
  have HB2 := Lib.hid hBno
  clear hAok hAno hBok hBno
  have E0 := (hbS1.block w.heap.size (by omega)).trans D0.out
  have E1 := (hbS1.block (w.heap.size + 1) (by omega)).trans D1.out
  obtain ⟨x0, x1, x2, x3, x4⟩ := blk5cc E0
  obtain ⟨y0, y1, y2, y3, y4⟩ := blk5cc E1
  clear E0 E1
  go_upto_if 42 with (first
    | (go_at_call 22; refine (mA _ hbS1).mono ?_; clear mA; rintro e wA ⟨rfl, hbA⟩; have hbA1 := hbS1.trans (hbA.mono hbS1.size); have E1 := (hbA1.block (w.heap.size + 1) (by omega)).trans D1.out; clear x0 x1 x2 x3 x4 y0 y1 y2 y3 y4; obtain ⟨y0, y1, y2, y3, y4⟩ := blk5cc E1; clear E1)
    | (go_at_call 22; refine (mB _ hbA1).mono ?_; clear mB; rintro e wB ⟨rfl, hbB⟩; have hbB1 := hbA1.trans (hbB.mono hbA1.size)))
  clear y0 y1 y2 y3 y4 hbA hbB hbA1 hbS1
  go_cut [] (fun wx => Below w1.heap.size w1 wx)
  case first =>
    cases hok : (t.may && !someBig t.refs) with
    | false =>
      obtain ⟨rfl, rfl⟩ := HA2.out hok
      clear HA1 HA2 HB1 HB2 hok D0 D1
      go_wp2_with fail
      go_meet
      case rel => exact hbB1
    | true =>
      obtain ⟨hsa, rfl⟩ := HA1.out hok
      have mF := fun w' => front_okay ht hok s (by omega) w'
      have mR := fun w' => read_okay ht hok w'
      rw [← hsa] at mF mR
      have hsum : sa.size + s.size ≤ 9223372036854775807 := by rw [hsa, strOf_size]; have := T.bytes_of_may (okay hok).1; omega
      unfold T.val at mF mR
      have HSA := Lib.hid hsa
      have HOK := Lib.hid hok
      clear HA1 HA2 hsa hok
      go_upto_region 7 with (go_at_call 27; refine (mF _).mono ?_; clear mF; rintro e wF ⟨⟨aF, cF, rfl, hmF⟩, hbF⟩)
      obtain ⟨w7, hw7⟩ : ∃ w7, w7 = wF.alloc (.cells #[.int .u8 t.k, .int .i64 t.n, .string t.s, .slice aF t.l.length cF, .int .i64 t.r] 26) := ⟨_, rfl⟩
      rw [← hw7]
      have zB := hbB1.size
      have zF := hbF.size
      have F7 : w7.heap[wF.heap.size]? = some (.cells #[.int .u8 t.k, .int .i64 t.n, .string t.s, .slice aF t.l.length cF, .int .i64 t.r] 26 (0, 0)) := by rw [hw7]; exact blk_new _ _
      have hb7 : Below wF.heap.size wF w7 := by rw [hw7]; exact (Below.refl _ _).alloc (Nat.le_refl _) _
      have i7 : T.At w7 w7.heap.size t aF cF := T.In.keep (fun b hb => hb7.block b hb.2) (fun b hb => by have := hb.2; have := hb7.size; omega) id (T.Mut.lies hmF)
      have hb17 : Below w1.heap.size w1 w7 := hbB1.trans ((hbF.mono zB).trans (hb7.mono (by omega)))
      have HF7 := Lib.hid F7
      have l7 : wF.heap.size < w7.heap.size := (Array.getElem?_eq_some_iff.1 F7).1
      clear hw7 hmF F7
      go_upto_region 8 with (go_at_call 24; refine (mR _).mono ?_; clear mR; rintro e wG ⟨⟨aG, cG, rfl, hmG⟩, hbG⟩)
      obtain ⟨w8, hw8⟩ : ∃ w8, w8 = wG.alloc (.cells #[.int .u8 t.k, .int .i64 t.n, .string t.s, .slice aG t.l.length cG, .int .i64 t.r] 26) := ⟨_, rfl⟩
      rw [← hw8]
      have zG := hbG.size
      have z7 := hb7.size
      have G8 : w8.heap[wG.heap.size]? = some (.cells #[.int .u8 t.k, .int .i64 t.n, .string t.s, .slice aG t.l.length cG, .int .i64 t.r] 26 (0, 0)) := by rw [hw8]; exact blk_new _ _
      have hb8 : Below wG.heap.size wG w8 := by rw [hw8]; exact (Below.refl _ _).alloc (Nat.le_refl _) _
      have z8 := hb8.size
      have i8 : T.At w8 w8.heap.size t aG cG := T.In.keep (fun b hb => hb8.block b hb.2) (fun b hb => by have := hb.2; omega) id (T.Mut.lies hmG)
      have hb78 : Below w7.heap.size w7 w8 := hbG.trans (hb8.mono zG)
      have i7' : T.At w8 w8.heap.size t aF cF := T.At.mono (by omega) (T.At.below hb78 (Nat.le_refl _) i7)
      have hb18 : Below w1.heap.size w1 w8 := hb17.trans (hb78.mono hb17.size)
      have F8 := (hb78.block wF.heap.size l7).trans HF7.out
      have V8 := (hb18.block w.heap.size (by omega)).trans D0.out
      have U8 := (hb18.block (w.heap.size + 1) (by omega)).trans D1.out
      have z18 := hb18.size
      have iv : T.At w8 w8.heap.size t a c := T.At.mono (by have := hb1.size; omega) (T.At.below hb18 hb1.size h1)
      have iu : T.At w8 w8.heap.size u a' c' := T.At.mono (by have := hb1.size; omega) (T.At.below hb18 hb1.size h2)
      have l8 : wG.heap.size < w8.heap.size := (Array.getElem?_eq_some_iff.1 G8).1
      clear hmG hw8 i7 hb7 hb8 hb17 HF7 hb78
      have mS1 := fun w' (hb : Below w8.heap.size w8 w') => same_self t (okay HOK.out).1 ht aF cF a c w' w8.heap.size (T.At.below hb (Nat.le_refl _) i7') (T.At.below hb (Nat.le_refl _) iv) hb.size
      have mS2 := fun w' (hb : Below w8.heap.size w8 w') => same_self t (okay HOK.out).1 ht aG cG a c w' w8.heap.size (T.At.below hb (Nat.le_refl _) i8) (T.At.below hb (Nat.le_refl _) iv) hb.size
      unfold T.val at mS1 mS2
      obtain ⟨x0, x1, x2, x3, x4⟩ := blk5cc V8
      obtain ⟨y0, y1, y2, y3, y4⟩ := blk5cc F8
      obtain ⟨u0, u1, u2, u3, u4⟩ := blk5cc G8
      have V8 := Lib.hid V8
      have G8 := Lib.hid G8
      have U8 := Lib.hid U8
      clear F8 hbF hbG
      go_upto_region 10 with (first
        | (go_at_call 30; refine (mS1 _ (Below.refl _ _)).mono ?_; clear mS1; rintro e wH ⟨rfl, hbH⟩; have V9 := (hbH.block w.heap.size (by omega)).trans V8.out; have G9 := (hbH.block wG.heap.size l8).trans G8.out; clear x0 x1 x2 x3 x4 y0 y1 y2 y3 y4 u0 u1 u2 u3 u4; obtain ⟨x0, x1, x2, x3, x4⟩ := blk5cc V9; obtain ⟨u0, u1, u2, u3, u4⟩ := blk5cc G9; clear V9 G9)
        | (go_at_call 30; refine (mS2 _ hbH).mono ?_; clear mS2; rintro e wI ⟨rfl, hbI⟩; have hbI8 := hbH.trans (hbI.mono hbH.size); have V9 := (hbI8.block w.heap.size (by omega)).trans V8.out; have U9 := (hbI8.block (w.heap.size + 1) (by omega)).trans U8.out; clear x0 x1 x2 x3 x4 u0 u1 u2 u3 u4; obtain ⟨x0, x1, x2, x3, x4⟩ := blk5cc V9; obtain ⟨y0, y1, y2, y3, y4⟩ := blk5cc U9; clear V9 U9))
      cases hok2 : (u.may && !someBig u.refs) with
      | false =>
        obtain ⟨rfl, rfl⟩ := HB2.out hok2
        clear HB1 HB2 hok2
        go_wp2_with fail
        go_meet
        case rel => exact hb18.trans (hbI8.mono z18)
      | true =>
        obtain ⟨hsb, rfl⟩ := HB1.out hok2
        have HSB := Lib.hid hsb
        have HOK2 := Lib.hid hok2
        clear HB1 HB2 hok2 hsb
        have mS3 := fun w' (hb : Below w8.heap.size w8 w') => same_walk t u a c a' c' w' w8.heap.size w8.heap.size (T.At.below hb (Nat.le_refl _) iv) (T.At.below hb (Nat.le_refl _) iu) hb.size hb.size ht hu
        have mO := fun w' (hb : Below w8.heap.size w8 w') => order_walk t u a c a' c' w' w8.heap.size w8.heap.size (T.At.below hb (Nat.le_refl _) iv) (T.At.below hb (Nat.le_refl _) iu) hb.size hb.size ht hu
        rw [same_okay HOK.out HOK2.out ht hu, ← HSA.out, ← HSB.out] at mS3
        unfold T.ordAnsV at mO
        rw [(okay HOK.out).1, (okay HOK2.out).1] at mO
        unfold T.val at mS3 mO
        go_upto_region 12 with (first
          | (go_at_call 30; refine (mS3 _ hbI8).mono ?_; clear mS3; rintro e wJ ⟨rfl, hbJ⟩; have hbJ8 := hbI8.trans (hbJ.mono hbI8.size); have V9 := (hbJ8.block w.heap.size (by omega)).trans V8.out; have U9 := (hbJ8.block (w.heap.size + 1) (by omega)).trans U8.out; clear x0 x1 x2 x3 x4 y0 y1 y2 y3 y4; obtain ⟨x0, x1, x2, x3, x4⟩ := blk5cc V9; obtain ⟨y0, y1, y2, y3, y4⟩ := blk5cc U9; clear V9 U9))
        by_cases hk : t.k = u.k
        case neg =>
          have g1 : (t.k == u.k) = false := by simpa using hk
          clear hk
          go_wp2_with fail
          go_meet
          case rel => exact hb18.trans (hbJ8.mono z18)
        have g1 : (t.k == u.k) = true := by simpa using hk
        by_cases hk14 : t.k = 1 ∨ t.k = 4
        case neg =>
          have g2 : (t.k == 1) = false := by simp; omega
          have g3 : (t.k == 4) = false := by simp; omega
          clear hk hk14
          go_wp2_with fail
          go_meet
          case rel => exact hb18.trans (hbJ8.mono z18)
        have hord := order_okay HOK.out HOK2.out ht hu hk hk14
        rw [← HSA.out, ← HSB.out] at hord
        obtain ⟨q, hq⟩ : ∃ q, t.vord u = q := ⟨_, rfl⟩
        rw [hq] at hord mO
        simp only [Bool.and_self, if_true] at mO
        clear hq
        have hlt : ∀ b, decide (q < 0) = b → Op.bytesLess sa.toList sb.toList = b := fun b hb => by rw [← hord]; exact hb
        clear hord
        by_cases hk1 : t.k = 1
        · have g2 : (t.k == 1) = true := by simpa using hk1
          clear hk hk14 hk1
          by_cases hq : q < 0
          all_goals
            have hl := hlt _ (by first | exact decide_eq_true hq | exact decide_eq_false hq)
            clear hlt
            go_wp2_with (go_at_call 31; refine (mO _ hbJ8).mono ?_; clear mO; rintro e wK ⟨rfl, hbK⟩)
            go_meet
            case rel => exact hb18.trans ((hbJ8.trans (hbK.mono hbJ8.size)).mono z18)
        · have g2 : (t.k == 1) = false := by simpa using hk1
          have g3 : (t.k == 4) = true := by simp; omega
          clear hk hk14 hk1
          by_cases hq : q < 0
          all_goals
            have hl := hlt _ (by first | exact decide_eq_true hq | exact decide_eq_false hq)
            clear hlt
            go_wp2_with (go_at_call 31; refine (mO _ hbJ8).mono ?_; clear mO; rintro e wK ⟨rfl, hbK⟩)
            go_meet
            case rel => exact hb18.trans ((hbJ8.trans (hbK.mono hbJ8.size)).mono z18)
  case rest =>
    have mR := read_walk s wc hs
    have zc := hcut.size
    unfold ReadAll at mR
    clear HA1 HA2 HB1 HB2 D0 D1
    go_upto_region 19 with (first
      | (go_at_call 24; refine mR.mono ?_; clear mR; rintro e wR ⟨⟨hbig, he⟩ | ⟨_, tt, rr, pp, aa, cc, hrd, hrr, he, hmt, htw⟩ | ⟨_, hno, he⟩, hbR⟩; all_goals ((first | rw [T.zero_val] at he | unfold T.val at he); subst he)))
    · go_wp2_with (go_at_call 14; refine (awake_walk _).mono ?_; rintro e wA ⟨rfl, hbA⟩)
      go_ret
      exact ⟨rfl, hb1.trans ((hcut.trans ((hbR.mono zc).trans (((Below.refl _ _).alloc (by have := hbR.size; omega) _).trans (hbA.mono (by have := hbR.size; simp; omega))))).mono hb1.size)⟩
    · obtain ⟨wx, hwx⟩ : ∃ wx, wx = wR.alloc (.cells #[.int .u8 tt.k, .int .i64 tt.n, .string tt.s, .slice aa tt.l.length cc, .int .i64 tt.r] 26) := ⟨_, rfl⟩
      have hbx : Below wR.heap.size wR wx := by rw [hwx]; exact (Below.refl _ _).alloc (Nat.le_refl _) _
      have Dx : wx.heap[wR.heap.size]? = some (.cells #[.int .u8 tt.k, .int .i64 tt.n, .string tt.s, .slice aa tt.l.length cc, .int .i64 tt.r] 26 (0, 0)) := by rw [hwx]; exact blk_new _ _
      have mX := bytes_walk tt aa cc wx wR.heap.size (T.In.keep (fun b hb => hbx.block b hb.2) (fun b hb => hb.2) id (T.Mut.lies hmt)) hbx.size htw
      rw [read_back hrd hrr] at mX
      unfold T.val at mX
      rw [← hwx]
      have zR := hbR.size
      have zx := hbx.size
      obtain ⟨x0, x1, x2, x3, x4⟩ := blk5cc Dx
      clear hrd hrr hmt htw hwx Dx
      go_wp2_with (first
        | (go_at_call 22; refine mX.mono ?_; clear mX; rintro e wY ⟨rfl, hbY⟩)
        | (go_at_call 14; refine (awake_walk _).mono ?_; rintro e wA ⟨rfl, hbA⟩))
      go_ret
      exact ⟨rfl, hb1.trans ((hcut.trans ((hbR.mono zc).trans ((hbx.mono (by omega)).trans ((hbY.mono (by omega)).trans (hbA.mono (by have := hbY.size; omega)))))).mono hb1.size)⟩
    · go_wp2_with (go_at_call 14; refine (awake_walk _).mono ?_; rintro e wA ⟨rfl, hbA⟩)
      go_ret
      exact ⟨rfl, hb1.trans ((hcut.trans ((hbR.mono zc).trans (((Below.refl _ _).alloc (by have := hbR.size; omega) _).trans (hbA.mono (by have := hbR.size; simp; omega))))).mono hb1.size)⟩
end Go.Proofs.Ytapfmfihhpafcaa
