/-
  The law ValueBytes.
-/
import Derived.Test.YtapfmfihhpafcaaN9
import Derived.Test.YtapfmfihhpafcaaN4
import Derived.Test.YtapfmfihhpafcaaG1
import Derived.Test.YtapfmfihhpafcaaD6
import Derived.Test.YtapfmfihhpafcaaD7
namespace Go.Proofs.Ytapfmfihhpafcaa
open Go.RowKit
set_option linter.unusedVariables false

/-- A value and a code, in memory of the call's own. -/
def Got (w : World) (t : T) (code : Int) (e : Ending) (w' : World) : Prop := (∃ a c, e = .returned (.tuple #[t.val a c, .int .i64 code]) ∧ T.Mut w' (New w.heap.size w') t a c) ∧ Below w.heap.size w w'
def GotI (w : World) (t : T) (code : Int) (e : Ending) (w' : World) : Prop := (∃ a c, e = .returned (.tuple #[t.val a c, .int .i64 code]) ∧ T.In w' (New w.heap.size w') false t a c) ∧ Below w.heap.size w w'
def GotF (w : World) (t : T) (r : ByteArray) (code : Int) (e : Ending) (w' : World) : Prop := (∃ a c, e = .returned (.tuple #[t.val a c, .string r, .int .i64 code]) ∧ T.In w' (New w.heap.size w') false t a c) ∧ Below w.heap.size w w'

theorem zero_mut (w : World) (S : Nat → Prop) : T.Mut w S T.zero none 0 := T.Mut.flat w S 0 0 ⟨#[]⟩ 0
theorem zero_inn (w : World) (ok : Nat → Prop) (m : Bool) : T.In w ok m T.zero none 0 := by rw [T.zero, T.In]; exact ⟨Nat.le_refl _, .inl rfl⟩
theorem zero_mayy : T.zero.may = true := by
  have : T.zero.look 512 16 = 1 := by simp [T.zero, T.look, fieldsOk, ByteArray.size, ByteArray.toList_eq]
  unfold T.may T.parts; rw [this]; rfl
theorem zero_wff : T.zero.wf := by simp [T.zero, T.wf, T.wfs, ByteArray.size]

theorem rd_may {s : ByteArray} {t : T} {r : ByteArray} {p : Nat} (h : rd 16 512 s = some (t, r, p)) : t.may = true := by
  rw [mkS_of s] at h
  obtain ⟨r', _, _, hl, _⟩ := rd_inv _ _ _ _ _ _ h
  exact T.may_of_look hl

theorem rdNode_wf {d p : Nat} {s : ByteArray} {sub : Nat → Nat → ByteArray → Option (List T × ByteArray × Nat)} (hs : s.size ≤ 140737488351232) (hsub : ∀ n p s r, s.size ≤ 140737488351232 → sub n p s = some r → T.wfs r.1 ∧ r.1.length = n) {r : T × ByteArray × Nat} (h : rdNode d p s sub = some r) : r.1.wf := by
  unfold rdNode at h
  have ht : (tl s).size ≤ s.size := by unfold tl; simp
  have hc : ∀ n (x : ByteArray), (cut n x).size ≤ x.size := fun n x => by unfold cut; simp
  have p8 : (256 ^ 8 : Nat) = 18446744073709551616 := by decide
  have p4 : (256 ^ 4 : Nat) = 4294967296 := by decide
  have p2 : (256 ^ 2 : Nat) = 65536 := by decide
  split at h; · cases h
  split at h; · cases h; exact T.wf_flat _ _ _ _ (by omega) (by show 0 ≤ _; omega)
  split at h
  · split at h; · cases h
    cases h
    have := numOf_lt ((tl s).extract 0 8) 8 (by simp; omega)
    exact T.wf_flat _ _ _ _ (by omega) (by show 0 ≤ _; omega)
  split at h
  · split at h; · cases h
    split at h; · cases h
    cases h
    have := numOf_lt ((tl s).extract 0 4) 4 (by simp; omega)
    exact T.wf_flat _ _ _ _ (by omega) (by show 0 ≤ _; omega)
  split at h
  · split at h; · cases h
    split at h; · cases h
    split at h; · cases h
    cases h
    have h1 := hc 2 (tl s)
    exact T.wf_flat _ _ _ _ (by omega) (by simp; omega)
  split at h
  · split at h; · cases h
    split at h; · cases h
    obtain ⟨q, hq, rfl⟩ := Option.map_eq_some_iff.1 h
    have h1 := hc 2 (tl s)
    obtain ⟨h2, h3⟩ := hsub _ _ _ _ (by omega) hq
    have := numOf_lt ((tl s).extract 0 2) 2 (by simp; omega)
    show T.wf (.mk 3 0 ⟨#[]⟩ q.1 0)
    rw [T.wf]
    exact ⟨⟨by omega, by omega, by omega, by omega, by omega, by omega, by show 0 ≤ _; omega, by omega⟩, h2⟩
  · cases h

theorem rds_wf {f : Nat → ByteArray → Option (T × ByteArray × Nat)} (hf : ∀ p s r, s.size ≤ 140737488351232 → f p s = some r → r.1.wf ∧ r.2.1.size ≤ s.size) : ∀ n p s r, s.size ≤ 140737488351232 → rds f n p s = some r → T.wfs r.1 ∧ r.1.length = n
  | 0, p, s, r, _, h => by rw [rds] at h; cases h; exact ⟨by rw [T.wfs]; trivial, rfl⟩
  | n + 1, p, s, r, hs, h => by
    rw [rds] at h
    obtain ⟨x, hx, h⟩ := Option.bind_eq_some_iff.1 h
    obtain ⟨y, hy, rfl⟩ := Option.map_eq_some_iff.1 h
    have h1 := hf _ _ _ hs hx
    have h2 := rds_wf hf n _ _ _ (Nat.le_trans h1.2 hs) hy
    exact ⟨by rw [T.wfs]; exact ⟨h1.1, h2.1⟩, by simp [h2.2]⟩

theorem rd_wf : ∀ d p s r, s.size ≤ 140737488351232 → rd d p s = some r → r.1.wf
  | 0, p, s, r, hs, h => rdNode_wf hs (fun _ _ _ _ _ h => by cases h) h
  | d + 1, p, s, r, hs, h => rdNode_wf hs (rds_wf (fun p s r hs h => ⟨rd_wf d p s r hs h, (rd_le d p s r h).2⟩)) h

/-- Both readings answer one value. -/
theorem read_same (s : ByteArray) (hs : s.size ≤ 1048576) : ∃ (t : T) (code : Int), t.may = true ∧ t.wf ∧ (∀ w, Calls Try.prog 24 #[.string s] w (Got w t code)) ∧ (∀ w, Calls Try.prog 25 #[.string s] w (GotI w t code)) := by
  by_cases hb : 262144 < s.size
  · refine ⟨T.zero, 4, zero_mayy, zero_wff, fun w => (read_walk s w (by omega)).mono fun e w' hp => ?_, fun w => (refRead_walk s w (by omega)).mono fun e w' hp => ?_⟩
    · obtain ⟨⟨_, h1⟩ | ⟨h1, _⟩ | ⟨h1, _⟩, hb2⟩ := hp
      · exact ⟨⟨none, 0, h1, zero_mut _ _⟩, hb2⟩
      · omega
      · omega
    · obtain ⟨⟨_, h1⟩ | ⟨h1, _⟩ | ⟨h1, _⟩, hb2⟩ := hp
      · exact ⟨⟨none, 0, h1, zero_inn _ _ _⟩, hb2⟩
      · omega
      · omega
  have key : (∃ t r p, rd 16 512 s = some (t, r, p) ∧ r.toList = []) ∨ (∀ t r p, rd 16 512 s = some (t, r, p) → ¬ r.toList = []) := by
    rcases hr : rd 16 512 s with _ | ⟨t, r, p⟩
    · exact .inr (fun _ _ _ h => by cases h)
    · by_cases hn : r.toList = []
      · exact .inl ⟨t, r, p, rfl, hn⟩
      · exact .inr (fun _ _ _ h => by cases h; exact hn)
  rcases key with ⟨t, r, p, hr, hn⟩ | hno
  · have hw : t.wf := rd_wf 16 512 s (t, r, p) (by omega) hr
    refine ⟨t, 0, rd_may hr, hw, fun w => (read_walk s w (by omega)).mono fun e w' hp => ?_, fun w => (refRead_walk s w (by omega)).mono fun e w' hp => ?_⟩
    · obtain ⟨⟨h1, _⟩ | ⟨_, t', r', p', a, c, h1, _, h2, h3, _⟩ | ⟨_, h1, _⟩, hb2⟩ := hp
      · omega
      · rw [hr] at h1; cases h1; exact ⟨⟨a, c, h2, h3⟩, hb2⟩
      · exact absurd hn (h1 _ _ _ hr)
    · obtain ⟨⟨h1, _⟩ | ⟨_, t', r', p', a, c, h1, _, h2, h3, _⟩ | ⟨_, h1, _⟩, hb2⟩ := hp
      · omega
      · rw [hr] at h1; cases h1; exact ⟨⟨a, c, h2, h3⟩, hb2⟩
      · exact absurd hn (h1 _ _ _ hr)
  · refine ⟨T.zero, 20, zero_mayy, zero_wff, fun w => (read_walk s w (by omega)).mono fun e w' hp => ?_, fun w => (refRead_walk s w (by omega)).mono fun e w' hp => ?_⟩
    · obtain ⟨⟨h1, _⟩ | ⟨_, t', r', p', a, c, h1, h4, _⟩ | ⟨_, _, h1⟩, hb2⟩ := hp
      · omega
      · exact absurd h4 (hno _ _ _ h1)
      · exact ⟨⟨none, 0, h1, zero_mut _ _⟩, hb2⟩
    · obtain ⟨⟨h1, _⟩ | ⟨_, t', r', p', a, c, h1, h4, _⟩ | ⟨_, _, h1⟩, hb2⟩ := hp
      · omega
      · exact absurd h4 (hno _ _ _ h1)
      · exact ⟨⟨none, 0, h1, zero_inn _ _ _⟩, hb2⟩

/-- Both take one value off the front. -/
theorem front_same (s : ByteArray) (hs : s.size ≤ 1048576) : ∃ (t : T) (r : ByteArray) (code : Int), t.may = true ∧ t.wf ∧ (∀ w, Calls Try.prog 27 #[.string s] w (GotF w t r code)) ∧ (∀ w, Calls Try.prog 28 #[.string s] w (GotF w t r code)) := by
  rcases hr : rd 16 512 s with _ | ⟨t, r, p⟩
  · refine ⟨T.zero, ⟨#[]⟩, 20, zero_mayy, zero_wff, fun w => (front_walk s w (by omega)).mono fun e w' hp => ?_, fun w => (refTop_walk s w (by omega)).mono fun e w' hp => ?_⟩
    · obtain ⟨⟨t', r', p', a, c, h1, _⟩ | ⟨_, h1⟩, hb2⟩ := hp
      · rw [hr] at h1; cases h1
      · exact ⟨⟨none, 0, h1, zero_inn _ _ _⟩, hb2⟩
    · obtain ⟨⟨t', r', p', a, c, h1, _⟩ | ⟨_, h1⟩, hb2⟩ := hp
      · rw [hr] at h1; cases h1
      · exact ⟨⟨none, 0, h1, zero_inn _ _ _⟩, hb2⟩
  · refine ⟨t, r, 0, rd_may hr, rd_wf 16 512 s (t, r, p) (by omega) hr, fun w => (front_walk s w (by omega)).mono fun e w' hp => ?_, fun w => (refTop_walk s w (by omega)).mono fun e w' hp => ?_⟩
    · obtain ⟨⟨t', r', p', a, c, h1, h2, h3, _⟩ | ⟨h1, _⟩, hb2⟩ := hp
      · rw [hr] at h1; cases h1; exact ⟨⟨a, c, h2, T.Mut.lies h3⟩, hb2⟩
      · rw [hr] at h1; cases h1
    · obtain ⟨⟨t', r', p', a, c, h1, h2, h3, _⟩ | ⟨h1, _⟩, hb2⟩ := hp
      · rw [hr] at h1; cases h1; exact ⟨⟨a, c, h2, h3⟩, hb2⟩
      · rw [hr] at h1; cases h1

theorem In_at {w : World} {B : Nat} {m : Bool} {t : T} {a : Option Addr} {c : Nat} (h : T.In w (· < B) m t a c) : T.At w B t a c := T.In.keep (fun _ _ => rfl) (fun _ h => h) (fun h => by cases h) h

set_option maxRecDepth 100000 in
set_option maxHeartbeats 4000000 in
theorem bytes_law (t : T) (s : ByteArray) (a : Option Addr) (c : Nat) (w : World) (h : T.At w w.heap.size t a c) (hw : t.wf) (hsl : s.size ≤ 140737488351232) :
    Calls Try.prog 4 #[t.val a c, .string s] w fun e w' => e = .returned (.bool true) ∧ Below w.heap.size w w' := by
  obtain ⟨w1, hw1⟩ : ∃ w1, w1 = w.alloc (.cells #[.int .u8 t.k, .int .i64 t.n, .string t.s, .slice a t.l.length c, .int .i64 t.r] 26 (0, 0)) := ⟨_, rfl⟩
  have hb1 : Below w.heap.size w w1 := by rw [hw1]; exact (Below.refl _ _).alloc (Nat.le_refl _) _
  have D0 : w1.heap[w.heap.size]? = some (.cells #[.int .u8 t.k, .int .i64 t.n, .string t.s, .slice a t.l.length c, .int .i64 t.r] 26 (0, 0)) := by rw [hw1]; exact blk_new _ _
  have z1 : w.heap.size < w1.heap.size := (Array.getElem?_eq_some_iff.1 D0).1
  have hi := T.At.below hb1 (Nat.le_refl _) h
  have m0 := small_walk t a c w1 w.heap.size 1200 40 hi (by omega) (by omega) (by omega) (by omega) (by omega)
  have m1 := fun w' (hb : Below w1.heap.size w1 w') => lent_walk t a c w' w.heap.size (T.At.below hb (by omega) hi) (by have := hb.size; omega) hw
  obtain ⟨q, hq⟩ : ∃ q, t.small 1200 40 = q := ⟨_, rfl⟩
  rw [hq] at m0
  have tval : ∀ (u : T) p q, u.val p q = .agg #[.int .u8 u.k, .int .i64 u.n, .string u.s, .slice p u.l.length q, .int .i64 u.r] := fun _ _ _ => rfl
  rw [tval]
  unfold T.val at m0 m1
  obtain ⟨x0, x1, x2, x3, x4, _⟩ := blk5 D0
  have E0 := Lib.hid D0
  clear D0 h hq tval
  go_enter Try.func4, Try.ntmps4
  go_upto_region 1 with fail
  rw [← hw1]
  clear hw1
  by_cases hs : q < 0
  · go_wp2_with (first
      | (go_at_call 15; refine m0.mono ?_; clear m0; rintro e wA ⟨rfl, hbA⟩)
      | (go_at_call 14; refine (awake_walk _).mono ?_; rintro e wF ⟨rfl, hbF⟩))
    go_ret
    exact ⟨rfl, hb1.trans ((hbA.trans (hbF.mono hbA.size)).mono hb1.size)⟩
  by_cases hsz : 1048576 < s.size
  · have g1 : decide (1048576 < s.size) = true := by simpa using hsz
    have g2 : decide ((1048576 : Int) < (s.size : Int)) = true := by simp; omega
    go_wp2_with (first
      | (go_at_call 15; refine m0.mono ?_; clear m0; rintro e wA ⟨rfl, hbA⟩)
      | (go_at_call 14; refine (awake_walk _).mono ?_; rintro e wF ⟨rfl, hbF⟩))
    go_ret
    exact ⟨rfl, hb1.trans ((hbA.trans (hbF.mono hbA.size)).mono hb1.size)⟩
  have g1 : decide (1048576 < s.size) = false := by simpa using hsz
  have g2 : decide ((1048576 : Int) < (s.size : Int)) = false := by simp; omega
  go_upto_region 4 with (first
    | (go_at_call 15; refine m0.mono ?_; clear m0; rintro e wA ⟨rfl, hbA⟩; have G0 := (hbA.block w.heap.size z1).trans E0.out; clear x0 x1 x2 x3 x4; obtain ⟨x0, x1, x2, x3, x4, _⟩ := blk5 G0; clear G0)
    | (go_at_call 16; refine (m1 _ hbA).mono ?_; clear m1; rintro e wL ⟨aL, cL, he, hiL, hbL⟩; unfold T.val at he; subst he))
  have zA := hbA.size
  have zL := hbL.size
  obtain ⟨w3, hw3⟩ : ∃ w3, w3 = wL.alloc (.cells #[.int .u8 t.k, .int .i64 t.n, .string t.s, .slice aL t.l.length cL, .int .i64 t.r] 26) := ⟨_, rfl⟩
  rw [← hw3]
  have O3 : w3.heap[wL.heap.size]? = some (.cells #[.int .u8 t.k, .int .i64 t.n, .string t.s, .slice aL t.l.length cL, .int .i64 t.r] 26 (0, 0)) := by rw [hw3]; exact blk_new _ _
  have hbw3 : Below wL.heap.size wL w3 := by rw [hw3]; exact (Below.refl _ _).alloc (Nat.le_refl _) _
  have zw3 := hbw3.size
  have lw3 : wL.heap.size < w3.heap.size := (Array.getElem?_eq_some_iff.1 O3).1
  clear hw3
  have hb13 : Below w1.heap.size w1 w3 := hbA.trans ((hbL.mono zA).trans (hbw3.mono (by omega)))
  have V3 := (hb13.block w.heap.size z1).trans E0.out
  have iv : T.At w3 w.heap.size t a c := T.At.below hb13 (by omega) hi
  have io : T.In w3 (· < wL.heap.size) true t aL cL := T.In.keep (fun b hb => hbw3.block b hb.2) (fun b hb => hb.2) id hiL
  have hb3 : Below w.heap.size w w3 := hb1.trans (hb13.mono hb1.size)
  have n0 := fun w' (hb : Below w3.heap.size w3 w') => bytes_walk t aL cL w' wL.heap.size (T.At.below hb (by omega) (In_at io)) (by have := hb.size; omega) hw
  have n1 := fun w' (hb : Below w3.heap.size w3 w') => refWrite_walk t a c w' w.heap.size (T.At.below hb (by omega) iv) (by have := hb.size; omega) hw
  have n2 := fun w' (hb : Below w3.heap.size w3 w') => kept_walk t aL cL a c w' wL.heap.size w.heap.size (T.In.keep (fun b hk => hb.block b (by omega)) (fun _ h => h) id io) (T.At.below hb (by omega) iv) (by have := hb.size; omega) (by have := hb.size; omega) hw
  obtain ⟨S, K, hA, _⟩ := bytesAns_cases t
  rw [hA] at n0 n1
  unfold T.val at n0 n1 n2
  obtain ⟨y0, y1, y2, y3, y4, _⟩ := blk5 O3
  clear x0 x1 x2 x3 x4
  have V3 := Lib.hid V3
  have O3 := Lib.hid O3
  clear hi hiL hbL hbA hbw3 hb13 iv io E0 hb1 hA g1 g2
  have zw3 : w.heap.size < w3.heap.size := by omega
  go_upto_region 8 with (first
    | (go_at_call 22; refine (n0 _ (Below.refl _ _)).mono ?_; clear n0; rintro e wB ⟨rfl, hbB⟩; have G0 := (hbB.block w.heap.size zw3).trans V3.out; clear y0 y1 y2 y3 y4; obtain ⟨x0, x1, x2, x3, x4, _⟩ := blk5 G0; clear G0)
    | (go_at_call 23; refine (n1 _ hbB).mono ?_; clear n1; rintro e wC ⟨rfl, hbC⟩; have hbC3 := hbB.trans (hbC.mono hbB.size); have G0 := (hbC3.block w.heap.size zw3).trans V3.out; have G1 := (hbC3.block wL.heap.size lw3).trans O3.out; clear x0 x1 x2 x3 x4; obtain ⟨x0, x1, x2, x3, x4, _⟩ := blk5 G0; obtain ⟨y0, y1, y2, y3, y4, _⟩ := blk5 G1; clear G0 G1)
    | (go_at_call 21; refine (n2 _ hbC3).mono ?_; clear n2; rintro e wK ⟨rfl, hbK⟩))
  have hbK3 : Below w3.heap.size w3 wK := hbC3.trans (hbK.mono hbC3.size)
  have zK := hbK3.size
  clear hbB hbC hbC3 hbK x0 x1 x2 x3 x4 y0 y1 y2 y3 y4 V3 O3
  obtain ⟨u, code, hum, huw, r1, r2⟩ := read_same s (by omega)
  unfold Got T.val at r1
  unfold GotI T.val at r2
  go_upto_region 9 with (go_at_call 24; refine (r1 _).mono ?_; rintro e wR ⟨⟨p1, q1, rfl, hm1⟩, hbR⟩)
  have zR := hbR.size
  obtain ⟨w8, hw8⟩ : ∃ w8, w8 = wR.alloc (.cells #[.int .u8 u.k, .int .i64 u.n, .string u.s, .slice p1 u.l.length q1, .int .i64 u.r] 26) := ⟨_, rfl⟩
  rw [← hw8]
  have D8 : w8.heap[wR.heap.size]? = some (.cells #[.int .u8 u.k, .int .i64 u.n, .string u.s, .slice p1 u.l.length q1, .int .i64 u.r] 26 (0, 0)) := by rw [hw8]; exact blk_new _ _
  have hbw8 : Below wR.heap.size wR w8 := by rw [hw8]; exact (Below.refl _ _).alloc (Nat.le_refl _) _
  have zw8 := hbw8.size
  have lw8 : wR.heap.size < w8.heap.size := (Array.getElem?_eq_some_iff.1 D8).1
  clear hw8
  have HM1 := Lib.hid hm1
  have D8 := Lib.hid D8
  clear hm1
  go_upto_region 10 with (go_at_call 24; refine (r1 _).mono ?_; clear r1; rintro e wR2 ⟨⟨p2, q2, rfl, hm2⟩, hbR2⟩)
  have zR2 := hbR2.size
  obtain ⟨w9, hw9⟩ : ∃ w9, w9 = wR2.alloc (.cells #[.int .u8 u.k, .int .i64 u.n, .string u.s, .slice p2 u.l.length q2, .int .i64 u.r] 26) := ⟨_, rfl⟩
  rw [← hw9]
  have D9 : w9.heap[wR2.heap.size]? = some (.cells #[.int .u8 u.k, .int .i64 u.n, .string u.s, .slice p2 u.l.length q2, .int .i64 u.r] 26 (0, 0)) := by rw [hw9]; exact blk_new _ _
  have hbw9 : Below wR2.heap.size wR2 w9 := by rw [hw9]; exact (Below.refl _ _).alloc (Nat.le_refl _) _
  have zw9 := hbw9.size
  have lw9 : wR2.heap.size < w9.heap.size := (Array.getElem?_eq_some_iff.1 D9).1
  clear hw9
  have HM2 := Lib.hid hm2
  have D9 := Lib.hid D9
  clear hm2
  go_upto_region 11 with (go_at_call 25; refine (r2 _).mono ?_; clear r2; rintro e wR3 ⟨⟨p3, q3, rfl, hm3⟩, hbR3⟩)
  have zR3 := hbR3.size
  obtain ⟨wT, hwT⟩ : ∃ wT, wT = wR3.alloc (.cells #[.int .u8 u.k, .int .i64 u.n, .string u.s, .slice p3 u.l.length q3, .int .i64 u.r] 26) := ⟨_, rfl⟩
  rw [← hwT]
  have D10 : wT.heap[wR3.heap.size]? = some (.cells #[.int .u8 u.k, .int .i64 u.n, .string u.s, .slice p3 u.l.length q3, .int .i64 u.r] 26 (0, 0)) := by rw [hwT]; exact blk_new _ _
  have hbwT : Below wR3.heap.size wR3 wT := by rw [hwT]; exact (Below.refl _ _).alloc (Nat.le_refl _) _
  have zwT := hbwT.size
  have lwT : wR3.heap.size < wT.heap.size := (Array.getElem?_eq_some_iff.1 D10).1
  clear hwT
  have hb9T : Below w9.heap.size w9 wT := hbR3.trans (hbwT.mono zR3)
  have hb8T : Below w8.heap.size w8 wT := (hbR2.trans (hbw9.mono zR2)).trans (hb9T.mono (by omega))
  have hbKT : Below wK.heap.size wK wT := (hbR.trans (hbw8.mono zR)).trans (hb8T.mono (by omega))
  have iA : T.Mut wT (fun b => wK.heap.size ≤ b ∧ b < wR.heap.size) u p1 q1 := T.Mut.keep (fun b hb => (hb8T.block b (by have := hb.2; omega)).trans (hbw8.block b hb.2)) (fun _ h => h) HM1.out
  have iB : T.In wT (fun b => w8.heap.size ≤ b ∧ b < wR2.heap.size) false u p2 q2 := T.In.keep (fun b hb => (hb9T.block b (by have := hb.2; omega)).trans (hbw9.block b hb.2)) (fun _ h => h) id (T.Mut.lies HM2.out)
  have iC : T.In wT (fun b => w9.heap.size ≤ b ∧ b < wR3.heap.size) false u p3 q3 := T.In.keep (fun b hb => hbwT.block b hb.2) (fun _ h => h) id hm3
  have mH := held_walk u p1 p2 p3 q1 q2 q3 wT (fun b => wK.heap.size ≤ b ∧ b < wR.heap.size) (fun b => (w8.heap.size ≤ b ∧ b < wR2.heap.size) ∨ (w9.heap.size ≤ b ∧ b < wR3.heap.size)) hum huw iA (fun b hb => by omega) (T.In.keep (fun _ _ => rfl) (fun b hb => .inl hb) id iB) (T.In.keep (fun _ _ => rfl) (fun b hb => .inr hb) id iC) (fun b hb => by omega)
  have A8 := (hb8T.block wR.heap.size lw8).trans D8.out
  have A9 := (hb9T.block wR2.heap.size lw9).trans D9.out
  obtain ⟨x0, x1, x2, x3, x4, _⟩ := blk5 A8
  obtain ⟨y0, y1, y2, y3, y4, _⟩ := blk5 A9
  obtain ⟨v0, v1, v2, v3, v4, _⟩ := blk5 D10
  have HBK := Lib.hid hbKT
  have HBK3 := Lib.hid hbK3
  have HB3 := Lib.hid hb3
  unfold T.val at mH
  clear iA iB iC HM1 HM2 hm3 D8 D9 D10 A8 A9 hb9T hb8T hbKT hbR hbR2 hbR3 hbw8 hbw9 hbwT hbK3 hb3 hum huw
  go_upto_region 13 with (go_at_call 26; refine mH.mono ?_; clear mH; rintro e wH ⟨rfl, hsp⟩)
  have hb3H : Below w3.heap.size w3 wH := (HBK3.out.trans (HBK.out.mono zK)).trans ⟨hsp.os, hsp.tape, hsp.output, hsp.size, fun k hk => hsp.block k (by omega) (by omega)⟩
  clear x0 x1 x2 x3 x4 y0 y1 y2 y3 y4 v0 v1 v2 v3 v4 hsp HBK HBK3
  obtain ⟨f, rest, fc, hfm, hfw, f1, f2⟩ := front_same s (by omega)
  unfold GotF T.val at f1 f2
  have zH := hb3H.size
  go_upto_region 14 with (go_at_call 27; refine (f1 _).mono ?_; clear f1; rintro e wF ⟨⟨p4, q4, rfl, hm4⟩, hbF⟩)
  have zF := hbF.size
  obtain ⟨wX, hwX⟩ : ∃ wX, wX = wF.alloc (.cells #[.int .u8 f.k, .int .i64 f.n, .string f.s, .slice p4 f.l.length q4, .int .i64 f.r] 26) := ⟨_, rfl⟩
  rw [← hwX]
  have DX : wX.heap[wF.heap.size]? = some (.cells #[.int .u8 f.k, .int .i64 f.n, .string f.s, .slice p4 f.l.length q4, .int .i64 f.r] 26 (0, 0)) := by rw [hwX]; exact blk_new _ _
  have hbwX : Below wF.heap.size wF wX := by rw [hwX]; exact (Below.refl _ _).alloc (Nat.le_refl _) _
  have zwX := hbwX.size
  have lwX : wF.heap.size < wX.heap.size := (Array.getElem?_eq_some_iff.1 DX).1
  clear hwX
  have HM4 := Lib.hid hm4
  have DX := Lib.hid DX
  clear hm4
  go_upto_region 15 with (go_at_call 28; refine (f2 _).mono ?_; clear f2; rintro e wG ⟨⟨p5, q5, rfl, hm5⟩, hbG⟩)
  have zG := hbG.size
  obtain ⟨wY, hwY⟩ : ∃ wY, wY = wG.alloc (.cells #[.int .u8 f.k, .int .i64 f.n, .string f.s, .slice p5 f.l.length q5, .int .i64 f.r] 26) := ⟨_, rfl⟩
  rw [← hwY]
  have DY : wY.heap[wG.heap.size]? = some (.cells #[.int .u8 f.k, .int .i64 f.n, .string f.s, .slice p5 f.l.length q5, .int .i64 f.r] 26 (0, 0)) := by rw [hwY]; exact blk_new _ _
  have hbwY : Below wG.heap.size wG wY := by rw [hwY]; exact (Below.refl _ _).alloc (Nat.le_refl _) _
  have zwY := hbwY.size
  have lwY : wG.heap.size < wY.heap.size := (Array.getElem?_eq_some_iff.1 DY).1
  clear hwY
  have hbXY : Below wX.heap.size wX wY := hbG.trans (hbwY.mono zG)
  have hbHY : Below wH.heap.size wH wY := (hbF.trans (hbwX.mono zF)).trans (hbXY.mono (by omega))
  have iX : T.At wY wY.heap.size f p4 q4 := T.In.keep (fun b hb => (hbXY.block b (by have := hb.2; omega)).trans (hbwX.block b hb.2)) (fun b hb => by have := hb.2; omega) id HM4.out
  have iY : T.At wY wY.heap.size f p5 q5 := T.In.keep (fun b hb => hbwY.block b hb.2) (fun b hb => by have := hb.2; omega) id hm5
  have mS := refSame_self f hfm hfw p4 q4 p5 q5 wY wY.heap.size iX iY (Nat.le_refl _)
  unfold T.val at mS
  have AX := (hbXY.block wF.heap.size lwX).trans DX.out
  obtain ⟨x0, x1, x2, x3, x4, _⟩ := blk5 AX
  obtain ⟨y0, y1, y2, y3, y4, _⟩ := blk5 DY
  clear AX DX DY iX iY HM4 hm5 hbXY hbG hbF hbwX hbwY hfm hfw
  go_wp2_with (first
    | (go_at_call 19; refine mS.mono ?_; clear mS; rintro e wZ ⟨rfl, hbZ⟩)
    | (go_at_call 14; refine (awake_walk _).mono ?_; rintro e wQ ⟨rfl, hbQ⟩))
  go_ret
  exact ⟨rfl, HB3.out.trans ((hb3H.trans ((hbHY.mono zH).trans ((hbZ.mono (by have := hbHY.size; omega)).trans (hbQ.mono (by have := hbHY.size; have := hbZ.size; omega))))).mono HB3.out.size)⟩

theorem bytes_row (w : World) (t : T) (a : Option Addr) (c : Nat) (h : T.At w w.heap.size t a c) (hw : t.wf) (s : ByteArray) (hs : s.size ≤ 140737488351232) :
    Calls Try.prog 4 #[t.val a c, .string s] w fun e w' => e = .returned (.bool true) ∧ Below w.heap.size w w' := bytes_law t s a c w h hw hs
end Go.Proofs.Ytapfmfihhpafcaa
