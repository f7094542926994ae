/-
  Whether a value may be: value.take of every value; measure, May, Parts.
-/
import Derived.Test.YtapfmfihhpafcaaA4
namespace Go.Proofs.Ytapfmfihhpafcaa
open Go.RowKit
set_option linter.unusedVariables false

theorem grown_trans {w w1 w2 : World} {row : Option Nat} (h : w.grownBy w1 row) (h' : w1.grownBy w2 row) : w.grownBy w2 row :=
  ⟨h'.os.trans h.os, h'.tape.trans h.tape, h'.output.trans h.output, Nat.le_trans h.size h'.size, fun k hk hne => (h'.block k (Nat.lt_of_lt_of_le hk h.size) hne).trans (h.block k hk hne)⟩
theorem grown_below {w w1 : World} {row : Option Nat} (h : Below w.heap.size w w1) : w.grownBy w1 row :=
  ⟨h.os, h.tape, h.output, h.size, fun k hk _ => h.block k hk⟩
theorem grown_set {w : World} {b : Nat} {o : Nat} {v : Value} : w.grownBy (w.setCell ⟨b, o, none⟩ v) (some b) :=
  ⟨rfl, rfl, rfl, by simp [World.setCell], fun k hk hne => Below.heap_setCell _ _ _ _ (fun e => hne (by rw [e]))⟩
theorem T.In.grown {w w' : World} {B lb : Nat} {t : T} {a : Option Addr} {c : Nat} (h : T.At w B t a c) (hg : w.grownBy w' (some lb)) (hB : B ≤ lb) (hw : B ≤ w.heap.size) : T.At w' B t a c :=
  T.In.keep (fun b hk => hg.block b (Nat.lt_of_lt_of_le hk hw) (fun e => by injection e with e; omega)) (fun _ h => h) id h

theorem take_tail {w wr : World} {lb : Nat} {u v : Value} (hg : w.grownBy wr (some lb)) : w.grownBy ((wr.setCell ⟨lb, 1, none⟩ v).setCell ⟨w.heap.size + 1, 3, none⟩ u) (some lb) := by
  refine ⟨hg.os, hg.tape, hg.output, by simp [World.setCell]; exact hg.size, fun k hk hne => ?_⟩
  rw [Below.heap_setCell _ _ _ _ (by simp; omega), Below.heap_setCell _ _ _ _ (fun e => hne (by rw [e]))]
  exact hg.block k hk hne

theorem take_drawn {w w1 : World} {lb : Nat} {room deep q : Int} {e : Ending} (h : TakePost w lb room deep q e w1) (n : Nat) : TakePost w lb room deep q e (w1.drewN n) := by
  have hc : ∀ a, (w1.drewN n).cell? a = w1.cell? a := fun a => World.cell?_of_block (w := w1) (by simp [World.drewN])
  have hf : ∀ a, (w1.drewN n).frozen? a = w1.frozen? a := fun a => World.frozen?_of_block (w := w1) (by simp [World.drewN])
  refine ⟨⟨h.1.os, h.1.tape, h.1.output, h.1.size, h.1.block⟩, ?_⟩
  rw [hc, hc, hf, hf]
  exact h.2

set_option maxRecDepth 100000 in
set_option maxHeartbeats 4000000 in
theorem take_walk (t : T) : ∀ (a : Option Addr) (c : Nat) (w : World) (B lb : Nat) (room deep : Int), T.At w B t a c → B ≤ lb → lb < w.heap.size → 0 ≤ room → room ≤ 1000000 → 0 ≤ deep → deep ≤ 1000 → t.wf →
    w.cell? ⟨lb, 0, none⟩ = some (.int .i64 room) → w.cell? ⟨lb, 1, none⟩ = some (.int .i64 deep) → w.frozen? ⟨lb, 0, none⟩ = false → w.frozen? ⟨lb, 1, none⟩ = false →
    Calls Try.prog 101 #[.pointer (some ⟨lb, 0, none⟩), t.val a c] w (TakePost w lb room deep (t.look room deep)) := by
  induction t using T.induct with
  | h k n s l r ih =>
  intro a c w B lb room deep hin hB hlb hr0 hr1 hd0 hd1 hwf c0 c1 f0 f1
  rw [T.wf, T.wfs_iff] at hwf
  obtain ⟨⟨hk0, _, _, _, _, _, _, hll⟩, hwl⟩ := hwf
  unfold T.val
  simp only [T.k, T.n, T.s, T.l, T.r]
  by_cases h1 : room = 0
  · rw [T.look, if_pos (by omega)]
    subst h1
    go_enter Try.func101, Try.ntmps101
    go_wp2_with fail
    go_ret
    exact ⟨grown_below ((Below.refl _ _).alloc (Nat.le_refl _) _), .inr ⟨by omega, rfl⟩⟩
  by_cases hk3 : k = 3
  case neg => exact take_flat k n r s l a c w lb room deep hk0 hk3 hlb (by omega) hr1 c0 c1 f0 f1
  subst hk3
  have hr2 : (room == 0) = false := by simp; omega
  have hlook : ∀ q, T.look room deep (.mk 3 n s l r) = q → q = if deep < 1 then -1 else if room ≤ l.length then -1 else if n = 0 ∧ s.toList = [] ∧ r = 0 then T.looks room deep 1 l else -1 := by
    intro q hq
    rw [← hq, T.look, if_neg (by omega)]
    by_cases hf : fieldsOk 3 n s l r
    · have hf' := hf
      unfold fieldsOk at hf'
      rw [if_neg (not_not_intro hf), if_neg (by simp)]
      have : n = 0 ∧ s.toList = [] ∧ r = 0 := ⟨by simpa using hf'.1, by simpa using hf'.2.1, by simpa using hf'.2.2.2.1⟩
      rw [if_pos this]
    · rw [if_pos hf]
      rw [if_neg (c := n = 0 ∧ s.toList = [] ∧ r = 0)]
      · split <;> (try split) <;> rfl
      · intro h; apply hf; unfold fieldsOk; simp [h, size_of_nil h.2.1]
  obtain ⟨q, hq⟩ : ∃ q, T.look room deep (.mk 3 n s l r) = q := ⟨_, rfl⟩
  have HQ := Lib.hid (hlook q hq)
  rw [hq]
  clear hq hlook
  by_cases h2 : deep < 1
  · have h2' : (deep == 0) = true := by simp; omega
    have h2'' : deep = 0 := by omega
    rw [HQ.out, if_pos h2]
    clear HQ
    go_enter Try.func101, Try.ntmps101
    go_wp2_with fail
    go_quiet (fail)
    go_wp2_with fail
    go_ret
    exact take_drawn (take_no hlb) nq
  by_cases h3 : room ≤ l.length
  · have h2' : (deep == 0) = false := by simp; omega
    have h3' : decide (room - 1 < (l.length : Int)) = true := by simp; omega
    have h3'' : room - 1 < (l.length : Int) := by omega
    rw [HQ.out, if_neg h2, if_pos h3]
    clear HQ
    go_enter Try.func101, Try.ntmps101
    go_wp2_with fail
    go_quiet (fail)
    go_wp2_with fail
    go_ret
    exact take_drawn (take_no hlb) nq
  have HQ2 := Lib.hid (HQ.out.trans ((if_neg h2).trans (if_neg h3)))
  clear HQ
  have h2' : (deep == 0) = false := by simp; omega
  have h3' : decide (room - 1 < (l.length : Int)) = false := by simp; omega
  have h3'' : ¬ room - 1 < (l.length : Int) := by omega
  go_enter Try.func101, Try.ntmps101
  go_wp2_with fail
  go_quiet (fail)
  go_wp2_with fail
  clear h2' h3' h3'' hr2
  go_loopg [68] (l.length) (fun g vi wr => ∃ (m : Int) (i : Nat), vi = .int .i64 i ∧ i + g = l.length ∧ 1 ≤ m ∧ m ≤ room ∧ Aside (T.looks room deep 1 l = T.looks room deep m (l.drop i)) ∧
    w.grownBy wr (some lb) ∧ w.heap.size + 1 < wr.heap.size ∧ wr.cell? ⟨lb, 0, none⟩ = some (.int .i64 (room - m)) ∧ wr.cell? ⟨lb, 1, none⟩ = some (.int .i64 (deep - 1)) ∧ wr.frozen? ⟨lb, 0, none⟩ = false ∧ wr.frozen? ⟨lb, 1, none⟩ = false ∧
    wr.cell? ⟨w.heap.size + 1, 1, none⟩ = some (.int .i64 n) ∧ wr.cell? ⟨w.heap.size + 1, 2, none⟩ = some (.string s) ∧ wr.cell? ⟨w.heap.size + 1, 3, none⟩ = some (.slice a l.length c) ∧ wr.cell? ⟨w.heap.size + 1, 4, none⟩ = some (.int .i64 r) ∧ wr.frozen? ⟨w.heap.size + 1, 3, none⟩ = false)
  case atStart =>
    refine ⟨1, 0, rfl, by simp, by omega, by omega, rfl, grown_trans (take_drawn (take_no (room := room) (deep := deep) hlb) nq).1 grown_set, ?_, ?_, ?_, ?_, ?_, ?_, ?_, ?_, ?_, ?_⟩
    all_goals go_simp
    exact World.cell?_setCell_same' _ _ _ (by go_simp)
  case round =>
    obtain ⟨m, i, rfl, hi, hm1, hm2, hs, hg, hz, d0, d1, g0, g1, x1, x2, x3, x4, y3⟩ := hrel
    have hgs := hg.size
    by_cases h : i < l.length
    · obtain ⟨b, o, a', c', rfl, hbB, ht, e0, e1, e2, e3, e4⟩ := (T.In.grown hin hg hB (by omega)).elem i h
      have hd : Aside (l.drop i = l[i] :: l.drop (i + 1)) := List.drop_eq_getElem_cons h
      obtain ⟨wX, hwX⟩ : ∃ wX, wX = wr.alloc (.cells #[.int .u8 l[i].k, .int .i64 l[i].n, .string l[i].s, .slice a' l[i].l.length c', .int .i64 l[i].r] 26 (0, 0)) := ⟨_, rfl⟩
      have hbX : Below wr.heap.size wr wX := by rw [hwX]; exact (Below.refl _ _).alloc (Nat.le_refl _) _
      have hzX : wX.heap.size = wr.heap.size + 1 := by rw [hwX]; simp
      have ih' := ih l[i] (List.getElem_mem h) a' c' wX B lb (room - m) (deep - 1) (T.At.below hbX (by omega) ht) hB (by omega) (by omega) (by omega) (by omega) (by omega) (hwl _ (List.getElem_mem h))
        (by rw [hbX.cell (by simp; omega)]; exact d0) (by rw [hbX.cell (by simp; omega)]; exact d1) (by rw [hbX.frozen (by simp; omega)]; exact g0) (by rw [hbX.frozen (by simp; omega)]; exact g1)
      unfold T.val at ih'
      have hle := T.look_le l[i] (room - m) (deep - 1) (by omega)
      have hs2 : Aside (∀ q, T.look (room - m) (deep - 1) l[i] = q → T.looks room deep 1 l = if q < 0 then -1 else T.looks room deep (m + q) (l.drop (i + 1))) := by
        intro q hq
        rw [hs.out, hd.out, T.looks, hq]
      obtain ⟨p, hp⟩ : ∃ p, T.look (room - m) (deep - 1) l[i] = p := ⟨_, rfl⟩
      have hs3 : Aside _ := hs2.out p hp
      rw [hp] at ih' hle
      clear ih hp hs2 hs hwl hd
      have HB := Lib.hid hbX
      have HZ := Lib.hid hzX
      clear hbX hzX
      rw [hwX] at ih' HB HZ
      clear hwX
      go_wp2_with (go_at_call 101; refine ih'.mono ?_; clear ih'; rintro e w' ⟨hgg, (⟨hp1, rfl, q0, q1, q2, q3⟩ | ⟨hp1, rfl⟩)⟩)
      · have hgz := hgg.size
        have hz1 := HZ.out
        have nb : lb ≠ w.heap.size + 1 := by omega
        have hb2 : w'.heap[w.heap.size + 1]? = wr.heap[w.heap.size + 1]? := (hgg.block _ (by omega) (fun e => by injection e; omega)).trans (HB.out.block _ (by omega))
        go_roundg (gk - 1)
        case measure => omega
        case rel =>
          refine ⟨m + p, i + 1, by go_num, by omega, by omega, by omega, by rw [hs3.out, if_neg (by omega)]; rfl, grown_trans (grown_trans hg (grown_below HB.out)) hgg, by omega, by rw [q0]; congr 2; omega, q1, q2, q3, ?_, ?_, ?_, ?_, ?_⟩
          · rw [cell_of_heap hb2]; exact x1
          · rw [cell_of_heap hb2]; exact x2
          · rw [cell_of_heap hb2]; exact x3
          · rw [cell_of_heap hb2]; exact x4
          · rw [World.frozen?_of_block (a := ⟨w.heap.size + 1, 3, none⟩) hb2]; exact y3
      · go_ret
        refine ⟨grown_trans (grown_trans hg (grown_below HB.out)) hgg, .inr ⟨?_, rfl⟩⟩
        rw [HQ2.out, hs3.out, if_pos hp1]
        split <;> omega
    · have hsm : T.looks room deep 1 l = m := by rw [hs.out, List.drop_of_length_le (by omega), T.looks]
      have HQ3 := Lib.hid (HQ2.out.trans (by rw [hsm]))
      have hs := Lib.hid hs
      clear HQ2 hsm ih hwl hin
      have nb : lb ≠ w.heap.size + 1 := by omega
      have nb2 : w.heap.size + 1 ≠ lb := by omega
      by_cases hn : n = 0
      · by_cases hs : s.toList = []
        · by_cases hr : r = 0
          · have hq : q = m := by rw [HQ3.out, if_pos ⟨hn, hs, hr⟩]
            subst hn hr
            have HQ := Lib.hid hq
            clear hq HQ3
            go_wp2_with fail
            go_ret
            refine ⟨take_tail hg, .inl ⟨by rw [HQ.out]; exact hm1, rfl, ?_, ?_, ?_, ?_⟩⟩
            · rw [HQ.out]; go_simp
            · go_simp
            · go_simp
            · go_simp
          · have hq : q = -1 := by rw [HQ3.out, if_neg (fun h => hr h.2.2)]
            have hr1 : (r == 0) = false := by simpa using hr
            subst hn hq
            clear HQ3
            go_wp2_with fail
            go_ret
            exact ⟨take_tail hg, .inr ⟨by omega, rfl⟩⟩
        · have hq : q = -1 := by rw [HQ3.out, if_neg (fun h => hs h.2.1)]
          have hs1 : s.toList.isEmpty = false := by simpa using hs
          subst hn hq
          clear HQ3
          go_wp2_with fail
          go_ret
          exact ⟨take_tail hg, .inr ⟨by omega, rfl⟩⟩
      · have hq : q = -1 := by rw [HQ3.out, if_neg (fun h => hn h.1)]
        have hn1 : (n == 0) = false := by simpa using hn
        subst hq
        clear HQ3
        go_wp2_with fail
        go_ret
        exact ⟨take_tail hg, .inr ⟨by omega, rfl⟩⟩

theorem T.parts_of {t : T} : t.parts = if 1 ≤ t.look 512 16 then t.look 512 16 else 0 := by
  unfold T.parts
  rcases T.look_pos t 512 16 with h | h
  · rw [if_pos h, if_neg (by omega)]
  · rw [if_neg (by omega), if_pos h]

set_option maxRecDepth 100000 in
theorem measure_walk (t : T) (a : Option Addr) (c : Nat) (w : World) (B : Nat) (hin : T.At w B t a c) (hB : B ≤ w.heap.size) (hw : t.wf) :
    Calls Try.prog 74 #[t.val a c] w fun e w' => e = .returned (.int .i64 t.parts) ∧ Below w.heap.size w w' := by
  obtain ⟨w1, hw1⟩ : ∃ w1, w1 = (w.alloc (.cells #[.int .u8 t.k, .int .i64 t.n, .string t.s, .slice a t.l.length c, .int .i64 t.r] 26 (0, 0))).alloc (.cells #[.int .i64 512, .int .i64 16] 107 (0, 0)) := ⟨_, rfl⟩
  have hb1 : Below w.heap.size w w1 := by rw [hw1]; exact ((Below.refl _ _).alloc (Nat.le_refl _) _).alloc (by simp) _
  have hz1 : w1.heap.size = w.heap.size + 2 := by rw [hw1]; simp
  have m1 := take_walk t a c w1 B (w.heap.size + 1) 512 16 (T.At.below hb1 hB hin) (by omega) (by omega) (by omega) (by omega) (by omega) (by omega) hw
    (by rw [hw1]; go_simp) (by rw [hw1]; go_simp) (by rw [hw1]; go_simp) (by rw [hw1]; go_simp)
  have HB := Lib.hid hb1
  have HZ := Lib.hid hz1
  rw [T.parts_of]
  unfold T.val at m1 ⊢
  clear hb1 hz1
  rw [hw1] at m1 HB HZ
  clear hw1
  have hle := T.look_le t 512 16 (by omega)
  generalize t.look 512 16 = q at m1 hle ⊢
  have hend : ∀ w', ((w.alloc (.cells #[.int .u8 t.k, .int .i64 t.n, .string t.s, .slice a t.l.length c, .int .i64 t.r] 26 (0, 0))).alloc (.cells #[.int .i64 512, .int .i64 16] 107 (0, 0))).grownBy w' (some (w.heap.size + 1)) → Aside (Below w.heap.size w w') := fun w' hg =>
    HB.out.trans ⟨hg.os, hg.tape, hg.output, hg.size, fun k hk => hg.block k (by rw [HZ.out]; omega) (fun e => by injection e; omega)⟩
  by_cases hq : 1 ≤ q
  · rw [if_pos hq]
    go_enter Try.func74, Try.ntmps74
    go_wp2_with (go_at_call 101; refine m1.mono ?_; rintro e w' ⟨hg, (⟨hp1, rfl, q0, q1, q2, q3⟩ | ⟨hp1, rfl⟩)⟩)
    · go_ret
      exact ⟨ret_int (by omega), hend _ hg⟩
    · omega
  · rw [if_neg hq]
    go_enter Try.func74, Try.ntmps74
    go_wp2_with (go_at_call 101; refine m1.mono ?_; rintro e w' ⟨hg, (⟨hp1, rfl, q0, q1, q2, q3⟩ | ⟨hp1, rfl⟩)⟩)
    · omega
    · go_ret
      exact ⟨rfl, hend _ hg⟩

theorem below_box {w w' : World} {o : Obj} (h : Below (w.alloc o).heap.size (w.alloc o) w') : Below w.heap.size w w' :=
  ((Below.refl _ _).alloc (Nat.le_refl _) _).trans (h.mono (by simp))

set_option maxRecDepth 100000 in
theorem may_walk (t : T) (a : Option Addr) (c : Nat) (w : World) (B : Nat) (hin : T.At w B t a c) (hB : B ≤ w.heap.size) (hw : t.wf) :
    Calls Try.prog 34 #[t.val a c] w fun e w' => e = .returned (.bool t.may) ∧ Below w.heap.size w w' := by
  have h1 := measure_walk t a c (w.alloc (.cells #[.int .u8 t.k, .int .i64 t.n, .string t.s, .slice a t.l.length c, .int .i64 t.r] 26 (0, 0))) B
    (T.At.below ((Below.refl w.heap.size w).alloc (Nat.le_refl _) _) hB hin) (by simp; omega) hw
  unfold T.val at h1 ⊢
  unfold T.may
  generalize t.parts = q at h1 ⊢
  go_enter Try.func34, Try.ntmps34
  go_wp2_with (go_at_call 74; refine h1.mono ?_; rintro e w' ⟨rfl, hb'⟩)
  go_ret
  exact ⟨rfl, below_box hb'⟩

set_option maxRecDepth 100000 in
theorem parts_walk (t : T) (a : Option Addr) (c : Nat) (w : World) (B : Nat) (hin : T.At w B t a c) (hB : B ≤ w.heap.size) (hw : t.wf) :
    Calls Try.prog 32 #[t.val a c] w fun e w' => e = .returned (.int .i64 t.parts) ∧ Below w.heap.size w w' := by
  have h1 := measure_walk t a c (w.alloc (.cells #[.int .u8 t.k, .int .i64 t.n, .string t.s, .slice a t.l.length c, .int .i64 t.r] 26 (0, 0))) B
    (T.At.below ((Below.refl w.heap.size w).alloc (Nat.le_refl _) _) hB hin) (by simp; omega) hw
  unfold T.val at h1 ⊢
  generalize t.parts = q at h1 ⊢
  go_enter Try.func32, Try.ntmps32
  go_wp2_with (go_at_call 74; refine h1.mono ?_; rintro e w' ⟨rfl, hb'⟩)
  go_ret
  exact ⟨rfl, below_box hb'⟩

end Go.Proofs.Ytapfmfihhpafcaa
