/-
  posternref02.bytes: of texts.
-/
import Derived.Test.YtapfmfihhpafcaaN2
namespace Go.Proofs.Ytapfmfihhpafcaa
open Go.RowKit
set_option linter.unusedVariables false

theorem wpList_append_string (w : World) {ops : Array Oper} {rest : List Oper} {o : Oper} {a : Act} {Q : Exit → Act → World → Prop} (hgd : o.guard = none) (sl x : Operand) (t u : TypeId)
    (ho : o.op = .call { callee := .builtin .append, args := #[sl, x], argTypes := #[t, u] }) (base : Nat) (e : TypeId) (i : TypeInfo) (ht : Try.prog.underlying t = some (.slice e)) (hu : Try.prog.underlying u = some .string) (hi : Try.prog.info? e = some i) (hz : i.zero = some (.int .u8 0))
    (hsize : i.size = 1) (hby : i.bytes = 1) (v : Value) (n : Nat) (xs : List Value) (hs : a.eval sl = v) (hown : w.ownsRow base e 1 v n xs) (s : ByteArray) (hx : a.eval x = .string s)
    (h63 : n + s.size ≤ maxLen) (hbytes : n + s.size ≤ 140737488355328) (hbase : base ≤ w.heap.size)
    (h : ∀ v' w', w'.ownsRow base e 1 v' (n + s.size) (xs ++ Go.Lib.strCells s) → w.grownBy w' v.ownBlock → (v'.ownBlock = v.ownBlock ∨ v'.ownBlock = some w.heap.size) → wpList Try.prog ops Q rest (a.put o.dst v') w') : wpList Try.prog ops Q (o :: rest) a w := by
  refine wpList_plain hgd fun _ hK => ?_
  obtain ⟨v', w', hr, h2, h3, h4⟩ := append_own_string_at w base t u o.type e i ht hu hi hz hsize hby v n xs hown s h63 hbytes hbase
  unfold Oper.wp execOp
  simp only [ho, resolve, invoke, builtin, Sem.run_bind, Sem.run_pure, Result.andThen_ok, List.map_toArray, List.map_cons, List.map_nil, hs, hx, hr]
  exact hK _ _ (h v' w' h2 h3 h4)

theorem ownsRow_low {w : World} {base base' e sz n : Nat} {v : Value} {xs : List Value} (h : base' ≤ base) (h1 : w.ownsRow base e sz v n xs) : w.ownsRow base' e sz v n xs := by
  refine ⟨h1.1, ?_⟩
  rcases h1.2 with h0 | ⟨g, cap, cur, hv, hb, r⟩
  · exact .inl h0
  · exact .inr ⟨g, cap, cur, hv, by omega, r⟩

set_option maxRecDepth 100000 in
set_option maxHeartbeats 2000000 in
theorem refBytes_str (n r : Int) (s : ByteArray) (l : List T) (a : Option Addr) (c : Nat) (w : World) (hsz : s.size ≤ 140737488351232) :
    Calls Try.prog 69 #[(T.mk 2 n s l r).val a c] w (NewRow w (T.mk 2 n s l r).bytes) := by
  obtain ⟨i0, hi, hz0, hz1, hz2⟩ := info_parts info5
  unfold T.val
  simp only [T.k, T.n, T.s, T.l, T.r]
  obtain ⟨w1, hw1⟩ : ∃ w1, w1 = w.alloc (.cells #[.int .u8 2, .int .i64 n, .string s, .slice a l.length c, .int .i64 r] 26 (0, 0)) := ⟨_, rfl⟩
  have hb1 : Below w.heap.size w w1 := by rw [hw1]; exact (Below.refl _ _).alloc (Nat.le_refl _) _
  have D0 : w1.heap[w.heap.size]? = some (.cells #[.int .u8 2, .int .i64 n, .string s, .slice a l.length c, .int .i64 r] 26 (0, 0)) := by rw [hw1]; exact blk_new _ _
  have hz1' : w1.heap.size = w.heap.size + 1 := by rw [hw1]; simp
  obtain ⟨x0, x1, x2, x3, x4, _⟩ := blk5 D0
  have hown0 : (w1.alloc (.cells #[.int .u8 2] 5)).ownsRow w1.heap.size 5 1 (.slice (some ⟨w1.heap.size, 0, none⟩) 1 1) 1 [.int .u8 2] := World.ownsRow_lit (base := w1.heap.size) (e := 5) (size := 1) w1 #[.int .u8 2] 1 (by omega) (by unfold maxLen; omega) rfl
  have hb12 : Below w1.heap.size w1 (w1.alloc (.cells #[.int .u8 2] 5)) := (Below.refl _ _).alloc (Nat.le_refl _) _
  have hne1 : ¬ w.heap.size = w1.heap.size := by omega
  have hlt1 : w.heap.size < w1.heap.size := by omega
  have E0 := Lib.hid D0
  have HZ := Lib.hid hz1'
  have hwl : IntKind.u64.wrap (s.size : Int) = s.size := wrapU1 _ (by omega) (by omega)
  clear hz1' D0
  go_enter Try.func69, Try.ntmps69
  go_upto_region 1 with (fail)
  rw [← hw1]
  clear hw1
  go_wp2_with (first
    | (go_at_call 91; refine (refBig2 s.size _ (by omega) (by omega)).mono ?_; rintro e w2 ⟨v2, rfl, r3, hb2⟩; have hown2 := ownsRow_of_block'' (w' := w2) hown0 (fun g hg => hb2.block g (hown0.lt g hg).2); have r4 := r3; unfold Row at r4; rw [big_length] at r4)
    | (at_builtin; refine wpList_append_rows _ rfl _ _ 97 rfl w1.heap.size (w1.alloc (.cells #[.int .u8 2] 5)).heap.size 5 i0 _ 1 1 Try.underlying97 hi hz0 hz1 hz2 rfl (by decide) _ 1 _ (by rfl) hown2 v2 2 _ (by rfl) r4 (by simp [Value.oneCell']) (by unfold maxLen; omega) (by omega) (by have hq := hb2.size; rw [World.size_alloc] at hq; omega) ?_; intro v3 w3 hown3 hgrow3 hat3; have hb13 : Below w1.heap.size w1 w3 := Below.grown (hb12.trans (hb2.mono (by simp))) hgrow3 (by have hq := hb2.size; rw [World.size_alloc] at hq; omega) (fun k hk => (hown2.lt k hk).1); have C3 := (hb13.block w.heap.size hlt1).trans E0.out; clear x0 x1 x2 x3 x4; obtain ⟨x0, x1, x2, x3, x4, _⟩ := blk5 C3)
    | (at_builtin; refine wpList_append_string _ rfl _ _ 97 9 rfl w1.heap.size 5 i0 Try.underlying97 Try.underlying9 hi hz0 hz1 hz2 v3 3 _ (by rfl) hown3 s (by rfl) (by unfold maxLen; omega) (by omega) hb13.size ?_; intro v4 w4 hown4 hgrow4 hat4))
  go_ret
  have e : (T.mk 2 n s l r).bytes = [2] ++ big s.size 2 ++ sbytes s := by rw [T.bytes]; simp
  refine ⟨v4, rfl, ?_, Below.grown (hb1.trans (hb13.mono hb1.size)) hgrow4 (by have := hb13.size; omega) (fun k hk => by have := (hown3.lt k hk).1; omega)⟩
  rw [e]
  unfold Row
  rw [List.length_append, List.length_append, big_length, sbytes_length, List.map_append, List.map_append, ← strCells_eq]
  refine ownsRow_low (by omega) hown4
set_option maxRecDepth 100000 in
set_option maxHeartbeats 2000000 in
theorem refBytes_walk (t : T) : ∀ (a : Option Addr) (c : Nat) (w : World) (B : Nat), T.At w B t a c → B ≤ w.heap.size → t.wf → t.bytes.length ≤ 10000000 →
    Calls Try.prog 69 #[t.val a c] w (NewRow w t.bytes) := by
  induction t using T.induct with
  | h k n s l r ih =>
  intro a c w B hin hB hwf hlen
  have hwf' := hwf
  rw [T.wf, T.wfs_iff] at hwf
  obtain ⟨⟨hk0, hk1, hn0, hn1, hr0, hr1, hs0, hl0⟩, hwl⟩ := hwf
  by_cases h1 : k = 1
  · subst h1; exact refBytes_num n r s l a c w hn0 hn1
  by_cases h4 : k = 4
  · subst h4; exact refBytes_ref n r s l a c w
  by_cases h2 : k = 2
  · subst h2; exact refBytes_str n r s l a c w hs0
  by_cases h3 : ¬ k = 3
  · exact refBytes_oth k n r s l a c w h1 h2 h3 h4
  obtain rfl : k = 3 := Classical.not_not.1 h3
  clear h1 h2 h3 h4 hwf'
  have e : (T.mk 3 n s l r).bytes = [3] ++ big l.length 2 ++ T.bytess l := by rw [T.bytes]; simp
  rw [e] at hlen ⊢
  have hll : 3 + (T.bytess l).length ≤ 10000000 := by simp [big] at hlen; omega
  clear hlen e
  obtain ⟨i0, hi, hz0, hz1, hz2⟩ := info_parts info5
  unfold T.val
  simp only [T.k, T.n, T.s, T.l, T.r]
  obtain ⟨w1, hw1⟩ : ∃ w1, w1 = w.alloc (.cells #[.int .u8 3, .int .i64 n, .string s, .slice a l.length c, .int .i64 r] 26 (0, 0)) := ⟨_, rfl⟩
  have hb1 : Below w.heap.size w w1 := by rw [hw1]; exact (Below.refl _ _).alloc (Nat.le_refl _) _
  have D0 : w1.heap[w.heap.size]? = some (.cells #[.int .u8 3, .int .i64 n, .string s, .slice a l.length c, .int .i64 r] 26 (0, 0)) := by rw [hw1]; exact blk_new _ _
  have hz1' : w1.heap.size = w.heap.size + 1 := by rw [hw1]; simp
  obtain ⟨x0, x1, x2, x3, x4, _⟩ := blk5 D0
  have hown0 : (w1.alloc (.cells #[.int .u8 3] 5)).ownsRow w1.heap.size 5 1 (.slice (some ⟨w1.heap.size, 0, none⟩) 1 1) 1 [.int .u8 3] := World.ownsRow_lit (base := w1.heap.size) (e := 5) (size := 1) w1 #[.int .u8 3] 1 (by omega) (by unfold maxLen; omega) rfl
  have hb12 : Below w1.heap.size w1 (w1.alloc (.cells #[.int .u8 3] 5)) := (Below.refl _ _).alloc (Nat.le_refl _) _
  have hne1 : ¬ w.heap.size = w1.heap.size := by omega
  have hlt1 : w.heap.size < w1.heap.size := by omega
  have E0 := Lib.hid D0
  have HZ := Lib.hid hz1'
  have hwl2 : IntKind.u64.wrap (l.length : Int) = l.length := wrapU1 _ (by omega) (by omega)
  clear hz1' D0
  go_enter Try.func69, Try.ntmps69
  go_upto_region 1 with (fail)
  rw [← hw1]
  clear hw1
  go_upto_region 10 with (first
    | (go_at_call 91; refine (refBig2 l.length _ (by omega) (by omega)).mono ?_; rintro e w2 ⟨v2, rfl, r3, hb2⟩; have hown2 := ownsRow_of_block'' (w' := w2) hown0 (fun g hg => hb2.block g (hown0.lt g hg).2); have r4 := r3; unfold Row at r4; rw [big_length] at r4)
    | (at_builtin; refine wpList_append_rows _ rfl _ _ 97 rfl w1.heap.size (w1.alloc (.cells #[.int .u8 3] 5)).heap.size 5 i0 _ 1 1 Try.underlying97 hi hz0 hz1 hz2 rfl (by decide) _ 1 _ (by rfl) hown2 v2 2 _ (by rfl) r4 (by simp [Value.oneCell']) (by unfold maxLen; omega) (by omega) (by have hq := hb2.size; rw [World.size_alloc] at hq; omega) ?_; intro v3 w3 hown3 hgrow3 hat3))
  have hb13 : Below w1.heap.size w1 w3 := Below.grown (hb12.trans (hb2.mono (by simp))) hgrow3 (by have hq := hb2.size; rw [World.size_alloc] at hq; omega) (fun k hk => (hown2.lt k hk).1)
  have C3 := (hb13.block w.heap.size hlt1).trans E0.out
  have hb3 : Below w.heap.size w w3 := hb1.trans (hb13.mono hb1.size)
  have hown3' : w3.ownsRow w1.heap.size 5 1 v3 (3 + (T.bytess (l.take 0)).length) (([3] ++ big l.length 2 ++ T.bytess (l.take 0)).map (.int .u8)) := by
    rw [List.take_zero, T.bytess, List.append_nil, List.map_append]
    exact hown3
  clear x0 x1 x2 x3 x4 hown3 hgrow3 hat3 hown2 hown0 hb2 r3 r4 hb12 hb13
  go_wp2_with fail
  go_loopg [3, 4] l.length (fun gg vo vi wr => ∃ (i : Nat) (v : Value), vo = v ∧ vi = .int .i64 i ∧ i + gg = l.length ∧ Below w.heap.size w wr ∧ wr.heap[w.heap.size]? = some (.cells #[.int .u8 3, .int .i64 n, .string s, .slice a l.length c, .int .i64 r] 26 (0, 0)) ∧
    wr.ownsRow w1.heap.size 5 1 v (3 + (T.bytess (l.take i)).length) (([3] ++ big l.length 2 ++ T.bytess (l.take i)).map (.int .u8)))
  case atStart => exact ⟨0, _, rfl, rfl, by simp, hb3, C3, hown3'⟩
  case round =>
    obtain ⟨i, v, rfl, rfl, hgi, hb, C0, hown⟩ := hrel
    have hzr := (Array.getElem?_eq_some_iff.1 C0).1
    obtain ⟨x0, x1, x2, x3, x4, _⟩ := blk5 C0
    clear x0 x1 x2 x4 hown3' hb3 C3
    by_cases h : i < l.length
    · obtain ⟨b, o, a', c', rfl, hbB, ht, e0, e1, e2, e3, e4⟩ := (T.At.below hb hB hin).elem i h
      have htk := T.bytess_take l i h
      have mC := ih l[i] (List.getElem_mem h) a' c' wr B ht (by have := hb.size; omega) (hwl _ (List.getElem_mem h)) (by omega)
      unfold T.val at mC
      have hvl := hown.lt
      have HO := Lib.hid hown
      have HB := Lib.hid hb
      have HC := Lib.hid C0
      have HS := Lib.hid (T.bytess_succ l i h)
      have hz1r : w1.heap.size ≤ wr.heap.size := by have := HZ.out; omega
      clear ih hown hb C0 ht hin
      go_wp2_with (first
        | (go_at_call 69; refine mC.mono ?_; clear mC; rintro e w4 ⟨v4, rfl, r4, hb4⟩; have hown4 := ownsRow_of_block'' (w' := w4) HO.out (fun g hg => hb4.block g (hvl g hg).2); unfold Row at r4)
        | (at_builtin; refine wpList_append_rows _ rfl _ _ 97 rfl w1.heap.size wr.heap.size 5 i0 _ 1 1 Try.underlying97 hi hz0 hz1 hz2 rfl (by decide) _ _ _ (by rfl) hown4 v4 _ _ (by rfl) r4 (by simp [Value.oneCell']) (by unfold maxLen; omega) (by omega) (by have := hb4.size; omega) ?_; intro v5 w5 hown5 hgrow5 hat5))
      have hz4 := hb4.size
      have hb45 : Below w.heap.size w w5 := Below.grown (HB.out.trans (hb4.mono HB.out.size)) hgrow5 (by have := HB.out.size; omega) (fun k hk => by have := (hvl k hk).1; have := HZ.out; omega)
      have C5 := (hgrow5.block w.heap.size (by omega) (fun e => by have := (hvl _ e.symm).1; omega)).trans ((hb4.block w.heap.size hzr).trans HC.out)
      go_roundg (gk - 1)
      case measure => omega
      case rel =>
        refine ⟨i + 1, v5, rfl, by go_num, by omega, hb45, C5, ?_⟩
        rw [HS.out, List.length_append, ← Nat.add_assoc, ← List.append_assoc, List.map_append]
        exact hown5
    · have hil : i = l.length := by omega
      subst hil
      rw [List.take_of_length_le (Nat.le_refl _)] at hown
      have HO := Lib.hid hown
      have HB := Lib.hid hb
      clear hown hb ih
      go_wp2_with fail
      go_ret
      refine ⟨_, rfl, ?_, HB.out⟩
      unfold Row
      have h9 := ownsRow_low (base' := w.heap.size) (by omega) HO.out
      have hn : 3 + (T.bytess l).length = ([3] ++ big l.length 2 ++ T.bytess l).length := by rw [List.length_append, List.length_append, big_length]; rfl
      rw [hn] at h9
      exact h9
end Go.Proofs.Ytapfmfihhpafcaa
