/-
  value.write: the bytes of a value.
-/
import Derived.Test.YtapfmfihhpafcaaB5
import Derived.Deep.CutBlock
import Derived.Deep.Cut
namespace Go.Proofs.Ytapfmfihhpafcaa
open Go.RowKit
set_option linter.unusedVariables false

/-- A text's bytes. -/
def sbytes (s : ByteArray) : List Int := s.data.toList.map fun c => (c.toNat : Int)

mutual
def T.bytes : T → List Int
  | .mk k n s l r => k :: (if k = 1 then big (n + 9223372036854775808) 8 else if k = 2 then big s.size 2 ++ sbytes s else if k = 3 then big l.length 2 ++ T.bytess l else if k = 4 then big (IntKind.u64.wrap r) 4 else [])
def T.bytess : List T → List Int
  | [] => []
  | t :: ts => T.bytes t ++ T.bytess ts
end

theorem append_own_string_at (w : World) (base : Nat) (t u ty e : TypeId) (i : TypeInfo) (ht : Try.prog.underlying t = some (.slice e)) (hu : Try.prog.underlying u = some .string) (hi : Try.prog.info? e = some i) (hz : i.zero = some (.int .u8 0))
    (hsize : i.size = 1) (hby : i.bytes = 1) (v : Value) (n : Nat) (xs : List Value) (hown : w.ownsRow base e 1 v n xs) (s : ByteArray)
    (h63 : n + s.size ≤ maxLen) (hbytes : n + s.size ≤ 140737488355328) (hbase : base ≤ w.heap.size) :
    ∃ v' w', (Builtin.append_ #[t, u] ty #[v, .string s]).run Try.prog w = .ok v' w' ∧ w'.ownsRow base e 1 v' (n + s.size) (xs ++ Go.Lib.strCells s) ∧ w.grownBy w' v.ownBlock ∧
      (v'.ownBlock = v.ownBlock ∨ v'.ownBlock = some w.heap.size) := by
  obtain ⟨v', w', hr, h2, h3, h4⟩ := Go.Lib.run_append_own_string (P := Try.prog) w base t u ty e i ht hu hi hz hsize hby v n xs hown s h63 hbytes hbase
  refine ⟨v', w', hr, h2, h3, ?_⟩
  have hxl : xs.length = n := by simpa using hown.1
  have h63' : n + s.size ≤ 9223372036854775807 := by simp only [maxLen] at h63; omega
  rcases hown.2 with ⟨rfl, rfl⟩ | ⟨g, cap, cur, rfl, hbg, hg, hnc, hcm, hcs, htake⟩
  · by_cases hm : s.size = 0
    · exact .inl (by rw [h4.2 ⟨rfl, hm⟩])
    · have hr2 := run_append_nil_string (P := Try.prog) w t u ty e i (.int .u8 0) ht hu hi hz s (by omega) (by omega) (by rw [hby]; omega)
      rw [hr] at hr2
      injection hr2 with hv hw
      rw [hv]; exact .inr rfl
  · by_cases hroom : n + s.size ≤ cap
    · have hcs' : cur.size = cap := by simpa using hcs
      have hr2 := Go.Lib.run_append_room_string (P := Try.prog) w t u ty e i ht hu hi hsize g n cap cur hg s hroom (by omega)
      rw [hr] at hr2
      injection hr2 with hv hw
      rw [hv]; exact .inl rfl
    · have holds : ∀ j u, xs[j]? = some u → w.cell? ((⟨g, 0, none⟩ : Addr).add j) = some u := hown.cells (g := g) rfl
      have hr2 := Go.Lib.run_append_grow_string (P := Try.prog) w t u ty e i (.int .u8 0) ht hu hi hz ⟨g, 0, none⟩ n cap xs (by rw [hsize]; simpa using hxl) holds s (by omega) (by omega) (by rw [hby]; exact growslice_fits (by omega) (by omega))
      rw [hr] at hr2
      injection hr2 with hv hw
      rw [hv]; exact .inr rfl

theorem wrapU (n : Int) (h0 : -9223372036854775808 ≤ n) (h1 : n ≤ 9223372036854775807) : IntKind.u64.wrap (IntKind.u64.wrap n + 9223372036854775808) = n + 9223372036854775808 := by
  unfold IntKind.wrap
  simp [IntKind.signed, IntKind.bits]
  omega
theorem wrapU1 (n : Int) (h0 : 0 ≤ n) (h1 : n ≤ 9223372036854775807) : IntKind.u64.wrap n = n := by
  unfold IntKind.wrap
  simp [IntKind.signed, IntKind.bits]
  omega
theorem wrapU_range (n : Int) : 0 ≤ IntKind.u64.wrap n ∧ IntKind.u64.wrap n < 18446744073709551616 := by
  rw [IntKind.wrap_u64]; omega

/-- append of a text's bytes, as a step of a region that draws its order. -/
theorem step_append_string {ops : Array Oper} {o : Oper} {a : Act} {w : World} {K : Act → World → Prop} {Q : Exit → Act → World → Prop} {E : Prop} (hgd : o.guard = none) (sl x : Operand) (t u : TypeId)
    (ho : o.op = .call { callee := .builtin .append, args := #[sl, x], argTypes := #[t, u] }) (base : Nat) (e : TypeId) (i : TypeInfo) (ht : Try.prog.underlying t = some (.slice e)) (hu : Try.prog.underlying u = some .string) (hi : Try.prog.info? e = some i) (hz : i.zero = some (.int .u8 0))
    (hsize : i.size = 1) (hby : i.bytes = 1) (v : Value) (n : Nat) (xs : List Value) (hs : a.eval sl = v) (hown : w.ownsRow base e 1 v n xs) (s : ByteArray) (hx : a.eval x = .string s)
    (h63 : n + s.size ≤ maxLen) (hbytes : n + s.size ≤ 140737488355328) (hbase : base ≤ w.heap.size)
    (h : ∀ v' w', w'.ownsRow base e 1 v' (n + s.size) (xs ++ Go.Lib.strCells s) → w.grownBy w' v.ownBlock → (v'.ownBlock = v.ownBlock ∨ v'.ownBlock = some w.heap.size) → K (a.put o.dst v') w') :
    if Region.wanted o (yielded ops a.tmps) = true then Oper.wp Try.prog o a w K Q else E := by
  have hw : Region.wanted o (yielded ops a.tmps) = true := by simp [Region.wanted, hgd]
  rw [if_pos hw]
  obtain ⟨v', w', hr, h2, h3, h4⟩ := append_own_string_at w base t u o.type e i ht hu hi hz hsize hby v n xs hown s h63 hbytes hbase
  unfold Oper.wp execOp
  simp only [ho, resolve, invoke, builtin, Sem.run_bind, Sem.run_pure, Result.andThen_ok, List.map_toArray, List.map_cons, List.map_nil, hs, hx, hr]
  exact h v' w' h2 h3 h4

theorem row_grown2 {w w1 : World} {base g cap : Nat} {v1 : Value} {zs : List Int} {x : Int} {X Y : Obj} (hown : w1.ownsRow base 5 1 (.slice (some ⟨g, 0, none⟩) (zs.length + 1) cap) (zs.length + 1) (zs.map (.int .u8) ++ [.int .u8 x]))
    (hgrow : ((w.alloc X).alloc Y).grownBy w1 v1.ownBlock) (hat : v1.ownBlock = some g ∨ g = ((w.alloc X).alloc Y).heap.size) :
    Row w1 base (.slice (some ⟨g, 0, none⟩) (zs.length + 1) cap) (zs ++ [x]) ∧ RowStep w w1 v1 (.slice (some ⟨g, 0, none⟩) (zs.length + 1) cap) := by
  obtain ⟨h1, h2⟩ := row_grown hown hgrow hat
  exact ⟨h1, (RowStep.of_below ((Below.refl _ _).alloc (Nat.le_refl _) _)).trans h2⟩

theorem high8 (n : Int) (base : Nat) (v : Value) (xs : List Int) (w : World) (hr : Row w base v xs) (hn0 : 0 ≤ n) (hn1 : n < 18446744073709551616) (hx : xs.length ≤ 10000000) (hb : base ≤ w.heap.size) :
    Calls Try.prog 90 #[v, .int .u64 n, .int .i64 8] w (HighPost base w v xs (big n 8)) := high_walk n 8 base v xs w hr hn0 hn1 (by omega) hx hb
theorem high4 (n : Int) (base : Nat) (v : Value) (xs : List Int) (w : World) (hr : Row w base v xs) (hn0 : 0 ≤ n) (hn1 : n < 18446744073709551616) (hx : xs.length ≤ 10000000) (hb : base ≤ w.heap.size) :
    Calls Try.prog 90 #[v, .int .u64 n, .int .i64 4] w (HighPost base w v xs (big n 4)) := high_walk n 4 base v xs w hr hn0 hn1 (by omega) hx hb
theorem high2 (n : Int) (base : Nat) (v : Value) (xs : List Int) (w : World) (hr : Row w base v xs) (hn0 : 0 ≤ n) (hn1 : n < 18446744073709551616) (hx : xs.length ≤ 10000000) (hb : base ≤ w.heap.size) :
    Calls Try.prog 90 #[v, .int .u64 n, .int .i64 2] w (HighPost base w v xs (big n 2)) := high_walk n 2 base v xs w hr hn0 hn1 (by omega) hx hb

theorem own_eq {g n c k : Nat} (h : (Value.slice (some ⟨g, 0, none⟩) n c).ownBlock = some k) : g = k := by simpa [Value.ownBlock] using h

theorem grow_ne {w : World} {g base : Nat} {v : Value} {X Y : Obj} (hat : v.ownBlock = some g ∨ g = ((w.alloc X).alloc Y).heap.size) (hvo : ∀ k, v.ownBlock = some k → base ≤ k ∧ k < w.heap.size) : g ≠ w.heap.size := by
  rcases hat with h | h
  · have := (hvo _ h).2; omega
  · simp at h; omega

theorem rowstep_grown {w w' : World} {v v' : Value} (hg : w.grownBy w' v.ownBlock) (h : v'.ownBlock = v.ownBlock ∨ v'.ownBlock = some w.heap.size) : RowStep w w' v v' :=
  ⟨hg.os, hg.tape, hg.output, hg.size, fun k hk h2 => hg.block k hk (fun e => h2 e.symm), fun g hg' => by
    rcases h with h | h
    · exact .inl (h ▸ hg')
    · rw [h] at hg'; injection hg' with hg'; exact .inr (by omega)⟩

theorem T.bytess_succ (l : List T) (i : Nat) (h : i < l.length) : T.bytess (l.take (i + 1)) = T.bytess (l.take i) ++ T.bytes l[i] := by
  induction l generalizing i with
  | nil => simp at h
  | cons t ts ih =>
    cases i with
    | zero => simp [T.bytess]
    | succ i => simp only [List.take_succ_cons, T.bytess, List.getElem_cons_succ]; rw [ih i (by simpa using h), List.append_assoc]
theorem T.bytess_take (l : List T) (i : Nat) (h : i < l.length) : (T.bytess (l.take i)).length + (T.bytes l[i]).length ≤ (T.bytess l).length := by
  induction l generalizing i with
  | nil => simp at h
  | cons t ts ih =>
    cases i with
    | zero => simp [T.bytess]
    | succ i => simp only [List.take_succ_cons, T.bytess, List.getElem_cons_succ, List.length_append]; have := ih i (by simpa using h); omega

theorem strCells_eq (s : ByteArray) : Go.Lib.strCells s = (sbytes s).map (Value.int .u8) := by
  simp [Go.Lib.strCells, sbytes]
theorem sbytes_length (s : ByteArray) : (sbytes s).length = s.size := by
  unfold sbytes
  rw [List.length_map, Array.length_toList]
  rfl

set_option maxRecDepth 100000 in
set_option maxHeartbeats 1000000 in
theorem write_walk (t : T) : ∀ (a : Option Addr) (c : Nat) (base : Nat) (v : Value) (xs : List Int) (w : World) (B : Nat), T.At w B t a c → B ≤ base → base ≤ w.heap.size → t.wf → Row w base v xs → xs.length + t.bytes.length ≤ 10000000 →
    Calls Try.prog 68 #[v, t.val a c] w (HighPost base w v xs t.bytes) := by
  induction t using T.induct with
  | h k n s l r ih =>
  intro a c base v xs w B hin hB hbase hwf hrow hlen
  obtain ⟨i0, hi, hz0, hz1, hz2⟩ := info_parts info5
  have hrow' := hrow
  unfold Row at hrow'
  unfold T.val
  simp only [T.k, T.n, T.s, T.l, T.r]
  rw [T.bytes] at hlen ⊢
  have hvo := hrow'.lt
  rw [T.wf, T.wfs_iff] at hwf
  obtain ⟨⟨hk0, hk1, hn0, hn1, hr0, hr1, hs0, hl0⟩, hwl⟩ := hwf
  obtain ⟨ys, hys⟩ : ∃ ys, (k :: (if k = 1 then big (n + 9223372036854775808) 8 else if k = 2 then big s.size 2 ++ sbytes s else if k = 3 then big l.length 2 ++ T.bytess l else if k = 4 then big (IntKind.u64.wrap r) 4 else [])) = ys := ⟨_, rfl⟩
  rw [hys] at hlen ⊢
  have hyl : 1 ≤ ys.length := by rw [← hys]; simp
  have HY := Lib.hid hys
  clear hys
  by_cases h1 : k = 1
  · subst h1
    go_enter Try.func68, Try.ntmps68
    go_wp2_with (first
      | (at_builtin; refine wpList_append_lies _ rfl _ _ 97 rfl base 5 i0 _ 1 1 Try.underlying97 hi hz0 hz1 hz2 rfl (by decide) v _ _ (by rfl) ((hrow'.alloc _).alloc _) ⟨w.heap.size + 1, 0, none⟩ 1 1 [_] (by rfl) rfl (World.news_of_block (cs := #[_]) (t := 5) (fr := (0, 0)) (two_blk1 _ _ _)) (by simp [Value.oneCell']) (by omega) (by unfold maxLen; omega) (by omega) (by simp; omega) _ rfl ?_; intro g cap w1 hown hgrow hat hlt; obtain ⟨r1, r2⟩ := row_grown2 hown hgrow hat; have hgne := grow_ne hat hvo; have B0 := (hgrow.block w.heap.size (by simp; omega) (fun e => by have := (hvo _ e.symm).2; omega)).trans (two_blk0 _ _ _); clear hown hgrow hat; obtain ⟨x0, x1, x2, x3, x4, y0, y1, y2, y3, y4⟩ := blk5 B0)
      | (go_at_call 90; refine (high8 _ base _ (xs ++ [1]) _ r1 (by first | omega | exact (wrapU_range _).1) (by first | omega | exact (wrapU_range _).2) (by simp; omega) (by have := r2.size; omega)).mono ?_; rintro e w2 ⟨v2, rfl, r3, r4⟩))
    go_ret
    refine ⟨v2, rfl, ?_, r2.trans r4⟩
    have e : ys = 1 :: big (IntKind.u64.wrap (IntKind.u64.wrap n + 9223372036854775808)) 8 := by rw [← HY.out, wrapU n hn0 hn1]; simp
    rw [e]; simpa using r3
  by_cases h4 : k = 4
  · subst h4
    go_enter Try.func68, Try.ntmps68
    go_wp2_with (first
      | (at_builtin; refine wpList_append_lies _ rfl _ _ 97 rfl base 5 i0 _ 1 1 Try.underlying97 hi hz0 hz1 hz2 rfl (by decide) v _ _ (by rfl) ((hrow'.alloc _).alloc _) ⟨w.heap.size + 1, 0, none⟩ 1 1 [_] (by rfl) rfl (World.news_of_block (cs := #[_]) (t := 5) (fr := (0, 0)) (two_blk1 _ _ _)) (by simp [Value.oneCell']) (by omega) (by unfold maxLen; omega) (by omega) (by simp; omega) _ rfl ?_; intro g cap w1 hown hgrow hat hlt; obtain ⟨r1, r2⟩ := row_grown2 hown hgrow hat; have hgne := grow_ne hat hvo; have B0 := (hgrow.block w.heap.size (by simp; omega) (fun e => by have := (hvo _ e.symm).2; omega)).trans (two_blk0 _ _ _); clear hown hgrow hat; obtain ⟨x0, x1, x2, x3, x4, y0, y1, y2, y3, y4⟩ := blk5 B0)
      | (go_at_call 90; refine (high4 _ base _ (xs ++ [4]) _ r1 (by first | omega | exact (wrapU_range _).1) (by first | omega | exact (wrapU_range _).2) (by simp; omega) (by have := r2.size; omega)).mono ?_; rintro e w2 ⟨v2, rfl, r3, r4⟩))
    go_ret
    refine ⟨v2, rfl, ?_, r2.trans r4⟩
    have e : ys = 4 :: big (IntKind.u64.wrap r) 4 := by rw [← HY.out]; simp
    rw [e]; simpa using r3
  by_cases h2 : k = 2
  · subst h2
    go_enter Try.func68, Try.ntmps68
    go_wp2_with (first
      | (at_builtin; refine wpList_append_lies _ rfl _ _ 97 rfl base 5 i0 _ 1 1 Try.underlying97 hi hz0 hz1 hz2 rfl (by decide) v _ _ (by rfl) ((hrow'.alloc _).alloc _) ⟨w.heap.size + 1, 0, none⟩ 1 1 [_] (by rfl) rfl (World.news_of_block (cs := #[_]) (t := 5) (fr := (0, 0)) (two_blk1 _ _ _)) (by simp [Value.oneCell']) (by omega) (by unfold maxLen; omega) (by omega) (by simp; omega) _ rfl ?_; intro g cap w1 hown hgrow hat hlt; obtain ⟨r1, r2⟩ := row_grown2 hown hgrow hat; have hgne := grow_ne hat hvo; have B0 := (hgrow.block w.heap.size (by simp; omega) (fun e => by have := (hvo _ e.symm).2; omega)).trans (two_blk0 _ _ _); clear hown hgrow hat; obtain ⟨x0, x1, x2, x3, x4, y0, y1, y2, y3, y4⟩ := blk5 B0))
    clear x0 x1 x3 x4 y0 y1 y2 y3 y4
    have hy2 : ys.length = 3 + s.size := by rw [← HY.out]; simp [big, sbytes_length]; omega
    have r1d : Row w1.drew base (.slice (some ⟨g, 0, none⟩) (xs.length + 1) cap) (xs ++ [2]) := r1
    have hzd : w1.drew.heap.size = w1.heap.size := rfl
    have hzw1 : w.heap.size < w1.heap.size := (Array.getElem?_eq_some_iff.1 B0).1
    have rd : RowStep w1 w1.drew (.slice (some ⟨g, 0, none⟩) (xs.length + 1) cap) (.slice (some ⟨g, 0, none⟩) (xs.length + 1) cap) := RowStep.of_below (Below.refl _ _).drew
    have m2 := high2 (IntKind.u64.wrap s.size) base (.slice (some ⟨g, 0, none⟩) (xs.length + 1) cap) (xs ++ [2]) w1.drew r1d (wrapU_range _).1 (wrapU_range _).2 (by simp; omega) (by rw [hzd]; omega)
    have HD := Lib.hid hzd
    clear hzd
    go_region_held3 (fun w' => w'.cell? ⟨w.heap.size, 2, none⟩ = some (.string s))
      (first | go_keep | exact (blk5 C6).2.2.1 | exact (blk5 C5).2.2.1)
      (first
        | (go_simp; go_at_call 90; refine m2.mono ?_; rintro e w2 ⟨v2, rfl, r3, r4⟩; have r5 := rd.trans r4; have hzw2 := r5.size; have C5 := (r5.block w.heap.size (by omega) (fun e => hgne (own_eq e))).trans B0; clear m2; have r6 := r3; unfold Row at r6)
        | (refine step_append_string rfl _ _ 97 9 rfl base 5 i0 Try.underlying97 Try.underlying9 hi hz0 hz1 hz2 v2 _ _ (by rfl) r6 s (by rfl) (by unfold maxLen; simp [big]; omega) (by simp [big]; omega) (by omega) ?_; intro v3 w3 hown3 hgrow3 hat3; have C6 := (hgrow3.block w.heap.size (by omega) (fun e => (r5.own _ e.symm).elim (fun h => hgne (own_eq h)) (fun h => by omega))).trans C5))
    go_wp2_with fail
    go_ret
    have e : xs ++ ys = xs ++ [2] ++ big s.size 2 ++ sbytes s := by rw [← HY.out]; simp
    have hwl' : IntKind.u64.wrap (s.size : Int) = s.size := wrapU1 _ (by omega) (by omega)
    refine ⟨v3, rfl, ?_, (r2.trans r5).trans (rowstep_grown hgrow3 hat3)⟩
    rw [e]
    unfold Row
    rw [strCells_eq, ← List.map_append, hwl', ← sbytes_length s, ← List.length_append] at hown3
    rw [← sbytes_length s]
    exact hown3
  by_cases h3 : k = 3
  · subst h3
    have hy3 : ys.length = 3 + (T.bytess l).length := by rw [← HY.out]; simp [big]; omega
    have e : ys = [3] ++ big l.length 2 ++ T.bytess l := by rw [← HY.out]; simp
    have HE := Lib.hid e
    clear e
    go_enter Try.func68, Try.ntmps68
    go_wp2_with (first
      | (at_builtin; refine wpList_append_lies _ rfl _ _ 97 rfl base 5 i0 _ 1 1 Try.underlying97 hi hz0 hz1 hz2 rfl (by decide) v _ _ (by rfl) ((hrow'.alloc _).alloc _) ⟨w.heap.size + 1, 0, none⟩ 1 1 [_] (by rfl) rfl (World.news_of_block (cs := #[_]) (t := 5) (fr := (0, 0)) (two_blk1 _ _ _)) (by simp [Value.oneCell']) (by omega) (by unfold maxLen; omega) (by omega) (by simp; omega) _ rfl ?_; intro g cap w1 hown hgrow hat hlt; obtain ⟨r1, r2⟩ := row_grown2 hown hgrow hat; have hgne := grow_ne hat hvo; have B0 := (hgrow.block w.heap.size (by simp; omega) (fun e => by have := (hvo _ e.symm).2; omega)).trans (two_blk0 _ _ _); clear hown hgrow hat; obtain ⟨x0, x1, x2, x3, x4, y0, y1, y2, y3, y4⟩ := blk5 B0)
      | (go_at_call 90; refine (high2 _ base _ (xs ++ [3]) _ r1 (by first | omega | exact (wrapU_range _).1) (by first | omega | exact (wrapU_range _).2) (by simp; omega) (by have := r2.size; omega)).mono ?_; rintro e w2 ⟨v2, rfl, r3, r4⟩; have hzw1 := (Array.getElem?_eq_some_iff.1 B0).1; have B1 := (r4.block w.heap.size hzw1 (fun e => hgne (own_eq e))).trans B0; clear x0 x1 x2 x3 x4 y0 y1 y2 y3 y4; obtain ⟨x0, x1, x2, x3, x4, y0, y1, y2, y3, y4⟩ := blk5 B1))
    have hzw2 := r4.size
    have hb2 : ∀ b, b < B → w2.heap[b]? = w.heap[b]? := fun b hb => (r2.trans r4).block b (by omega) (fun e => by have := (hvo _ e).1; omega)
    have rs2 := r2.trans r4
    clear x0 x1 x2 x3 x4 y0 y1 y2 y3 y4
    go_loopg [0, 44] l.length (fun gg vb vi wr => ∃ (i : Nat) (v1 : Value), vb = v1 ∧ vi = .int .i64 i ∧ i + gg = l.length ∧ Row wr base v1 (xs ++ ([3] ++ big l.length 2 ++ T.bytess (l.take i))) ∧ RowStep w wr v v1 ∧ w.heap.size < wr.heap.size)
    case atStart => exact ⟨0, v2, rfl, rfl, by simp, by rw [List.take_zero, T.bytess, List.append_nil, ← List.append_assoc]; exact r3, rs2, by omega⟩
    case round =>
      obtain ⟨i, v1, rfl, rfl, hi2, hrw, hst, hzr⟩ := hrel
      by_cases h : i < l.length
      · have hbB : ∀ b, b < B → wr.heap[b]? = w.heap[b]? := fun b hb => hst.block b (by omega) (fun e => by have := (hvo _ e).1; omega)
        obtain ⟨b, o, a', c', rfl, hbB', ht, e0, e1, e2, e3, e4⟩ := (T.In.keep (ok' := (· < B)) (m' := false) hbB (fun _ h => h) id hin).elem i h
        obtain ⟨wX, hwX⟩ : ∃ wX, wX = wr.alloc (.cells #[.int .u8 l[i].k, .int .i64 l[i].n, .string l[i].s, .slice a' l[i].l.length c', .int .i64 l[i].r] 26 (0, 0)) := ⟨_, rfl⟩
        have hbX : Below wr.heap.size wr wX := by rw [hwX]; exact (Below.refl _ _).alloc (Nat.le_refl _) _
        have hrX : Row wX base u0 (xs ++ ([3] ++ big l.length 2 ++ T.bytess (l.take i))) := by rw [hwX]; unfold Row at hrw ⊢; exact hrw.alloc _
        have ih' := ih l[i] (List.getElem_mem h) a' c' base u0 (xs ++ ([3] ++ big l.length 2 ++ T.bytess (l.take i))) wX B (T.At.below hbX (by omega) ht) hB (by have := hbX.size; omega) (hwl _ (List.getElem_mem h)) hrX (by
          have := T.bytess_take l i h
          simp [big]; omega)
        unfold T.val at ih'
        have HX := Lib.hid hbX
        clear hbX ih hrX
        rw [hwX] at ih' HX
        clear hwX
        go_wp2_with (go_at_call 68; refine ih'.mono ?_; clear ih'; rintro e w3 ⟨v3, rfl, r5, r6⟩)
        go_roundg (gk - 1)
        case measure => omega
        case rel =>
          refine ⟨i + 1, v3, rfl, by go_num, by omega, ?_, hst.trans ((RowStep.of_below HX.out).trans r6), by have := r6.size; simp at this; omega⟩
          rw [T.bytess_succ l i h]
          simp only [List.append_assoc] at r5 ⊢
          exact r5
      · go_wp2_with fail
        go_ret
        refine ⟨_, rfl, ?_, hst⟩
        rw [HE.out]
        rw [List.take_of_length_le (by omega)] at hrw
        exact hrw
  go_enter Try.func68, Try.ntmps68
  go_wp2_with (first
      | (at_builtin; refine wpList_append_lies _ rfl _ _ 97 rfl base 5 i0 _ 1 1 Try.underlying97 hi hz0 hz1 hz2 rfl (by decide) v _ _ (by rfl) ((hrow'.alloc _).alloc _) ⟨w.heap.size + 1, 0, none⟩ 1 1 [_] (by rfl) rfl (World.news_of_block (cs := #[_]) (t := 5) (fr := (0, 0)) (two_blk1 _ _ _)) (by simp [Value.oneCell']) (by omega) (by unfold maxLen; omega) (by omega) (by simp; omega) _ rfl ?_; intro g cap w1 hown hgrow hat hlt; obtain ⟨r1, r2⟩ := row_grown2 hown hgrow hat; have hgne := grow_ne hat hvo; have B0 := (hgrow.block w.heap.size (by simp; omega) (fun e => by have := (hvo _ e.symm).2; omega)).trans (two_blk0 _ _ _); clear hown hgrow hat; obtain ⟨x0, x1, x2, x3, x4, y0, y1, y2, y3, y4⟩ := blk5 B0))
  go_ret
  have e : ys = [k] := by rw [← HY.out, if_neg h1, if_neg h2, if_neg h3, if_neg h4]
  exact ⟨_, rfl, by rw [e]; exact r1, r2⟩
end Go.Proofs.Ytapfmfihhpafcaa
