/-
  append of one row of the call's own to another; posternref02.Refs.
-/
import Derived.Test.YtapfmfihhpafcaaB4
import Derived.Deep.AppendLies
import Derived.Laws.AppendOwnNone
namespace Go.Proofs.Ytapfmfihhpafcaa
open Go.RowKit
set_option linter.unusedVariables false

/-- A row is appended to a row. -/
theorem run_append_rows (w : World) (t ty : TypeId) (base base2 : Nat) (e : TypeId) (i : TypeInfo) (z : Value) (size bytes : Nat) (ht : Try.prog.underlying t = some (.slice e)) (hi : Try.prog.info? e = some i) (hz : i.zero = some z)
    (hsize : i.size = size) (hby : i.bytes = bytes) (hzs : z.cells.size = size) (hsz : 0 < size) (v : Value) (n : Nat) (xs : List Value) (hown : w.ownsRow base e size v n xs) (v2 : Value) (m : Nat) (ys : List Value) (hsrc : w.ownsRow base2 e size v2 m ys) (h1 : ∀ u ∈ ys, u.oneCell' = true)
    (h63 : n + m ≤ maxLen) (hbytes : (n + m) * bytes ≤ 140737488355328) (hbase : base ≤ w.heap.size) :
    ∃ v' w', (Builtin.append_ #[t, t] ty #[v, v2]).run Try.prog w = .ok v' w' ∧ w'.ownsRow base e size v' (n + m) (xs ++ ys) ∧ w.grownBy w' v.ownBlock ∧ (v'.ownBlock = v.ownBlock ∨ v'.ownBlock = some w.heap.size) := by
  rcases hsrc.2 with ⟨rfl, rfl⟩ | ⟨g, cap, cur, rfl, _, _⟩
  · have hy : ys = [] := List.eq_nil_of_length_eq_zero (by simpa using hsrc.1)
    subst hy
    rw [List.append_nil, Nat.add_zero]
    exact ⟨v, w, run_append_owned_none (P := Try.prog) (w := w) base t ty e i size ht hi v n xs hown, hown, ⟨rfl, rfl, rfl, Nat.le_refl _, fun _ _ _ => rfl⟩, .inl rfl⟩
  · obtain ⟨v', w', hr, h2, h3, _, h5⟩ := run_append_own_at (P := Try.prog) w base t ty e i z size bytes ht hi hz hsize hby hzs hsz v n xs hown ⟨g, 0, none⟩ m cap ys hsrc.1 (hsrc.cells (g := g) rfl) h1 h63 hbytes hbase
    exact ⟨v', w', hr, h2, h3, h5⟩

theorem wpList_append_rows (w : World) {ops : Array Oper} {rest : List Oper} {o : Oper} {a : Act} {Q : Exit → Act → World → Prop} (hgd : o.guard = none) (s x : Operand) (t : TypeId)
    (ho : o.op = .call { callee := .builtin .append, args := #[s, x], argTypes := #[t, t] }) (base base2 : Nat) (e : TypeId) (i : TypeInfo) (z : Value) (size bytes : Nat) (ht : Try.prog.underlying t = some (.slice e)) (hi : Try.prog.info? e = some i) (hz : i.zero = some z)
    (hsize : i.size = size) (hby : i.bytes = bytes) (hzs : z.cells.size = size) (hsz : 0 < size) (v : Value) (n : Nat) (xs : List Value) (hs : a.eval s = v) (hown : w.ownsRow base e size v n xs) (v2 : Value) (m : Nat) (ys : List Value) (hx : a.eval x = v2) (hsrc : w.ownsRow base2 e size v2 m ys) (h1 : ∀ u ∈ ys, u.oneCell' = true)
    (h63 : n + m ≤ maxLen) (hbytes : (n + m) * bytes ≤ 140737488355328) (hbase : base ≤ w.heap.size)
    (h : ∀ v' w', w'.ownsRow base e size v' (n + m) (xs ++ ys) → w.grownBy w' v.ownBlock → (v'.ownBlock = v.ownBlock ∨ v'.ownBlock = some w.heap.size) → wpList Try.prog ops Q rest (a.put o.dst v') w') : wpList Try.prog ops Q (o :: rest) a w := by
  refine wpList_plain hgd fun _ hK => ?_
  obtain ⟨v', w', hr, h2, h3, h4⟩ := run_append_rows w t o.type base base2 e i z size bytes ht hi hz hsize hby hzs hsz v n xs hown v2 m ys hsrc h1 h63 hbytes hbase
  unfold Oper.wp execOp
  simp only [ho, resolve, invoke, builtin, Sem.run_bind, Sem.run_pure, Result.andThen_ok, List.map_toArray, List.map_cons, List.map_nil, hs, hx, hr]
  exact hK _ _ (h v' w' h2 h3 h4)

theorem ownsRow_of_block'' {w w' : World} {base : Nat} {e : TypeId} {sz : Nat} {v : Value} {n : Nat} {xs : List Value} (h : w.ownsRow base e sz v n xs) (hk : ∀ g, v.ownBlock = some g → w'.heap[g]? = w.heap[g]?) : w'.ownsRow base e sz v n xs := by
  refine ⟨h.1, ?_⟩
  rcases h.2 with h0 | ⟨g, cap, cur, hv, hb, hg, r⟩
  · exact .inl h0
  · exact .inr ⟨g, cap, cur, hv, hb, by rw [hk g (by rw [hv]; rfl)]; exact hg, r⟩

mutual
/-- The references, as the document has them. -/
def T.rrefs : T → List Int
  | .mk k _ _ l r => if k = 4 then [r] else T.rrefss l
def T.rrefss : List T → List Int
  | [] => []
  | t :: ts => T.rrefs t ++ T.rrefss ts
end

mutual
theorem T.rrefs_le : ∀ t : T, (T.rrefs t).length ≤ T.count t
  | .mk k _ _ l r => by
    rw [T.rrefs, T.count]
    have := T.rrefss_le l
    split <;> simp <;> omega
theorem T.rrefss_le : ∀ l : List T, (T.rrefss l).length ≤ T.counts l
  | [] => by simp [T.rrefss]
  | t :: ts => by
    rw [T.rrefss, T.counts, List.length_append]
    have := T.rrefs_le t
    have := T.rrefss_le ts
    omega
end

theorem T.rrefss_take (l : List T) (i : Nat) (h : i < l.length) : T.rrefss (l.take (i + 1)) = T.rrefss (l.take i) ++ T.rrefs l[i] := by
  induction l generalizing i with
  | nil => simp at h
  | cons t ts ih =>
    cases i with
    | zero => simp [T.rrefss]
    | succ i => simp only [List.take_succ_cons, T.rrefss, List.getElem_cons_succ]; rw [ih i (by simpa using h), List.append_assoc]

theorem T.rrefs_eq (t : T) : ∀ (room deep : Int), 1 ≤ T.look room deep t → t.rrefs = t.refs := by
  induction t using T.induct with
  | h k n s l r ih =>
    intro room deep h
    rw [T.look] at h
    by_cases h1 : room < 1
    · rw [if_pos h1] at h; omega
    rw [if_neg h1] at h
    by_cases h2 : fieldsOk k n s l r
    case neg => rw [if_pos h2] at h; omega
    rw [if_neg (not_not_intro h2)] at h
    have hf := h2.2.2.1
    rw [T.rrefs, T.refs]
    by_cases k3 : k = 3
    · subst k3
      rw [if_neg (by simp)] at h
      by_cases h4 : deep < 1
      · rw [if_pos h4] at h; omega
      rw [if_neg h4] at h
      by_cases h5 : room ≤ l.length
      · rw [if_pos h5] at h; omega
      rw [if_neg h5] at h
      have key : ∀ (l : List T), (∀ x ∈ l, ∀ (room deep : Int), 1 ≤ T.look room deep x → x.rrefs = x.refs) → ∀ m, 1 ≤ T.looks room deep m l → T.rrefss l = T.refss l := by
        intro l
        induction l with
        | nil => intro _ m _; rfl
        | cons x xs ih2 =>
          intro hx m h2
          rw [T.looks] at h2
          by_cases hq : T.look (room - m) (deep - 1) x < 0
          · rw [if_pos hq] at h2; omega
          rw [if_neg hq] at h2
          have h3 : 1 ≤ T.look (room - m) (deep - 1) x := by have := T.look_pos x (room - m) (deep - 1); omega
          rw [T.rrefss, T.refss, hx x (by simp) _ _ h3, ih2 (fun y hy => hx y (by simp [hy])) _ h2]
      rw [if_neg (by simp), if_neg (by simp), List.nil_append, key l ih _ h]
    · have hl := hf.resolve_left k3
      subst hl
      by_cases k4 : k = 4
      · rw [if_pos k4, if_pos k4]; simp [T.refss]
      · rw [if_neg k4, if_neg k4]; simp [T.refss, T.rrefss]

def RefRefsPost (w : World) (xs : List Int) (e : Ending) (w' : World) : Prop := ∃ v, e = .returned v ∧ w'.ownsRow w.heap.size 24 1 v xs.length (xs.map (.int .i64)) ∧ Below w.heap.size w w'

set_option maxRecDepth 100000 in
set_option maxHeartbeats 1000000 in
theorem refRefs_walk (t : T) : ∀ (a : Option Addr) (c : Nat) (w : World) (B : Nat), T.At w B t a c → B ≤ w.heap.size → t.wf → t.count ≤ 100000 →
    Calls Try.prog 38 #[t.val a c] w (RefRefsPost w t.rrefs) := by
  induction t using T.induct with
  | h k n s l r ih =>
  intro a c w B hin hB hwf hcnt
  rw [T.wf, T.wfs_iff] at hwf
  obtain ⟨⟨_, _, _, _, _, _, _, hll⟩, hwl⟩ := hwf
  unfold T.val
  simp only [T.k, T.n, T.s, T.l, T.r]
  rw [T.rrefs]
  rw [T.count] at hcnt
  obtain ⟨w1, hw1⟩ : ∃ w1, w1 = w.alloc (.cells #[.int .u8 k, .int .i64 n, .string s, .slice a l.length c, .int .i64 r] 26 (0, 0)) := ⟨_, rfl⟩
  have hb1 : Below w.heap.size w w1 := by rw [hw1]; exact (Below.refl _ _).alloc (Nat.le_refl _) _
  have D0 : w1.heap[w.heap.size]? = some (.cells #[.int .u8 k, .int .i64 n, .string s, .slice a l.length c, .int .i64 r] 26 (0, 0)) := by rw [hw1]; exact blk_new _ _
  obtain ⟨x0, x1, x2, x3, x4, _⟩ := blk5 D0
  have E0 := Lib.hid D0
  clear D0
  by_cases k4 : k = 4
  · rw [if_pos k4]
    have g1 : (k == 4) = true := by simpa using k4
    clear k4
    go_enter Try.func38, Try.ntmps38
    go_upto_region 1 with fail
    rw [← hw1]
    clear hw1
    go_wp2_with fail
    go_ret
    refine ⟨_, rfl, ⟨rfl, .inr ⟨w1.heap.size, 1, #[.int .i64 r], rfl, hb1.size, blk_new _ _, Nat.le_refl _, by unfold maxLen; omega, rfl, rfl⟩⟩, hb1.trans ((Below.refl _ _).alloc hb1.size _)⟩
  rw [if_neg k4]
  have g1 : (k == 4) = false := by simpa using k4
  obtain ⟨i0, hi, hz0, hz1, hz2⟩ := info_parts info24
  clear k4
  go_enter Try.func38, Try.ntmps38
  go_upto_region 1 with fail
  rw [← hw1]
  clear hw1
  go_wp2_with fail
  go_loopg [3, 4] l.length (fun gg vo vi wr => ∃ (i : Nat) (v : Value), vo = v ∧ vi = .int .i64 i ∧ i + gg = l.length ∧ Below w.heap.size w wr ∧ wr.heap[w.heap.size]? = some (.cells #[.int .u8 k, .int .i64 n, .string s, .slice a l.length c, .int .i64 r] 26 (0, 0)) ∧
    wr.ownsRow (w.heap.size + 1) 24 1 v (T.rrefss (l.take i)).length ((T.rrefss (l.take i)).map (.int .i64)))
  case atStart => exact ⟨0, _, rfl, rfl, by simp, hb1, E0.out, by simp [T.rrefss]; exact World.ownsRow_nil _ _ _ _⟩
  case round =>
    obtain ⟨i, v, rfl, rfl, hgi, hb, C0, hown⟩ := hrel
    have hzr := (Array.getElem?_eq_some_iff.1 C0).1
    clear x0 x1 x2 x3 x4
    obtain ⟨x0, x1, x2, x3, x4, _⟩ := blk5 C0
    clear x0 x1 x2 x4
    by_cases h : i < l.length
    · obtain ⟨b, o, a', c', rfl, hbB, ht, e0, e1, e2, e3, e4⟩ := (T.At.below hb hB hin).elem i h
      have hcm := T.counts_mem l i h
      have h1 := T.rrefss_le (l.take i)
      have h2 := T.rrefs_le l[i]
      have mC := ih l[i] (List.getElem_mem h) a' c' wr B ht (by have := hb.size; omega) (hwl _ (List.getElem_mem h)) (by omega)
      unfold T.val at mC
      have hvl := hown.lt
      have HO := Lib.hid hown
      have HB := Lib.hid hb
      have HC := Lib.hid C0
      have HT := Lib.hid (T.rrefss_take l i h)
      clear ih hown hb C0 hin ht
      go_wp2_with (first
        | (go_at_call 38; refine mC.mono ?_; clear mC; rintro e w2 ⟨v2, rfl, hsrc, hb2⟩; have hown2 := (ownsRow_of_block'' (w' := w2) HO.out (fun g hg => hb2.block g (hvl g hg).2)))
        | (refine wpList_append_rows _ rfl _ _ 61 rfl (w.heap.size + 1) wr.heap.size 24 i0 _ 1 8 Try.underlying61 hi hz0 hz1 hz2 rfl (by decide) _ _ _ (by rfl) hown2 _ _ _ (by rfl) hsrc (by simp [Value.oneCell']) (by unfold maxLen; omega) (by omega) (by have := hb2.size; omega) ?_; intro v3 w3 hown3 hgrow3 hat3))
      have hb2' := hb2.size
      have hb3 : Below w.heap.size w w3 := Below.grown (HB.out.trans (hb2.mono HB.out.size)) hgrow3 (by have := HB.out.size; omega) (fun q hq => by have := (hvl q hq).1; omega)
      have C3 := (hgrow3.block w.heap.size (by omega) (fun e => by have := (hvl _ e.symm).1; omega)).trans ((hb2.block w.heap.size (by omega)).trans HC.out)
      go_roundg (gk - 1)
      case measure => omega
      case rel =>
        refine ⟨i + 1, v3, rfl, by go_num, by omega, hb3, C3, ?_⟩
        rw [HT.out, List.length_append, List.map_append]
        exact hown3
    · go_wp2_with fail
      go_ret
      rw [List.take_of_length_le (by omega)] at hown
      exact ⟨_, rfl, ⟨hown.1, hown.2.imp id fun ⟨g, cap, cur, h1, h3, h4⟩ => ⟨g, cap, cur, h1, by omega, h4⟩⟩, hb⟩
end Go.Proofs.Ytapfmfihhpafcaa
