/-
  Memory that is written over: values in rows, each whole or without a list.
-/
import Derived.Test.YtapfmfihhpafcaaLaw
import Derived.Test.YtapfmfihhpafcaaA9
namespace Go.Proofs.Ytapfmfihhpafcaa
open Go.RowKit
set_option linter.unusedVariables false

/-- The i-th five cells of a row. -/
def Grp (cur : Array Value) (i : Nat) (v0 v1 v2 v3 v4 : Value) : Prop :=
  cur[i * 5]? = some v0 ∧ cur[i * 5 + 1]? = some v1 ∧ cur[i * 5 + 2]? = some v2 ∧ cur[i * 5 + 3]? = some v3 ∧ cur[i * 5 + 4]? = some v4

/-- Turned at whole values alone, to numbers. -/
def Flat (cur cur' : Array Value) : Prop :=
  cur'.size = cur.size ∧ ∀ i, (∀ j, j < 5 → cur'[i * 5 + j]? = cur[i * 5 + j]?) ∨ ∃ q, Grp cur' i (.int .u8 1) (.int .i64 q) (.string ⟨#[]⟩) (.slice none 0 0) (.int .i64 0)

theorem Flat.refl (cur : Array Value) : Flat cur cur := ⟨rfl, fun _ => .inl fun _ _ => rfl⟩
theorem Grp.same {cur cur' : Array Value} {i : Nat} {v0 v1 v2 v3 v4 : Value} (h : Grp cur i v0 v1 v2 v3 v4) (hs : ∀ j, j < 5 → cur'[i * 5 + j]? = cur[i * 5 + j]?) : Grp cur' i v0 v1 v2 v3 v4 :=
  ⟨(hs 0 (by omega)).trans h.1, (hs 1 (by omega)).trans h.2.1, (hs 2 (by omega)).trans h.2.2.1, (hs 3 (by omega)).trans h.2.2.2.1, (hs 4 (by omega)).trans h.2.2.2.2⟩
theorem Flat.trans {a b c : Array Value} (h : Flat a b) (h' : Flat b c) : Flat a c := by
  refine ⟨h'.1.trans h.1, fun i => ?_⟩
  rcases h'.2 i with h1 | h1
  · rcases h.2 i with h2 | ⟨q, h2⟩
    · exact .inl fun j hj => (h1 j hj).trans (h2 j hj)
    · exact .inr ⟨q, h2.same h1⟩
  · exact .inr h1

theorem put_get (l : List Value) (off : Nat) (v0 v1 v2 v3 v4 : Value) (h : off + 5 ≤ l.length) (p : Nat) :
    (l.take off ++ [v0, v1, v2, v3, v4] ++ l.drop (off + 5))[p]? = if p < off then l[p]? else if p < off + 5 then [v0, v1, v2, v3, v4][p - off]? else l[p]? := by
  have hl : (l.take off).length = off := by rw [List.length_take]; omega
  by_cases h1 : p < off
  · rw [if_pos h1, List.append_assoc, List.getElem?_append_left (by omega), List.getElem?_take, if_pos h1]
  · rw [if_neg h1]
    by_cases h2 : p < off + 5
    · rw [if_pos h2, List.append_assoc, List.getElem?_append_right (by omega), hl, List.getElem?_append_left (by simp; omega)]
    · rw [if_neg h2, List.getElem?_append_right (by simp [hl]; omega), List.getElem?_drop]
      congr 1
      simp [hl]; omega

theorem flat_put {cur : Array Value} {i : Nat} {q : Int} (h : i * 5 + 5 ≤ cur.size) :
    Flat cur (cur.toList.take (i * 5) ++ [Value.int .u8 1, .int .i64 q, .string ⟨#[]⟩, .slice none 0 0, .int .i64 0] ++ cur.toList.drop (i * 5 + 5)).toArray := by
  have hl : i * 5 + 5 ≤ cur.toList.length := by rw [Array.length_toList]; exact h
  have hg := put_get cur.toList (i * 5) (.int .u8 1) (.int .i64 q) (.string ⟨#[]⟩) (.slice none 0 0) (.int .i64 0) hl
  refine ⟨?_, fun k => ?_⟩
  · simp only [List.size_toArray, List.length_append, List.length_take, List.length_drop, Array.length_toList]
    simp; omega
  · by_cases hk : k = i
    · subst hk
      refine .inr ⟨q, ?_⟩
      unfold Grp
      simp only [List.getElem?_toArray, hg]
      refine ⟨?_, ?_, ?_, ?_, ?_⟩ <;> rw [if_neg (by omega), if_pos (by omega)] <;> simp
    · refine .inl fun j hj => ?_
      rw [List.getElem?_toArray, hg]
      by_cases h1 : k * 5 + j < i * 5
      · rw [if_pos h1]; simp
      · rw [if_neg h1, if_neg (by omega)]; simp

/-- From w to w' blocks of S alone have turned, and these at whole values, to numbers. -/
structure Spoil (S : Nat → Prop) (w w' : World) : Prop where
  os : w'.os = w.os
  tape : w'.tape = w.tape
  output : w'.output = w.output
  size : w.heap.size ≤ w'.heap.size
  block : ∀ k : Nat, k < w.heap.size → ¬ S k → w'.heap[k]? = w.heap[k]?
  row : ∀ (k : Nat) (cur : Array Value), w.heap[k]? = some (.cells cur 26 (0, 0)) → ∃ cur' : Array Value, w'.heap[k]? = some (.cells cur' 26 (0, 0)) ∧ Flat cur cur'

theorem Spoil.trans {S : Nat → Prop} {a b c : World} (h : Spoil S a b) (h' : Spoil S b c) : Spoil S a c :=
  ⟨h'.os.trans h.os, h'.tape.trans h.tape, h'.output.trans h.output, Nat.le_trans h.size h'.size, fun k hk hs => (h'.block k (Nat.lt_of_lt_of_le hk h.size) hs).trans (h.block k hk hs), fun k cur hk => by
    obtain ⟨c1, h1, f1⟩ := h.row k cur hk
    obtain ⟨c2, h2, f2⟩ := h'.row k c1 h1
    exact ⟨c2, h2, f1.trans f2⟩⟩
theorem Spoil.of_below {S : Nat → Prop} {w w' : World} (h : Below w.heap.size w w') : Spoil S w w' :=
  ⟨h.os, h.tape, h.output, h.size, fun k hk _ => h.block k hk, fun k cur hk => ⟨cur, (h.block k (Array.getElem?_eq_some_iff.1 hk).1).trans hk, Flat.refl _⟩⟩
theorem Spoil.put {S : Nat → Prop} {w w' : World} {g : Nat} {cur new : Array Value} (h : Put w g new w') (hg : w.heap[g]? = some (.cells cur 26 (0, 0))) (hS : S g ) (hf : Flat cur new) : Spoil S w w' :=
  ⟨h.os, h.tape, h.output, by rw [h.size]; exact Nat.le_refl _, fun k hk hs => h.other k (fun e => hs (e ▸ hS)), fun k c hk => by
    by_cases e : k = g
    · subst e
      rw [hg] at hk
      injection hk with hk
      injection hk with hk
      subst hk
      exact ⟨new, h.at_, hf⟩
    · exact ⟨c, (h.other k e).trans hk, Flat.refl _⟩⟩

mutual
/-- A list that may have been written over: of each value that the tree tells the list, or none. -/
def T.Sv (w : World) (S : Nat → Prop) : T → Option Addr → Nat → Prop
  | .mk _ _ _ l _, a, c => (a = none ∧ c = 0 ∧ l = []) ∨ ∃ g cur, a = some ⟨g, 0, none⟩ ∧ S g ∧ w.heap[g]? = some (.cells cur 26 (0, 0)) ∧ l.length ≤ c ∧ c ≤ maxLen ∧ cur.size = c * 5 ∧ T.Svs w S l cur 0
def T.Svs (w : World) (S : Nat → Prop) : List T → Array Value → Nat → Prop
  | [], _, _ => True
  | t :: ts, cur, i => (∃ k n s r a c len, Grp cur i (.int .u8 k) (.int .i64 n) (.string s) (.slice a len c) (.int .i64 r) ∧ ((len = t.l.length ∧ T.Sv w S t a c) ∨ (a = none ∧ len = 0 ∧ c = 0))) ∧ T.Svs w S ts cur (i + 1)
end

/-- One of them. -/
def SvAt (w : World) (S : Nat → Prop) (t : T) (cur : Array Value) (i : Nat) : Prop :=
  ∃ k n s r a c len, Grp cur i (.int .u8 k) (.int .i64 n) (.string s) (.slice a len c) (.int .i64 r) ∧ ((len = t.l.length ∧ T.Sv w S t a c) ∨ (a = none ∧ len = 0 ∧ c = 0))

theorem T.Svs.get {w : World} {S : Nat → Prop} : ∀ {l : List T} {cur : Array Value} {o : Nat} (_ : T.Svs w S l cur o) (i : Nat) (h : i < l.length), SvAt w S l[i] cur (o + i)
  | [], _, _, _, i, h => absurd h (by simp)
  | t :: ts, cur, o, hs, 0, _ => by rw [T.Svs] at hs; exact hs.1
  | t :: ts, cur, o, hs, i + 1, h => by
    rw [T.Svs] at hs
    have := T.Svs.get hs.2 i (by simpa using h)
    have e : o + (i + 1) = o + 1 + i := by omega
    rw [e]; exact this

mutual
theorem T.Sv.keep {w w' : World} {S : Nat → Prop} (h : Spoil S w w') : ∀ {t : T} {a : Option Addr} {c : Nat}, T.Sv w S t a c → T.Sv w' S t a c
  | .mk _ _ _ l _, a, c, hi => by
    rw [T.Sv] at hi ⊢
    rcases hi with h0 | ⟨g, cur, ha, hS, hg, h1, h2, h3, h4⟩
    · exact .inl h0
    · obtain ⟨cur', hg', hf⟩ := h.row g cur hg
      exact .inr ⟨g, cur', ha, hS, hg', h1, h2, hf.1.trans h3, T.Svs.keep h hf h4⟩
theorem T.Svs.keep {w w' : World} {S : Nat → Prop} (h : Spoil S w w') {cur cur' : Array Value} (hf : Flat cur cur') : ∀ {l : List T} {o : Nat}, T.Svs w S l cur o → T.Svs w' S l cur' o
  | [], _, _ => by rw [T.Svs]; trivial
  | t :: ts, o, hi => by
    rw [T.Svs] at hi ⊢
    obtain ⟨⟨k, n, s, r, a, c, len, hg, hor⟩, h2⟩ := hi
    refine ⟨?_, T.Svs.keep h hf h2⟩
    rcases hf.2 o with h1 | ⟨q, h1⟩
    · refine ⟨k, n, s, r, a, c, len, hg.same h1, ?_⟩
      rcases hor with ⟨e, h3⟩ | h3
      · exact .inl ⟨e, T.Sv.keep h h3⟩
      · exact .inr h3
    · exact ⟨1, q, ⟨#[]⟩, 0, none, 0, 0, h1, .inr ⟨rfl, rfl, rfl⟩⟩
end

mutual
/-- What the call has made may be written over. -/
theorem T.Mut.sv {w : World} {S : Nat → Prop} : ∀ {t : T} {a : Option Addr} {c : Nat}, T.Mut w S t a c → T.Sv w S t a c
  | .mk _ _ _ l _, a, c, h => by
    rw [T.Mut] at h
    rw [T.Sv]
    obtain ⟨xs, h1, h2, h3⟩ := h
    rcases h1.2 with ⟨h0, hn⟩ | ⟨g, cap, cur, hv, _, hg, hle, hcm, hcs, htake⟩
    · simp only [Value.slice.injEq] at h0
      exact .inl ⟨h0.1, h0.2.2, List.length_eq_zero_iff.1 hn⟩
    · simp only [Value.slice.injEq, true_and] at hv
      obtain ⟨rfl, rfl⟩ := hv
      refine .inr ⟨g, cur, rfl, h2 g rfl, hg, hle, hcm, hcs, T.Muts.svs h3 cur 0 fun j u hu => ?_⟩
      rw [← htake, List.getElem?_take] at hu
      split at hu
      · simpa using hu
      · cases hu
theorem T.Muts.svs {w : World} {S : Nat → Prop} : ∀ {l : List T} {xs : List Value} (_ : T.Muts w S l xs) (cur : Array Value) (o : Nat) (_ : ∀ j u, xs[j]? = some u → cur[o * 5 + j]? = some u), T.Svs w S l cur o
  | [], _, _, _, _, _ => by rw [T.Svs]; trivial
  | t :: ts, xs, h, cur, o, hc => by
    rw [T.Muts] at h
    rw [T.Svs]
    obtain ⟨a, c, ys, h1, rfl, h3⟩ := h
    refine ⟨⟨t.k, t.n, t.s, t.r, a, c, t.l.length, ⟨hc 0 _ rfl, hc 1 _ rfl, hc 2 _ rfl, hc 3 _ rfl, hc 4 _ rfl⟩, .inl ⟨rfl, T.Mut.sv h1⟩⟩, T.Muts.svs h3 cur (o + 1) fun j u hu => ?_⟩
    have := hc (5 + j) u (by rw [List.getElem?_append_right (by simp [T.cells5])]; simpa [T.cells5] using hu)
    have e : (o + 1) * 5 + j = o * 5 + (5 + j) := by omega
    rw [e]; exact this
end

/-- append to a row: the row has room, and has turned there alone; or a new row is made. -/
theorem run_append_five (w : World) (ty : TypeId) (v : Value) (n : Nat) (xs : List Value) (hown : w.ownsRow 0 26 5 v n xs) (ad : Addr) (c : Nat) (v0 v1 v2 v3 v4 : Value)
    (hnews : ∀ j u, [v0, v1, v2, v3, v4][j]? = some u → w.cell? (ad.add j) = some u) (h1 : ∀ u ∈ [v0, v1, v2, v3, v4], u.oneCell' = true) (hn : n ≤ 1000000) :
    ∃ v' w', (Builtin.append_ #[23, 23] ty #[v, .slice (some ad) 1 c]).run Try.prog w = .ok v' w' ∧ w'.ownsRow 0 26 5 v' (n + 1) (xs ++ [v0, v1, v2, v3, v4]) ∧
      ((∃ g cap cur, v = .slice (some ⟨g, 0, none⟩) n cap ∧ v' = .slice (some ⟨g, 0, none⟩) (n + 1) cap ∧ n * 5 + 5 ≤ cur.size ∧ w.heap[g]? = some (.cells cur 26 (0, 0)) ∧ Put w g (cur.toList.take (n * 5) ++ [v0, v1, v2, v3, v4] ++ cur.toList.drop (n * 5 + 5)).toArray w') ∨
        (v'.ownBlock = some w.heap.size ∧ Below w.heap.size w w')) := by
  obtain ⟨i0, hi, hz0, hz1, hz2⟩ := info_parts info26
  have hxl : xs.length = n * 5 := hown.1
  obtain ⟨v', w', hr, h2, h3, h4⟩ := run_append_own (P := Try.prog) w 0 23 ty 26 i0 _ 5 64 Try.underlying23 hi hz0 hz1 hz2 rfl (by decide) v n xs hown ad 1 c [v0, v1, v2, v3, v4] rfl hnews h1 (by unfold maxLen; omega) (by omega) (by omega)
  refine ⟨v', w', hr, h2, ?_⟩
  rcases hown.2 with ⟨rfl, rfl⟩ | ⟨g, cap, cur, rfl, hbg, hg, hnc, hcm, hcs, htake⟩
  · right
    have hx : xs = [] := List.eq_nil_of_length_eq_zero (by omega)
    subst hx
    have hr2 := run_append_nil (P := Try.prog) w 23 ty 26 i0 _ Try.underlying23 hi hz0 ad 1 c [v0, v1, v2, v3, v4] (by rw [hz1]; rfl) hnews (by omega) (by omega) (by rw [hz2]; omega)
    rw [hr] at hr2
    injection hr2 with hv hw
    refine ⟨by rw [hv]; rfl, ?_⟩
    exact ⟨h3.os, h3.tape, h3.output, h3.size, fun k hk => h3.block k hk (by simp [Value.ownBlock])⟩
  · by_cases hroom : n + 1 ≤ cap
    · left
      have hr2 := run_append_room (P := Try.prog) w 23 ty 26 i0 Try.underlying23 hi g n cap cur hg ad 1 c [v0, v1, v2, v3, v4] (by rw [hz1]; rfl) hnews h1 hroom (by rw [hz1, hcs]; simp; omega)
      rw [hr] at hr2
      injection hr2 with hv hw
      refine ⟨g, cap, cur, rfl, hv, by omega, hg, ?_⟩
      rw [hw, hz1]
      exact put_setRow hg
    · right
      have holds : ∀ j u, xs[j]? = some u → w.cell? ((⟨g, 0, none⟩ : Addr).add j) = some u := hown.cells (g := g) rfl
      have hr2 := run_append_grow (P := Try.prog) w 23 ty 26 i0 _ Try.underlying23 hi hz0 ⟨g, 0, none⟩ n cap xs (by rw [hz1]; exact hxl) holds ad 1 c [v0, v1, v2, v3, v4] (by rw [hz1]; rfl) hnews (by omega) (by omega) (by rw [hz2]; exact growslice_fits (by omega) (by omega))
      rw [hr] at hr2
      injection hr2 with hv hw
      refine ⟨by rw [hv]; rfl, ?_⟩
      rw [hw]
      exact (Below.refl _ _).drew.alloc (Nat.le_refl _) _

/-- At the operation. -/
theorem wpList_append_five (w : World) {ops : Array Oper} {rest : List Oper} {o : Oper} {a : Act} {Q : Exit → Act → World → Prop} (hgd : o.guard = none) (s x : Operand)
    (ho : o.op = .call { callee := .builtin .append, args := #[s, x], argTypes := #[23, 23] }) (v : Value) (n : Nat) (xs : List Value) (hs : a.eval s = v) (hown : w.ownsRow 0 26 5 v n xs) (ad : Addr) (c : Nat) (v0 v1 v2 v3 v4 : Value) (hx : a.eval x = .slice (some ad) 1 c)
    (hnews : ∀ j u, [v0, v1, v2, v3, v4][j]? = some u → w.cell? (ad.add j) = some u) (h1 : ∀ u ∈ [v0, v1, v2, v3, v4], u.oneCell' = true) (hn : n ≤ 1000000)
    (h : ∀ v' w', w'.ownsRow 0 26 5 v' (n + 1) (xs ++ [v0, v1, v2, v3, v4]) →
      ((∃ g cap cur, v = .slice (some ⟨g, 0, none⟩) n cap ∧ v' = .slice (some ⟨g, 0, none⟩) (n + 1) cap ∧ n * 5 + 5 ≤ cur.size ∧ w.heap[g]? = some (.cells cur 26 (0, 0)) ∧ Put w g (cur.toList.take (n * 5) ++ [v0, v1, v2, v3, v4] ++ cur.toList.drop (n * 5 + 5)).toArray w') ∨
        (v'.ownBlock = some w.heap.size ∧ Below w.heap.size w w')) → wpList Try.prog ops Q rest (a.put o.dst v') w') : wpList Try.prog ops Q (o :: rest) a w := by
  refine wpList_plain hgd fun _ hK => ?_
  obtain ⟨v', w', hr, h2, h3⟩ := run_append_five w o.type v n xs hown ad c v0 v1 v2 v3 v4 hnews h1 hn
  unfold Oper.wp execOp
  simp only [ho, resolve, invoke, builtin, Sem.run_bind, Sem.run_pure, Result.andThen_ok, List.map_toArray, List.map_cons, List.map_nil, hs, hx, hr]
  exact hK _ _ (h v' w' h2 h3)

/-- Five cells of a row, stored one by one. -/
theorem row5 {w : World} {g off : Nat} {cur : Array Value} (D : w.heap[g]? = some (.cells cur 26 (0, 0))) (hfit : off + 5 ≤ cur.size) (v0 v1 v2 v3 v4 : Value) :
    Put w g (cur.toList.take off ++ [v0, v1, v2, v3, v4] ++ cur.toList.drop (off + 5)).toArray (((((w.setCell ⟨g, off, none⟩ v0).setCell ⟨g, off + 1, none⟩ v1).setCell ⟨g, off + 2, none⟩ v2).setCell ⟨g, off + 3, none⟩ v3).setCell ⟨g, off + 4, none⟩ v4) := by
  have hB := ((((((Below.refl g w).setCell (p := ⟨g, off, none⟩) (Nat.le_refl _) v0).setCell (p := ⟨g, off + 1, none⟩) (Nat.le_refl _) v1).setCell (p := ⟨g, off + 2, none⟩) (Nat.le_refl _) v2).setCell (p := ⟨g, off + 3, none⟩) (Nat.le_refl _) v3).setCell (p := ⟨g, off + 4, none⟩) (Nat.le_refl _) v4)
  have hz : (((((w.setCell ⟨g, off, none⟩ v0).setCell ⟨g, off + 1, none⟩ v1).setCell ⟨g, off + 2, none⟩ v2).setCell ⟨g, off + 3, none⟩ v3).setCell ⟨g, off + 4, none⟩ v4).heap.size = w.heap.size := by simp [World.setCell]
  refine ⟨hB.os, hB.tape, hB.output, hz, ?_, fun k hk => ?_⟩
  · have e : (((((cur.set! off v0).set! (off + 1) v1).set! (off + 2) v2).set! (off + 3) v3).set! (off + 4) v4) = (cur.toList.take off ++ [v0, v1, v2, v3, v4] ++ cur.toList.drop (off + 5)).toArray := by
      apply Array.ext_getElem?
      intro p
      conv => rhs; rw [List.getElem?_toArray]
      rw [put_get cur.toList off v0 v1 v2 v3 v4 (by rw [Array.length_toList]; exact hfit)]
      simp only [Array.set!_eq_setIfInBounds, Array.getElem?_setIfInBounds, Array.size_setIfInBounds]
      by_cases h1 : p < off
      · rw [if_pos h1, if_neg (by omega), if_neg (by omega), if_neg (by omega), if_neg (by omega), if_neg (by omega)]; simp
      · rw [if_neg h1]
        by_cases h2 : p < off + 5
        · rw [if_pos h2]
          have h3 : p = off ∨ p = off + 1 ∨ p = off + 2 ∨ p = off + 3 ∨ p = off + 4 := by omega
          rcases h3 with rfl | rfl | rfl | rfl | rfl
          · rw [if_neg (by omega), if_neg (by omega), if_neg (by omega), if_neg (by omega), if_pos rfl, if_pos (by omega)]; simp
          · rw [if_neg (by omega), if_neg (by omega), if_neg (by omega), if_pos rfl, if_pos (by omega)]; simp
          · rw [if_neg (by omega), if_neg (by omega), if_pos rfl, if_pos (by omega)]; simp
          · rw [if_neg (by omega), if_pos rfl, if_pos (by omega)]; simp
          · rw [if_pos rfl, if_pos (by omega)]; simp
        · rw [if_neg h2, if_neg (by omega), if_neg (by omega), if_neg (by omega), if_neg (by omega), if_neg (by omega)]; simp
    rw [← e]
    simp [World.setCell, Array.getElem?_modify, D]
  · rw [Below.heap_setCell _ _ _ _ hk, Below.heap_setCell _ _ _ _ hk, Below.heap_setCell _ _ _ _ hk, Below.heap_setCell _ _ _ _ hk, Below.heap_setCell _ _ _ _ hk]
end Go.Proofs.Ytapfmfihhpafcaa
