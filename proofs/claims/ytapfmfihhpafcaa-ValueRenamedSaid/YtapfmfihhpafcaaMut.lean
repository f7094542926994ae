/-
  Trees in memory that the call itself has made: each list in a row of its own, not frozen.
-/
import Derived.Test.YtapfmfihhpafcaaBase
namespace Go.Proofs.Ytapfmfihhpafcaa
open Go.RowKit
set_option linter.unusedVariables false

/-- The five cells of a value. -/
def T.cells5 (t : T) (a : Option Addr) (c : Nat) : List Value := [.int .u8 t.k, .int .i64 t.n, .string t.s, .slice a t.l.length c, .int .i64 t.r]

mutual
def T.Mut (w : World) (S : Nat → Prop) : T → Option Addr → Nat → Prop
  | .mk _ _ _ l _, a, c => ∃ xs, w.ownsRow 0 26 5 (.slice a l.length c) l.length xs ∧ (∀ g, (Value.slice a l.length c).ownBlock = some g → S g) ∧ T.Muts w S l xs
def T.Muts (w : World) (S : Nat → Prop) : List T → List Value → Prop
  | [], xs => xs = []
  | t :: ts, xs => ∃ a c ys, T.Mut w S t a c ∧ xs = t.cells5 a c ++ ys ∧ T.Muts w S ts ys
end

theorem ownsRow_of_block {w w' : World} {v : Value} {n : Nat} {xs : List Value} (h : w.ownsRow 0 26 5 v n xs) (hk : ∀ g, v.ownBlock = some g → w'.heap[g]? = w.heap[g]?) : w'.ownsRow 0 26 5 v n xs := by
  refine ⟨h.1, ?_⟩
  rcases h.2 with h0 | ⟨g, cap, cur, hv, hb, hg, r⟩
  · exact .inl h0
  · exact .inr ⟨g, cap, cur, hv, hb, by rw [hk g (by rw [hv]; rfl)]; exact hg, r⟩

mutual
theorem T.Mut.keep {w w' : World} {S S' : Nat → Prop} (h : ∀ b, S b → w'.heap[b]? = w.heap[b]?) (h' : ∀ b, S b → S' b) : ∀ {t : T} {a : Option Addr} {c : Nat}, T.Mut w S t a c → T.Mut w' S' t a c
  | .mk _ _ _ l _, a, c, hi => by
    rw [T.Mut] at hi ⊢
    obtain ⟨xs, h1, h2, h3⟩ := hi
    exact ⟨xs, ownsRow_of_block h1 (fun g hg => h g (h2 g hg)), fun g hg => h' g (h2 g hg), T.Muts.keep h h' h3⟩
theorem T.Muts.keep {w w' : World} {S S' : Nat → Prop} (h : ∀ b, S b → w'.heap[b]? = w.heap[b]?) (h' : ∀ b, S b → S' b) : ∀ {l : List T} {xs : List Value}, T.Muts w S l xs → T.Muts w' S' l xs
  | [], xs, hi => by rw [T.Muts] at hi ⊢; exact hi
  | t :: ts, xs, hi => by
    rw [T.Muts] at hi ⊢
    obtain ⟨a, c, ys, h1, h2, h3⟩ := hi
    exact ⟨a, c, ys, T.Mut.keep h h' h1, h2, T.Muts.keep h h' h3⟩
end

theorem T.Muts.length {w : World} {S : Nat → Prop} : ∀ {l : List T} {xs : List Value}, T.Muts w S l xs → xs.length = l.length * 5
  | [], xs, h => by rw [T.Muts] at h; subst h; rfl
  | t :: ts, xs, h => by
    rw [T.Muts] at h
    obtain ⟨a, c, ys, _, rfl, h3⟩ := h
    have := T.Muts.length h3
    simp [T.cells5]; omega

theorem T.Muts.get {w : World} {S : Nat → Prop} : ∀ {l : List T} {xs : List Value} (_ : T.Muts w S l xs) (i : Nat) (hi : i < l.length), ∃ a c, T.Mut w S l[i] a c ∧
    xs[i * 5]? = some (.int .u8 l[i].k) ∧ xs[i * 5 + 1]? = some (.int .i64 l[i].n) ∧ xs[i * 5 + 2]? = some (.string l[i].s) ∧ xs[i * 5 + 3]? = some (.slice a l[i].l.length c) ∧ xs[i * 5 + 4]? = some (.int .i64 l[i].r)
  | [], _, _, _, hi => absurd hi (by simp)
  | t :: ts, xs, h, 0, _ => by
    rw [T.Muts] at h
    obtain ⟨a, c, ys, h1, rfl, h3⟩ := h
    exact ⟨a, c, h1, rfl, rfl, rfl, rfl, rfl⟩
  | t :: ts, xs, h, i + 1, hi => by
    rw [T.Muts] at h
    obtain ⟨a, c, ys, h1, rfl, h3⟩ := h
    obtain ⟨a', c', g⟩ := T.Muts.get h3 i (by simpa using hi)
    refine ⟨a', c', ?_⟩
    have e : ∀ j, (t.cells5 a c ++ ys)[(i + 1) * 5 + j]? = ys[i * 5 + j]? := by
      intro j
      rw [List.getElem?_append_right (by simp [T.cells5]; omega)]
      congr 1
      simp [T.cells5]; omega
    have e0 := e 0
    simp only [Nat.add_zero] at e0
    rw [e0, e, e, e, e]
    exact g

theorem T.Muts.app {w : World} {S : Nat → Prop} : ∀ {l l' : List T} {xs ys : List Value}, T.Muts w S l xs → T.Muts w S l' ys → T.Muts w S (l ++ l') (xs ++ ys)
  | [], l', xs, ys, h, h' => by rw [T.Muts] at h; subst h; simpa using h'
  | t :: ts, l', xs, ys, h, h' => by
    rw [T.Muts] at h
    obtain ⟨a, c, zs, h1, rfl, h3⟩ := h
    rw [List.cons_append, T.Muts]
    exact ⟨a, c, zs ++ ys, h1, by rw [List.append_assoc], T.Muts.app h3 h'⟩

theorem T.Muts.one {w : World} {S : Nat → Prop} {t : T} {a : Option Addr} {c : Nat} (h : T.Mut w S t a c) : T.Muts w S [t] (t.cells5 a c) := by
  rw [T.Muts]
  exact ⟨a, c, [], h, by simp, by rw [T.Muts]⟩

theorem T.Muts.split {w : World} {S : Nat → Prop} : ∀ {l : List T} {xs : List Value} (i : Nat), T.Muts w S l xs → T.Muts w S (l.take i) (xs.take (i * 5)) ∧ T.Muts w S (l.drop i) (xs.drop (i * 5))
  | l, xs, 0, h => by simp [T.Muts]; exact h
  | [], xs, i + 1, h => by rw [T.Muts] at h; subst h; simp [T.Muts]
  | t :: ts, xs, i + 1, h => by
    rw [T.Muts] at h
    obtain ⟨a, c, ys, h1, rfl, h3⟩ := h
    have h4 := T.Muts.split i h3
    have hl : (t.cells5 a c).length = 5 := rfl
    have e : (i + 1) * 5 = 5 + i * 5 := by omega
    refine ⟨?_, ?_⟩
    · rw [List.take_succ_cons, T.Muts]
      refine ⟨a, c, ys.take (i * 5), h1, ?_, h4.1⟩
      rw [List.take_append, hl, List.take_of_length_le (by rw [hl]; omega), e, Nat.add_sub_cancel_left]
    · have hd : (t.cells5 a c ++ ys).drop ((i + 1) * 5) = ys.drop (i * 5) := by
        rw [List.drop_append, hl, e, Nat.add_sub_cancel_left, List.drop_of_length_le (by rw [hl]; omega), List.nil_append]
      rw [List.drop_succ_cons, hd]
      exact h4.2

/-- Another value is laid at place i. -/
theorem T.Muts.set {w : World} {S : Nat → Prop} {l : List T} {xs : List Value} (h : T.Muts w S l xs) {t : T} {a : Option Addr} {c : Nat} (ht : T.Mut w S t a c) (i : Nat) (hi : i < l.length) :
    T.Muts w S (l.set i t) (((((xs.set (i * 5) (.int .u8 t.k)).set (i * 5 + 1) (.int .i64 t.n)).set (i * 5 + 2) (.string t.s)).set (i * 5 + 3) (.slice a t.l.length c)).set (i * 5 + 4) (.int .i64 t.r)) := by
  have hlen := h.length
  obtain ⟨h1, h2⟩ := T.Muts.split i h
  obtain ⟨_, h4⟩ := T.Muts.split 1 h2
  rw [List.drop_drop, List.drop_drop] at h4
  have h5 := h1.app ((T.Muts.one ht).app h4)
  have e1 : l.set i t = l.take i ++ ([t] ++ l.drop (i + 1)) := by
    rw [List.set_eq_take_append_cons_drop, if_pos hi]; rfl
  have e2 : ((((xs.set (i * 5) (.int .u8 t.k)).set (i * 5 + 1) (.int .i64 t.n)).set (i * 5 + 2) (.string t.s)).set (i * 5 + 3) (.slice a t.l.length c)).set (i * 5 + 4) (.int .i64 t.r) = xs.take (i * 5) ++ (t.cells5 a c ++ xs.drop (i * 5 + 1 * 5)) := by
    have hx : xs = xs.take (i * 5) ++ xs.drop (i * 5) := (List.take_append_drop _ _).symm
    have hl1 : (xs.take (i * 5)).length = i * 5 := by rw [List.length_take]; omega
    have hl2 : 5 ≤ (xs.drop (i * 5)).length := by rw [List.length_drop]; omega
    have hd : xs.drop (i * 5 + 1 * 5) = (xs.drop (i * 5)).drop 5 := by rw [List.drop_drop]
    rw [hd]
    generalize xs.take (i * 5) = p at hx hl1 ⊢
    generalize xs.drop (i * 5) = q at hx hl2 ⊢
    rw [hx]
    match q, hl2 with
    | q0 :: q1 :: q2 :: q3 :: q4 :: q', _ =>
      have hm : ∀ (j : Nat) (v : Value) (r : List Value), (p ++ r).set (i * 5 + j) v = p ++ r.set j v := fun j v r => by
        rw [List.set_append, if_neg (by omega), hl1, Nat.add_sub_cancel_left]
      have hm0 := fun v r => hm 0 v r
      simp only [Nat.add_zero] at hm0
      rw [hm0, hm, hm, hm, hm]
      rfl
  rw [e1, e2]
  exact h5

/-- The value that all fields are zero of. -/
def T.zero : T := .mk 0 0 ⟨#[]⟩ [] 0
theorem T.Mut.zero (w : World) (S : Nat → Prop) : T.Mut w S T.zero none 0 := by
  rw [T.zero, T.Mut]
  exact ⟨[], World.ownsRow_nil _ _ _ _, by simp [Value.ownBlock], by rw [T.Muts]⟩

theorem T.Muts.zeros (w : World) (S : Nat → Prop) : ∀ n, T.Muts w S (List.replicate n T.zero) ((List.replicate n (T.zero.cells5 none 0)).flatten)
  | 0 => by simp [T.Muts]
  | n + 1 => by
    rw [List.replicate_succ, List.replicate_succ, List.flatten_cons, T.Muts]
    exact ⟨none, 0, _, T.Mut.zero w S, rfl, T.Muts.zeros w S n⟩

mutual
/-- What the call has made lies in the world as any value does. -/
theorem T.Mut.lies {w : World} {S : Nat → Prop} : ∀ {t : T} {a : Option Addr} {c : Nat}, T.Mut w S t a c → T.In w S false t a c
  | .mk _ _ _ l _, a, c, h => by
    rw [T.Mut] at h
    rw [T.In]
    obtain ⟨xs, h1, h2, h3⟩ := h
    rcases h1.2 with ⟨h0, hn⟩ | ⟨g, cap, cur, hv, _, hg, hle, _, hcs, htake⟩
    · exact ⟨by omega, .inl (List.length_eq_zero_iff.1 hn)⟩
    · simp only [Value.slice.injEq, true_and] at hv
      obtain ⟨rfl, rfl⟩ := hv
      refine ⟨hle, .inr ⟨g, 0, rfl, h2 g rfl, by simp, T.Muts.lies h3 g 0 fun j u hu => ?_⟩⟩
      rw [cell_of_row w g (0 + j) cur 26 (0, 0) hg, Nat.zero_add]
      rw [← htake, List.getElem?_take] at hu
      split at hu
      · simpa using hu
      · cases hu
theorem T.Muts.lies {w : World} {S : Nat → Prop} : ∀ {l : List T} {xs : List Value} (_ : T.Muts w S l xs) (b o : Nat) (_ : ∀ j u, xs[j]? = some u → w.cell? ⟨b, o + j, none⟩ = some u), T.Ins w S false l b o
  | [], _, _, _, _, _ => by rw [T.Ins]; trivial
  | t :: ts, xs, h, b, o, hc => by
    rw [T.Muts] at h
    rw [T.Ins]
    obtain ⟨a, c, ys, h1, rfl, h3⟩ := h
    refine ⟨⟨a, c, T.Mut.lies h1, hc 0 _ rfl, hc 1 _ rfl, hc 2 _ rfl, hc 3 _ rfl, hc 4 _ rfl⟩, T.Muts.lies h3 b (o + 5) fun j u hu => ?_⟩
    have := hc (5 + j) u (by rw [List.getElem?_append_right (by simp [T.cells5])]; simpa [T.cells5] using hu)
    rw [Nat.add_assoc]; exact this
end
end Go.Proofs.Ytapfmfihhpafcaa
