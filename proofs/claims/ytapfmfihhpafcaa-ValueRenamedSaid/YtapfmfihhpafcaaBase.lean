/-
  Trees of values as plain data, and how they lie in memory.
-/
import Derived.Test.YtapfmfihhpafcaaProg
import Derived.Below
import Derived.WalkKit
import Derived.KernelRfl
import Derived.RowKit3
import Derived.Deep.LoopGhost
import Derived.Deep.QuietTactic
import Derived.BigQuiet
import Derived.Lib.Hide
import Derived.WalkLawsBesides
import Derived.WalkSpells
import Derived.OwnWalk
import Derived.Deep.AppendLies
import Derived.Deep.RegionHeld3
import Derived.Deep.Draws
namespace Go.Proofs.Ytapfmfihhpafcaa
open Go.RowKit

/-- A value of the program, as plain data. -/
inductive T where
  | mk (k n : Int) (s : ByteArray) (l : List T) (r : Int)

def T.k : T → Int | .mk k _ _ _ _ => k
def T.n : T → Int | .mk _ n _ _ _ => n
def T.s : T → ByteArray | .mk _ _ s _ _ => s
def T.l : T → List T | .mk _ _ _ l _ => l
def T.r : T → Int | .mk _ _ _ _ r => r

/-- The five cells of a value whose list lies at 'a' with room for 'c'. -/
def T.val (t : T) (a : Option Addr) (c : Nat) : Value := .agg #[.int .u8 t.k, .int .i64 t.n, .string t.s, .slice a t.l.length c, .int .i64 t.r]

mutual
/-- The numbers are of their kinds, the texts and lists not above any bound. -/
def T.wf : T → Prop
  | .mk k n s l r => (0 ≤ k ∧ k ≤ 255 ∧ -9223372036854775808 ≤ n ∧ n ≤ 9223372036854775807 ∧ -9223372036854775808 ≤ r ∧ r ≤ 9223372036854775807 ∧ s.size ≤ 140737488351232 ∧ l.length ≤ 2199023255488) ∧ T.wfs l
def T.wfs : List T → Prop
  | [] => True
  | t :: ts => T.wf t ∧ T.wfs ts
end

theorem T.wfs_iff : ∀ {l : List T}, T.wfs l ↔ ∀ x ∈ l, x.wf
  | [] => by simp [T.wfs]
  | t :: ts => by rw [T.wfs, T.wfs_iff (l := ts)]; simp

mutual
/-- The list of a value lies in the world, in blocks that 'ok' lets in; where 'm' says so each list that is not empty has a mark behind it. -/
def T.In (w : World) (ok : Nat → Prop) (m : Bool) : T → Option Addr → Nat → Prop
  | .mk _ _ _ l _, a, c => l.length ≤ c ∧ (l = [] ∨ ∃ b o, a = some ⟨b, o, none⟩ ∧ ok b ∧ (m = true → l.length + 1 ≤ c ∧ w.cell? ⟨b, o + l.length * 5 + 1, none⟩ = some (.int .i64 77)) ∧ T.Ins w ok m l b o)
def T.Ins (w : World) (ok : Nat → Prop) (m : Bool) : List T → Nat → Nat → Prop
  | [], _, _ => True
  | t :: ts, b, o => (∃ a c, T.In w ok m t a c ∧ w.cell? ⟨b, o, none⟩ = some (.int .u8 t.k) ∧ w.cell? ⟨b, o + 1, none⟩ = some (.int .i64 t.n) ∧
      w.cell? ⟨b, o + 2, none⟩ = some (.string t.s) ∧ w.cell? ⟨b, o + 3, none⟩ = some (.slice a t.l.length c) ∧ w.cell? ⟨b, o + 4, none⟩ = some (.int .i64 t.r)) ∧ T.Ins w ok m ts b (o + 5)
end

/-- One value in the five cells from ⟨b, o⟩ on. -/
def T.Cell (w : World) (ok : Nat → Prop) (m : Bool) (t : T) (b o : Nat) : Prop :=
  ∃ a c, T.In w ok m t a c ∧ w.cell? ⟨b, o, none⟩ = some (.int .u8 t.k) ∧ w.cell? ⟨b, o + 1, none⟩ = some (.int .i64 t.n) ∧
      w.cell? ⟨b, o + 2, none⟩ = some (.string t.s) ∧ w.cell? ⟨b, o + 3, none⟩ = some (.slice a t.l.length c) ∧ w.cell? ⟨b, o + 4, none⟩ = some (.int .i64 t.r)

theorem T.Ins.get {w : World} {ok : Nat → Prop} {m : Bool} : ∀ {l : List T} {b o : Nat} (_ : T.Ins w ok m l b o) (i : Nat) (h : i < l.length), T.Cell w ok m l[i] b (o + i * 5)
  | [], _, _, _, i, h => absurd h (by simp)
  | t :: ts, b, o, hi, 0, _ => by
    rw [T.Ins] at hi
    simpa [T.Cell] using hi.1
  | t :: ts, b, o, hi, i + 1, h => by
    rw [T.Ins] at hi
    have h1 := T.Ins.get hi.2 i (by simpa using h)
    have e : o + (i + 1) * 5 = o + 5 + i * 5 := by omega
    rw [e]
    exact h1

theorem T.Ins.mk {w : World} {ok : Nat → Prop} {m : Bool} : ∀ {l : List T} {b o : Nat}, (∀ i (h : i < l.length), T.Cell w ok m l[i] b (o + i * 5)) → T.Ins w ok m l b o
  | [], _, _, _ => by rw [T.Ins]; trivial
  | t :: ts, b, o, h => by
    rw [T.Ins]
    refine ⟨by have h0 := h 0 (by simp); rw [Nat.zero_mul, Nat.add_zero] at h0; exact h0, T.Ins.mk fun i hi => ?_⟩
    have h1 := h (i + 1) (by simpa using hi)
    have e : o + (i + 1) * 5 = o + 5 + i * 5 := by omega
    rw [e] at h1
    simpa using h1

theorem T.induct {P : T → Prop} (h : ∀ k n s l r, (∀ x ∈ l, P x) → P (.mk k n s l r)) : ∀ t, P t
  | .mk k n s l r => h k n s l r fun x _ => T.induct h x

theorem ret_int {k : IntKind} {a b : Int} (h : a = b) : Ending.returned (.int k a) = .returned (.int k b) := by rw [h]
theorem ret_bool {a b : Bool} (h : a = b) : Ending.returned (.bool a) = .returned (.bool b) := by rw [h]

theorem cell_of_heap {w w' : World} {b : Nat} (h : w'.heap[b]? = w.heap[b]?) (o : Nat) : w'.cell? ⟨b, o, none⟩ = w.cell? ⟨b, o, none⟩ :=
  World.cell?_of_block (w := w) h

mutual
theorem T.In.keep {w w' : World} {ok ok' : Nat → Prop} {m m' : Bool} (h : ∀ b, ok b → w'.heap[b]? = w.heap[b]?) (h' : ∀ b, ok b → ok' b) (hm : m' = true → m = true) : ∀ {t : T} {a : Option Addr} {c : Nat}, T.In w ok m t a c → T.In w' ok' m' t a c
  | .mk _ _ _ l _, a, c, hi => by
    rw [T.In] at hi ⊢
    refine ⟨hi.1, ?_⟩
    rcases hi.2 with h0 | ⟨b, o, ha, hb, hk, hl⟩
    · exact .inl h0
    · exact .inr ⟨b, o, ha, h' b hb, fun e => by rw [cell_of_heap (h b hb)]; exact hk (hm e), T.Ins.keep h h' hm hb hl⟩
theorem T.Ins.keep {w w' : World} {ok ok' : Nat → Prop} {m m' : Bool} (h : ∀ b, ok b → w'.heap[b]? = w.heap[b]?) (h' : ∀ b, ok b → ok' b) (hm : m' = true → m = true) : ∀ {l : List T} {b o : Nat}, ok b → T.Ins w ok m l b o → T.Ins w' ok' m' l b o
  | [], _, _, _, _ => by rw [T.Ins]; trivial
  | t :: ts, b, o, hb, hi => by
    rw [T.Ins] at hi ⊢
    obtain ⟨⟨a, c, h0, h1, h2, h3, h4, h5⟩, h6⟩ := hi
    refine ⟨⟨a, c, T.In.keep h h' hm h0, ?_, ?_, ?_, ?_, ?_⟩, T.Ins.keep h h' hm hb h6⟩ <;> rw [cell_of_heap (h b hb)] <;> assumption
end

theorem T.Cell.keep {w w' : World} {ok ok' : Nat → Prop} {m m' : Bool} {t : T} {b o : Nat} (h : ∀ b, ok b → w'.heap[b]? = w.heap[b]?) (h' : ∀ b, ok b → ok' b) (hm : m' = true → m = true) (hb : w'.heap[b]? = w.heap[b]?) (hi : T.Cell w ok m t b o) : T.Cell w' ok' m' t b o := by
  obtain ⟨a, c, h0, h1, h2, h3, h4, h5⟩ := hi
  refine ⟨a, c, T.In.keep h h' hm h0, ?_, ?_, ?_, ?_, ?_⟩ <;> rw [cell_of_heap hb] <;> assumption

/-- The tree lies below block B. -/
abbrev T.At (w : World) (B : Nat) (t : T) (a : Option Addr) (c : Nat) : Prop := T.In w (· < B) false t a c

theorem T.At.below {w w' : World} {B B' : Nat} {t : T} {a : Option Addr} {c : Nat} (hb : Below B' w w') (hB : B ≤ B') (h : T.At w B t a c) : T.At w' B t a c :=
  T.In.keep (fun b hk => hb.block b (Nat.lt_of_lt_of_le hk hB)) (fun _ hk => hk) id h
theorem T.At.mono {w : World} {B B' : Nat} {t : T} {a : Option Addr} {c : Nat} (hB : B ≤ B') (h : T.At w B t a c) : T.At w B' t a c :=
  T.In.keep (fun _ _ => rfl) (fun _ hk => Nat.lt_of_lt_of_le hk hB) id h

/-- One element of a list that lies in the world, its cells as the walk reads them. -/
theorem T.In.elem {w : World} {ok : Nat → Prop} {m : Bool} {k n r : Int} {s : ByteArray} {l : List T} {a : Option Addr} {c : Nat} (h : T.In w ok m (.mk k n s l r) a c) (i : Nat) (hi : i < l.length) :
    ∃ b o a' c', a = some ⟨b, o, none⟩ ∧ ok b ∧ T.In w ok m l[i] a' c' ∧ w.cell? ⟨b, o + i * 5, none⟩ = some (.int .u8 l[i].k) ∧ w.cell? ⟨b, o + i * 5 + 1, none⟩ = some (.int .i64 l[i].n) ∧
      w.cell? ⟨b, o + i * 5 + 2, none⟩ = some (.string l[i].s) ∧ w.cell? ⟨b, o + i * 5 + 3, none⟩ = some (.slice a' l[i].l.length c') ∧ w.cell? ⟨b, o + i * 5 + 4, none⟩ = some (.int .i64 l[i].r) := by
  rw [T.In] at h
  rcases h.2 with h0 | ⟨b, o, ha, hb, _, hl⟩
  · subst h0; exact absurd hi (by simp)
  · obtain ⟨a', c', h1⟩ := hl.get i hi
    exact ⟨b, o, a', c', ha, hb, h1⟩

theorem bcell {W w1 : World} (hb : Below W.heap.size W w1) : (∀ b o, b < W.heap.size → w1.cell? ⟨b, o, none⟩ = W.cell? ⟨b, o, none⟩) ∧ (∀ b o, b < W.heap.size → w1.frozen? ⟨b, o, none⟩ = W.frozen? ⟨b, o, none⟩) :=
  ⟨fun b o h => hb.cell (p := ⟨b, o, none⟩) h, fun b o h => hb.frozen (p := ⟨b, o, none⟩) h⟩

theorem size_of_nil {s : ByteArray} (h : s.toList = []) : s.size = 0 := by
  rw [ByteArray.toList_eq] at h
  have := congrArg List.length h
  rw [Array.length_toList] at this
  exact this
end Go.Proofs.Ytapfmfihhpafcaa
