/-
  value.find, value.At.
-/
import Derived.Test.YtapfmfihhpafcaaA9
import Derived.Test.YtapfmfihhpafcaaA5
import Derived.Test.YtapfmfihhpafcaaA7
namespace Go.Proofs.Ytapfmfihhpafcaa
open Go.RowKit
set_option linter.unusedVariables false

/-- A list of whole numbers in memory. -/
def Ints (w : World) (ok : Nat → Prop) (l : List Int) (a : Option Addr) (c : Nat) : Prop :=
  l.length ≤ c ∧ (l = [] ∨ ∃ b o, a = some ⟨b, o, none⟩ ∧ ok b ∧ ∀ i (h : i < l.length), w.cell? ⟨b, o + i, none⟩ = some (.int .i64 l[i]))

theorem Ints.keep {w w' : World} {ok ok' : Nat → Prop} (h : ∀ b, ok b → w'.heap[b]? = w.heap[b]?) (h' : ∀ b, ok b → ok' b) {l : List Int} {a : Option Addr} {c : Nat} (hi : Ints w ok l a c) : Ints w' ok' l a c := by
  refine ⟨hi.1, ?_⟩
  rcases hi.2 with h0 | ⟨b, o, ha, hb, hl⟩
  · exact .inl h0
  · exact .inr ⟨b, o, ha, h' b hb, fun i hi => by rw [cell_of_heap (h b hb)]; exact hl i hi⟩
theorem Ints.below {w w' : World} {B B' : Nat} {l : List Int} {a : Option Addr} {c : Nat} (hb : Below B' w w') (hB : B ≤ B') (h : Ints w (· < B) l a c) : Ints w' (· < B) l a c :=
  Ints.keep (fun b hk => hb.block b (Nat.lt_of_lt_of_le hk hB)) (fun _ hk => hk) h
theorem Ints.elem {w : World} {ok : Nat → Prop} {l : List Int} {a : Option Addr} {c : Nat} (h : Ints w ok l a c) (i : Nat) (hi : i < l.length) : ∃ b o, a = some ⟨b, o, none⟩ ∧ ok b ∧ w.cell? ⟨b, o + i, none⟩ = some (.int .i64 l[i]) := by
  rcases h.2 with h0 | ⟨b, o, ha, hb, hl⟩
  · subst h0; exact absurd hi (by simp)
  · exact ⟨b, o, ha, hb, hl i hi⟩

/-- What stands at a place. -/
def T.find : List Int → T → Option T
  | [], t => some t
  | i :: is, .mk _ _ _ l _ => if 0 ≤ i then (l[i.toNat]?).bind (T.find is) else none

theorem post_cell26b {fn : Func} {R : Ending → World → Prop} {a : Act} {w : World} {b : Nat} {v0 v1 v2 v3 v4 u : Value} (hr : fn.results = #[.cell 4 26, .tmp 5]) (hp : a.tmps[4]?.getD undef = .pointer (some ⟨b, 0, none⟩)) (hu : a.tmps[5]?.getD undef = u) (hd : a.defers = [])
    (c0 : w.cell? ⟨b, 0, none⟩ = some v0) (c1 : w.cell? ⟨b, 1, none⟩ = some v1) (c2 : w.cell? ⟨b, 2, none⟩ = some v2) (c3 : w.cell? ⟨b, 3, none⟩ = some v3) (c4 : w.cell? ⟨b, 4, none⟩ = some v4)
    (h : R (.returned (.tuple #[.agg #[v0, v1, v2, v3, v4], u])) w) : bodyPost Try.prog fn R .ret a w := by
  refine bodyPost_ret (v := .tuple #[.agg #[v0, v1, v2, v3, v4], u]) ?_ hd h
  simp only [results, hr]
  simp [hp, hu, go_sem, c0, c1, c2, c3, c4]

/-- What find hands back. -/
def FindPost (w : World) (B : Nat) (t : T) (p : List Int) (e : Ending) (w' : World) : Prop :=
  ((∃ u a c, T.find p t = some u ∧ T.At w' B u a c ∧ u.wf ∧ e = .returned (.tuple #[u.val a c, .bool true])) ∨ (T.find p t = none ∧ e = .returned (.tuple #[T.zero.val none 0, .bool false]))) ∧ Below w.heap.size w w'

theorem T.At.elem' {w : World} {B : Nat} {t : T} {a : Option Addr} {c : Nat} (h : T.At w B t a c) (i : Nat) (hi : i < t.l.length) :
    ∃ b o a' c', a = some ⟨b, o, none⟩ ∧ b < B ∧ T.At w B t.l[i] a' c' ∧ w.cell? ⟨b, o + i * 5, none⟩ = some (.int .u8 t.l[i].k) ∧ w.cell? ⟨b, o + i * 5 + 1, none⟩ = some (.int .i64 t.l[i].n) ∧
      w.cell? ⟨b, o + i * 5 + 2, none⟩ = some (.string t.l[i].s) ∧ w.cell? ⟨b, o + i * 5 + 3, none⟩ = some (.slice a' t.l[i].l.length c') ∧ w.cell? ⟨b, o + i * 5 + 4, none⟩ = some (.int .i64 t.l[i].r) := by
  obtain ⟨k, n, s, l, r⟩ := t
  exact T.In.elem h i hi

theorem T.wf_elem {t : T} (h : t.wf) (i : Nat) (hi : i < t.l.length) : t.l[i].wf := by
  obtain ⟨k, n, s, l, r⟩ := t
  rw [T.wf, T.wfs_iff] at h
  exact h.2 _ (List.getElem_mem hi)

theorem T.find_step (i : Int) (is : List Int) (t : T) (h0 : 0 ≤ i) (h1 : i.toNat < t.l.length) : T.find (i :: is) t = T.find is t.l[i.toNat] := by
  obtain ⟨k, n, s, l, r⟩ := t
  have h1' : i.toNat < l.length := h1
  rw [T.find, if_pos h0, List.getElem?_eq_getElem h1']
  rfl
theorem T.find_none (i : Int) (is : List Int) (t : T) (h : i < 0 ∨ (t.l.length : Int) ≤ i) : T.find (i :: is) t = none := by
  obtain ⟨k, n, s, l, r⟩ := t
  rw [T.find]
  by_cases h0 : 0 ≤ i
  · rw [if_pos h0, List.getElem?_eq_none]
    · rfl
    · rcases h with h | h
      · omega
      · simp only [T.l] at h; omega
  · rw [if_neg h0]

set_option maxRecDepth 100000 in
set_option maxHeartbeats 4000000 in
theorem find_walk (t : T) (p : List Int) (a : Option Addr) (c : Nat) (pa : Option Addr) (pc : Nat) (w : World) (B : Nat) (hin : T.At w B t a c) (hp : Ints w (· < B) p pa pc) (hB : B ≤ w.heap.size) (hw : t.wf) (hpl : p.length ≤ 1000000) :
    Calls Try.prog 81 #[t.val a c, .slice pa p.length pc] w (FindPost w B t p) := by
  have HB := Lib.hid hB
  unfold T.val
  go_enter Try.func81, Try.ntmps81
  go_wp2_with fail
  go_loopg [10] p.length (fun g vi wr => ∃ (i : Nat) (u : T) (ua : Option Addr) (uc : Nat), vi = .int .i64 i ∧ i + g = p.length ∧ Aside (T.find p t = T.find (p.drop i) u) ∧ T.At wr B u ua uc ∧ u.wf ∧
    Below w.heap.size w wr ∧ wr.heap[w.heap.size]? = some (.cells #[.int .u8 u.k, .int .i64 u.n, .string u.s, .slice ua u.l.length uc, .int .i64 u.r] 26 (0, 0)) ∧
    wr.heap[w.heap.size + 1]? = some (.cells #[.int .u8 0, .int .i64 0, .string ⟨#[]⟩, .slice none 0 0, .int .i64 0] 26 (0, 0)))
  case atStart => exact ⟨0, t, a, c, rfl, by simp, rfl, T.At.below ((Below.refl _ _).alloc (Nat.le_refl _) _ |>.alloc (by simp) _) hB hin, hw, ((Below.refl _ _).alloc (Nat.le_refl _) _).alloc (by simp) _, two_blk0 _ _ _, two_blk1 _ _ _⟩
  case round =>
    obtain ⟨i, u, ua, uc, rfl, hi, hs, hu, huw, hb, C0, C1⟩ := hrel
    obtain ⟨x0, x1, x2, x3, x4, y0, y1, y2, y3, y4⟩ := blk5 C0
    obtain ⟨z0, z1, z2, z3, z4, u0, u1, u2, u3, u4⟩ := blk5 C1
    clear hin hw
    by_cases h : i < p.length
    · obtain ⟨b, o, rfl, hbB, he⟩ := (Ints.below hb hB hp).elem i h
      have hd : Aside (p.drop i = p[i] :: p.drop (i + 1)) := List.drop_eq_getElem_cons h
      obtain ⟨q, hq⟩ : ∃ q, p[i] = q := ⟨_, rfl⟩
      rw [hq] at he hd
      clear hq
      by_cases hq : q < 0 ∨ (u.l.length : Int) ≤ q
      · have hn : T.find p t = none := by rw [hs.out, hd.out]; exact T.find_none _ _ _ hq
        have HN := Lib.hid hn
        clear hn hd hs hp
        by_cases hq0 : q < 0
        all_goals
          go_wp2_with fail
          obtain ⟨f1, f2, f3⟩ := fill5 (v0 := .int .u8 0) (v1 := .int .i64 0) (v2 := .string ⟨#[]⟩) (v3 := .slice none 0 0) (v4 := .int .i64 0) C1
          obtain ⟨g0, g1, g2, g3, g4, _⟩ := blk5 f1
          refine post_cell26b Try.results81 rfl rfl rfl g0 g1 g2 g3 g4 ⟨.inr ⟨HN.out, rfl⟩, hb.trans ⟨rfl, rfl, rfl, by rw [f3]; exact Nat.le_refl _, fun q hq => f2 q (by omega)⟩⟩
      · have hq1 : 0 ≤ q := by omega
        have hq2 : q < (u.l.length : Int) := by omega
        have hq3 : q.toNat < u.l.length := by omega
        clear hq
        obtain ⟨b', o', a', c', rfl, hbB', ht, e0, e1, e2, e3, e4⟩ := hu.elem' q.toNat hq3
        have hn : T.find p t = T.find (p.drop (i + 1)) u.l[q.toNat] := by rw [hs.out, hd.out]; exact T.find_step _ _ _ hq1 hq3
        have HN : Aside _ := hn
        clear hn hd hs hp
        have hsz := hb.size
        have HT := Lib.hid ht
        have HW := Lib.hid (T.wf_elem huw q.toNat hq3)
        clear ht huw hu
        go_wp2_with fail
        obtain ⟨f1, f2, f3⟩ := fill5 (v0 := .int .u8 u.l[q.toNat].k) (v1 := .int .i64 u.l[q.toNat].n) (v2 := .string u.l[q.toNat].s) (v3 := .slice a' u.l[q.toNat].l.length c') (v4 := .int .i64 u.l[q.toNat].r) C0
        have hz : w.heap.size < wr.heap.size := (Array.getElem?_eq_some_iff.1 C0).1
        go_roundg (gk - 1)
        case measure => omega
        case rel =>
          refine ⟨i + 1, u.l[q.toNat], a', c', by go_num, by omega, HN, T.In.keep (fun b hb => f2 b (by have := HB.out; omega)) (fun _ h => h) id HT.out, HW.out, ?_, f1, (f2 _ (by omega)).trans C1⟩
          exact hb.trans ⟨rfl, rfl, rfl, by rw [f3]; exact Nat.le_refl _, fun q hq => f2 q (by omega)⟩
    · have hn : T.find p t = some u := by rw [hs.out, List.drop_of_length_le (by omega), T.find]
      have HN := Lib.hid hn
      clear hn hs hp
      have HU := Lib.hid hu
      have HW := Lib.hid huw
      clear hu huw
      go_wp2_with fail
      obtain ⟨f1, f2, f3⟩ := fill5 (v0 := .int .u8 u.k) (v1 := .int .i64 u.n) (v2 := .string u.s) (v3 := .slice ua u.l.length uc) (v4 := .int .i64 u.r) C1
      obtain ⟨g0, g1, g2, g3, g4, _⟩ := blk5 f1
      refine post_cell26b Try.results81 rfl rfl rfl g0 g1 g2 g3 g4 ⟨.inl ⟨u, ua, uc, HN.out, T.In.keep (fun b hb => f2 b (by have := HB.out; omega)) (fun _ h => h) id HU.out, HW.out, rfl⟩, hb.trans ⟨rfl, rfl, rfl, by rw [f3]; exact Nat.le_refl _, fun q hq => f2 q (by omega)⟩⟩

end Go.Proofs.Ytapfmfihhpafcaa
