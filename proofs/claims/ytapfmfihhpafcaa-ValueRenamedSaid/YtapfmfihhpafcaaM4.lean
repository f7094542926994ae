/-
  A region that draws its order, by what holds of each operation taken; two values lent; a list of numbers copied.
-/
import Derived.Test.YtapfmfihhpafcaaBase
import Derived.RegionTactic
import Derived.Test.YtapfmfihhpafcaaD5
import Derived.Outline
import Derived.Test.YtapfmfihhpafcaaD9
namespace Go.Proofs.Ytapfmfihhpafcaa
open Go.RowKit
set_option linter.unusedVariables false

theorem filt_set : ∀ (l : List Bool) (i : Nat), l[i]? = some false → ((l.set i true).filter (!·)).length + 1 = (l.filter (!·)).length
  | [], i, h => by simp at h
  | b :: bs, 0, h => by
    simp at h
    subst h
    simp
  | b :: bs, i + 1, h => by
    have ih := filt_set bs i (by simpa using h)
    rw [List.set_cons_succ]
    cases b <;> simp <;> omega

theorem filt_none : ∀ (l : List Bool), (l.filter (!·)).length = 0 → ∀ (i : Nat) (b : Bool), l[i]? = some b → b = true
  | [], _, i, b, h => by simp at h
  | x :: xs, h0, i, b, h => by
    cases x
    · simp at h0
    · cases i with
      | zero => simp at h; exact h
      | succ i => exact filt_none xs (by simpa using h0) i b (by simpa using h)

theorem ready_at {md : Region.Mode} {ops : Array Oper} {l : Array Bool} {i : Nat} (h : i ∈ Region.ready md ops l) : i < ops.size ∧ l.getD i true = false ∧ ∀ o, ops[i]? = some o → ∀ e ∈ o.after, Region.binds md e = true → l.getD e.on false = true := by
  unfold Region.ready at h
  rw [List.mem_filter, List.mem_range, Bool.and_eq_true] at h
  obtain ⟨h1, h2, h3⟩ := h
  refine ⟨h1, by simpa using h2, fun o ho e he hb => ?_⟩
  rw [ho] at h3
  simp only [Option.map_some, Option.getD_some, Array.all_eq_true_iff_forall_mem] at h3
  have := h3 e he
  rw [hb] at this
  simpa using this

theorem ready_none {md : Region.Mode} {ops : Array Oper} (hord : ∀ (i : Nat) (o : Oper), ops[i]? = some o → ∀ e ∈ o.after, e.on < i) {l : Array Bool} (hs : l.size = ops.size) (h : Region.ready md ops l = []) : ∀ i, i < ops.size → l.getD i false = true := by
  intro i
  induction i using Nat.strongRecOn with
  | ind i ih =>
    intro hi
    have hno : i ∉ Region.ready md ops l := by rw [h]; simp
    have ho : ops[i]? = some ops[i] := Array.getElem?_eq_getElem hi
    unfold Region.ready at hno
    rw [List.mem_filter, List.mem_range, Bool.and_eq_true, ho] at hno
    simp only [Option.map_some, Option.getD_some, Array.all_eq_true_iff_forall_mem] at hno
    have hall : ∀ e ∈ (ops[i]).after, (!Region.binds md e || l.getD e.on false) = true := fun e he => by
      have h1 := hord i _ ho e he
      rw [ih e.on h1 (by omega)]
      simp
    have h2 : ¬ (!l.getD i true) = true := fun hc => hno ⟨hi, hc, hall⟩
    rw [Array.getD_eq_getD_getElem?, Array.getElem?_eq_getElem (by omega), Option.getD_some] at h2 ⊢
    simpa using h2

theorem ord_of {ops : Array Oper} (h : ((List.range ops.size).all fun i => ((ops[i]?).map (·.after.all (·.on < i))).getD true) = true) : ∀ (i : Nat) (o : Oper), ops[i]? = some o → ∀ e ∈ o.after, e.on < i := fun i o ho e he => by
  have h1 := List.all_eq_true.1 h i (List.mem_range.2 (Array.getElem?_eq_some_iff.1 ho).1)
  rw [ho, Option.map_some, Option.getD_some, Array.all_eq_true_iff_forall_mem] at h1
  simpa using h1 e he

theorem getD_set {l : Array Bool} {i k : Nat} (hi : i < l.size) : (l.setIfInBounds i true).getD k false = true ↔ (k = i ∨ l.getD k false = true) := by
  rw [Array.getD_eq_getD_getElem?, Array.getD_eq_getD_getElem?, Array.getElem?_setIfInBounds]
  by_cases h : i = k
  · subst h; simp [hi]
  · rw [if_neg h]
    constructor
    · exact .inr
    · rintro (h' | h')
      · exact absurd h'.symm h
      · exact h'

/-- What has been taken, has been taken behind what it waits for. -/
def Closed (md : Region.Mode) (ops : Array Oper) (l : Array Bool) : Prop := ∀ (k : Nat) (o : Oper), ops[k]? = some o → l.getD k false = true → ∀ e ∈ o.after, Region.binds md e = true → l.getD e.on false = true
theorem Closed.start (md : Region.Mode) (ops : Array Oper) (n : Nat) : Closed md ops (Array.replicate n false) := fun k o _ h => by
  rw [Array.getD_eq_getD_getElem?, Array.getElem?_replicate] at h
  split at h <;> simp at h
theorem Closed.set {md : Region.Mode} {ops : Array Oper} {l : Array Bool} {i : Nat} (hs : l.size = ops.size) (h : Closed md ops l) (hi : i ∈ Region.ready md ops l) : Closed md ops (l.setIfInBounds i true) := fun k o ho hk e he hb => by
  have h1 := ready_at hi
  refine (getD_set (by omega)).2 (.inr ?_)
  rcases (getD_set (by omega)).1 hk with rfl | hk
  · exact h1.2.2 o ho e he hb
  · exact h k o ho hk e he hb

theorem wpAny_inv {P : Program} {md : Region.Mode} {ops : Array Oper} {Q : Exit → Act → World → Prop} (Inv : Array Bool → Act → World → Prop)
    (hdone : ∀ l a w, l.size = ops.size → (∀ i, i < ops.size → l.getD i false = true) → Inv l a w → Q .normal a w)
    (hord : ∀ (i : Nat) (o : Oper), ops[i]? = some o → ∀ e ∈ o.after, e.on < i)
    (hstep : ∀ l a w i, l.size = ops.size → Closed md ops l → i ∈ Region.ready md ops l → Inv l a w → wpOp P ops Q i (Inv (l.setIfInBounds i true)) a w) :
    ∀ (fuel : Nat) (l : Array Bool) (a : Act) (w : World), l.size = ops.size → (l.toList.filter (!·)).length ≤ fuel → Closed md ops l → Inv l a w → wpAny P md ops Q fuel l a w := by
  intro fuel
  induction fuel with
  | zero =>
    intro l a w hs hf hc hi
    have hall : ∀ i, i < ops.size → l.getD i false = true := fun i hi' => by
      have hb : l.toList[i]? = some (l[i]'(by omega)) := by rw [Array.getElem?_toList]; exact Array.getElem?_eq_getElem _
      have := filt_none l.toList (by omega) i _ hb
      rw [Array.getD_eq_getD_getElem?, Array.getElem?_eq_getElem (by omega)]
      exact this
    refine ⟨?_, hdone l a w hs hall hi⟩
    rw [List.eq_nil_iff_forall_not_mem]
    intro i hm
    have h1 := ready_at hm
    have h2 := hall i h1.1
    have h3 := h1.2.1
    rw [Array.getD_eq_getD_getElem?, Array.getElem?_eq_getElem (by omega)] at h2 h3
    rw [Option.getD_some] at h2 h3
    rw [h2] at h3
    cases h3
  | succ fuel ih =>
    intro l a w hs hf hc hi
    refine ⟨fun hr => hdone l a w hs (ready_none hord hs hr) hi, fun i hm => ?_⟩
    have h1 := ready_at hm
    refine wpOp_mono (fun a w h => ih _ a w (by rw [Array.size_setIfInBounds]; exact hs) ?_ (hc.set hs hm) h) (hstep l a w i hs hc hm hi)
    have h3 := h1.2.1
    rw [Array.getD_eq_getD_getElem?, Array.getElem?_eq_getElem (by omega), Option.getD_some] at h3
    have h4 := filt_set l.toList i (by rw [Array.getElem?_toList, Array.getElem?_eq_getElem (by omega), h3])
    rw [Array.toList_setIfInBounds]
    omega

theorem wpOp_of {P : Program} {ops : Array Oper} {Q : Exit → Act → World → Prop} {i : Nat} {o : Oper} {K : Act → World → Prop} {a : Act} {w : World} (ho : ops[i]? = some o)
    (h : if Region.wanted o (yielded ops a.tmps) = true then Oper.wp P o a w K Q else K (a.put o.dst undef) w) : wpOp P ops Q i K a w := by
  unfold wpOp
  rw [ho]
  by_cases hw : Region.wanted o (yielded ops a.tmps) = true
  · rw [if_pos hw] at h
    simp only [hw, if_true]
    exact .inl h
  · rw [if_neg hw] at h
    simp only [hw]
    exact h

/-- The act of the law, six of its slots open. -/
def P6 (T0 : Array Value) (D0 : List Deferred) (v31 v32 v33 v34 v7 v8 : Value) : Act := { tmps := (((((T0.setIfInBounds 31 v31).setIfInBounds 32 v32).setIfInBounds 33 v33).setIfInBounds 34 v34).setIfInBounds 7 v7).setIfInBounds 8 v8, defers := D0 }

section
variable {T0 : Array Value} {D0 : List Deferred} {v31 v32 v33 v34 v7 v8 : Value}
theorem P6_put (v : Value) :
    (P6 T0 D0 v31 v32 v33 v34 v7 v8).put (some 31) v = P6 T0 D0 v v32 v33 v34 v7 v8 ∧ (P6 T0 D0 v31 v32 v33 v34 v7 v8).put (some 32) v = P6 T0 D0 v31 v v33 v34 v7 v8 ∧ (P6 T0 D0 v31 v32 v33 v34 v7 v8).put (some 33) v = P6 T0 D0 v31 v32 v v34 v7 v8 ∧
    (P6 T0 D0 v31 v32 v33 v34 v7 v8).put (some 34) v = P6 T0 D0 v31 v32 v33 v v7 v8 ∧ (P6 T0 D0 v31 v32 v33 v34 v7 v8).put (some 7) v = P6 T0 D0 v31 v32 v33 v34 v v8 ∧ (P6 T0 D0 v31 v32 v33 v34 v7 v8).put (some 8) v = P6 T0 D0 v31 v32 v33 v34 v7 v := by
  unfold P6
  refine ⟨?_, ?_, ?_, ?_, ?_, ?_⟩
  all_goals
    simp only [Act.put, Act.mk.injEq, and_true]
    apply Array.ext_getElem?
    intro i
    simp only [Array.getElem?_setIfInBounds, Array.size_setIfInBounds]
  · by_cases h : 31 = i
    · subst h; simp
    · simp [h]
  · by_cases h : 32 = i
    · subst h; simp
    · simp [h]
  · by_cases h : 33 = i
    · subst h; simp
    · simp [h]
  · by_cases h : 34 = i
    · subst h; simp
    · simp [h]
  · by_cases h : 7 = i
    · subst h; simp
    · simp [h]
  · by_cases h : 8 = i
    · subst h; simp
    · simp [h]

theorem P6_get (hz : 34 < T0.size) :
    (P6 T0 D0 v31 v32 v33 v34 v7 v8).tmps.getD 31 undef = v31 ∧ (P6 T0 D0 v31 v32 v33 v34 v7 v8).tmps.getD 32 undef = v32 ∧ (P6 T0 D0 v31 v32 v33 v34 v7 v8).tmps.getD 33 undef = v33 ∧
    (P6 T0 D0 v31 v32 v33 v34 v7 v8).tmps.getD 34 undef = v34 ∧ (P6 T0 D0 v31 v32 v33 v34 v7 v8).tmps.getD 7 undef = v7 ∧ (P6 T0 D0 v31 v32 v33 v34 v7 v8).tmps.getD 8 undef = v8 ∧
    (P6 T0 D0 v31 v32 v33 v34 v7 v8).tmps.getD 3 undef = T0.getD 3 undef ∧ (P6 T0 D0 v31 v32 v33 v34 v7 v8).tmps.getD 4 undef = T0.getD 4 undef := by
  unfold P6
  have h1 : 31 < T0.size := by omega
  have h2 : 32 < T0.size := by omega
  have h3 : 33 < T0.size := by omega
  have h7 : 7 < T0.size := by omega
  have h8 : 8 < T0.size := by omega
  simp only [Array.getD_eq_getD_getElem?, Array.getElem?_setIfInBounds, Array.size_setIfInBounds]
  simp [hz, h1, h2, h3, h7, h8]
end

/-- What holds of the operations that have been taken. -/
def LentInv (w1 : World) (t v : T) (ta : Option Addr) (tc : Nat) (va : Option Addr) (vc : Nat) (T0 : Array Value) (D0 : List Deferred) (l : Array Bool) (a : Act) (W : World) : Prop :=
  ∃ (b7 b8 lo4 hi4 lo5 hi5 : Nat) (a4 a5 : Option Addr) (c4 c5 : Nat) (v31 v32 v33 v34 v7 v8 : Value), a = P6 T0 D0 v31 v32 v33 v34 v7 v8 ∧ Below w1.heap.size w1 W ∧
    (l.getD 0 false = true → v31 = t.val ta tc) ∧ (l.getD 2 false = true → v33 = v.val va vc) ∧
    (l.getD 1 false = true → v32 = t.val a4 c4 ∧ T.In W (fun b => lo4 ≤ b ∧ b < hi4) true t a4 c4 ∧ w1.heap.size ≤ lo4 ∧ hi4 ≤ W.heap.size ∧ (l.getD 4 false = true → ¬ (lo4 ≤ b7 ∧ b7 < hi4)) ∧ (l.getD 5 false = true → ¬ (lo4 ≤ b8 ∧ b8 < hi4))) ∧
    (l.getD 3 false = true → v34 = v.val a5 c5 ∧ T.In W (fun b => lo5 ≤ b ∧ b < hi5) true v a5 c5 ∧ w1.heap.size ≤ lo5 ∧ hi5 ≤ W.heap.size ∧ (l.getD 4 false = true → ¬ (lo5 ≤ b7 ∧ b7 < hi5)) ∧ (l.getD 5 false = true → ¬ (lo5 ≤ b8 ∧ b8 < hi5))) ∧
    (l.getD 4 false = true → v7 = .pointer (some ⟨b7, 0, none⟩) ∧ w1.heap.size ≤ b7 ∧ b7 < W.heap.size ∧ (∃ u0 u1 u2 u3 u4, W.heap[b7]? = some (.cells #[u0, u1, u2, u3, u4] 26 (0, 0))) ∧ (l.getD 5 false = true → b7 ≠ b8) ∧ (l.getD 6 false = true → W.heap[b7]? = some (.cells #[.int .u8 t.k, .int .i64 t.n, .string t.s, .slice a4 t.l.length c4, .int .i64 t.r] 26 (0, 0)))) ∧
    (l.getD 5 false = true → v8 = .pointer (some ⟨b8, 0, none⟩) ∧ w1.heap.size ≤ b8 ∧ b8 < W.heap.size ∧ (∃ u0 u1 u2 u3 u4, W.heap[b8]? = some (.cells #[u0, u1, u2, u3, u4] 26 (0, 0))) ∧ (l.getD 7 false = true → W.heap[b8]? = some (.cells #[.int .u8 v.k, .int .i64 v.n, .string v.s, .slice a5 v.l.length c5, .int .i64 v.r] 26 (0, 0))))

section
variable {w1 : World} {t v : T} {ta : Option Addr} {tc : Nat} {va : Option Addr} {vc : Nat} {T0 : Array Value} {D0 : List Deferred} {l : Array Bool} {W : World}

theorem getD_old {i k : Nat} (hi : i < l.size) (hk : k ≠ i) (h : (l.setIfInBounds i true).getD k false = true) : l.getD k false = true := ((getD_set hi).1 h).resolve_left hk

/-- The world grows, all else is as it was. -/
theorem LentInv.load0 (hs : l.size = 8) {a : Act} (h : LentInv w1 t v ta tc va vc T0 D0 l a W) : LentInv w1 t v ta tc va vc T0 D0 (l.setIfInBounds 0 true) (a.put (some 31) (t.val ta tc)) W := by
  obtain ⟨b7, b8, lo4, hi4, lo5, hi5, a4, a5, c4, c5, v31, v32, v33, v34, v7, v8, rfl, hb, h0, h2, h1, h3, h4, h5⟩ := h
  have o : ∀ k, k ≠ 0 → (l.setIfInBounds 0 true).getD k false = true → l.getD k false = true := fun k hk h => getD_old (by omega) hk h
  refine ⟨b7, b8, lo4, hi4, lo5, hi5, a4, a5, c4, c5, t.val ta tc, v32, v33, v34, v7, v8, (P6_put _).1, hb, fun _ => rfl, fun h => h2 (o 2 (by decide) h), fun h => ?_, fun h => ?_, fun h => ?_, fun h => ?_⟩
  · obtain ⟨g1, g2, g3, g4, g5, g6⟩ := h1 (o 1 (by decide) h)
    exact ⟨g1, g2, g3, g4, fun h => g5 (o 4 (by decide) h), fun h => g6 (o 5 (by decide) h)⟩
  · obtain ⟨g1, g2, g3, g4, g5, g6⟩ := h3 (o 3 (by decide) h)
    exact ⟨g1, g2, g3, g4, fun h => g5 (o 4 (by decide) h), fun h => g6 (o 5 (by decide) h)⟩
  · obtain ⟨g1, g2, g3, g4, g5, g6⟩ := h4 (o 4 (by decide) h)
    exact ⟨g1, g2, g3, g4, fun h => g5 (o 5 (by decide) h), fun h => g6 (o 6 (by decide) h)⟩
  · obtain ⟨g1, g2, g3, g4, g6⟩ := h5 (o 5 (by decide) h)
    exact ⟨g1, g2, g3, g4, fun h => g6 (o 7 (by decide) h)⟩
theorem LentInv.load2 (hs : l.size = 8) {a : Act} (h : LentInv w1 t v ta tc va vc T0 D0 l a W) : LentInv w1 t v ta tc va vc T0 D0 (l.setIfInBounds 2 true) (a.put (some 33) (v.val va vc)) W := by
  obtain ⟨b7, b8, lo4, hi4, lo5, hi5, a4, a5, c4, c5, v31, v32, v33, v34, v7, v8, rfl, hb, h0, h2, h1, h3, h4, h5⟩ := h
  have o : ∀ k, k ≠ 2 → (l.setIfInBounds 2 true).getD k false = true → l.getD k false = true := fun k hk h => getD_old (by omega) hk h
  refine ⟨b7, b8, lo4, hi4, lo5, hi5, a4, a5, c4, c5, v31, v32, v.val va vc, v34, v7, v8, (P6_put _).2.2.1, hb, fun h => h0 (o 0 (by decide) h), fun _ => rfl, fun h => ?_, fun h => ?_, fun h => ?_, fun h => ?_⟩
  · obtain ⟨g1, g2, g3, g4, g5, g6⟩ := h1 (o 1 (by decide) h)
    exact ⟨g1, g2, g3, g4, fun h => g5 (o 4 (by decide) h), fun h => g6 (o 5 (by decide) h)⟩
  · obtain ⟨g1, g2, g3, g4, g5, g6⟩ := h3 (o 3 (by decide) h)
    exact ⟨g1, g2, g3, g4, fun h => g5 (o 4 (by decide) h), fun h => g6 (o 5 (by decide) h)⟩
  · obtain ⟨g1, g2, g3, g4, g5, g6⟩ := h4 (o 4 (by decide) h)
    exact ⟨g1, g2, g3, g4, fun h => g5 (o 5 (by decide) h), fun h => g6 (o 6 (by decide) h)⟩
  · obtain ⟨g1, g2, g3, g4, g6⟩ := h5 (o 5 (by decide) h)
    exact ⟨g1, g2, g3, g4, fun h => g6 (o 7 (by decide) h)⟩

/-- The first value is lent. -/
theorem LentInv.call1 (hs : l.size = 8) (h6 : l.getD 6 false = false) {a : Act} (h : LentInv w1 t v ta tc va vc T0 D0 l a W) {W' : World} {a4 : Option Addr} {c4 : Nat} (hi' : T.In W' (New W.heap.size W') true t a4 c4) (hb' : Below W.heap.size W W') :
    LentInv w1 t v ta tc va vc T0 D0 (l.setIfInBounds 1 true) (a.put (some 32) (t.val a4 c4)) W' := by
  obtain ⟨b7, b8, lo4, hi4, lo5, hi5, _, a5, _, c5, v31, v32, v33, v34, v7, v8, rfl, hb, h0, h2, h1, h3, h4, h5⟩ := h
  have o : ∀ k, k ≠ 1 → (l.setIfInBounds 1 true).getD k false = true → l.getD k false = true := fun k hk h => getD_old (by omega) hk h
  have hz := hb.size
  have hz' := hb'.size
  refine ⟨b7, b8, W.heap.size, W'.heap.size, lo5, hi5, a4, a5, c4, c5, v31, t.val a4 c4, v33, v34, v7, v8, (P6_put _).2.1, hb.trans (hb'.mono hz), fun h => h0 (o 0 (by decide) h), fun h => h2 (o 2 (by decide) h), fun h => ?_, fun h => ?_, fun h => ?_, fun h => ?_⟩
  · refine ⟨rfl, hi', hz, Nat.le_refl _, fun h => ?_, fun h => ?_⟩
    · obtain ⟨_, _, g3, _⟩ := h4 (o 4 (by decide) h); omega
    · obtain ⟨_, _, g3, _⟩ := h5 (o 5 (by decide) h); omega
  · obtain ⟨g1, g2, g3, g4, g5, g6⟩ := h3 (o 3 (by decide) h)
    exact ⟨g1, T.In.keep (fun b hb => hb'.block b (by omega)) (fun _ h => h) id g2, g3, by omega, fun h => g5 (o 4 (by decide) h), fun h => g6 (o 5 (by decide) h)⟩
  · obtain ⟨g1, g2, g3, ⟨u0, u1, u2, u3, u4, g4⟩, g5, g6⟩ := h4 (o 4 (by decide) h)
    exact ⟨g1, g2, by omega, ⟨u0, u1, u2, u3, u4, (hb'.block _ g3).trans g4⟩, fun h => g5 (o 5 (by decide) h), fun h => by rw [o 6 (by decide) h] at h6; cases h6⟩
  · obtain ⟨g1, g2, g3, ⟨u0, u1, u2, u3, u4, g4⟩, g6⟩ := h5 (o 5 (by decide) h)
    exact ⟨g1, g2, by omega, ⟨u0, u1, u2, u3, u4, (hb'.block _ g3).trans g4⟩, fun h => (hb'.block _ g3).trans (g6 (o 7 (by decide) h))⟩
/-- The second value is lent. -/
theorem LentInv.call3 (hs : l.size = 8) (h7 : l.getD 7 false = false) {a : Act} (h : LentInv w1 t v ta tc va vc T0 D0 l a W) {W' : World} {a5 : Option Addr} {c5 : Nat} (hi' : T.In W' (New W.heap.size W') true v a5 c5) (hb' : Below W.heap.size W W') :
    LentInv w1 t v ta tc va vc T0 D0 (l.setIfInBounds 3 true) (a.put (some 34) (v.val a5 c5)) W' := by
  obtain ⟨b7, b8, lo4, hi4, lo5, hi5, a4, _, c4, _, v31, v32, v33, v34, v7, v8, rfl, hb, h0, h2, h1, h3, h4, h5⟩ := h
  have o : ∀ k, k ≠ 3 → (l.setIfInBounds 3 true).getD k false = true → l.getD k false = true := fun k hk h => getD_old (by omega) hk h
  have hz := hb.size
  have hz' := hb'.size
  refine ⟨b7, b8, lo4, hi4, W.heap.size, W'.heap.size, a4, a5, c4, c5, v31, v32, v33, v.val a5 c5, v7, v8, (P6_put _).2.2.2.1, hb.trans (hb'.mono hz), fun h => h0 (o 0 (by decide) h), fun h => h2 (o 2 (by decide) h), fun h => ?_, fun h => ?_, fun h => ?_, fun h => ?_⟩
  · obtain ⟨g1, g2, g3, g4, g5, g6⟩ := h1 (o 1 (by decide) h)
    exact ⟨g1, T.In.keep (fun b hb => hb'.block b (by omega)) (fun _ h => h) id g2, g3, by omega, fun h => g5 (o 4 (by decide) h), fun h => g6 (o 5 (by decide) h)⟩
  · refine ⟨rfl, hi', hz, Nat.le_refl _, fun h => ?_, fun h => ?_⟩
    · obtain ⟨_, _, g3, _⟩ := h4 (o 4 (by decide) h); omega
    · obtain ⟨_, _, g3, _⟩ := h5 (o 5 (by decide) h); omega
  · obtain ⟨g1, g2, g3, ⟨u0, u1, u2, u3, u4, g4⟩, g5, g6⟩ := h4 (o 4 (by decide) h)
    exact ⟨g1, g2, by omega, ⟨u0, u1, u2, u3, u4, (hb'.block _ g3).trans g4⟩, fun h => g5 (o 5 (by decide) h), fun h => (hb'.block _ g3).trans (g6 (o 6 (by decide) h))⟩
  · obtain ⟨g1, g2, g3, ⟨u0, u1, u2, u3, u4, g4⟩, g6⟩ := h5 (o 5 (by decide) h)
    exact ⟨g1, g2, by omega, ⟨u0, u1, u2, u3, u4, (hb'.block _ g3).trans g4⟩, fun h => by rw [o 7 (by decide) h] at h7; cases h7⟩

/-- The first block is made. -/
theorem LentInv.box4 (hs : l.size = 8) (h6 : l.getD 6 false = false) {a : Act} (h : LentInv w1 t v ta tc va vc T0 D0 l a W) (u0 u1 u2 u3 u4 : Value) :
    LentInv w1 t v ta tc va vc T0 D0 (l.setIfInBounds 4 true) (a.put (some 7) (.pointer (some ⟨W.heap.size, 0, none⟩))) (W.alloc (.cells #[u0, u1, u2, u3, u4] 26 (0, 0))) := by
  obtain ⟨b7, b8, lo4, hi4, lo5, hi5, a4, a5, c4, c5, v31, v32, v33, v34, v7, v8, rfl, hb, h0, h2, h1, h3, h4, h5⟩ := h
  have o : ∀ k, k ≠ 4 → (l.setIfInBounds 4 true).getD k false = true → l.getD k false = true := fun k hk h => getD_old (by omega) hk h
  have hz := hb.size
  have hb' : Below W.heap.size W (W.alloc (.cells #[u0, u1, u2, u3, u4] 26 (0, 0))) := (Below.refl _ _).alloc (Nat.le_refl _) _
  refine ⟨W.heap.size, b8, lo4, hi4, lo5, hi5, a4, a5, c4, c5, v31, v32, v33, v34, _, v8, (P6_put _).2.2.2.2.1, hb.trans (hb'.mono hz), fun h => h0 (o 0 (by decide) h), fun h => h2 (o 2 (by decide) h), fun h => ?_, fun h => ?_, fun h => ?_, fun h => ?_⟩
  · obtain ⟨g1, g2, g3, g4, g5, g6⟩ := h1 (o 1 (by decide) h)
    exact ⟨g1, T.In.keep (fun b hb => hb'.block b (by omega)) (fun _ h => h) id g2, g3, by simp; omega, fun h => by omega, fun h => g6 (o 5 (by decide) h)⟩
  · obtain ⟨g1, g2, g3, g4, g5, g6⟩ := h3 (o 3 (by decide) h)
    exact ⟨g1, T.In.keep (fun b hb => hb'.block b (by omega)) (fun _ h => h) id g2, g3, by simp; omega, fun h => by omega, fun h => g6 (o 5 (by decide) h)⟩
  · exact ⟨rfl, hz, by simp, ⟨u0, u1, u2, u3, u4, blk_new _ _⟩, fun h => by obtain ⟨_, _, g3, _⟩ := h5 (o 5 (by decide) h); omega, fun h => by rw [o 6 (by decide) h] at h6; cases h6⟩
  · obtain ⟨g1, g2, g3, ⟨u0', u1', u2', u3', u4', g4⟩, g6⟩ := h5 (o 5 (by decide) h)
    exact ⟨g1, g2, by simp; omega, ⟨u0', u1', u2', u3', u4', (hb'.block _ g3).trans g4⟩, fun h => (hb'.block _ g3).trans (g6 (o 7 (by decide) h))⟩
/-- The second block is made. -/
theorem LentInv.box5 (hs : l.size = 8) (h7 : l.getD 7 false = false) {a : Act} (h : LentInv w1 t v ta tc va vc T0 D0 l a W) (u0 u1 u2 u3 u4 : Value) :
    LentInv w1 t v ta tc va vc T0 D0 (l.setIfInBounds 5 true) (a.put (some 8) (.pointer (some ⟨W.heap.size, 0, none⟩))) (W.alloc (.cells #[u0, u1, u2, u3, u4] 26 (0, 0))) := by
  obtain ⟨b7, b8, lo4, hi4, lo5, hi5, a4, a5, c4, c5, v31, v32, v33, v34, v7, v8, rfl, hb, h0, h2, h1, h3, h4, h5⟩ := h
  have o : ∀ k, k ≠ 5 → (l.setIfInBounds 5 true).getD k false = true → l.getD k false = true := fun k hk h => getD_old (by omega) hk h
  have hz := hb.size
  have hb' : Below W.heap.size W (W.alloc (.cells #[u0, u1, u2, u3, u4] 26 (0, 0))) := (Below.refl _ _).alloc (Nat.le_refl _) _
  refine ⟨b7, W.heap.size, lo4, hi4, lo5, hi5, a4, a5, c4, c5, v31, v32, v33, v34, v7, _, (P6_put _).2.2.2.2.2, hb.trans (hb'.mono hz), fun h => h0 (o 0 (by decide) h), fun h => h2 (o 2 (by decide) h), fun h => ?_, fun h => ?_, fun h => ?_, fun h => ?_⟩
  · obtain ⟨g1, g2, g3, g4, g5, g6⟩ := h1 (o 1 (by decide) h)
    exact ⟨g1, T.In.keep (fun b hb => hb'.block b (by omega)) (fun _ h => h) id g2, g3, by simp; omega, fun h => g5 (o 4 (by decide) h), fun h => by omega⟩
  · obtain ⟨g1, g2, g3, g4, g5, g6⟩ := h3 (o 3 (by decide) h)
    exact ⟨g1, T.In.keep (fun b hb => hb'.block b (by omega)) (fun _ h => h) id g2, g3, by simp; omega, fun h => g5 (o 4 (by decide) h), fun h => by omega⟩
  · obtain ⟨g1, g2, g3, ⟨u0', u1', u2', u3', u4', g4⟩, g5, g6⟩ := h4 (o 4 (by decide) h)
    exact ⟨g1, g2, by simp; omega, ⟨u0', u1', u2', u3', u4', (hb'.block _ g3).trans g4⟩, fun _ => by omega, fun h => (hb'.block _ g3).trans (g6 (o 6 (by decide) h))⟩
  · exact ⟨rfl, hz, by simp, ⟨u0, u1, u2, u3, u4, blk_new _ _⟩, fun h => by rw [o 7 (by decide) h] at h7; cases h7⟩

theorem LentInv.get3 (hT : 34 < T0.size) {a : Act} (h : LentInv w1 t v ta tc va vc T0 D0 l a W) : Below w1.heap.size w1 W ∧ a.tmps.getD 3 undef = T0.getD 3 undef ∧ a.tmps.getD 4 undef = T0.getD 4 undef ∧
    (l.getD 0 false = true → a.tmps.getD 31 undef = t.val ta tc) ∧ (l.getD 2 false = true → a.tmps.getD 33 undef = v.val va vc) := by
  obtain ⟨b7, b8, lo4, hi4, lo5, hi5, a4, a5, c4, c5, v31, v32, v33, v34, v7, v8, rfl, hb, h0, h2, h1, h3, h4, h5⟩ := h
  obtain ⟨e31, e32, e33, e34, e7, e8, e3, e4⟩ := P6_get (T0 := T0) (D0 := D0) (v31 := v31) (v32 := v32) (v33 := v33) (v34 := v34) (v7 := v7) (v8 := v8) hT
  exact ⟨hb, e3, e4, fun h => e31.trans (h0 h), fun h => e33.trans (h2 h)⟩

/-- The first store. -/
theorem LentInv.store6 (hT : 34 < T0.size) (hs : l.size = 8) (l1 : l.getD 1 false = true) (l4 : l.getD 4 false = true) {a : Act} (h : LentInv w1 t v ta tc va vc T0 D0 l a W) :
    ∃ b7 a4 c4 u0 u1 u2 u3 u4, a.tmps.getD 7 undef = .pointer (some ⟨b7, 0, none⟩) ∧ a.tmps.getD 32 undef = t.val a4 c4 ∧ W.heap[b7]? = some (.cells #[u0, u1, u2, u3, u4] 26 (0, 0)) ∧
      ∀ W', Put W b7 #[.int .u8 t.k, .int .i64 t.n, .string t.s, .slice a4 t.l.length c4, .int .i64 t.r] W' → LentInv w1 t v ta tc va vc T0 D0 (l.setIfInBounds 6 true) a W' := by
  obtain ⟨b7, b8, lo4, hi4, lo5, hi5, a4, a5, c4, c5, v31, v32, v33, v34, v7, v8, rfl, hb, h0, h2, h1, h3, h4, h5⟩ := h
  obtain ⟨e31, e32, e33, e34, e7, e8, e3, e4⟩ := P6_get (T0 := T0) (D0 := D0) (v31 := v31) (v32 := v32) (v33 := v33) (v34 := v34) (v7 := v7) (v8 := v8) hT
  have o : ∀ k, k ≠ 6 → (l.setIfInBounds 6 true).getD k false = true → l.getD k false = true := fun k hk h => getD_old (by omega) hk h
  obtain ⟨p1, p2, p3, ⟨u0, u1, u2, u3, u4, p4⟩, p5, p6⟩ := h4 l4
  refine ⟨b7, a4, c4, u0, u1, u2, u3, u4, e7.trans p1, e32.trans (h1 l1).1, p4, fun W' hP => ?_⟩
  have hz := hP.size
  refine ⟨b7, b8, lo4, hi4, lo5, hi5, a4, a5, c4, c5, v31, v32, v33, v34, v7, v8, rfl, hb.trans (hP.below p2), fun h => h0 (o 0 (by decide) h), fun h => h2 (o 2 (by decide) h), fun h => ?_, fun h => ?_, fun h => ?_, fun h => ?_⟩
  · obtain ⟨g1, g2, g3, g4, g5, g6⟩ := h1 (o 1 (by decide) h)
    exact ⟨g1, T.In.keep (fun b hb => hP.other b (fun e => g5 l4 (by subst e; exact hb))) (fun _ h => h) id g2, g3, by omega, fun h => g5 (o 4 (by decide) h), fun h => g6 (o 5 (by decide) h)⟩
  · obtain ⟨g1, g2, g3, g4, g5, g6⟩ := h3 (o 3 (by decide) h)
    exact ⟨g1, T.In.keep (fun b hb => hP.other b (fun e => g5 l4 (by subst e; exact hb))) (fun _ h => h) id g2, g3, by omega, fun h => g5 (o 4 (by decide) h), fun h => g6 (o 5 (by decide) h)⟩
  · exact ⟨p1, p2, by omega, ⟨_, _, _, _, _, hP.at_⟩, fun h => p5 (o 5 (by decide) h), fun _ => hP.at_⟩
  · obtain ⟨g1, g2, g3, ⟨u0', u1', u2', u3', u4', g4⟩, g6⟩ := h5 (o 5 (by decide) h)
    have hne : b8 ≠ b7 := fun e => p5 (o 5 (by decide) h) e.symm
    exact ⟨g1, g2, by omega, ⟨u0', u1', u2', u3', u4', (hP.other _ hne).trans g4⟩, fun h => (hP.other _ hne).trans (g6 (o 7 (by decide) h))⟩
/-- The second store. -/
theorem LentInv.store7 (hT : 34 < T0.size) (hs : l.size = 8) (l3 : l.getD 3 false = true) (l5 : l.getD 5 false = true) {a : Act} (h : LentInv w1 t v ta tc va vc T0 D0 l a W) :
    ∃ b8 a5 c5 u0 u1 u2 u3 u4, a.tmps.getD 8 undef = .pointer (some ⟨b8, 0, none⟩) ∧ a.tmps.getD 34 undef = v.val a5 c5 ∧ W.heap[b8]? = some (.cells #[u0, u1, u2, u3, u4] 26 (0, 0)) ∧
      ∀ W', Put W b8 #[.int .u8 v.k, .int .i64 v.n, .string v.s, .slice a5 v.l.length c5, .int .i64 v.r] W' → LentInv w1 t v ta tc va vc T0 D0 (l.setIfInBounds 7 true) a W' := by
  obtain ⟨b7, b8, lo4, hi4, lo5, hi5, a4, a5, c4, c5, v31, v32, v33, v34, v7, v8, rfl, hb, h0, h2, h1, h3, h4, h5⟩ := h
  obtain ⟨e31, e32, e33, e34, e7, e8, e3, e4⟩ := P6_get (T0 := T0) (D0 := D0) (v31 := v31) (v32 := v32) (v33 := v33) (v34 := v34) (v7 := v7) (v8 := v8) hT
  have o : ∀ k, k ≠ 7 → (l.setIfInBounds 7 true).getD k false = true → l.getD k false = true := fun k hk h => getD_old (by omega) hk h
  obtain ⟨p1, p2, p3, ⟨u0, u1, u2, u3, u4, p4⟩, p6⟩ := h5 l5
  refine ⟨b8, a5, c5, u0, u1, u2, u3, u4, e8.trans p1, e34.trans (h3 l3).1, p4, fun W' hP => ?_⟩
  have hz := hP.size
  refine ⟨b7, b8, lo4, hi4, lo5, hi5, a4, a5, c4, c5, v31, v32, v33, v34, v7, v8, rfl, hb.trans (hP.below p2), fun h => h0 (o 0 (by decide) h), fun h => h2 (o 2 (by decide) h), fun h => ?_, fun h => ?_, fun h => ?_, fun h => ?_⟩
  · obtain ⟨g1, g2, g3, g4, g5, g6⟩ := h1 (o 1 (by decide) h)
    exact ⟨g1, T.In.keep (fun b hb => hP.other b (fun e => g6 l5 (by subst e; exact hb))) (fun _ h => h) id g2, g3, by omega, fun h => g5 (o 4 (by decide) h), fun h => g6 (o 5 (by decide) h)⟩
  · obtain ⟨g1, g2, g3, g4, g5, g6⟩ := h3 (o 3 (by decide) h)
    exact ⟨g1, T.In.keep (fun b hb => hP.other b (fun e => g6 l5 (by subst e; exact hb))) (fun _ h => h) id g2, g3, by omega, fun h => g5 (o 4 (by decide) h), fun h => g6 (o 5 (by decide) h)⟩
  · obtain ⟨g1, g2, g3, ⟨u0', u1', u2', u3', u4', g4⟩, g5, g6⟩ := h4 (o 4 (by decide) h)
    have hne : b7 ≠ b8 := g5 l5
    exact ⟨g1, g2, by omega, ⟨u0', u1', u2', u3', u4', (hP.other _ hne).trans g4⟩, fun h => g5 (o 5 (by decide) h), fun h => (hP.other _ hne).trans (g6 (o 6 (by decide) h))⟩
  · exact ⟨p1, p2, by omega, ⟨_, _, _, _, _, hP.at_⟩, fun _ => hP.at_⟩

theorem set_same (A : Array Value) (i : Nat) : A.setIfInBounds i (A.getD i undef) = A := by
  apply Array.ext_getElem?
  intro k
  rw [Array.getElem?_setIfInBounds]
  by_cases h : i = k
  · subst h
    by_cases hi : i < A.size
    · simp [hi]
    · simp [hi]
  · rw [if_neg h]

theorem LentInv.start (hb : Below w1.heap.size w1 W) : LentInv w1 t v ta tc va vc T0 D0 (Array.replicate 8 false) { tmps := T0, defers := D0 } W := by
  have e : ({ tmps := T0, defers := D0 } : Act) = P6 T0 D0 (T0.getD 31 undef) (T0.getD 32 undef) (T0.getD 33 undef) (T0.getD 34 undef) (T0.getD 7 undef) (T0.getD 8 undef) := by
    unfold P6
    rw [set_same, set_same, set_same, set_same, set_same, set_same]
  have n : ∀ k, k < 8 → ¬ (Array.replicate 8 false).getD k false = true := by decide
  rw [e]
  exact ⟨0, 0, 0, 0, 0, 0, none, none, 0, 0, _, _, _, _, _, _, rfl, hb, fun h => absurd h (n 0 (by decide)), fun h => absurd h (n 2 (by decide)), fun h => absurd h (n 1 (by decide)), fun h => absurd h (n 3 (by decide)), fun h => absurd h (n 4 (by decide)), fun h => absurd h (n 5 (by decide))⟩

/-- When all is done. -/
theorem LentInv.done (h : ∀ k, k < 8 → l.getD k false = true) {a : Act} (hi : LentInv w1 t v ta tc va vc T0 D0 l a W) :
    ∃ (b7 b8 : Nat) (a4 a5 : Option Addr) (c4 c5 : Nat), a = P6 T0 D0 (t.val ta tc) (t.val a4 c4) (v.val va vc) (v.val a5 c5) (.pointer (some ⟨b7, 0, none⟩)) (.pointer (some ⟨b8, 0, none⟩)) ∧ Below w1.heap.size w1 W ∧
      b7 < W.heap.size ∧ b8 < W.heap.size ∧ w1.heap.size ≤ b7 ∧ w1.heap.size ≤ b8 ∧ W.heap[b7]? = some (.cells #[.int .u8 t.k, .int .i64 t.n, .string t.s, .slice a4 t.l.length c4, .int .i64 t.r] 26 (0, 0)) ∧
      W.heap[b8]? = some (.cells #[.int .u8 v.k, .int .i64 v.n, .string v.s, .slice a5 v.l.length c5, .int .i64 v.r] 26 (0, 0)) ∧ T.In W (· < W.heap.size) true t a4 c4 ∧ T.In W (· < W.heap.size) true v a5 c5 := by
  obtain ⟨b7, b8, lo4, hi4, lo5, hi5, a4, a5, c4, c5, v31, v32, v33, v34, v7, v8, rfl, hb, h0, h2, h1, h3, h4, h5⟩ := hi
  obtain ⟨g1, g2, g3, g4, _⟩ := h1 (h 1 (by decide))
  obtain ⟨k1, k2, k3, k4, _⟩ := h3 (h 3 (by decide))
  obtain ⟨p1, p2, p3, _, _, p6⟩ := h4 (h 4 (by decide))
  obtain ⟨q1, q2, q3, _, q6⟩ := h5 (h 5 (by decide))
  rw [h0 (h 0 (by decide)), h2 (h 2 (by decide)), g1, k1, p1, q1]
  exact ⟨b7, b8, a4, a5, c4, c5, rfl, hb, p3, q3, p2, q2, p6 (h 6 (by decide)), q6 (h 7 (by decide)), T.In.keep (fun _ _ => rfl) (fun b hb => by omega) id g2, T.In.keep (fun _ _ => rfl) (fun b hb => by omega) id k2⟩
end

theorem run_append_none (w : World) (ty : TypeId) (pa : Option Addr) (pc : Nat) : (Builtin.append_ #[35, 35] ty #[.slice none 0 0, .slice pa 0 pc]).run Try.prog w = .ok (.slice none 0 0) w := by
  obtain ⟨i0, hi, hz0, hz1, hz2⟩ := info_parts info3
  cases pa <;> simp [Builtin.append_, run_underlying Try.underlying35, sizeOf, typeInfo, hi, Builtin.lenOf, Builtin.firstCells, loadCells, loadCellsFrom]

theorem run_append_ints (w : World) (ty : TypeId) (ok : Nat → Prop) (l : List Int) (a : Option Addr) (c : Nat) (h : Ints w ok l a c) (hl : l.length ≤ 1000000) :
    ∃ v w', (Builtin.append_ #[35, 35] ty #[.slice none 0 0, .slice a l.length c]).run Try.prog w = .ok v w' ∧ w'.ownsRow w.heap.size 3 1 v l.length (l.map (.int .i64)) ∧ Below w.heap.size w w' := by
  obtain ⟨i0, hi, hz0, hz1, hz2⟩ := info_parts info3
  by_cases h0 : l = []
  · subst h0
    exact ⟨_, w, run_append_none w ty a c, World.ownsRow_nil _ _ _ _, Below.refl _ _⟩
  · rcases h.2 with h1 | ⟨b, o, rfl, hb, hc⟩
    · exact absurd h1 h0
    · obtain ⟨v, w', hr, h2, h3, _⟩ := run_append_own_at (P := Try.prog) w w.heap.size 35 ty 3 i0 _ 1 8 Try.underlying35 hi hz0 hz1 hz2 rfl (by decide) (.slice none 0 0) 0 [] (World.ownsRow_nil w w.heap.size 3 1) ⟨b, o, none⟩ l.length c (l.map (.int .i64)) (by simp)
        (fun j u hu => by
          rw [List.getElem?_map] at hu
          obtain ⟨x, hx, rfl⟩ := Option.map_eq_some_iff.1 hu
          obtain ⟨hj, rfl⟩ := List.getElem?_eq_some_iff.1 hx
          have := hc j hj
          by_cases hj0 : j = 0
          · subst hj0; simpa [Addr.add] using this
          · simpa [Addr.add, hj0] using this) (by simp [Value.oneCell']) (by unfold maxLen; omega) (by omega) (Nat.le_refl _)
      rw [Nat.zero_add, List.nil_append] at h2
      exact ⟨v, w', hr, h2, ⟨h3.os, h3.tape, h3.output, h3.size, fun k hk => h3.block k hk (by simp [Value.ownBlock])⟩⟩

theorem wpList_append_ints (w : World) {ops : Array Oper} {rest : List Oper} {o : Oper} {a : Act} {Q : Exit → Act → World → Prop} (hgd : o.guard = none) (s x : Operand)
    (ho : o.op = .call { callee := .builtin .append, args := #[s, x], argTypes := #[35, 35] }) (hs : a.eval s = .slice none 0 0) (ok : Nat → Prop) (l : List Int) (la : Option Addr) (c : Nat) (hx : a.eval x = .slice la l.length c) (hI : Ints w ok l la c) (hl : l.length ≤ 1000000)
    (h : ∀ v' w', w'.ownsRow w.heap.size 3 1 v' l.length (l.map (.int .i64)) → Below w.heap.size w w' → wpList Try.prog ops Q rest (a.put o.dst v') w') : wpList Try.prog ops Q (o :: rest) a w := by
  refine wpList_plain hgd fun _ hK => ?_
  obtain ⟨v', w', hr, h2, h3⟩ := run_append_ints w o.type ok l la c hI hl
  unfold Oper.wp execOp
  simp only [ho, resolve, invoke, builtin, Sem.run_bind, Sem.run_pure, Result.andThen_ok, List.map_toArray, List.map_cons, List.map_nil, hs, hx, hr]
  exact hK _ _ (h v' w' h2 h3)

/-- The head of a row of the call's own, as a list of numbers. -/
theorem ints_of_head {w : World} {base : Nat} {g cap : Nat} {l : List Int} (h : w.ownsRow base 3 1 (.slice (some ⟨g, 0, none⟩) (l.length + 1) cap) (l.length + 1) (l.map (.int .i64) ++ [.int .i64 77])) : Ints w (fun b => b = g) l (some ⟨g, 0, none⟩) cap ∧ l.length + 1 ≤ cap ∧ w.cell? ⟨g, l.length, none⟩ = some (.int .i64 77) := by
  have hc : l.length + 1 ≤ cap := by
    rcases h.2 with ⟨h0, _⟩ | ⟨g', cap', cur, hv, _, _, hle, _⟩
    · cases h0
    · injection hv with _ _ hcc
      subst hcc
      exact hle
  refine ⟨⟨by omega, .inr ⟨g, 0, rfl, rfl, fun i hi => ?_⟩⟩, hc, ?_⟩
  · rw [Nat.zero_add, h.cellAt i (by omega), List.getElem?_append_left (by simpa using hi), List.getElem?_map, List.getElem?_eq_getElem hi]
    rfl
  · rw [h.cellAt l.length (by omega), List.getElem?_append_right (by simp)]
    simp

theorem Below.allocI {w w' : World} (h : Below w.heap.size w w') (o : Obj) : Below w.heap.size w (w'.alloc o) := h.alloc h.size o
theorem Below.callI {w w' w'' : World} (h : Below w.heap.size w w') (h' : Below w'.heap.size w' w'') : Below w.heap.size w w'' := h.trans (h'.mono h.size)
theorem Below.setI {w w' : World} (h : Below w.heap.size w w') {b o : Nat} (hb : w.heap.size ≤ b) (v : Value) : Below w.heap.size w (w'.setCell ⟨b, o, none⟩ v) := h.setCell (p := ⟨b, o, none⟩) hb v
theorem Below.drewI {w w' : World} (h : Below w.heap.size w w') : Below w.heap.size w w'.drew := h.drew

theorem zbox {w w' : World} {o : Obj} (h : Below (w.alloc o).heap.size (w.alloc o) w') : w'.heap[w.heap.size]? = some o := (h.block _ (by simp)).trans (blk_new w o)

theorem zfac {w : World} {b : Nat} {v0 v1 v2 v3 v4 : Value} (D : w.heap[b]? = some (.cells #[v0, v1, v2, v3, v4] 26 (0, 0))) :
    w.cell? ⟨b, 0, none⟩ = some v0 ∧ w.cell? ⟨b, 1, none⟩ = some v1 ∧ w.cell? ⟨b, 2, none⟩ = some v2 ∧ w.cell? ⟨b, 3, none⟩ = some v3 ∧ w.cell? ⟨b, 4, none⟩ = some v4 ∧
    w.frozen? ⟨b, 0, none⟩ = false ∧ w.frozen? ⟨b, 1, none⟩ = false ∧ w.frozen? ⟨b, 2, none⟩ = false ∧ w.frozen? ⟨b, 3, none⟩ = false ∧ w.frozen? ⟨b, 4, none⟩ = false ∧ ¬ b = w.heap.size ∧ ¬ w.heap.size = b ∧ b < w.heap.size := by
  obtain ⟨g0, g1, g2, g3, g4, g5, g6, g7, g8, g9⟩ := blk5 D
  have := (Array.getElem?_eq_some_iff.1 D).1
  exact ⟨g0, g1, g2, g3, g4, g5, g6, g7, g8, g9, by omega, by omega, this⟩

end Go.Proofs.Ytapfmfihhpafcaa
