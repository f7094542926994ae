/-
  Laws of the walk: a value of five cells is stored into a block that is known whole, or into a row.
-/
import Derived.Test.YtapfmfihhpafcaaMut
namespace Go.Proofs.Ytapfmfihhpafcaa
open Go.RowKit
set_option linter.unusedVariables false

/-- w' is w, but for block g, which is 'cur' now. -/
structure Put (w : World) (g : Nat) (cur : Array Value) (w' : World) : Prop where
  os : w'.os = w.os
  tape : w'.tape = w.tape
  output : w'.output = w.output
  size : w'.heap.size = w.heap.size
  at_ : w'.heap[g]? = some (.cells cur 26 (0, 0))
  other : ∀ k, k ≠ g → w'.heap[k]? = w.heap[k]?

theorem Put.below {w w' : World} {g B : Nat} {cur : Array Value} (h : Put w g cur w') (hB : B ≤ g) : Below B w w' :=
  ⟨h.os, h.tape, h.output, by rw [h.size]; exact Nat.le_refl _, fun k hk => h.other k (by omega)⟩

theorem put_setRow {w : World} {g : Nat} {cur new : Array Value} (C : w.heap[g]? = some (.cells cur 26 (0, 0))) : Put w g new (w.setRow g new) := by
  refine ⟨rfl, rfl, rfl, by simp [World.setRow], ?_, fun k hk => ?_⟩
  · simp [World.setRow, Array.getElem?_modify, C]
  · simp only [World.setRow, Array.getElem?_modify]
    rw [if_neg (by omega)]

theorem size26 : (Try.prog.info? 26).map (·.size) = some 5 := by kernel_rfl

/-- A store of a whole value into a row, at place 'off' of block g. -/
theorem wpList_store26 (w : World) {ops : Array Oper} {rest : List Oper} {o : Oper} {a : Act} {Q : Exit → Act → World → Prop} (hg : o.guard = none) (p v : Operand) (hop : o.op = .store 26 p v)
    (g off : Nat) (v0 v1 v2 v3 v4 : Value) (hp : a.eval p = .pointer (some ⟨g, off, none⟩)) (hv : a.eval v = .agg #[v0, v1, v2, v3, v4]) (h1 : ∀ u ∈ [v0, v1, v2, v3, v4], u.oneCell' = true)
    (cur : Array Value) (C : w.heap[g]? = some (.cells cur 26 (0, 0))) (hfit : off + 5 ≤ cur.size)
    (hK : ∀ w', Put w g (cur.toList.take off ++ [v0, v1, v2, v3, v4] ++ cur.toList.drop (off + 5)).toArray w' → wpList Try.prog ops Q rest (a.put o.dst undef) w') : wpList Try.prog ops Q (o :: rest) a w := by
  refine wpList_plain hg fun K hK' => ?_
  have hst := run_storeCells_at Try.prog g off 26 [v0, v1, v2, v3, v4] 0 cur w C (by simpa using hfit) h1
  simp only [Nat.add_zero] at hst
  have hsz : (storeVar 26 ⟨g, off, none⟩ (.agg #[v0, v1, v2, v3, v4])).run Try.prog w = .ok () (w.setRow g (cur.toList.take off ++ [v0, v1, v2, v3, v4] ++ cur.toList.drop (off + 5)).toArray) := by
    obtain ⟨i, hi, hs⟩ := Option.map_eq_some_iff.1 size26
    have hs' : i.size = 5 := hs
    simp [storeVar, sizeOf, typeInfo, hi, Value.cells, hs', hst]
  unfold Oper.wp execOp
  simp only [hop, hp, hv, Instr.storeAt, Instr.sureAddr, Sem.run_bind, Sem.run_pure, Result.andThen_ok, hsz]
  exact hK' _ _ (hK _ (put_setRow C))

/-- A store of a whole value into a block of its own. -/
theorem wpList_put (w : World) {ops : Array Oper} {rest : List Oper} {o : Oper} {a : Act} {Q : Exit → Act → World → Prop} (hg : o.guard = none) (p v : Operand) (hop : o.op = .store 26 p v)
    (g : Nat) (v0 v1 v2 v3 v4 u0 u1 u2 u3 u4 : Value) (hp : a.eval p = .pointer (some ⟨g, 0, none⟩)) (hv : a.eval v = .agg #[v0, v1, v2, v3, v4]) (h1 : ∀ u ∈ [v0, v1, v2, v3, v4], u.oneCell' = true)
    (C : w.heap[g]? = some (.cells #[u0, u1, u2, u3, u4] 26 (0, 0)))
    (hK : ∀ w', Put w g #[v0, v1, v2, v3, v4] w' → wpList Try.prog ops Q rest (a.put o.dst undef) w') : wpList Try.prog ops Q (o :: rest) a w :=
  wpList_store26 w hg p v hop g 0 v0 v1 v2 v3 v4 hp hv h1 _ C (by simp) (fun w' h => hK w' h)
end Go.Proofs.Ytapfmfihhpafcaa
