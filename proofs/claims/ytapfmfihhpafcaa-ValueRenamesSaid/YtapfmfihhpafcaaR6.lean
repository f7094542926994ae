/-
  A list of references copied, with a mark behind it.
-/
import Derived.Test.YtapfmfihhpafcaaM4
namespace Go.Proofs.Ytapfmfihhpafcaa
open Go.RowKit
set_option linter.unusedVariables false

theorem run_append_noneR (w : World) (ty : TypeId) (pa : Option Addr) (pc : Nat) : (Builtin.append_ #[61, 61] ty #[.slice none 0 0, .slice pa 0 pc]).run Try.prog w = .ok (.slice none 0 0) w := by
  obtain ⟨i0, hi, hz0, hz1, hz2⟩ := info_parts info24
  cases pa <;> simp [Builtin.append_, run_underlying Try.underlying61, sizeOf, typeInfo, hi, Builtin.lenOf, Builtin.firstCells, loadCells, loadCellsFrom]

theorem run_append_refs (w : World) (ty : TypeId) (ok : Nat → Prop) (l : List Int) (a : Option Addr) (c : Nat) (h : Ints w ok l a c) (hl : l.length ≤ 1000000) :
    ∃ v w', (Builtin.append_ #[61, 61] ty #[.slice none 0 0, .slice a l.length c]).run Try.prog w = .ok v w' ∧ w'.ownsRow w.heap.size 24 1 v l.length (l.map (.int .i64)) ∧ Below w.heap.size w w' := by
  obtain ⟨i0, hi, hz0, hz1, hz2⟩ := info_parts info24
  by_cases h0 : l = []
  · subst h0
    exact ⟨_, w, run_append_noneR w ty a c, World.ownsRow_nil _ _ _ _, Below.refl _ _⟩
  · rcases h.2 with h1 | ⟨b, o, rfl, hb, hc⟩
    · exact absurd h1 h0
    · obtain ⟨v, w', hr, h2, h3, _⟩ := run_append_own_at (P := Try.prog) w w.heap.size 61 ty 24 i0 _ 1 8 Try.underlying61 hi hz0 hz1 hz2 rfl (by decide) (.slice none 0 0) 0 [] (World.ownsRow_nil w w.heap.size 24 1) ⟨b, o, none⟩ l.length c (l.map (.int .i64)) (by simp)
        (fun j u hu => by
          rw [List.getElem?_map] at hu
          obtain ⟨x, hx, rfl⟩ := Option.map_eq_some_iff.1 hu
          obtain ⟨hj, rfl⟩ := List.getElem?_eq_some_iff.1 hx
          have := hc j hj
          by_cases hj0 : j = 0
          · subst hj0; simpa [Addr.add] using this
          · simpa [Addr.add, hj0] using this) (by simp [Value.oneCell']) (by unfold maxLen; omega) (by omega) (Nat.le_refl _)
      rw [Nat.zero_add, List.nil_append] at h2
      exact ⟨v, w', hr, h2, ⟨h3.os, h3.tape, h3.output, h3.size, fun k hk => h3.block k hk (by simp [Value.ownBlock])⟩⟩

theorem wpList_append_refs (w : World) {ops : Array Oper} {rest : List Oper} {o : Oper} {a : Act} {Q : Exit → Act → World → Prop} (hgd : o.guard = none) (s x : Operand)
    (ho : o.op = .call { callee := .builtin .append, args := #[s, x], argTypes := #[61, 61] }) (hs : a.eval s = .slice none 0 0) (ok : Nat → Prop) (l : List Int) (la : Option Addr) (c : Nat) (hx : a.eval x = .slice la l.length c) (hI : Ints w ok l la c) (hl : l.length ≤ 1000000)
    (h : ∀ v' w', w'.ownsRow w.heap.size 24 1 v' l.length (l.map (.int .i64)) → Below w.heap.size w w' → wpList Try.prog ops Q rest (a.put o.dst v') w') : wpList Try.prog ops Q (o :: rest) a w := by
  refine wpList_plain hgd fun _ hK => ?_
  obtain ⟨v', w', hr, h2, h3⟩ := run_append_refs w o.type ok l la c hI hl
  unfold Oper.wp execOp
  simp only [ho, resolve, invoke, builtin, Sem.run_bind, Sem.run_pure, Result.andThen_ok, List.map_toArray, List.map_cons, List.map_nil, hs, hx, hr]
  exact hK _ _ (h v' w' h2 h3)

/-- The head of a row of the call's own, as a list of numbers. -/
theorem refs_of_head {w : World} {base : Nat} (mk : Int) {g cap : Nat} {l : List Int} (h : w.ownsRow base 24 1 (.slice (some ⟨g, 0, none⟩) (l.length + 1) cap) (l.length + 1) (l.map (.int .i64) ++ [.int .i64 mk])) : Ints w (fun b => b = g) l (some ⟨g, 0, none⟩) cap ∧ l.length + 1 ≤ cap ∧ w.cell? ⟨g, l.length, none⟩ = some (.int .i64 mk) := by
  have hc : l.length + 1 ≤ cap := by
    rcases h.2 with ⟨h0, _⟩ | ⟨g', cap', cur, hv, _, _, hle, _⟩
    · cases h0
    · injection hv with _ _ hcc
      subst hcc
      exact hle
  refine ⟨⟨by omega, .inr ⟨g, 0, rfl, rfl, fun i hi => ?_⟩⟩, hc, ?_⟩
  · rw [Nat.zero_add, h.cellAt i (by omega), List.getElem?_append_left (by simpa using hi), List.getElem?_map, List.getElem?_eq_getElem hi]
    rfl
  · rw [h.cellAt l.length (by omega), List.getElem?_append_right (by simp)]
    simp

end Go.Proofs.Ytapfmfihhpafcaa
