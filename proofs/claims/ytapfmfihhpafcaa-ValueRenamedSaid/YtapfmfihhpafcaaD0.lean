/-
  Lists of whole numbers that came in.
-/
import Derived.Test.YtapfmfihhpafcaaD2
import Derived.Test.YtapfmfihhpafcaaB1
namespace Go.Proofs.Ytapfmfihhpafcaa
open Go.ChangeShapes Go.WideShapes Go.ChangeAt Go.RowKit
set_option linter.unusedVariables false

/-- A cell that holds a number. -/
def w_cell (W : World) (a : Addr) (x : Int) : Prop := W.cell? a = some (.int .i64 x)

section
variable {H : Type} {enc : TypeId × Value → H}

set_option maxRecDepth 100000 in
theorem open_arg_ints {t e : TypeId} (ht : Try.prog.underlying t = some (.slice e)) (he : Try.prog.underlying e = some (.int .i64)) (hce : Try.prog.cellsOf e = 1) (hbe : Try.prog.bytesOf e = 8) {W : World} {base : Nat} {v : Value} {d : DataW H} {p : List MemPlace} {sp : Nat → Bool} {held : Bool}
    (hval : Value.okWide Try.prog W .any base t v) (h : DataW.Trod enc Try.prog W 0 sp held t v d p) (hw : ∀ n ∈ d.weights Try.prog t, n ≤ reachBytes) :
    ∃ (l : List Int) (a : Option Addr) (c : Nat), v = .slice a l.length c ∧ Ints W (· < W.heap.size) l a c ∧ (∀ x ∈ l, -9223372036854775808 ≤ x ∧ x ≤ 9223372036854775807) ∧ l.length ≤ 17592186043904 := by
  obtain ⟨fuel, hf⟩ := h
  have h3 : v.cells.toList = [v] := by
    obtain ⟨a, n, c, rfl⟩ := okWide_slice ht hval
    rfl
  rw [h3] at hf
  rcases DataW.trod_slice ht hf with ⟨e1, _⟩ | ⟨a, len, cap, elems, rest, n', rfl, e1, hd, hb, hle, hcap, hel, helem, _, _⟩
  · simp only [List.cons.injEq, and_true] at e1
    subst e1
    exact ⟨[], none, 0, rfl, ⟨Nat.le_refl _, .inl rfl⟩, by simp, by simp⟩
  · simp only [List.cons.injEq, and_true] at e1
    subst e1
    rw [hce] at helem
    have hlen : (elems.length + rest.length) * 8 ≤ reachBytes := by
      have hdd : d = .slice (elems.map (·.1)) (rest.map (·.1)) := (Prod.mk.inj hd).1
      subst hdd
      have := hw ((elems.length + rest.length) * 8) (by rw [DataW.weights, ht]; simp [hbe])
      exact this
    by_cases h0 : len = 0
    · subst h0
      exact ⟨[], some a, cap, rfl, ⟨Nat.zero_le _, .inl rfl⟩, by simp, by simp⟩
    have get : ∀ i (hi : i < len), ∃ x : Int, (-9223372036854775808 ≤ x ∧ x ≤ 9223372036854775807) ∧ w_cell W (a.add (i * 1)) x := by
      intro i hi
      have h1 := helem i hi
      rw [List.getElem?_eq_getElem (by omega)] at h1
      obtain ⟨cs', hc', ht'⟩ := Option.bind_eq_some_iff.1 h1
      obtain ⟨x, rfl, _, wx⟩ := DataW.trod_int he ht'
      obtain ⟨_, _, hcell⟩ := World.cells?_some hc'
      have := hcell 0 (by omega)
      refine ⟨x, lit_i64 wx, ?_⟩
      unfold w_cell
      rw [Addr.add, if_pos rfl] at this
      exact this
    obtain ⟨x0, _, hz⟩ := get 0 (by omega)
    unfold w_cell at hz
    rw [Nat.zero_mul, Addr.add, if_pos rfl] at hz
    have hsp := World.cell?_spot hz
    obtain ⟨b, o, sp⟩ := a
    simp only at hsp
    subst hsp
    have hbz := World.block_lt_of_cell? _ _ hz
    obtain ⟨l, hll, hl⟩ := exists_list (P := fun i (x : Int) => (-9223372036854775808 ≤ x ∧ x ≤ 9223372036854775807) ∧ W.cell? ⟨b, o + i, none⟩ = some (.int .i64 x)) len (fun i hi => by
      obtain ⟨x, hx, hc⟩ := get i hi
      unfold w_cell at hc
      rw [Addr.add_lit, Nat.mul_one] at hc
      exact ⟨x, hx, hc⟩)
    refine ⟨l, some ⟨b, o, none⟩, cap, by rw [hll], ⟨by omega, .inr ⟨b, o, rfl, hbz, fun i hi => (hl i hi).2⟩⟩, fun x hx => ?_, by unfold reachBytes at hlen; omega⟩
    obtain ⟨i, hi, rfl⟩ := List.getElem_of_mem hx
    exact (hl i hi).1
end
end Go.Proofs.Ytapfmfihhpafcaa
