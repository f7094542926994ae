/-
  From a walk to a row: arguments opened, the end shut.
-/
import Derived.Test.YtapfmfihhpafcaaRows
import Derived.Test.YtapfmfihhpafcaaD1
import Derived.ProofKit
namespace Go.Proofs.Ytapfmfihhpafcaa
open Go.ChangeShapes Go.WideShapes Go.ChangeAt Go.RowKit
set_option linter.unusedVariables false

theorem Try.own : ownKnob Try.prog.godebug = none := by kernel_rfl
theorem Try.laidOut : laidOutB Try.prog = true := by kernel_rfl

section
variable {H : Type} {enc : TypeId × Value → H}

set_option maxRecDepth 100000 in
theorem open_arg_val {W : World} {base : Nat} {v : Value} {d : DataW H} {p : List MemPlace} {sp : Nat → Bool} {held : Bool} (hval : Value.okWide Try.prog W .any base 26 v) (h : DataW.Trod enc Try.prog W 0 sp held 26 v d p)
    (hw : ∀ n ∈ d.weights Try.prog 26, n ≤ reachBytes) : ∃ t a c, v = T.val t a c ∧ T.At W W.heap.size t a c ∧ t.wf := by
  obtain ⟨cs, rfl, hcs⟩ := okWide_struct Try.underlying26 hval
  obtain ⟨fuel, hf⟩ := h
  obtain ⟨t, a, c, hc, hin, hwf⟩ := open_val fuel _ _ hf hw
  refine ⟨t, a, c, ?_, hin, hwf⟩
  obtain ⟨cs⟩ := cs
  have : cs = t.cells5 a c := by simpa [Value.cells] using hc
  subst this
  rfl

set_option maxRecDepth 100000 in
/-- A list of values that came in. -/
theorem open_arg_vals {W : World} {base : Nat} {v : Value} {d : DataW H} {p : List MemPlace} {sp : Nat → Bool} {held : Bool} (hval : Value.okWide Try.prog W .any base 23 v) (h : DataW.Trod enc Try.prog W 0 sp held 23 v d p)
    (hw : ∀ n ∈ d.weights Try.prog 23, n ≤ reachBytes) : ∃ (l : List T) (a : Option Addr) (c : Nat), v = .slice a l.length c ∧ T.At W W.heap.size (.mk 3 0 ⟨#[]⟩ l 0) a c ∧ (T.mk 3 0 ⟨#[]⟩ l 0).wf := by
  obtain ⟨fuel, hf⟩ := h
  have h3 : v.cells.toList = [v] := by
    obtain ⟨a, n, c, rfl⟩ := okWide_slice Try.underlying23 hval
    rfl
  rw [h3] at hf
  have hf' := DataW.trod_le (Nat.le_succ fuel) hf
  have e0 := trod_int_mk (enc := enc) (w := W) (base := 0) (spare := sp) (held := held) fuel Try.underlying22 (k := .u8) (n := 3) (by decide)
  have e1 := trod_int_mk (enc := enc) (w := W) (base := 0) (spare := sp) (held := held) fuel Try.underlying2 (k := .i64) (n := 0) (by decide)
  have e4 := trod_int_mk (enc := enc) (w := W) (base := 0) (spare := sp) (held := held) fuel Try.underlying24 (k := .i64) (n := 0) (by decide)
  have e2 : DataW.trod enc Try.prog W 0 sp held (fuel + 1) 9 [.string ⟨#[]⟩] = some (.lit (.string []), []) := by simp [DataW.trod, Try.underlying9, ByteArray.size]
  have hs := trod_struct_mk (enc := enc) (w := W) (base := 0) (spare := sp) (held := held) (n := fuel + 1) (cs := [Value.int .u8 3, .int .i64 0, .string ⟨#[]⟩, v, .int .i64 0])
    (xs := [(.lit (.int .u8 3), []), (.lit (.int .i64 0), []), (.lit (.string []), []), (d, p), (.lit (.int .i64 0), [])]) Try.underlying26 (by simp [cellsOf26])
    (by simp [cellsOf22, cellsOf2, cellsOf9, cellsOf23, cellsOf24, e0, e1, e2, e4, hf'])
  obtain ⟨t, a, c, hc, hin, hwf⟩ := open_val _ _ _ hs (fun q hq => by
    rw [DataW.weights, Try.underlying26] at hq
    simp [DataW.weightsEach, DataW.weights] at hq
    rcases hq with rfl | hq
    · unfold reachBytes; omega
    · exact hw q hq)
  obtain ⟨k, n, s, l, r⟩ := t
  simp only [T.cells5, T.k, T.n, T.s, T.l, T.r, List.cons.injEq, Value.int.injEq, Value.string.injEq, true_and, and_true] at hc
  obtain ⟨rfl, rfl, rfl, rfl, rfl⟩ := hc
  exact ⟨l, a, c, rfl, hin, hwf⟩

theorem trodAll_sp {W W' : World} {sp : Nat → Bool} (hb : Below W.heap.size W W') : ∀ {ts : List TypeId} {vs : List Value} {ds : List (DataW H)} {ps : List MemPlace}, (∀ t ∈ ts, Try.prog.readableRec t = true ∧ t < Try.prog.types.size) →
    DataW.TrodAll enc Try.prog W 0 (fun _ => true) true ts vs ds ps → (∀ x ∈ ps, x.block < W.heap.size) → (∀ x ∈ ps, sp x.block = true) → DataW.TrodAll enc Try.prog W' 0 sp true ts vs ds ps
  | [], vs, ds, ps, _, h, _, _ => by
    cases vs <;> cases ds <;> simp_all [DataW.TrodAll]
  | t :: ts, vs, ds, ps, hr, h, hlt, hsp => by
    obtain ⟨v, vs', d, ds', p, q, rfl, rfl, rfl, h1, h2⟩ := trodAll_cons h
    have ht := hr t (by simp)
    exact ⟨p, q, WideElems.Trod_stays Try.laidOut ht.1 ht.2 h1 (fun x hx => hb.same (hlt x (by simp [hx]))) (fun x hx => hsp x (by simp [hx])),
      trodAll_sp hb (fun t ht => hr t (by simp [ht])) h2 (fun x hx => hlt x (by simp [hx])) (fun x hx => hsp x (by simp [hx])), rfl⟩

/-- The end of a law: it answers true, and what there was is as it was. -/
theorem post_law {f : Func} {s : ChangeSpec} {fresh handsOn : Bool} {W W' : World} {args : Array Value} {ds : List (DataW H)} {before : List MemPlace} (hs : s.vars = [])
    (hW : DataW.Whole enc Try.prog f.params.toList s.vars false W args.toList ds [] before) (hfn : s.fn H ds = { results := [.lit (.bool true)], args := ds }) (hres : f.resultTypes = #[4])
    (hread : ∀ t ∈ f.params.toList, Try.prog.readableRec t = true ∧ t < Try.prog.types.size) (hb : Below W.heap.size W W') : s.post enc Try.prog f false fresh handsOn false W args (.bool true) W' := by
  have hlt : ∀ p ∈ before, p.block < W.heap.size := fun p hp => hW.lt p hp
  have hW0 := hW
  obtain ⟨p, q, hA, hV, rfl, hz, hn⟩ := hW
  rw [hs] at hV
  obtain ⟨_, rfl⟩ := trodVars_none hV
  have hargs : ∀ sp : Nat → Bool, (∀ x ∈ p ++ [], sp x.block = true) → DataW.TrodAll enc Try.prog W' 0 sp true f.params.toList args.toList ds p := fun sp hsp =>
    trodAll_sp hb hread hA (fun x hx => hlt x (by simp [hx])) (fun x hx => hsp x (by simp [hx]))
  have hr : ∀ (b : Nat) (sp : Nat → Bool) (hd : Bool), DataW.TrodAll enc Try.prog W' b sp hd f.resultTypes.toList ((Value.bool true).resultList f.resultTypes.size) [DataW.lit (.bool true)] [] := by
    intro b sp hd
    rw [hres]
    exact trodAll_mk1 (shut_bool Try.underlying4 true)
  have hv : ∀ sp : Nat → Bool, DataW.TrodVars enc Try.prog W' sp s.vars [] [] := fun sp => by rw [hs]; rfl
  refine ⟨ds, [], p ++ [], [], p, [], hW0, ?_, ?_, ?_, World.keptBut_mono (fun x hx => ⟨hx, ?_⟩) (hb.frame (· ∈ p ++ [])), fun _ => ?_⟩
  · rw [List.append_nil, hfn]; exact hr _ _ _
  · rw [List.append_nil, hfn]; exact hargs _ (fun x hx => by simpa using hlt x hx)
  · rw [List.append_nil, hfn]; exact hv _
  · right; simpa using hx
  · cases ‹false = true›
end
end Go.Proofs.Ytapfmfihhpafcaa
