/-
  The law posternlaw02.ValueRenames answers true for every input, and leaves its arguments as they were.
  Conditions: none beyond those that the given row states of itself.
-/
import Derived.Test.YtapfmfihhpafcaaD0
import Derived.Test.YtapfmfihhpafcaaR7
namespace Go.Proofs.Ytapfmfihhpafcaa
open Go.ChangeShapes Go.WideShapes Go.ChangeAt Go.RowKit Go.ChangeMaps
set_option maxRecDepth 100000 in
theorem valueRenames_lifted (os : Os) (started : os.Started) (H : Type) (enc : TypeId × Value → H) :
    ReturnsInHanded {} Try.checked os 10 .any (Rows.valueRenamesSpec.pre6 enc Try.prog Try.f10 Rows.valueRenamesRow.domain false) (Rows.valueRenamesSpec.post enc Try.prog Try.f10 false true false false) := by
  refine returnsInHanded_of_change_sized (C := Try.checked) Try.own started (by kernel_rfl) Try.func10
    (ChangeSpec.witness6 (enc := enc) (C := Try.checked) false ⟨#[], #[T.zero.val none 0, .slice none 0 0, .slice none 0 0], []⟩ 8 (by kernel_rfl) (by kernel_rfl) (by kernel_rfl) (by kernel_rfl)) ?_
  intro W base args ds gs before hval0 hW hcnd hsz0 _
  have hval : ∀ (j : Nat) t v, Try.f10.params[j]? = some t → args[j]? = some v → Value.okWide Try.prog W .any base t v := hval0
  have hsz : (DataW.weightsEach Try.prog (Try.f10.params.toList ++ []) (ds ++ gs)).all (· ≤ reachBytes) = true := hsz0
  have hW' := hW
  obtain ⟨p, q, hA0, hV, rfl, hfz, hnd⟩ := hW
  have hA : DataW.TrodAll enc Try.prog W 0 (fun _ => true) true Try.f10.params.toList args.toList ds p := hA0
  rw [Try.params10] at hA hval hsz
  obtain ⟨v0, v1, v2, d0, d1, d2, p0, p1, p2, rfl, rfl, rfl, h0, h1, h2⟩ := trodAll_three hA
  obtain ⟨rfl, rfl⟩ := trodVars_none hV
  have hwt : ∀ (j : Nat) (t : TypeId) (d : DataW H), [26, 61, 61][j]? = some t → [d0, d1, d2][j]? = some d → ∀ n ∈ d.weights Try.prog t, n ≤ reachBytes := fun j t d ht hd n hn => by
    have := List.all_eq_true.1 hsz n (DataW.weights_mem_each (j := j) (by simpa using ht) (by simpa using hd) n hn)
    simpa using this
  obtain ⟨t0, a0, c0, rfl, hin0, hwf0⟩ := open_arg_val (hval 0 26 v0 rfl rfl) h0 (hwt 0 26 d0 rfl rfl)
  obtain ⟨l1, a1, c1, rfl, hI1, hb1, hn1⟩ := open_arg_ints Try.underlying61 Try.underlying24 cellsOf24 bytesOf24 (hval 1 61 v1 rfl rfl) h1 (hwt 1 61 d1 rfl rfl)
  obtain ⟨l2, a2, c2, rfl, hI2, hb2, hn2⟩ := open_arg_ints Try.underlying61 Try.underlying24 cellsOf24 bytesOf24 (hval 2 61 v2 rfl rfl) h2 (hwt 2 61 d2 rfl rfl)
  clear hA0 hval0
  refine (renames_law W t0 a0 c0 hin0 hwf0 l1 a1 c1 hI1 hb1 hn1 l2 a2 c2 hI2 hb2 hn2).mono fun e W' ⟨he, hb⟩ => ?_
  subst he
  exact ⟨_, rfl, post_law rfl hW' rfl (by kernel_rfl) (by rw [Try.params10]; decide +kernel) hb⟩

theorem valueRenames_holds : Rows.ValueRenamesSaid :=
  OpenClaim.holds_of_wide 10 Try.f10 rfl rfl rfl rfl rfl rfl rfl ⟨rfl, rfl, rfl, rfl, rfl⟩ rfl rfl rfl rfl rfl (by kernel_rfl) Try.func10 (by kernel_rfl)
    (of_decide_eq_true (by kernel_rfl)) (by unfold Func.isWrapper; rw [if_neg (by decide +kernel)]; exact ⟨rfl, rfl⟩)
    (fun os started H enc _ => valueRenames_lifted os started H enc)
end Go.Proofs.Ytapfmfihhpafcaa
