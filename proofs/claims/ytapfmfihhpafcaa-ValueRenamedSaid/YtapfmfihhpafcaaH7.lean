/-
  The law posternlaw02.ValueRenamed answers true for every input, and leaves its arguments as they were.
  Conditions: none beyond those that the given row states of itself.
-/
import Derived.Test.YtapfmfihhpafcaaD0
import Derived.Carry
import Derived.Test.YtapfmfihhpafcaaS3
namespace Go.Proofs.Ytapfmfihhpafcaa
open Go.ChangeShapes Go.WideShapes Go.ChangeAt Go.RowKit Go.ChangeMaps
set_option maxRecDepth 100000 in
theorem valueRenamed_lifted (os : Os) (started : os.Started) (H : Type) (enc : TypeId × Value → H) :
    ReturnsInHanded {} Try.checked os 11 .any (Rows.valueRenamedSpec.pre6 enc Try.prog Try.f11 Rows.valueRenamedRow.domain false) (Rows.valueRenamedSpec.post enc Try.prog Try.f11 false true false false) := by
  refine returnsInHanded_of_change_sized (C := Try.checked) Try.own started (by kernel_rfl) Try.func11
    (ChangeSpec.witness6 (enc := enc) (C := Try.checked) false ⟨#[], #[T.zero.val none 0, .slice none 0 0, .slice none 0 0, .slice none 0 0], []⟩ 8 (by kernel_rfl) (by kernel_rfl) (by kernel_rfl) (by kernel_rfl)) ?_
  intro W base args ds gs before hval0 hW hcnd hsz0 _
  have hval : ∀ (j : Nat) t v, Try.f11.params[j]? = some t → args[j]? = some v → Value.okWide Try.prog W .any base t v := hval0
  have hsz : (DataW.weightsEach Try.prog (Try.f11.params.toList ++ []) (ds ++ gs)).all (· ≤ reachBytes) = true := hsz0
  have hW' := hW
  obtain ⟨p, q, hA0, hV, rfl, hfz, hnd⟩ := hW
  have hA : DataW.TrodAll enc Try.prog W 0 (fun _ => true) true Try.f11.params.toList args.toList ds p := hA0
  rw [Try.params11] at hA hval hsz
  obtain ⟨v0, v1, v2, v3, d0, d1, d2, d3, p0, p1, p2, p3, rfl, rfl, rfl, h0, h1, h2, h3⟩ := trodAll_four hA
  obtain ⟨rfl, rfl⟩ := trodVars_none hV
  have hwt : ∀ (j : Nat) (t : TypeId) (d : DataW H), [26, 61, 61, 61][j]? = some t → [d0, d1, d2, d3][j]? = some d → ∀ n ∈ d.weights Try.prog t, n ≤ reachBytes := fun j t d ht hd n hn => by
    have := List.all_eq_true.1 hsz n (DataW.weights_mem_each (j := j) (by simpa using ht) (by simpa using hd) n hn)
    simpa using this
  obtain ⟨t0, a0, c0, rfl, hin0, hwf0⟩ := open_arg_val (hval 0 26 v0 rfl rfl) h0 (hwt 0 26 d0 rfl rfl)
  obtain ⟨l1, a1, c1, rfl, hI1, hb1, hn1⟩ := open_arg_ints Try.underlying61 Try.underlying24 cellsOf24 bytesOf24 (hval 1 61 v1 rfl rfl) h1 (hwt 1 61 d1 rfl rfl)
  obtain ⟨l2, a2, c2, rfl, hI2, hb2, hn2⟩ := open_arg_ints Try.underlying61 Try.underlying24 cellsOf24 bytesOf24 (hval 2 61 v2 rfl rfl) h2 (hwt 2 61 d2 rfl rfl)
  obtain ⟨l3, a3, c3, rfl, hI3, hb3, hn3⟩ := open_arg_ints Try.underlying61 Try.underlying24 cellsOf24 bytesOf24 (hval 3 61 v3 rfl rfl) h3 (hwt 3 61 d3 rfl rfl)
  clear hA0 hval0
  refine (renamed_law W t0 a0 c0 hin0 hwf0 l1 a1 c1 hI1 hb1 hn1 l2 a2 c2 hI2 hb2 hn2 l3 a3 c3 hI3 hb3 hn3).mono fun e W' ⟨he, hb⟩ => ?_
  subst he
  exact ⟨_, rfl, post_law rfl hW' rfl (by kernel_rfl) (by rw [Try.params11]; decide +kernel) hb⟩

theorem valueRenamed_holds : Rows.ValueRenamedSaid :=
  OpenClaim.holds_of_wide 11 Try.f11 rfl rfl rfl rfl rfl rfl rfl ⟨rfl, rfl, rfl, rfl, rfl⟩ rfl rfl rfl rfl rfl (by kernel_rfl) Try.func11 (by kernel_rfl)
    (of_decide_eq_true (by kernel_rfl)) (by unfold Func.isWrapper; rw [if_neg (by decide +kernel)]; exact ⟨rfl, rfl⟩)
    (fun os started H enc _ => valueRenamed_lifted os started H enc)
end Go.Proofs.Ytapfmfihhpafcaa
