/-
  posternref02.number.
-/
import Derived.Test.YtapfmfihhpafcaaB8
import Derived.Test.YtapfmfihhpafcaaB6
import Derived.RegionTactic
namespace Go.Proofs.Ytapfmfihhpafcaa
open Go.RowKit
set_option linter.unusedVariables false

/-- What number answers. -/
def numAns (s : ByteArray) (width : Nat) : Value := if s.size < width then .tuple #[.int .u64 0, .string s, .bool false] else .tuple #[.int .u64 (numOf (s.extract 0 width)), .string (s.extract width s.size), .bool true]

set_option maxRecDepth 100000 in
set_option maxHeartbeats 1000000 in
theorem refNumber_walk (width : Nat) (s : ByteArray) (w : World) (hs : s.size ≤ 140737488351232) (hw : width ≤ 8) :
    Calls Try.prog 95 #[.string s, .int .i64 width] w fun e w' => e = .returned (numAns s width) ∧ Below w.heap.size w w' := by
  obtain ⟨y, hy⟩ : ∃ y, numAns s width = y := ⟨_, rfl⟩
  rw [hy]
  have HY := Lib.hid hy
  clear hy
  by_cases hlt : s.size < width
  · have h1 : (s.size : Int) < (width : Int) := by omega
    go_enter Try.func95, Try.ntmps95
    go_wp2_with fail
    exact bodyPost_ret (v := .tuple #[.int .u64 0, .string s, .bool false]) (by simp [results, Try.results95, go_sem]) rfl ⟨by rw [← HY.out]; unfold numAns; rw [if_pos hlt], Below.refl _ _⟩
  · have h1 : ¬ (s.size : Int) < (width : Int) := by omega
    go_enter Try.func95, Try.ntmps95
    go_wp2_with fail
    go_loopg [7, 8] width (fun g vn vi wr => ∃ (i : Nat), vn = .int .u64 (numL (s.data.toList.take i)) ∧ vi = .int .i64 i ∧ i + g = width ∧ wr = w)
    case atStart => exact ⟨0, rfl, rfl, by simp, rfl⟩
    case round =>
      obtain ⟨i, rfl, rfl, hi, rfl⟩ := hrel
      by_cases hlt2 : i < width
      · have hb1 := (numL_lt (s.data.toList.take i)).1
        have hb2 : numL (s.data.toList.take i) < 72057594037927936 := by
          have h1 := (numL_lt (s.data.toList.take i)).2
          have h2 : (256 : Nat) ^ (s.data.toList.take i).length ≤ 256 ^ 7 := Nat.pow_le_pow_right (by omega) (by have := List.length_take_le i s.data.toList; omega)
          have h3 : ((256 : Int) ^ (s.data.toList.take i).length) = ((256 ^ (s.data.toList.take i).length : Nat) : Int) := by simp
          rw [h3] at h1
          omega
        have hil : i < s.data.toList.length := by rw [Array.length_toList]; show i < s.size; omega
        have hsn : numL (s.data.toList.take (i + 1)) = numL (s.data.toList.take i) * 256 + (s.data.toList[i]).toNat := by rw [List.take_succ_eq_append_getElem hil, numL_snoc]
        have HS := Lib.hid hsn
        have i2 : (i : Int) < (s.size : Int) := by omega
        obtain ⟨q, hq⟩ : ∃ q, numL (s.data.toList.take i) = q := ⟨_, rfl⟩
        rw [hq] at hb1 hb2 HS ⊢
        clear hsn hq
        go_wp2_with fail
        go_roundg (gk - 1)
        case measure => omega
        case rel =>
          refine ⟨i + 1, ?_, by go_num, by omega, rfl⟩
          have hx := (s.data.toList[i]).toNat_lt
          have e : (s[i]'(by show i < s.size; omega)) = s.data.toList[i] := by simp [ByteArray.getElem_eq_getElem_data]
          rw [HS.out, e, wrapU1 _ (by omega) (by omega), or_byte q _ hb1 hb2]
      · have hn : numL (s.data.toList.take i) = numOf (s.extract 0 width) := by
          have hiw : i = width := by omega
          subst hiw
          unfold numOf
          simp
        rw [hn]
        have HYY := HY.out
        go_upto_region 8 with fail
        have i3 : (width : Int) ≤ (s.size : Int) := by omega
        go_quiet (fail)
        go_wp2_with fail
        exact bodyPost_ret (v := .tuple #[.int .u64 (numOf (s.extract 0 width)), .string (s.extract width s.size), .bool true]) (by simp [results, Try.results95, go_sem]) rfl ⟨by rw [← HY.out]; unfold numAns; rw [if_neg hlt], ⟨rfl, rfl, rfl, Nat.le_refl _, fun _ _ => rfl⟩⟩
end Go.Proofs.Ytapfmfihhpafcaa
