/-
  posternlaw02.smallAll.
-/
import Derived.Test.YtapfmfihhpafcaaA1
import Derived.Test.YtapfmfihhpafcaaA5
namespace Go.Proofs.Ytapfmfihhpafcaa
open Go.RowKit
set_option linter.unusedVariables false

theorem T.small_ge (t : T) : ∀ (room deep : Int), T.small room deep t = -1 ∨ 1 ≤ T.small room deep t := by
  induction t using T.induct with
  | h k n s l r ih =>
    intro room deep
    have key : ∀ (l : List T), (∀ x ∈ l, ∀ (room deep : Int), T.small room deep x = -1 ∨ 1 ≤ T.small room deep x) → ∀ m, 1 ≤ m → T.smalls room deep m l = -1 ∨ 1 ≤ T.smalls room deep m l := by
      intro l
      induction l with
      | nil => intro _ m h1; rw [T.smalls]; exact .inr h1
      | cons t ts ih2 =>
        intro hx m h1
        rw [T.smalls]
        split
        · exact .inl rfl
        · exact ih2 (fun x hx' => hx x (by simp [hx'])) _ (by omega)
    rw [T.small]
    repeat' split
    all_goals first | omega | exact key l ih 1 (by omega)

/-- What smallAll answers. -/
def SmallAllPost (w : World) (l : List T) (e : Ending) (w' : World) : Prop :=
  (∃ b, e = .returned (.bool b) ∧ (b = true → l.length ≤ 600 ∧ ∀ x ∈ l, 1 ≤ x.small 1200 40)) ∧ Below w.heap.size w w'

set_option maxRecDepth 100000 in
set_option maxHeartbeats 1000000 in
theorem smallAll_walk (l : List T) (a : Option Addr) (c : Nat) (w : World) (B : Nat) (hin : T.At w B (.mk 3 0 ⟨#[]⟩ l 0) a c) (hB : B ≤ w.heap.size) :
    Calls Try.prog 29 #[.slice a l.length c] w (SmallAllPost w l) := by
  by_cases h6 : 600 < l.length
  · have g1 : decide (600 < l.length) = true := by simpa using h6
    have g2 : decide ((600 : Int) < (l.length : Int)) = true := by simp; omega
    go_enter Try.func29, Try.ntmps29
    go_wp2_with fail
    go_ret
    exact ⟨⟨false, rfl, fun h => by cases h⟩, Below.refl _ _⟩
  have g1 : decide (600 < l.length) = false := by simpa using h6
  have g2 : decide ((600 : Int) < (l.length : Int)) = false := by simp; omega
  go_enter Try.func29, Try.ntmps29
  go_wp2_with fail
  go_loopg [3, 4] l.length (fun g vn vi wr => ∃ (m : Int) (i : Nat), vn = .int .i64 m ∧ vi = .int .i64 i ∧ i + g = l.length ∧ 0 ≤ m ∧ m ≤ 3600 ∧ Aside (∀ x ∈ l.take i, 1 ≤ x.small 1200 40) ∧ Below w.heap.size w wr)
  case atStart => exact ⟨0, 0, rfl, rfl, by simp, by omega, by omega, by simp [Aside], Below.refl _ _⟩
  case round =>
    obtain ⟨m, i, rfl, rfl, hi, hm1, hm2, hs, hb⟩ := hrel
    by_cases h : i < l.length
    · obtain ⟨b, o, a', c', rfl, hbB, ht, e0, e1, e2, e3, e4⟩ := (T.At.below hb hB hin).elem i h
      have hle := T.small_le l[i] 1200 40 (by omega)
      have hge := T.small_ge l[i] 1200 40
      have m2 := small_walk l[i] a' c' wr B 1200 40 ht (by have := hb.size; omega) (by omega) (by omega) (by omega) (by omega)
      unfold T.val at m2
      obtain ⟨q, hq⟩ : ∃ q, T.small 1200 40 l[i] = q := ⟨_, rfl⟩
      rw [hq] at hle hge m2
      have HQ := Lib.hid hq
      clear hq hin g1 g2
      by_cases hq : q < 0
      · go_wp2_with (go_at_call 15; refine m2.mono ?_; clear m2; rintro e w' ⟨rfl, hb'⟩)
        go_ret
        exact ⟨⟨false, rfl, fun h => by cases h⟩, hb.trans (hb'.mono hb.size)⟩
      · by_cases hm : 2400 < m
        · go_wp2_with (go_at_call 15; refine m2.mono ?_; clear m2; rintro e w' ⟨rfl, hb'⟩)
          go_ret
          exact ⟨⟨false, rfl, fun h => by cases h⟩, hb.trans (hb'.mono hb.size)⟩
        · go_wp2_with (go_at_call 15; refine m2.mono ?_; clear m2; rintro e w' ⟨rfl, hb'⟩)
          go_roundg (gk - 1)
          case measure => omega
          case rel =>
            refine ⟨m + q, i + 1, rfl, by go_num, by omega, by omega, by omega, ?_, hb.trans (hb'.mono hb.size)⟩
            intro x hx
            rw [List.take_succ_eq_append_getElem h] at hx
            rcases List.mem_append.1 hx with hx | hx
            · exact hs.out x hx
            · rw [List.mem_singleton.1 hx, HQ.out]; omega
    · have hsz : l.take i = l := List.take_of_length_le (by omega)
      have HS := Lib.hid hsz
      clear hsz g1 g2
      go_wp2_with fail
      go_ret
      exact ⟨⟨true, rfl, fun _ => ⟨by omega, fun x hx => hs.out x (by rw [HS.out]; exact hx)⟩⟩, hb⟩
end Go.Proofs.Ytapfmfihhpafcaa
