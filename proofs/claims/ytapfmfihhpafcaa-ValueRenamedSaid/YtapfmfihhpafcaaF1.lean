/-
  Plain laws: bytes written and read again.
-/
import Derived.Test.YtapfmfihhpafcaaB7
import Derived.Test.YtapfmfihhpafcaaC1
namespace Go.Proofs.Ytapfmfihhpafcaa
set_option linter.unusedVariables false

def mkS (l : List UInt8) : ByteArray := ⟨l.toArray⟩
def B8 (xs : List Int) : List UInt8 := xs.map fun x => UInt8.ofNat x.toNat

theorem strOf_mk (xs : List Int) : strOf xs = mkS (B8 xs) := rfl
theorem mkS_size (l : List UInt8) : (mkS l).size = l.length := by simp [mkS, ByteArray.size]
theorem mkS_list (l : List UInt8) : (mkS l).data.toList = l := by simp [mkS]
theorem mkS_toList (l : List UInt8) : (mkS l).toList = l := by rw [ByteArray.toList_eq]; exact mkS_list l
theorem mkS_of (s : ByteArray) : s = mkS s.data.toList := by simp [mkS]
theorem mkS_inj {l l' : List UInt8} (h : mkS l = mkS l') : l = l' := by
  have := congrArg (fun s => s.data.toList) h
  simpa [mkS] using this
theorem mkS_append (l l' : List UInt8) : mkS l ++ mkS l' = mkS (l ++ l') := by
  apply ByteArray.ext
  simp [mkS]
theorem mkS_extract (l : List UInt8) (i j : Nat) : (mkS l).extract i j = mkS ((l.drop i).take (j - i)) := by
  apply ByteArray.ext
  apply Array.ext'
  simp [mkS, List.take_drop]
theorem hd_mk (c : UInt8) (l : List UInt8) : hd (mkS (c :: l)) = c.toNat := by simp [hd, mkS]
theorem tl_mk (c : UInt8) (l : List UInt8) : tl (mkS (c :: l)) = mkS l := by
  unfold tl
  rw [mkS_extract, mkS_size]
  simp
theorem cut_mk (n : Nat) (l : List UInt8) : cut n (mkS l) = mkS (l.drop n) := by
  unfold cut
  rw [mkS_extract, mkS_size, List.take_of_length_le (by simp)]
theorem numOf_mk (l : List UInt8) : numOf (mkS l) = numL l := by unfold numOf; rw [mkS_list]

theorem B8_app (xs ys : List Int) : B8 (xs ++ ys) = B8 xs ++ B8 ys := by simp [B8]
theorem B8_length (xs : List Int) : (B8 xs).length = xs.length := by simp [B8]
theorem B8_sbytes (s : ByteArray) : B8 (sbytes s) = s.data.toList := by
  simp only [B8, sbytes, List.map_map]
  conv => rhs; rw [← List.map_id s.data.toList]
  apply List.map_congr_left
  intro x _
  simp

theorem numL_cons (c : UInt8) (l : List UInt8) : numL (c :: l) = c.toNat * 256 ^ l.length + numL l := by
  have : ∀ (l : List UInt8) (a : Int), l.foldl (fun n c => n * 256 + (c.toNat : Int)) a = a * 256 ^ l.length + l.foldl (fun n c => n * 256 + (c.toNat : Int)) 0 := by
    intro l
    induction l with
    | nil => intro a; simp
    | cons c l ih =>
      intro a
      rw [List.foldl_cons, List.foldl_cons, ih, ih (0 * 256 + _), List.length_cons, Int.pow_succ, Int.add_mul, Int.zero_mul, Int.zero_add, Int.mul_assoc, Int.mul_comm 256, Int.add_assoc]
  unfold numL
  rw [List.foldl_cons, this]
  simp

theorem pow2_256 (w : Nat) : (2 : Int) ^ (8 * w) = 256 ^ w := by
  rw [Int.pow_mul]; rfl

theorem numL_big (n : Int) (h0 : 0 ≤ n) : ∀ w : Nat, numL (B8 (big n w)) = n % 256 ^ w
  | 0 => by simp [big, B8, numL]
  | w + 1 => by
    have ih := numL_big n h0 w
    have hc : B8 (big n (w + 1)) = UInt8.ofNat (n / 2 ^ (8 * w) % 256).toNat :: B8 (big n w) := rfl
    rw [hc, numL_cons, B8_length, big_length, ih, pow2_256, Int.pow_succ]
    have hp : (0 : Int) < 256 ^ w := Int.pow_pos (by omega)
    have h1 : 0 ≤ n / 256 ^ w % 256 := Int.emod_nonneg _ (by omega)
    have h2 : n / 256 ^ w % 256 < 256 := Int.emod_lt_of_pos _ (by omega)
    have h3 : ((UInt8.ofNat (n / 256 ^ w % 256).toNat).toNat : Int) = n / 256 ^ w % 256 := by
      rw [UInt8.toNat_ofNat']
      omega
    rw [h3]
    have e1 : n % (256 ^ w * 256) = n % 256 ^ w + 256 ^ w * (n / 256 ^ w % 256) := by
      rw [Int.emod_def n (256 ^ w * 256), Int.emod_def n (256 ^ w), Int.emod_def (n / 256 ^ w) 256, Int.mul_sub, ← Int.mul_assoc, ← Int.ediv_ediv_of_nonneg (Int.le_of_lt hp)]
      omega
    rw [e1, Int.mul_comm]
    omega

theorem numL_inj : ∀ {l l' : List UInt8}, l.length = l'.length → numL l = numL l' → l = l'
  | [], [], _, _ => rfl
  | c :: l, c' :: l', hl, h => by
    have hl' : l.length = l'.length := by simpa using hl
    rw [numL_cons, numL_cons, hl'] at h
    have h1 := numL_lt l
    have h2 := numL_lt l'
    rw [hl'] at h1
    obtain ⟨p, hp⟩ : ∃ p : Int, p = 256 ^ l'.length := ⟨_, rfl⟩
    rw [← hp] at h h1 h2
    have hpp : 0 < p := by rw [hp]; exact Int.pow_pos (by omega)
    have hc : (c.toNat : Int) = c'.toNat := by
      have a1 : ((c.toNat : Int) * p + numL l) / p = c.toNat := by
        rw [Int.add_comm, Int.add_mul_ediv_right _ _ (by omega), Int.ediv_eq_zero_of_lt h1.1 h1.2, Int.zero_add]
      have a2 : ((c'.toNat : Int) * p + numL l') / p = c'.toNat := by
        rw [Int.add_comm, Int.add_mul_ediv_right _ _ (by omega), Int.ediv_eq_zero_of_lt h2.1 h2.2, Int.zero_add]
      rw [← a1, ← a2, h]
    have hcc : c = c' := UInt8.toNat_inj.1 (by omega)
    subst hcc
    rw [numL_inj hl' (by omega)]

theorem big_numL {l : List UInt8} {w : Nat} (h : l.length = w) : B8 (big (numL l) w) = l := by
  refine numL_inj (by rw [B8_length, big_length, h]) ?_
  have h1 := numL_lt l
  rw [numL_big _ h1.1, ← h, Int.emod_eq_of_lt h1.1 h1.2]
end Go.Proofs.Ytapfmfihhpafcaa
