/-
  The reader of value.Front: its closures, number.
-/
import Derived.Test.YtapfmfihhpafcaaLaw
import Derived.Test.YtapfmfihhpafcaaB5
import Derived.Lib.ConvBytes
import Derived.Deep.CutBlock
import Derived.Deep.Cut
namespace Go.Proofs.Ytapfmfihhpafcaa
open Go.RowKit
set_option linter.unusedVariables false

/-- The variable that holds what is left. -/
def Left (w : World) (sb : Nat) (s : ByteArray) : Prop := w.heap[sb]? = some (.cells #[.string s] 9 (0, 0))

theorem put1 {w : World} {b : Nat} {v0 v : Value} {e : TypeId} (h : w.heap[b]? = some (.cells #[v0] e (0, 0))) : (w.setCell ⟨b, 0, none⟩ v).heap[b]? = some (.cells #[v] e (0, 0)) := by
  simp [World.setCell, Array.getElem?_modify, h]
theorem cell1 {w : World} {b : Nat} {v0 : Value} {e : TypeId} (h : w.heap[b]? = some (.cells #[v0] e (0, 0))) : w.cell? ⟨b, 0, none⟩ = some v0 ∧ w.frozen? ⟨b, 0, none⟩ = false := by
  refine ⟨?_, ?_⟩ <;> simp [World.cell?, World.frozen?, h]

theorem take1_walk (n sb : Nat) (s : ByteArray) (w : World) (h : Left w sb s) (hs : s.size ≤ 140737488351232) (hn : n ≤ 140737488351232) :
    Calls Try.prog 92 #[.int .i64 n, .pointer (some ⟨sb, 0, none⟩)] w fun e w' =>
      e = .returned (.tuple (if n ≤ s.size then #[.string (s.extract 0 n), .bool true] else #[.string ⟨#[]⟩, .bool false])) ∧ w' = (if n ≤ s.size then w.setCell ⟨sb, 0, none⟩ (.string (s.extract n s.size)) else w) := by
  obtain ⟨c0, f0⟩ := cell1 h
  by_cases hle : n ≤ s.size
  · rw [if_pos hle, if_pos hle]
    have h1 : (n : Int) ≤ (s.size : Int) := by omega
    go_enter Try.func92, Try.ntmps92
    go_wp2_with fail
    go_ret2
    exact ⟨rfl, rfl⟩
  · rw [if_neg hle, if_neg hle]
    go_enter Try.func92, Try.ntmps92
    go_wp2_with fail
    go_ret2
    exact ⟨rfl, rfl⟩

theorem rest1_walk (sb : Nat) (s : ByteArray) (w : World) (h : Left w sb s) : Calls Try.prog 93 #[.pointer (some ⟨sb, 0, none⟩)] w fun e w' => e = .returned (.string s) ∧ w = w' := by
  obtain ⟨c0, f0⟩ := cell1 h
  go_enter Try.func93, Try.ntmps93
  go_wp2_with fail
  go_ret
  exact ⟨rfl, rfl⟩

/-- The number that some bytes are, the highest first. -/
def numL (l : List UInt8) : Int := l.foldl (fun n c => n * 256 + c.toNat) 0
def numOf (s : ByteArray) : Int := numL s.data.toList

theorem numL_snoc (l : List UInt8) (c : UInt8) : numL (l ++ [c]) = numL l * 256 + c.toNat := by
  unfold numL; rw [List.foldl_append]; rfl

theorem numL_fold (l : List UInt8) : ∀ acc : Int, 0 ≤ acc → 0 ≤ l.foldl (fun n c => n * 256 + (c.toNat : Int)) acc ∧ l.foldl (fun n c => n * 256 + (c.toNat : Int)) acc < (acc + 1) * 256 ^ l.length := by
  induction l with
  | nil => intro acc h; simp; omega
  | cons c l ih =>
    intro acc h
    have hc := c.toNat_lt
    obtain ⟨h1, h2⟩ := ih (acc * 256 + c.toNat) (by omega)
    rw [List.foldl_cons]
    refine ⟨h1, Int.lt_of_lt_of_le h2 ?_⟩
    rw [List.length_cons, Int.pow_succ, Int.mul_comm (256 ^ l.length) 256, ← Int.mul_assoc]
    exact Int.mul_le_mul_of_nonneg_right (by omega) (Int.pow_nonneg (by omega))
theorem numL_lt (l : List UInt8) : 0 ≤ numL l ∧ numL l < 256 ^ l.length := by
  have := numL_fold l 0 (by omega)
  simpa [numL] using this

theorem or_byte (q : Int) (x : UInt8) (h0 : 0 ≤ q) (h1 : q < 72057594037927936) : bits .or .u64 (q * 256) (x.toNat : Int) = q * 256 + x.toNat := by
  have hx := x.toNat_lt
  rw [u64_or _ _ (by omega) (by omega) (by omega) (by omega)]
  have e1 : (q * 256).toNat = 2 ^ 8 * q.toNat := by omega
  rw [e1, Int.toNat_natCast, ← Nat.two_pow_add_eq_or_of_lt hx]
  omega

/-- What the reader leaves: the variable, nothing else that was there. -/
structure ReadStep (w w' : World) (sb : Nat) : Prop where
  os : w'.os = w.os
  tape : w'.tape = w.tape
  output : w'.output = w.output
  size : w.heap.size ≤ w'.heap.size
  block : ∀ k, k < w.heap.size → k ≠ sb → w'.heap[k]? = w.heap[k]?

theorem ReadStep.trans {w w1 w2 : World} {sb : Nat} (h : ReadStep w w1 sb) (h' : ReadStep w1 w2 sb) : ReadStep w w2 sb :=
  ⟨h'.os.trans h.os, h'.tape.trans h.tape, h'.output.trans h.output, Nat.le_trans h.size h'.size, fun k hk h2 => (h'.block k (Nat.lt_of_lt_of_le hk h.size) h2).trans (h.block k hk h2)⟩
theorem ReadStep.of_below {w w1 : World} {sb : Nat} (h : Below w.heap.size w w1) : ReadStep w w1 sb := ⟨h.os, h.tape, h.output, h.size, fun k hk _ => h.block k hk⟩
theorem ReadStep.set (w : World) (sb : Nat) (v : Value) : ReadStep w (w.setCell ⟨sb, 0, none⟩ v) sb :=
  ⟨rfl, rfl, rfl, by simp [World.setCell], fun k _ h2 => Below.heap_setCell _ _ _ _ h2⟩

def NumPost (w : World) (sb width : Nat) (s : ByteArray) (e : Ending) (w' : World) : Prop :=
  ((width ≤ s.size ∧ e = .returned (.tuple #[.int .u64 (numOf (s.extract 0 width)), .bool true]) ∧ Left w' sb (s.extract width s.size)) ∨
    (s.size < width ∧ ∃ n, e = .returned (.tuple #[.int .u64 n, .bool false]))) ∧ ReadStep w w' sb

set_option maxRecDepth 100000 in
set_option maxHeartbeats 1000000 in
theorem number_walk (width sb rb : Nat) (s : ByteArray) (w : World) (h : Left w sb s) (hr : w.cell? ⟨rb, 0, none⟩ = some (.func (.func 92) #[] #[.pointer (some ⟨sb, 0, none⟩)])) (hs : s.size ≤ 140737488351232) (hw : width ≤ 8) :
    Calls Try.prog 94 #[.pointer (some ⟨rb, 0, none⟩), .int .i64 width] w (NumPost w sb width s) := by
  have m1 := take1_walk width sb s w h hs (by omega)
  by_cases hle : width ≤ s.size
  · rw [if_pos hle, if_pos hle] at m1
    obtain ⟨t, ht⟩ : ∃ t, s.extract 0 width = t := ⟨_, rfl⟩
    have htz : t.size = width := by rw [← ht]; simp; omega
    rw [ht] at m1
    have hcv := fun w => Go.Lib.run_convert_string_bytes (P := Try.prog) w 9 97 5 t Try.underlying9 Try.underlying97 Try.underlying5
    have HT := Lib.hid ht
    have HZ := Lib.hid htz
    clear ht htz
    go_enter Try.func94, Try.ntmps94
    go_wp2_with (go_at_call 92; refine m1.mono ?_; rintro e w1 ⟨rfl, rfl⟩)
    obtain ⟨wb, hwb⟩ : ∃ wb, wb = Go.Lib.bytesWorld (w.setCell ⟨sb, 0, none⟩ (.string (s.extract width s.size))) 5 t := ⟨_, rfl⟩
    have hsz : (w.setCell ⟨sb, 0, none⟩ (.string (s.extract width s.size))).heap.size = w.heap.size := by simp [World.setCell]
    have hbb : Below w.heap.size (w.setCell ⟨sb, 0, none⟩ (.string (s.extract width s.size))) wb := by
      rw [hwb]
      exact ⟨rfl, rfl, rfl, by rw [Go.Lib.bytesWorld_size]; omega, fun k hk => Go.Lib.bytesWorld_at_old _ _ _ _ (by rw [hsz]; exact hk)⟩
    have hcell : ∀ j, j < t.size → wb.cell? ⟨w.heap.size, j, none⟩ = some (.int .u8 (t.data.toList.getD j 0).toNat) := fun j hj => by
      have := Go.Lib.bytesWorld_cell (w.setCell ⟨sb, 0, none⟩ (.string (s.extract width s.size))) 5 t j hj
      rw [hsz, ← hwb] at this
      exact this
    have hL : Left wb sb (s.extract width s.size) := (hbb.block sb (Array.getElem?_eq_some_iff.1 h).1).trans (put1 h)
    have hRS : ReadStep w wb sb := (ReadStep.set w sb _).trans (ReadStep.of_below (by rw [hsz]; exact hbb))
    rw [← hwb]
    clear hwb m1 hcv
    have htz := HZ.out
    go_loopg [4, 21] t.size (fun g vn vi wr => ∃ (i : Nat), vn = .int .u64 (numL (t.data.toList.take i)) ∧ vi = .int .i64 i ∧ i + g = t.size ∧ wr = wb)
    case atStart => exact ⟨0, rfl, rfl, by simp, rfl⟩
    case round =>
      obtain ⟨i, rfl, rfl, hi, rfl⟩ := hrel
      by_cases hlt : i < t.size
      · have hc := hcell i hlt
        have hb1 := (numL_lt (t.data.toList.take i)).1
        have hb2 : numL (t.data.toList.take i) < 72057594037927936 := by
          have h1 := (numL_lt (t.data.toList.take i)).2
          have h2 : (256 : Nat) ^ (t.data.toList.take i).length ≤ 256 ^ 7 := Nat.pow_le_pow_right (by omega) (by have := List.length_take_le i t.data.toList; omega)
          have h3 : ((256 : Int) ^ (t.data.toList.take i).length) = ((256 ^ (t.data.toList.take i).length : Nat) : Int) := by simp
          rw [h3] at h1
          omega
        obtain ⟨x, hx⟩ : ∃ x, t.data.toList.getD i 0 = x := ⟨_, rfl⟩
        have hx1 := x.toNat_lt
        rw [hx] at hc
        have hsn : numL (t.data.toList.take (i + 1)) = numL (t.data.toList.take i) * 256 + x.toNat := by
          have hl : i < t.data.toList.length := by rw [Array.length_toList]; exact hlt
          rw [List.take_succ_eq_append_getElem hl, numL_snoc, ← hx, List.getD_eq_getElem?_getD, List.getElem?_eq_getElem hl]; rfl
        have HS := Lib.hid hsn
        obtain ⟨q, hq⟩ : ∃ q, numL (t.data.toList.take i) = q := ⟨_, rfl⟩
        rw [hq] at hb1 hb2 hsn HS ⊢
        clear hcell hx hsn hq
        go_wp2_with fail
        go_roundg (gk - 1)
        case measure => omega
        case rel => exact ⟨i + 1, by rw [HS.out, or_byte q x hb1 hb2], by go_num, by omega, rfl⟩
      · have hn : numL (t.data.toList.take i) = numOf t := by
          unfold numOf
          rw [List.take_of_length_le (by rw [Array.length_toList]; exact (by omega : t.size ≤ i))]
        have HN := Lib.hid hn
        clear hn hcell
        go_wp2_with fail
        go_ret2
        exact ⟨.inl ⟨hle, by rw [HN.out, HT.out]; rfl, hL⟩, hRS⟩
  · rw [if_neg hle, if_neg hle] at m1
    have hcv := fun w => Go.Lib.run_convert_string_bytes (P := Try.prog) w 9 97 5 (⟨#[]⟩ : ByteArray) Try.underlying9 Try.underlying97 Try.underlying5
    obtain ⟨wb, hwb⟩ : ∃ wb, wb = Go.Lib.bytesWorld w 5 (⟨#[]⟩ : ByteArray) := ⟨_, rfl⟩
    have hbb : Below w.heap.size w wb := by
      rw [hwb]
      exact ⟨rfl, rfl, rfl, by rw [Go.Lib.bytesWorld_size]; omega, fun k hk => Go.Lib.bytesWorld_at_old _ _ _ _ hk⟩
    go_enter Try.func94, Try.ntmps94
    go_wp2_with (go_at_call 92; refine m1.mono ?_; rintro e w1 ⟨rfl, rfl⟩)
    rw [← hwb]
    clear hwb m1 hcv
    go_loopg [4, 21] 1 (fun g vn vi wr => vn = .int .u64 0 ∧ vi = .int .i64 0 ∧ g = 1 ∧ wr = wb)
    case atStart => exact ⟨rfl, rfl, rfl, rfl⟩
    case round =>
      obtain ⟨rfl, rfl, hg, rfl⟩ := hrel
      go_wp2_with fail
      go_ret2
      exact ⟨.inr ⟨by omega, _, rfl⟩, ReadStep.of_below hbb⟩
end Go.Proofs.Ytapfmfihhpafcaa
