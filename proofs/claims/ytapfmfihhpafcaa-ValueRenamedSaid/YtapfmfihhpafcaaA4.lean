/-
  Whether a value may be: value.take, measure, May, Parts.
-/
import Derived.Test.YtapfmfihhpafcaaA2
import Derived.Deep.CutBlock
import Derived.Deep.Cut
import Derived.Deep.CutRange
import Derived.Deep.DeepCutAuto
namespace Go.Proofs.Ytapfmfihhpafcaa
open Go.RowKit
set_option linter.unusedVariables false

theorem T.look_pos (t : T) : ∀ (room deep : Int), T.look room deep t < 0 ∨ 1 ≤ T.look room deep t := by
  induction t using T.induct with
  | h k n s l r ih =>
    intro room deep
    have key : ∀ (l : List T), (∀ x ∈ l, ∀ (room deep : Int), T.look room deep x < 0 ∨ 1 ≤ T.look room deep x) → ∀ m, 1 ≤ m → T.looks room deep m l < 0 ∨ 1 ≤ T.looks room deep m l := by
      intro l
      induction l with
      | nil => intro _ m h1; rw [T.looks]; exact .inr h1
      | cons t ts ih2 =>
        intro hx m h1
        rw [T.looks]
        split
        · exact .inl (by omega)
        · exact ih2 (fun x hx' => hx x (by simp [hx'])) _ (by omega)
    rw [T.look]
    repeat' split
    all_goals first | omega | exact key l ih 1 (by omega)

/-- What a take leaves: the two numbers, nothing else that was there. -/
def TakePost (w : World) (lb : Nat) (room deep q : Int) (e : Ending) (w' : World) : Prop :=
  w.grownBy w' (some lb) ∧ ((1 ≤ q ∧ e = .returned (.bool true) ∧ w'.cell? ⟨lb, 0, none⟩ = some (.int .i64 (room - q)) ∧ w'.cell? ⟨lb, 1, none⟩ = some (.int .i64 deep) ∧
    w'.frozen? ⟨lb, 0, none⟩ = false ∧ w'.frozen? ⟨lb, 1, none⟩ = false) ∨ (q < 0 ∧ e = .returned (.bool false)))

theorem take_grown {w : World} {lb : Nat} {v : Value} {X Y : Obj} : w.grownBy (((w.setCell ⟨lb, 0, none⟩ v).alloc X).alloc Y) (some lb) := by
  refine ⟨rfl, rfl, rfl, ?_, ?_⟩
  · simp [World.setCell]; omega
  · intro k hk hne
    have hz : (w.setCell ⟨lb, 0, none⟩ v).heap.size = w.heap.size := by simp [World.setCell]
    rw [Below.heap_alloc _ _ _ (by simp [World.setCell]; omega), Below.heap_alloc _ _ _ (by rw [hz]; exact hk), Below.heap_setCell _ _ _ _ (fun e => hne (by rw [e]))]

theorem take_no {w : World} {lb : Nat} {room deep : Int} {v : Value} {X Y : Obj} (_ : lb < w.heap.size) : TakePost w lb room deep (-1) (.returned (.bool false)) (((w.setCell ⟨lb, 0, none⟩ v).alloc X).alloc Y) :=
  ⟨take_grown, .inr ⟨by omega, rfl⟩⟩

theorem take_ok {w : World} {lb : Nat} {room deep : Int} {X Y : Obj} (hlb : lb < w.heap.size)
    (c0 : w.cell? ⟨lb, 0, none⟩ = some (.int .i64 room)) (c1 : w.cell? ⟨lb, 1, none⟩ = some (.int .i64 deep)) (f0 : w.frozen? ⟨lb, 0, none⟩ = false) (f1 : w.frozen? ⟨lb, 1, none⟩ = false) :
    TakePost w lb room deep 1 (.returned (.bool true)) (((w.setCell ⟨lb, 0, none⟩ (.int .i64 (room - 1))).alloc X).alloc Y) := by
  have hz : lb < (w.setCell ⟨lb, 0, none⟩ (.int .i64 (room - 1))).heap.size := by simpa [World.setCell] using hlb
  have hh : (((w.setCell ⟨lb, 0, none⟩ (.int .i64 (room - 1))).alloc X).alloc Y).heap[lb]? = (w.setCell ⟨lb, 0, none⟩ (.int .i64 (room - 1))).heap[lb]? := by
    rw [Below.heap_alloc _ _ _ (by simp; omega), Below.heap_alloc _ _ _ hz]
  refine ⟨take_grown, .inl ⟨by omega, rfl, ?_, ?_, ?_, ?_⟩⟩
  · rw [cell_of_heap hh]; go_simp
  · rw [cell_of_heap hh]; go_simp
  · rw [World.frozen?_of_block (a := ⟨lb, 0, none⟩) hh]; go_simp
  · rw [World.frozen?_of_block (a := ⟨lb, 1, none⟩) hh]; go_simp

set_option maxRecDepth 100000 in
set_option maxHeartbeats 1000000 in
theorem take_0_n (n r : Int) (s : ByteArray) (len : Nat) (a : Option Addr) (c : Nat) (w : World) (lb : Nat) (room deep : Int) (hlb : lb < w.heap.size) (hr0 : 1 ≤ room) (hr1 : room ≤ 1000000)
    (c0 : w.cell? ⟨lb, 0, none⟩ = some (.int .i64 room)) (c1 : w.cell? ⟨lb, 1, none⟩ = some (.int .i64 deep)) (f0 : w.frozen? ⟨lb, 0, none⟩ = false) (f1 : w.frozen? ⟨lb, 1, none⟩ = false)  (hn : (n == 0) = false) :
    Calls Try.prog 101 #[.pointer (some ⟨lb, 0, none⟩), .agg #[.int .u8 0, .int .i64 n, .string s, .slice a len c, .int .i64 r]] w (TakePost w lb room deep (-1)) := by
  have hr2 : (room == 0) = false := by simp; omega
  go_enter Try.func101, Try.ntmps101
  go_wp2_with fail
  go_ret
  exact take_no hlb

set_option maxRecDepth 100000 in
set_option maxHeartbeats 1000000 in
theorem take_0_s (n r : Int) (s : ByteArray) (len : Nat) (a : Option Addr) (c : Nat) (w : World) (lb : Nat) (room deep : Int) (hlb : lb < w.heap.size) (hr0 : 1 ≤ room) (hr1 : room ≤ 1000000)
    (c0 : w.cell? ⟨lb, 0, none⟩ = some (.int .i64 room)) (c1 : w.cell? ⟨lb, 1, none⟩ = some (.int .i64 deep)) (f0 : w.frozen? ⟨lb, 0, none⟩ = false) (f1 : w.frozen? ⟨lb, 1, none⟩ = false) (hn : (n == 0) = true) (hs : ¬ s.toList = []) (hs2 : s.toList.isEmpty = false) :
    Calls Try.prog 101 #[.pointer (some ⟨lb, 0, none⟩), .agg #[.int .u8 0, .int .i64 n, .string s, .slice a len c, .int .i64 r]] w (TakePost w lb room deep (-1)) := by
  have hr2 : (room == 0) = false := by simp; omega
  go_enter Try.func101, Try.ntmps101
  go_wp2_with fail
  go_ret
  exact take_no hlb

set_option maxRecDepth 100000 in
set_option maxHeartbeats 1000000 in
theorem take_0_r (n r : Int) (s : ByteArray) (len : Nat) (a : Option Addr) (c : Nat) (w : World) (lb : Nat) (room deep : Int) (hlb : lb < w.heap.size) (hr0 : 1 ≤ room) (hr1 : room ≤ 1000000)
    (c0 : w.cell? ⟨lb, 0, none⟩ = some (.int .i64 room)) (c1 : w.cell? ⟨lb, 1, none⟩ = some (.int .i64 deep)) (f0 : w.frozen? ⟨lb, 0, none⟩ = false) (f1 : w.frozen? ⟨lb, 1, none⟩ = false) (hn : (n == 0) = true) (hs : s.toList = []) (hr : (r == 0) = false) :
    Calls Try.prog 101 #[.pointer (some ⟨lb, 0, none⟩), .agg #[.int .u8 0, .int .i64 n, .string s, .slice a len c, .int .i64 r]] w (TakePost w lb room deep (-1)) := by
  have hr2 : (room == 0) = false := by simp; omega
  go_enter Try.func101, Try.ntmps101
  go_wp2_with fail
  go_ret
  exact take_no hlb

set_option maxRecDepth 100000 in
set_option maxHeartbeats 1000000 in
theorem take_0_l (n r : Int) (s : ByteArray) (len : Nat) (a : Option Addr) (c : Nat) (w : World) (lb : Nat) (room deep : Int) (hlb : lb < w.heap.size) (hr0 : 1 ≤ room) (hr1 : room ≤ 1000000)
    (c0 : w.cell? ⟨lb, 0, none⟩ = some (.int .i64 room)) (c1 : w.cell? ⟨lb, 1, none⟩ = some (.int .i64 deep)) (f0 : w.frozen? ⟨lb, 0, none⟩ = false) (f1 : w.frozen? ⟨lb, 1, none⟩ = false) (hn : (n == 0) = true) (hs : s.toList = []) (hr : (r == 0) = true) (hl : ((len : Int) == 0) = false) :
    Calls Try.prog 101 #[.pointer (some ⟨lb, 0, none⟩), .agg #[.int .u8 0, .int .i64 n, .string s, .slice a len c, .int .i64 r]] w (TakePost w lb room deep (-1)) := by
  have hr2 : (room == 0) = false := by simp; omega
  go_enter Try.func101, Try.ntmps101
  go_wp2_with fail
  go_ret
  exact take_no hlb

set_option maxRecDepth 100000 in
set_option maxHeartbeats 1000000 in
theorem take_0_ok (n r : Int) (s : ByteArray) (len : Nat) (a : Option Addr) (c : Nat) (w : World) (lb : Nat) (room deep : Int) (hlb : lb < w.heap.size) (hr0 : 1 ≤ room) (hr1 : room ≤ 1000000)
    (c0 : w.cell? ⟨lb, 0, none⟩ = some (.int .i64 room)) (c1 : w.cell? ⟨lb, 1, none⟩ = some (.int .i64 deep)) (f0 : w.frozen? ⟨lb, 0, none⟩ = false) (f1 : w.frozen? ⟨lb, 1, none⟩ = false) (hn : (n == 0) = true) (hs : s.toList = []) (hr : (r == 0) = true) (hl : ((len : Int) == 0) = true) :
    Calls Try.prog 101 #[.pointer (some ⟨lb, 0, none⟩), .agg #[.int .u8 0, .int .i64 n, .string s, .slice a len c, .int .i64 r]] w (TakePost w lb room deep (1)) := by
  have hr2 : (room == 0) = false := by simp; omega
  go_enter Try.func101, Try.ntmps101
  go_wp2_with fail
  go_ret
  exact take_ok hlb c0 c1 f0 f1

set_option maxRecDepth 100000 in
set_option maxHeartbeats 1000000 in
theorem take_1_s (n r : Int) (s : ByteArray) (len : Nat) (a : Option Addr) (c : Nat) (w : World) (lb : Nat) (room deep : Int) (hlb : lb < w.heap.size) (hr0 : 1 ≤ room) (hr1 : room ≤ 1000000)
    (c0 : w.cell? ⟨lb, 0, none⟩ = some (.int .i64 room)) (c1 : w.cell? ⟨lb, 1, none⟩ = some (.int .i64 deep)) (f0 : w.frozen? ⟨lb, 0, none⟩ = false) (f1 : w.frozen? ⟨lb, 1, none⟩ = false)  (hs : ¬ s.toList = []) (hs2 : s.toList.isEmpty = false) :
    Calls Try.prog 101 #[.pointer (some ⟨lb, 0, none⟩), .agg #[.int .u8 1, .int .i64 n, .string s, .slice a len c, .int .i64 r]] w (TakePost w lb room deep (-1)) := by
  have hr2 : (room == 0) = false := by simp; omega
  go_enter Try.func101, Try.ntmps101
  go_wp2_with fail
  go_ret
  exact take_no hlb

set_option maxRecDepth 100000 in
set_option maxHeartbeats 1000000 in
theorem take_1_r (n r : Int) (s : ByteArray) (len : Nat) (a : Option Addr) (c : Nat) (w : World) (lb : Nat) (room deep : Int) (hlb : lb < w.heap.size) (hr0 : 1 ≤ room) (hr1 : room ≤ 1000000)
    (c0 : w.cell? ⟨lb, 0, none⟩ = some (.int .i64 room)) (c1 : w.cell? ⟨lb, 1, none⟩ = some (.int .i64 deep)) (f0 : w.frozen? ⟨lb, 0, none⟩ = false) (f1 : w.frozen? ⟨lb, 1, none⟩ = false) (hs : s.toList = []) (hr : (r == 0) = false) :
    Calls Try.prog 101 #[.pointer (some ⟨lb, 0, none⟩), .agg #[.int .u8 1, .int .i64 n, .string s, .slice a len c, .int .i64 r]] w (TakePost w lb room deep (-1)) := by
  have hr2 : (room == 0) = false := by simp; omega
  go_enter Try.func101, Try.ntmps101
  go_wp2_with fail
  go_ret
  exact take_no hlb

set_option maxRecDepth 100000 in
set_option maxHeartbeats 1000000 in
theorem take_1_l (n r : Int) (s : ByteArray) (len : Nat) (a : Option Addr) (c : Nat) (w : World) (lb : Nat) (room deep : Int) (hlb : lb < w.heap.size) (hr0 : 1 ≤ room) (hr1 : room ≤ 1000000)
    (c0 : w.cell? ⟨lb, 0, none⟩ = some (.int .i64 room)) (c1 : w.cell? ⟨lb, 1, none⟩ = some (.int .i64 deep)) (f0 : w.frozen? ⟨lb, 0, none⟩ = false) (f1 : w.frozen? ⟨lb, 1, none⟩ = false) (hs : s.toList = []) (hr : (r == 0) = true) (hl : ((len : Int) == 0) = false) :
    Calls Try.prog 101 #[.pointer (some ⟨lb, 0, none⟩), .agg #[.int .u8 1, .int .i64 n, .string s, .slice a len c, .int .i64 r]] w (TakePost w lb room deep (-1)) := by
  have hr2 : (room == 0) = false := by simp; omega
  go_enter Try.func101, Try.ntmps101
  go_wp2_with fail
  go_ret
  exact take_no hlb

set_option maxRecDepth 100000 in
set_option maxHeartbeats 1000000 in
theorem take_1_ok (n r : Int) (s : ByteArray) (len : Nat) (a : Option Addr) (c : Nat) (w : World) (lb : Nat) (room deep : Int) (hlb : lb < w.heap.size) (hr0 : 1 ≤ room) (hr1 : room ≤ 1000000)
    (c0 : w.cell? ⟨lb, 0, none⟩ = some (.int .i64 room)) (c1 : w.cell? ⟨lb, 1, none⟩ = some (.int .i64 deep)) (f0 : w.frozen? ⟨lb, 0, none⟩ = false) (f1 : w.frozen? ⟨lb, 1, none⟩ = false) (hs : s.toList = []) (hr : (r == 0) = true) (hl : ((len : Int) == 0) = true) :
    Calls Try.prog 101 #[.pointer (some ⟨lb, 0, none⟩), .agg #[.int .u8 1, .int .i64 n, .string s, .slice a len c, .int .i64 r]] w (TakePost w lb room deep (1)) := by
  have hr2 : (room == 0) = false := by simp; omega
  go_enter Try.func101, Try.ntmps101
  go_wp2_with fail
  go_ret
  exact take_ok hlb c0 c1 f0 f1

set_option maxRecDepth 100000 in
set_option maxHeartbeats 1000000 in
theorem take_2_n (n r : Int) (s : ByteArray) (len : Nat) (a : Option Addr) (c : Nat) (w : World) (lb : Nat) (room deep : Int) (hlb : lb < w.heap.size) (hr0 : 1 ≤ room) (hr1 : room ≤ 1000000)
    (c0 : w.cell? ⟨lb, 0, none⟩ = some (.int .i64 room)) (c1 : w.cell? ⟨lb, 1, none⟩ = some (.int .i64 deep)) (f0 : w.frozen? ⟨lb, 0, none⟩ = false) (f1 : w.frozen? ⟨lb, 1, none⟩ = false) (hsz : (s.size : Int) ≤ 256)  (hn : (n == 0) = false) :
    Calls Try.prog 101 #[.pointer (some ⟨lb, 0, none⟩), .agg #[.int .u8 2, .int .i64 n, .string s, .slice a len c, .int .i64 r]] w (TakePost w lb room deep (-1)) := by
  have hr2 : (room == 0) = false := by simp; omega
  go_enter Try.func101, Try.ntmps101
  go_wp2_with fail
  go_ret
  exact take_no hlb

set_option maxRecDepth 100000 in
set_option maxHeartbeats 1000000 in
theorem take_2_r (n r : Int) (s : ByteArray) (len : Nat) (a : Option Addr) (c : Nat) (w : World) (lb : Nat) (room deep : Int) (hlb : lb < w.heap.size) (hr0 : 1 ≤ room) (hr1 : room ≤ 1000000)
    (c0 : w.cell? ⟨lb, 0, none⟩ = some (.int .i64 room)) (c1 : w.cell? ⟨lb, 1, none⟩ = some (.int .i64 deep)) (f0 : w.frozen? ⟨lb, 0, none⟩ = false) (f1 : w.frozen? ⟨lb, 1, none⟩ = false) (hsz : (s.size : Int) ≤ 256) (hn : (n == 0) = true) (hr : (r == 0) = false) :
    Calls Try.prog 101 #[.pointer (some ⟨lb, 0, none⟩), .agg #[.int .u8 2, .int .i64 n, .string s, .slice a len c, .int .i64 r]] w (TakePost w lb room deep (-1)) := by
  have hr2 : (room == 0) = false := by simp; omega
  go_enter Try.func101, Try.ntmps101
  go_wp2_with fail
  go_ret
  exact take_no hlb

set_option maxRecDepth 100000 in
set_option maxHeartbeats 1000000 in
theorem take_2_l (n r : Int) (s : ByteArray) (len : Nat) (a : Option Addr) (c : Nat) (w : World) (lb : Nat) (room deep : Int) (hlb : lb < w.heap.size) (hr0 : 1 ≤ room) (hr1 : room ≤ 1000000)
    (c0 : w.cell? ⟨lb, 0, none⟩ = some (.int .i64 room)) (c1 : w.cell? ⟨lb, 1, none⟩ = some (.int .i64 deep)) (f0 : w.frozen? ⟨lb, 0, none⟩ = false) (f1 : w.frozen? ⟨lb, 1, none⟩ = false) (hsz : (s.size : Int) ≤ 256) (hn : (n == 0) = true) (hr : (r == 0) = true) (hl : ((len : Int) == 0) = false) :
    Calls Try.prog 101 #[.pointer (some ⟨lb, 0, none⟩), .agg #[.int .u8 2, .int .i64 n, .string s, .slice a len c, .int .i64 r]] w (TakePost w lb room deep (-1)) := by
  have hr2 : (room == 0) = false := by simp; omega
  go_enter Try.func101, Try.ntmps101
  go_wp2_with fail
  go_ret
  exact take_no hlb

set_option maxRecDepth 100000 in
set_option maxHeartbeats 1000000 in
theorem take_2_ok (n r : Int) (s : ByteArray) (len : Nat) (a : Option Addr) (c : Nat) (w : World) (lb : Nat) (room deep : Int) (hlb : lb < w.heap.size) (hr0 : 1 ≤ room) (hr1 : room ≤ 1000000)
    (c0 : w.cell? ⟨lb, 0, none⟩ = some (.int .i64 room)) (c1 : w.cell? ⟨lb, 1, none⟩ = some (.int .i64 deep)) (f0 : w.frozen? ⟨lb, 0, none⟩ = false) (f1 : w.frozen? ⟨lb, 1, none⟩ = false) (hsz : (s.size : Int) ≤ 256) (hn : (n == 0) = true) (hr : (r == 0) = true) (hl : ((len : Int) == 0) = true) :
    Calls Try.prog 101 #[.pointer (some ⟨lb, 0, none⟩), .agg #[.int .u8 2, .int .i64 n, .string s, .slice a len c, .int .i64 r]] w (TakePost w lb room deep (1)) := by
  have hr2 : (room == 0) = false := by simp; omega
  go_enter Try.func101, Try.ntmps101
  go_wp2_with fail
  go_ret
  exact take_ok hlb c0 c1 f0 f1

set_option maxRecDepth 100000 in
set_option maxHeartbeats 1000000 in
theorem take_4_n (n r : Int) (s : ByteArray) (len : Nat) (a : Option Addr) (c : Nat) (w : World) (lb : Nat) (room deep : Int) (hlb : lb < w.heap.size) (hr0 : 1 ≤ room) (hr1 : room ≤ 1000000)
    (c0 : w.cell? ⟨lb, 0, none⟩ = some (.int .i64 room)) (c1 : w.cell? ⟨lb, 1, none⟩ = some (.int .i64 deep)) (f0 : w.frozen? ⟨lb, 0, none⟩ = false) (f1 : w.frozen? ⟨lb, 1, none⟩ = false) (hr3 : 1 ≤ r)  (hn : (n == 0) = false) :
    Calls Try.prog 101 #[.pointer (some ⟨lb, 0, none⟩), .agg #[.int .u8 4, .int .i64 n, .string s, .slice a len c, .int .i64 r]] w (TakePost w lb room deep (-1)) := by
  have hr2 : (room == 0) = false := by simp; omega
  go_enter Try.func101, Try.ntmps101
  go_wp2_with fail
  go_ret
  exact take_no hlb

set_option maxRecDepth 100000 in
set_option maxHeartbeats 1000000 in
theorem take_4_s (n r : Int) (s : ByteArray) (len : Nat) (a : Option Addr) (c : Nat) (w : World) (lb : Nat) (room deep : Int) (hlb : lb < w.heap.size) (hr0 : 1 ≤ room) (hr1 : room ≤ 1000000)
    (c0 : w.cell? ⟨lb, 0, none⟩ = some (.int .i64 room)) (c1 : w.cell? ⟨lb, 1, none⟩ = some (.int .i64 deep)) (f0 : w.frozen? ⟨lb, 0, none⟩ = false) (f1 : w.frozen? ⟨lb, 1, none⟩ = false) (hr3 : 1 ≤ r) (hn : (n == 0) = true) (hs : ¬ s.toList = []) (hs2 : s.toList.isEmpty = false) :
    Calls Try.prog 101 #[.pointer (some ⟨lb, 0, none⟩), .agg #[.int .u8 4, .int .i64 n, .string s, .slice a len c, .int .i64 r]] w (TakePost w lb room deep (-1)) := by
  have hr2 : (room == 0) = false := by simp; omega
  go_enter Try.func101, Try.ntmps101
  go_wp2_with fail
  go_ret
  exact take_no hlb

set_option maxRecDepth 100000 in
set_option maxHeartbeats 1000000 in
theorem take_4_l (n r : Int) (s : ByteArray) (len : Nat) (a : Option Addr) (c : Nat) (w : World) (lb : Nat) (room deep : Int) (hlb : lb < w.heap.size) (hr0 : 1 ≤ room) (hr1 : room ≤ 1000000)
    (c0 : w.cell? ⟨lb, 0, none⟩ = some (.int .i64 room)) (c1 : w.cell? ⟨lb, 1, none⟩ = some (.int .i64 deep)) (f0 : w.frozen? ⟨lb, 0, none⟩ = false) (f1 : w.frozen? ⟨lb, 1, none⟩ = false) (hr3 : 1 ≤ r) (hn : (n == 0) = true) (hs : s.toList = []) (hl : ((len : Int) == 0) = false) :
    Calls Try.prog 101 #[.pointer (some ⟨lb, 0, none⟩), .agg #[.int .u8 4, .int .i64 n, .string s, .slice a len c, .int .i64 r]] w (TakePost w lb room deep (-1)) := by
  have hr2 : (room == 0) = false := by simp; omega
  go_enter Try.func101, Try.ntmps101
  go_wp2_with fail
  go_ret
  exact take_no hlb

set_option maxRecDepth 100000 in
set_option maxHeartbeats 1000000 in
theorem take_4_ok (n r : Int) (s : ByteArray) (len : Nat) (a : Option Addr) (c : Nat) (w : World) (lb : Nat) (room deep : Int) (hlb : lb < w.heap.size) (hr0 : 1 ≤ room) (hr1 : room ≤ 1000000)
    (c0 : w.cell? ⟨lb, 0, none⟩ = some (.int .i64 room)) (c1 : w.cell? ⟨lb, 1, none⟩ = some (.int .i64 deep)) (f0 : w.frozen? ⟨lb, 0, none⟩ = false) (f1 : w.frozen? ⟨lb, 1, none⟩ = false) (hr3 : 1 ≤ r) (hn : (n == 0) = true) (hs : s.toList = []) (hl : ((len : Int) == 0) = true) :
    Calls Try.prog 101 #[.pointer (some ⟨lb, 0, none⟩), .agg #[.int .u8 4, .int .i64 n, .string s, .slice a len c, .int .i64 r]] w (TakePost w lb room deep (1)) := by
  have hr2 : (room == 0) = false := by simp; omega
  go_enter Try.func101, Try.ntmps101
  go_wp2_with fail
  go_ret
  exact take_ok hlb c0 c1 f0 f1

set_option maxRecDepth 100000 in
set_option maxHeartbeats 1000000 in
theorem take_2_long (n r : Int) (s : ByteArray) (len : Nat) (a : Option Addr) (c : Nat) (w : World) (lb : Nat) (room deep : Int) (hlb : lb < w.heap.size) (hr0 : 1 ≤ room) (hr1 : room ≤ 1000000)
    (c0 : w.cell? ⟨lb, 0, none⟩ = some (.int .i64 room)) (c1 : w.cell? ⟨lb, 1, none⟩ = some (.int .i64 deep)) (f0 : w.frozen? ⟨lb, 0, none⟩ = false) (f1 : w.frozen? ⟨lb, 1, none⟩ = false) (hsz : 256 < (s.size : Int)) :
    Calls Try.prog 101 #[.pointer (some ⟨lb, 0, none⟩), .agg #[.int .u8 2, .int .i64 n, .string s, .slice a len c, .int .i64 r]] w (TakePost w lb room deep (-1)) := by
  have hr2 : (room == 0) = false := by simp; omega
  go_enter Try.func101, Try.ntmps101
  go_wp2_with fail
  go_ret
  exact take_no hlb

set_option maxRecDepth 100000 in
set_option maxHeartbeats 1000000 in
theorem take_4_low (n r : Int) (s : ByteArray) (len : Nat) (a : Option Addr) (c : Nat) (w : World) (lb : Nat) (room deep : Int) (hlb : lb < w.heap.size) (hr0 : 1 ≤ room) (hr1 : room ≤ 1000000)
    (c0 : w.cell? ⟨lb, 0, none⟩ = some (.int .i64 room)) (c1 : w.cell? ⟨lb, 1, none⟩ = some (.int .i64 deep)) (f0 : w.frozen? ⟨lb, 0, none⟩ = false) (f1 : w.frozen? ⟨lb, 1, none⟩ = false) (hr3 : r < 1) :
    Calls Try.prog 101 #[.pointer (some ⟨lb, 0, none⟩), .agg #[.int .u8 4, .int .i64 n, .string s, .slice a len c, .int .i64 r]] w (TakePost w lb room deep (-1)) := by
  have hr2 : (room == 0) = false := by simp; omega
  go_enter Try.func101, Try.ntmps101
  go_wp2_with fail
  go_ret
  exact take_no hlb

set_option maxRecDepth 100000 in
set_option maxHeartbeats 1000000 in
theorem take_other (k : Int) (hk : 4 < k) (n r : Int) (s : ByteArray) (len : Nat) (a : Option Addr) (c : Nat) (w : World) (lb : Nat) (room deep : Int) (hlb : lb < w.heap.size) (hr0 : 1 ≤ room) (hr1 : room ≤ 1000000)
    (c0 : w.cell? ⟨lb, 0, none⟩ = some (.int .i64 room)) (c1 : w.cell? ⟨lb, 1, none⟩ = some (.int .i64 deep)) (f0 : w.frozen? ⟨lb, 0, none⟩ = false) (f1 : w.frozen? ⟨lb, 1, none⟩ = false)  :
    Calls Try.prog 101 #[.pointer (some ⟨lb, 0, none⟩), .agg #[.int .u8 k, .int .i64 n, .string s, .slice a len c, .int .i64 r]] w (TakePost w lb room deep (-1)) := by
  have hr2 : (room == 0) = false := by simp; omega
  go_enter Try.func101, Try.ntmps101
  go_wp2_with fail
  go_ret
  exact take_no hlb


theorem T.look_fields {room deep k n r : Int} {s : ByteArray} {l : List T} (hr : 1 ≤ room) (h : ¬ fieldsOk k n s l r) : T.look room deep (.mk k n s l r) = -1 := by
  rw [T.look, if_neg (by omega), if_pos h]
theorem T.look_one {room deep k n r : Int} {s : ByteArray} {l : List T} (hr : 1 ≤ room) (h : fieldsOk k n s l r) (h3 : k ≠ 3) : T.look room deep (.mk k n s l r) = 1 := by
  rw [T.look, if_neg (by omega), if_neg (not_not_intro h), if_pos h3]

/-- Of a value that is no list. -/
theorem take_flat (k n r : Int) (s : ByteArray) (l : List T) (a : Option Addr) (c : Nat) (w : World) (lb : Nat) (room deep : Int) (hk0 : 0 ≤ k) (hk3 : k ≠ 3) (hlb : lb < w.heap.size) (hr0 : 1 ≤ room) (hr1 : room ≤ 1000000)
    (c0 : w.cell? ⟨lb, 0, none⟩ = some (.int .i64 room)) (c1 : w.cell? ⟨lb, 1, none⟩ = some (.int .i64 deep)) (f0 : w.frozen? ⟨lb, 0, none⟩ = false) (f1 : w.frozen? ⟨lb, 1, none⟩ = false) :
    Calls Try.prog 101 #[.pointer (some ⟨lb, 0, none⟩), .agg #[.int .u8 k, .int .i64 n, .string s, .slice a l.length c, .int .i64 r]] w (TakePost w lb room deep (T.look room deep (.mk k n s l r))) := by
  have bt : ∀ x : Int, x = 0 → (x == 0) = true := fun x h => by simp [h]
  have bf : ∀ x : Int, x ≠ 0 → (x == 0) = false := fun x h => by simp [h]
  have st : ∀ x : ByteArray, ¬ x.toList = [] → x.toList.isEmpty = false := fun x h => by simpa using h
  have lt : ∀ x : List T, x = [] → ((x.length : Int) == 0) = true := fun x h => by simp [h]
  have lf : ∀ x : List T, x ≠ [] → ((x.length : Int) == 0) = false := fun x h => by simpa using h
  by_cases k0 : k = 0
  · subst k0
    by_cases hn : n = 0
    · by_cases hs : s.toList = []
      · by_cases hr : r = 0
        · by_cases hl : l = []
          · rw [T.look_one hr0 (by unfold fieldsOk; simp [hn, hs, hr, hl, size_of_nil hs]) (by omega)]
            exact take_0_ok n r s l.length a c w lb room deep hlb hr0 hr1 c0 c1 f0 f1 (bt _ hn) hs (bt _ hr) (lt _ hl)
          · rw [T.look_fields hr0 (by unfold fieldsOk; simp [hl])]
            exact take_0_l n r s l.length a c w lb room deep hlb hr0 hr1 c0 c1 f0 f1 (bt _ hn) hs (bt _ hr) (lf _ hl)
        · rw [T.look_fields hr0 (by unfold fieldsOk; simp [hr])]
          exact take_0_r n r s l.length a c w lb room deep hlb hr0 hr1 c0 c1 f0 f1 (bt _ hn) hs (bf _ hr)
      · rw [T.look_fields hr0 (by unfold fieldsOk; simp [hs])]
        exact take_0_s n r s l.length a c w lb room deep hlb hr0 hr1 c0 c1 f0 f1 (bt _ hn) hs (st _ hs)
    · rw [T.look_fields hr0 (by unfold fieldsOk; simp [hn])]
      exact take_0_n n r s l.length a c w lb room deep hlb hr0 hr1 c0 c1 f0 f1 (bf _ hn)
  by_cases k1 : k = 1
  · subst k1
    by_cases hs : s.toList = []
    · by_cases hr : r = 0
      · by_cases hl : l = []
        · rw [T.look_one hr0 (by unfold fieldsOk; simp [hs, hr, hl, size_of_nil hs]) (by omega)]
          exact take_1_ok n r s l.length a c w lb room deep hlb hr0 hr1 c0 c1 f0 f1 hs (bt _ hr) (lt _ hl)
        · rw [T.look_fields hr0 (by unfold fieldsOk; simp [hl])]
          exact take_1_l n r s l.length a c w lb room deep hlb hr0 hr1 c0 c1 f0 f1 hs (bt _ hr) (lf _ hl)
      · rw [T.look_fields hr0 (by unfold fieldsOk; simp [hr])]
        exact take_1_r n r s l.length a c w lb room deep hlb hr0 hr1 c0 c1 f0 f1 hs (bf _ hr)
    · rw [T.look_fields hr0 (by unfold fieldsOk; simp [hs])]
      exact take_1_s n r s l.length a c w lb room deep hlb hr0 hr1 c0 c1 f0 f1 hs (st _ hs)
  by_cases k2 : k = 2
  · subst k2
    by_cases hz : s.size ≤ 256
    · by_cases hn : n = 0
      · by_cases hr : r = 0
        · by_cases hl : l = []
          · rw [T.look_one hr0 (by unfold fieldsOk; simp [hn, hr, hl, hz]) (by omega)]
            exact take_2_ok n r s l.length a c w lb room deep hlb hr0 hr1 c0 c1 f0 f1 (by omega) (bt _ hn) (bt _ hr) (lt _ hl)
          · rw [T.look_fields hr0 (by unfold fieldsOk; simp [hl])]
            exact take_2_l n r s l.length a c w lb room deep hlb hr0 hr1 c0 c1 f0 f1 (by omega) (bt _ hn) (bt _ hr) (lf _ hl)
        · rw [T.look_fields hr0 (by unfold fieldsOk; simp [hr])]
          exact take_2_r n r s l.length a c w lb room deep hlb hr0 hr1 c0 c1 f0 f1 (by omega) (bt _ hn) (bf _ hr)
      · rw [T.look_fields hr0 (by unfold fieldsOk; simp [hn])]
        exact take_2_n n r s l.length a c w lb room deep hlb hr0 hr1 c0 c1 f0 f1 (by omega) (bf _ hn)
    · rw [T.look_fields hr0 (by unfold fieldsOk; omega)]
      exact take_2_long n r s l.length a c w lb room deep hlb hr0 hr1 c0 c1 f0 f1 (by omega)
  by_cases k4 : k = 4
  · subst k4
    by_cases hz : 1 ≤ r
    · by_cases hn : n = 0
      · by_cases hs : s.toList = []
        · by_cases hl : l = []
          · rw [T.look_one hr0 (by unfold fieldsOk; simp [hn, hs, hl, hz, size_of_nil hs]) (by omega)]
            exact take_4_ok n r s l.length a c w lb room deep hlb hr0 hr1 c0 c1 f0 f1 (by omega) (bt _ hn) hs (lt _ hl)
          · rw [T.look_fields hr0 (by unfold fieldsOk; simp [hl])]
            exact take_4_l n r s l.length a c w lb room deep hlb hr0 hr1 c0 c1 f0 f1 (by omega) (bt _ hn) hs (lf _ hl)
        · rw [T.look_fields hr0 (by unfold fieldsOk; simp [hs])]
          exact take_4_s n r s l.length a c w lb room deep hlb hr0 hr1 c0 c1 f0 f1 (by omega) (bt _ hn) hs (st _ hs)
      · rw [T.look_fields hr0 (by unfold fieldsOk; simp [hn])]
        exact take_4_n n r s l.length a c w lb room deep hlb hr0 hr1 c0 c1 f0 f1 (by omega) (bf _ hn)
    · rw [T.look_fields hr0 (by unfold fieldsOk; simp [hz])]
      exact take_4_low n r s l.length a c w lb room deep hlb hr0 hr1 c0 c1 f0 f1 (by omega)
  rw [T.look_fields hr0 (by unfold fieldsOk; omega)]
  exact take_other k (by omega) n r s l.length a c w lb room deep hlb hr0 hr1 c0 c1 f0 f1

end Go.Proofs.Ytapfmfihhpafcaa
