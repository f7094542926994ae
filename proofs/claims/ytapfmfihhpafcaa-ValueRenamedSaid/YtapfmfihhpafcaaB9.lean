/-
  The reader's value.
-/
import Derived.Test.YtapfmfihhpafcaaB8
import Derived.Test.YtapfmfihhpafcaaA9
import Derived.Deep.CutRange
import Derived.Deep.DeepCutAuto
namespace Go.Proofs.Ytapfmfihhpafcaa
open Go.RowKit
set_option linter.unusedVariables false

def hd (s : ByteArray) : Int := ((s.data.toList.getD 0 0).toNat : Int)
def tl (s : ByteArray) : ByteArray := s.extract 1 s.size
def cut (n : Nat) (s : ByteArray) : ByteArray := s.extract n s.size

/-- One value at the front; 'sub' reads the parts of a list. -/
def rdNode (d p : Nat) (s : ByteArray) (sub : Nat → Nat → ByteArray → Option (List T × ByteArray × Nat)) : Option (T × ByteArray × Nat) :=
  if s.size < 1 ∨ p = 0 then none
  else if hd s = 0 then some (.mk 0 0 ⟨#[]⟩ [] 0, tl s, p - 1)
  else if hd s = 1 then (if (tl s).size < 8 then none else some (.mk 1 (numOf ((tl s).extract 0 8) - 9223372036854775808) ⟨#[]⟩ [] 0, cut 8 (tl s), p - 1))
  else if hd s = 4 then (if (tl s).size < 4 then none else if numOf ((tl s).extract 0 4) = 0 then none else some (.mk 4 0 ⟨#[]⟩ [] (numOf ((tl s).extract 0 4)), cut 4 (tl s), p - 1))
  else if hd s = 2 then (if (tl s).size < 2 then none else if 256 < numOf ((tl s).extract 0 2) then none else
    if (cut 2 (tl s)).size < (numOf ((tl s).extract 0 2)).toNat then none else some (.mk 2 0 ((cut 2 (tl s)).extract 0 (numOf ((tl s).extract 0 2)).toNat) [] 0, cut (numOf ((tl s).extract 0 2)).toNat (cut 2 (tl s)), p - 1))
  else if hd s = 3 then (if (tl s).size < 2 then none else if d = 0 ∨ p - 1 < (numOf ((tl s).extract 0 2)).toNat then none else
    (sub (numOf ((tl s).extract 0 2)).toNat (p - 1) (cut 2 (tl s))).map fun r => (.mk 3 0 ⟨#[]⟩ r.1 0, r.2.1, r.2.2))
  else none

/-- So many values, one behind the other. -/
def rds (f : Nat → ByteArray → Option (T × ByteArray × Nat)) : Nat → Nat → ByteArray → Option (List T × ByteArray × Nat)
  | 0, p, s => some ([], s, p)
  | n + 1, p, s => (f p s).bind fun r => (rds f n r.2.2 r.2.1).map fun q => (r.1 :: q.1, q.2)

def rd : Nat → Nat → ByteArray → Option (T × ByteArray × Nat)
  | 0, p, s => rdNode 0 p s fun _ _ _ => none
  | d + 1, p, s => rdNode (d + 1) p s (rds (rd d))

/-- The reader's own fields. -/
def RS (w : World) (rb sb : Nat) (s : ByteArray) (p d : Nat) : Prop :=
  w.heap[rb]? = some (.cells #[.func (.func 92) #[] #[.pointer (some ⟨sb, 0, none⟩)], .func (.func 93) #[] #[.pointer (some ⟨sb, 0, none⟩)], .int .i64 p, .int .i64 d] 109 (0, 0)) ∧ Left w sb s ∧ rb ≠ sb

/-- What the reader leaves: its own two blocks. -/
structure ValStep (w w' : World) (rb sb : Nat) : Prop where
  os : w'.os = w.os
  tape : w'.tape = w.tape
  output : w'.output = w.output
  size : w.heap.size ≤ w'.heap.size
  block : ∀ k, k < w.heap.size → k ≠ rb → k ≠ sb → w'.heap[k]? = w.heap[k]?

theorem ValStep.trans {w w1 w2 : World} {rb sb : Nat} (h : ValStep w w1 rb sb) (h' : ValStep w1 w2 rb sb) : ValStep w w2 rb sb :=
  ⟨h'.os.trans h.os, h'.tape.trans h.tape, h'.output.trans h.output, Nat.le_trans h.size h'.size, fun k hk h2 h3 => (h'.block k (Nat.lt_of_lt_of_le hk h.size) h2 h3).trans (h.block k hk h2 h3)⟩
theorem ValStep.of_below {w w1 : World} {rb sb : Nat} (h : Below w.heap.size w w1) : ValStep w w1 rb sb := ⟨h.os, h.tape, h.output, h.size, fun k hk _ _ => h.block k hk⟩
theorem ValStep.of_read {w w1 : World} {rb sb : Nat} (h : ReadStep w w1 sb) : ValStep w w1 rb sb := ⟨h.os, h.tape, h.output, h.size, fun k hk _ h2 => h.block k hk h2⟩

theorem RS.cells {w : World} {rb sb p d : Nat} {s : ByteArray} (h : RS w rb sb s p d) : w.cell? ⟨rb, 0, none⟩ = some (.func (.func 92) #[] #[.pointer (some ⟨sb, 0, none⟩)]) ∧ w.cell? ⟨rb, 2, none⟩ = some (.int .i64 p) ∧ w.cell? ⟨rb, 3, none⟩ = some (.int .i64 d) ∧
    w.frozen? ⟨rb, 2, none⟩ = false ∧ w.frozen? ⟨rb, 3, none⟩ = false ∧ rb < w.heap.size ∧ sb < w.heap.size := by
  refine ⟨?_, ?_, ?_, ?_, ?_, (Array.getElem?_eq_some_iff.1 h.1).1, (Array.getElem?_eq_some_iff.1 h.2.1).1⟩ <;> simp [World.cell?, World.frozen?, h.1]

def ReadPost (w : World) (rb sb d : Nat) (r : Option (T × ByteArray × Nat)) (e : Ending) (w' : World) : Prop :=
  ((∃ t s' p' a c, r = some (t, s', p') ∧ e = .returned (.tuple #[t.val a c, .bool true]) ∧ T.Mut w' (New w.heap.size w') t a c ∧ RS w' rb sb s' p' d ∧ t.wf) ∨
    (r = none ∧ ∃ t a c, e = .returned (.tuple #[T.val t a c, .bool false]))) ∧ ValStep w w' rb sb

theorem blk5cc {w : World} {b : Nat} {v0 v1 v2 v3 v4 : Value} {e : TypeId} (h : w.heap[b]? = some (.cells #[v0, v1, v2, v3, v4] e (0, 0))) :
    w.cell? ⟨b, 0, none⟩ = some v0 ∧ w.cell? ⟨b, 1, none⟩ = some v1 ∧ w.cell? ⟨b, 2, none⟩ = some v2 ∧ w.cell? ⟨b, 3, none⟩ = some v3 ∧ w.cell? ⟨b, 4, none⟩ = some v4 :=
  let h := blk5 h; ⟨h.1, h.2.1, h.2.2.1, h.2.2.2.1, h.2.2.2.2.1⟩

theorem hd_eq (s : ByteArray) (h : 0 < (s.extract 0 1).size) : (((s.extract 0 1)[0]'h).toNat : Int) = hd s := by
  have h0 : 0 < s.size := by simp at h; omega
  have e : (s.extract 0 1)[0]'h = s[0] := by
    have := ByteArray.getElem_extract h
    simpa using this
  rw [e]
  unfold hd
  have h1 : s.data.toList[0]? = some s[0] := by
    rw [List.getElem?_eq_getElem (by rw [Array.length_toList]; exact h0)]
    rfl
  rw [List.getD_eq_getElem?_getD, h1]
  rfl

theorem heap_two {w : World} {sb rb o : Nat} {u v : Value} {X : Obj} (k : Nat) (hk : k < w.heap.size) : (((w.setCell ⟨sb, 0, none⟩ u).setCell ⟨rb, o, none⟩ v).alloc X).heap[k]? = ((w.setCell ⟨sb, 0, none⟩ u).setCell ⟨rb, o, none⟩ v).heap[k]? :=
  Below.heap_alloc _ _ _ (by simpa [World.setCell] using hk)

theorem RS.started {w : World} {rb sb p d : Nat} {s : ByteArray} {X : Obj} (h : RS w rb sb s p d) (h1 : 1 ≤ p) :
    RS (((w.setCell ⟨sb, 0, none⟩ (.string (s.extract 1 s.size))).setCell ⟨rb, 2, none⟩ (.int .i64 ((p : Int) - 1))).alloc X) rb sb (tl s) (p - 1) d ∧
    ValStep w (((w.setCell ⟨sb, 0, none⟩ (.string (s.extract 1 s.size))).setCell ⟨rb, 2, none⟩ (.int .i64 ((p : Int) - 1))).alloc X) rb sb ∧
    (((w.setCell ⟨sb, 0, none⟩ (.string (s.extract 1 s.size))).setCell ⟨rb, 2, none⟩ (.int .i64 ((p : Int) - 1))).alloc X).heap[w.heap.size]? = some X := by
  obtain ⟨c0, c2, c3, f2, f3, hrb, hsb⟩ := h.cells
  have hne := h.2.2
  refine ⟨⟨?_, ?_, hne⟩, ⟨rfl, rfl, rfl, by simp [World.setCell], fun k hk h2 h3 => ?_⟩, ?_⟩
  · rw [heap_two rb hrb]
    have e : ((p - 1 : Nat) : Int) = (p : Int) - 1 := by omega
    rw [e]
    simp [World.setCell, Array.getElem?_modify, h.1, Ne.symm hne]
  · unfold Left
    rw [heap_two sb hsb, Below.heap_setCell _ _ _ _ (Ne.symm hne)]
    exact put1 h.2.1
  · rw [heap_two k hk, Below.heap_setCell _ _ _ _ h2, Below.heap_setCell _ _ _ _ h3]
  · have := heap_alloc_new ((w.setCell ⟨sb, 0, none⟩ (.string (s.extract 1 s.size))).setCell ⟨rb, 2, none⟩ (.int .i64 ((p : Int) - 1))) X
    simpa [World.setCell] using this

theorem numOf_lt (s : ByteArray) (n : Nat) (h : s.size ≤ n) : 0 ≤ numOf s ∧ numOf s < (256 ^ n : Nat) := by
  have h1 := numL_lt s.data.toList
  refine ⟨h1.1, Int.lt_of_lt_of_le h1.2 ?_⟩
  have h2 : (256 : Nat) ^ s.data.toList.length ≤ 256 ^ n := Nat.pow_le_pow_right (by omega) (by rw [Array.length_toList]; exact h)
  have h3 : ((256 : Int) ^ s.data.toList.length) = ((256 ^ s.data.toList.length : Nat) : Int) := by simp
  rw [h3]
  exact Int.ofNat_le.2 h2

theorem wrapN (n : Int) (h0 : 0 ≤ n) (h1 : n < 18446744073709551616) : wrap64 (IntKind.u64.wrap (n - 9223372036854775808)) = n - 9223372036854775808 := by
  rw [IntKind.wrap_u64]
  unfold wrap64
  omega
theorem T.wf_flat (k n : Int) (s : ByteArray) (r : Int) (h : 0 ≤ k ∧ k ≤ 255 ∧ -9223372036854775808 ≤ n ∧ n ≤ 9223372036854775807 ∧ -9223372036854775808 ≤ r ∧ r ≤ 9223372036854775807) (hs : s.size ≤ 140737488351232) : T.wf (.mk k n s [] r) := by
  rw [T.wf, T.wfs]
  exact ⟨⟨h.1, h.2.1, h.2.2.1, h.2.2.2.1, h.2.2.2.2.1, h.2.2.2.2.2, hs, by simp⟩, trivial⟩

theorem post_cell26c {fn : Func} {R : Ending → World → Prop} {a : Act} {w : World} {b : Nat} {v0 v1 v2 v3 v4 u : Value} (hr : fn.results = #[.cell 2 26, .tmp 3]) (hp : a.tmps[2]?.getD undef = .pointer (some ⟨b, 0, none⟩)) (hu : a.tmps[3]?.getD undef = u) (hd : a.defers = [])
    (C : w.heap[b]? = some (.cells #[v0, v1, v2, v3, v4] 26 (0, 0))) (h : R (.returned (.tuple #[.agg #[v0, v1, v2, v3, v4], u])) w) : bodyPost Try.prog fn R .ret a w := by
  obtain ⟨c0, c1, c2, c3, c4⟩ := blk5cc C
  refine bodyPost_ret (v := .tuple #[.agg #[v0, v1, v2, v3, v4], u]) ?_ hd h
  simp only [results, hr]
  simp [hp, hu, go_sem, c0, c1, c2, c3, c4]

theorem T.Mut.flat (w : World) (S : Nat → Prop) (k n : Int) (s : ByteArray) (r : Int) : T.Mut w S (.mk k n s [] r) none 0 := by
  rw [T.Mut]
  exact ⟨[], World.ownsRow_nil _ _ _ _, by simp [Value.ownBlock], by rw [T.Muts]⟩

theorem setF {w : World} {b : Nat} {v0 v1 v2 v3 v4 x : Value} (h : w.heap[b]? = some (.cells #[v0, v1, v2, v3, v4] 26 (0, 0))) :
    (w.setCell ⟨b, 1, none⟩ x).heap[b]? = some (.cells #[v0, x, v2, v3, v4] 26 (0, 0)) ∧ (w.setCell ⟨b, 2, none⟩ x).heap[b]? = some (.cells #[v0, v1, x, v3, v4] 26 (0, 0)) ∧
    (w.setCell ⟨b, 3, none⟩ x).heap[b]? = some (.cells #[v0, v1, v2, x, v4] 26 (0, 0)) ∧ (w.setCell ⟨b, 4, none⟩ x).heap[b]? = some (.cells #[v0, v1, v2, v3, x] 26 (0, 0)) := by
  refine ⟨?_, ?_, ?_, ?_⟩ <;> simp [World.setCell, Array.getElem?_modify, h]

theorem RS.keep {w w' : World} {rb sb p d : Nat} {s : ByteArray} (h : RS w rb sb s p d) (h1 : w'.heap[rb]? = w.heap[rb]?) (h2 : w'.heap[sb]? = w.heap[sb]?) : RS w' rb sb s p d :=
  ⟨h1.trans h.1, h2.trans h.2.1, h.2.2⟩
theorem RS.read {w w' : World} {rb sb p d : Nat} {s s' : ByteArray} (h : RS w rb sb s p d) (hs : ReadStep w w' sb) (hl : Left w' sb s') : RS w' rb sb s' p d :=
  ⟨(hs.block rb h.cells.2.2.2.2.2.1 h.2.2).trans h.1, hl, h.2.2⟩

/-- A store into a block that was not there at w. -/
theorem ValStep.put {w w1 w' : World} {rb sb g : Nat} {cur : Array Value} (h : ValStep w w1 rb sb) (hp : Put w1 g cur w') (hg : w.heap.size ≤ g) : ValStep w w' rb sb :=
  ⟨hp.os.trans h.os, hp.tape.trans h.tape, hp.output.trans h.output, by rw [hp.size]; exact h.size, fun k hk h2 h3 => (hp.other k (by omega)).trans (h.block k hk h2 h3)⟩
theorem ValStep.set {w w1 : World} {rb sb g o : Nat} {v : Value} (h : ValStep w w1 rb sb) (hg : w.heap.size ≤ g) : ValStep w (w1.setCell ⟨g, o, none⟩ v) rb sb :=
  ⟨h.os, h.tape, h.output, by simpa [World.setCell] using h.size, fun k hk h2 h3 => (Below.heap_setCell _ _ _ _ (by show k ≠ g; omega)).trans (h.block k hk h2 h3)⟩

theorem ValStep.one {w : World} {rb sb : Nat} {u : Value} {X : Obj} : ValStep w ((w.setCell ⟨sb, 0, none⟩ u).alloc X) rb sb ∧ ((w.setCell ⟨sb, 0, none⟩ u).alloc X).heap[w.heap.size]? = some X := by
  refine ⟨⟨rfl, rfl, rfl, by simp [World.setCell], fun k hk h2 h3 => ?_⟩, ?_⟩
  · rw [Below.heap_alloc _ _ _ (by simpa [World.setCell] using hk), Below.heap_setCell _ _ _ _ h3]
  · have := heap_alloc_new (w.setCell ⟨sb, 0, none⟩ u) X
    simpa [World.setCell] using this

/-- A failure: whatever has been filled so far. -/
theorem ReadPost.no {w w' : World} {rb sb d : Nat} (t : T) (a : Option Addr) (c : Nat) {e : Ending} (he : e = .returned (.tuple #[T.val t a c, .bool false])) (h : ValStep w w' rb sb) : ReadPost w rb sb d none e w' :=
  ⟨.inr ⟨rfl, t, a, c, he⟩, h⟩

theorem numOf_nat (s : ByteArray) : ∃ m : Nat, numOf s = m := ⟨(numOf s).toNat, (Int.toNat_of_nonneg (numL_lt _).1).symm⟩

def ValCalls (d' rb sb : Nat) : Prop := ∀ (p : Nat) (s : ByteArray) (w : World), RS w rb sb s p d' → s.size ≤ 140737488351232 → p ≤ 1000000 → Calls Try.prog 71 #[.pointer (some ⟨rb, 0, none⟩)] w (ReadPost w rb sb d' (rd d' p s))

theorem Mut_list {w : World} {base : Nat} {S : Nat → Prop} {a : Option Addr} {c : Nat} {ts : List T} {xs : List Value} {k n r : Int} {s : ByteArray} (h : w.ownsRow base 26 5 (.slice a ts.length c) ts.length xs) (hm : T.Muts w S ts xs) {S' : Nat → Prop} (hS : ∀ b, S b → S' b) (ho : ∀ g, (Value.slice a ts.length c).ownBlock = some g → S' g) :
    T.Mut w S' (.mk k n s ts r) a c := by
  rw [T.Mut]
  refine ⟨xs, ⟨h.1, h.2.imp id fun ⟨g, cap, cur, h1, h2, h3⟩ => ⟨g, cap, cur, h1, Nat.zero_le _, h3⟩⟩, ho, T.Muts.keep (fun _ _ => rfl) hS hm⟩

set_option maxRecDepth 100000 in
set_option maxHeartbeats 4000000 in
theorem value_k0 (d p rb sb : Nat) (s : ByteArray) (w : World) (sub : Nat → Nat → ByteArray → Option (List T × ByteArray × Nat))
    (h : RS w rb sb s p d) (hs : s.size ≤ 140737488351232) (hp : p ≤ 1000000) (hd1 : d ≤ 1000) (h0 : 1 ≤ s.size) (h1 : 1 ≤ p) (k0 : hd s = 0) :
    Calls Try.prog 71 #[.pointer (some ⟨rb, 0, none⟩)] w (ReadPost w rb sb d (rdNode d p s sub)) := by
  obtain ⟨c0, c2, c3, f2, f3, hrb, hsb⟩ := h.cells
  have hne := h.2.2
  have m1 := take1_walk 1 sb s (w.alloc (.cells #[.int .u8 0, .int .i64 0, .string ⟨#[]⟩, .slice none 0 0, .int .i64 0] 26 (0, 0))) ((Below.heap_alloc _ _ _ hsb).trans h.2.1) hs (by omega)
  rw [if_pos h0, if_pos h0] at m1
  have hp0 : ((p : Int) == 0) = false := by simp; omega
  obtain ⟨r, hr⟩ : ∃ r, rdNode d p s sub = r := ⟨_, rfl⟩
  rw [hr]
  rw [rdNode, if_neg (by omega)] at hr
  have HR := Lib.hid hr
  clear hr
  go_enter Try.func71, Try.ntmps71
  go_upto_region 5 with (go_at_call 92; refine m1.mono ?_; rintro e w1 ⟨rfl, rfl⟩)
  have hz1 : (s.extract 0 1).size = 1 := by simp; omega
  go_cut [2] (fun v2 wx => v2 = .pointer (some ⟨w.heap.size, 0, none⟩) ∧ wx.heap[w.heap.size]? = some (.cells #[.int .u8 (hd s), .int .i64 0, .string ⟨#[]⟩, .slice none 0 0, .int .i64 0] 26 (0, 0)) ∧ RS wx rb sb (tl s) (p - 1) d ∧ ValStep w wx rb sb)
  case first =>
    go_wp2_with fail
    go_meet
    case rel =>
      exact ⟨rfl, by rw [← hd_eq s (by omega)]; exact (h.started h1).2.2, (h.started h1).1, (h.started h1).2.1⟩
  case rest =>
    obtain ⟨rfl, V, R, st⟩ := hcut
    obtain ⟨x0, x1, x2, x3, x4, y0, y1, y2, y3, y4⟩ := blk5 V
    clear c0 c2 c3 f2 f3 h m1 hp0 hz1
    obtain ⟨c0, c2, c3, f2, f3, hrb', hsb'⟩ := R.cells
    have hvz : w.heap.size < wc.heap.size := (Array.getElem?_eq_some_iff.1 V).1
    have V0 := Lib.hid V
    clear V
    have htz : (tl s).size ≤ 140737488351232 := by unfold tl; simp; omega
    have e := HR.out
    rw [if_pos k0] at e
    have K0 := Lib.hid e
    rw [k0] at x0 V0
    clear k0 e HR
    go_wp2_with (refine wpList_put _ rfl _ _ rfl w.heap.size _ _ _ _ _ _ _ _ _ _ (by rfl) (by rfl) (by simp [Value.oneCell']) V0.out ?_; rintro wP hP)
    exact post_cell26c Try.results71 rfl rfl rfl hP.at_ ⟨.inl ⟨.mk 0 0 ⟨#[]⟩ [] 0, tl s, p - 1, none, 0, K0.out.symm, rfl, T.Mut.flat _ _ _ _ _ _, R.keep (hP.other _ (by omega)) (hP.other _ (by omega)), T.wf_flat _ _ _ _ (by omega) (by show 0 ≤ _; omega)⟩, st.put hP (Nat.le_refl _)⟩

set_option maxRecDepth 100000 in
set_option maxHeartbeats 4000000 in
theorem value_k1 (d p rb sb : Nat) (s : ByteArray) (w : World) (sub : Nat → Nat → ByteArray → Option (List T × ByteArray × Nat))
    (h : RS w rb sb s p d) (hs : s.size ≤ 140737488351232) (hp : p ≤ 1000000) (hd1 : d ≤ 1000) (h0 : 1 ≤ s.size) (h1 : 1 ≤ p) (k1 : hd s = 1) :
    Calls Try.prog 71 #[.pointer (some ⟨rb, 0, none⟩)] w (ReadPost w rb sb d (rdNode d p s sub)) := by
  obtain ⟨c0, c2, c3, f2, f3, hrb, hsb⟩ := h.cells
  have hne := h.2.2
  have m1 := take1_walk 1 sb s (w.alloc (.cells #[.int .u8 0, .int .i64 0, .string ⟨#[]⟩, .slice none 0 0, .int .i64 0] 26 (0, 0))) ((Below.heap_alloc _ _ _ hsb).trans h.2.1) hs (by omega)
  rw [if_pos h0, if_pos h0] at m1
  have hp0 : ((p : Int) == 0) = false := by simp; omega
  obtain ⟨r, hr⟩ : ∃ r, rdNode d p s sub = r := ⟨_, rfl⟩
  rw [hr]
  rw [rdNode, if_neg (by omega)] at hr
  have HR := Lib.hid hr
  clear hr
  go_enter Try.func71, Try.ntmps71
  go_upto_region 5 with (go_at_call 92; refine m1.mono ?_; rintro e w1 ⟨rfl, rfl⟩)
  have hz1 : (s.extract 0 1).size = 1 := by simp; omega
  go_cut [2] (fun v2 wx => v2 = .pointer (some ⟨w.heap.size, 0, none⟩) ∧ wx.heap[w.heap.size]? = some (.cells #[.int .u8 (hd s), .int .i64 0, .string ⟨#[]⟩, .slice none 0 0, .int .i64 0] 26 (0, 0)) ∧ RS wx rb sb (tl s) (p - 1) d ∧ ValStep w wx rb sb)
  case first =>
    go_wp2_with fail
    go_meet
    case rel =>
      exact ⟨rfl, by rw [← hd_eq s (by omega)]; exact (h.started h1).2.2, (h.started h1).1, (h.started h1).2.1⟩
  case rest =>
    obtain ⟨rfl, V, R, st⟩ := hcut
    obtain ⟨x0, x1, x2, x3, x4, y0, y1, y2, y3, y4⟩ := blk5 V
    clear c0 c2 c3 f2 f3 h m1 hp0 hz1
    obtain ⟨c0, c2, c3, f2, f3, hrb', hsb'⟩ := R.cells
    have hvz : w.heap.size < wc.heap.size := (Array.getElem?_eq_some_iff.1 V).1
    have V0 := Lib.hid V
    clear V
    have htz : (tl s).size ≤ 140737488351232 := by unfold tl; simp; omega
    have e := HR.out
    rw [if_neg (by omega), if_pos k1] at e
    have K0 := Lib.hid e
    rw [k1] at x0 V0
    clear k1 e HR
    have m2 := number_walk 8 sb rb (tl s) wc R.2.1 c0 htz (by omega)
    have hb := numOf_lt ((tl s).extract 0 8) 8 (by simp; omega)
    unfold NumPost at m2
    obtain ⟨q, hq⟩ : ∃ q, numOf ((tl s).extract 0 8) = q := ⟨_, rfl⟩
    rw [hq] at m2 hb
    have HQ := Lib.hid hq
    have HB := Lib.hid hb
    clear hq hb
    go_wp2_with (first
      | (go_at_call 94; refine m2.mono ?_; clear m2; rintro e w2 ⟨(⟨hle, rfl, hL⟩ | ⟨hle, n, rfl⟩), hst⟩; all_goals (have V2 := (hst.block w.heap.size hvz (by omega)).trans V0.out; clear x0 x1 x2 x3 x4 y0 y1 y2 y3 y4; obtain ⟨x0, x1, x2, x3, x4, y0, y1, y2, y3, y4⟩ := blk5 V2; have V2 := Lib.hid V2))
      | (refine wpList_put _ rfl _ _ rfl w.heap.size _ _ _ _ _ _ _ _ _ _ (by rfl) (by rfl) (by simp [Value.oneCell']) (setF V2.out).1 ?_; rintro wP hP))
    · have e := K0.out
      rw [if_neg (by omega), HQ.out] at e
      have h2 := HB.out
      have h3 : (256 ^ 8 : Nat) = 18446744073709551616 := by decide
      have hR2 := R.read hst hL
      rw [wrapN q h2.1 (by omega)] at hP
      refine post_cell26c Try.results71 rfl rfl rfl hP.at_ ⟨.inl ⟨.mk 1 (q - 9223372036854775808) ⟨#[]⟩ [] 0, cut 8 (tl s), p - 1, none, 0, e.symm, rfl, T.Mut.flat _ _ _ _ _ _, hR2.keep ((hP.other _ (by omega)).trans (Below.heap_setCell _ _ _ _ (by show rb ≠ w.heap.size; omega))) ((hP.other _ (by omega)).trans (Below.heap_setCell _ _ _ _ (by show sb ≠ w.heap.size; omega))), ?_⟩, ((st.trans (.of_read hst)).set (Nat.le_refl _)).put hP (Nat.le_refl _)⟩
      exact T.wf_flat _ _ _ _ (by omega) (by show 0 ≤ _; omega)
    · have e := K0.out
      rw [if_pos (by omega)] at e
      rw [← e]
      exact post_cell26c Try.results71 rfl rfl rfl hP.at_ (.no (.mk 1 _ ⟨#[]⟩ [] 0) none 0 rfl (((st.trans (.of_read hst)).set (Nat.le_refl _)).put hP (Nat.le_refl _)))

set_option maxRecDepth 100000 in
set_option maxHeartbeats 4000000 in
theorem value_k4 (d p rb sb : Nat) (s : ByteArray) (w : World) (sub : Nat → Nat → ByteArray → Option (List T × ByteArray × Nat))
    (h : RS w rb sb s p d) (hs : s.size ≤ 140737488351232) (hp : p ≤ 1000000) (hd1 : d ≤ 1000) (h0 : 1 ≤ s.size) (h1 : 1 ≤ p) (k4 : hd s = 4) :
    Calls Try.prog 71 #[.pointer (some ⟨rb, 0, none⟩)] w (ReadPost w rb sb d (rdNode d p s sub)) := by
  obtain ⟨c0, c2, c3, f2, f3, hrb, hsb⟩ := h.cells
  have hne := h.2.2
  have m1 := take1_walk 1 sb s (w.alloc (.cells #[.int .u8 0, .int .i64 0, .string ⟨#[]⟩, .slice none 0 0, .int .i64 0] 26 (0, 0))) ((Below.heap_alloc _ _ _ hsb).trans h.2.1) hs (by omega)
  rw [if_pos h0, if_pos h0] at m1
  have hp0 : ((p : Int) == 0) = false := by simp; omega
  obtain ⟨r, hr⟩ : ∃ r, rdNode d p s sub = r := ⟨_, rfl⟩
  rw [hr]
  rw [rdNode, if_neg (by omega)] at hr
  have HR := Lib.hid hr
  clear hr
  go_enter Try.func71, Try.ntmps71
  go_upto_region 5 with (go_at_call 92; refine m1.mono ?_; rintro e w1 ⟨rfl, rfl⟩)
  have hz1 : (s.extract 0 1).size = 1 := by simp; omega
  go_cut [2] (fun v2 wx => v2 = .pointer (some ⟨w.heap.size, 0, none⟩) ∧ wx.heap[w.heap.size]? = some (.cells #[.int .u8 (hd s), .int .i64 0, .string ⟨#[]⟩, .slice none 0 0, .int .i64 0] 26 (0, 0)) ∧ RS wx rb sb (tl s) (p - 1) d ∧ ValStep w wx rb sb)
  case first =>
    go_wp2_with fail
    go_meet
    case rel =>
      exact ⟨rfl, by rw [← hd_eq s (by omega)]; exact (h.started h1).2.2, (h.started h1).1, (h.started h1).2.1⟩
  case rest =>
    obtain ⟨rfl, V, R, st⟩ := hcut
    obtain ⟨x0, x1, x2, x3, x4, y0, y1, y2, y3, y4⟩ := blk5 V
    clear c0 c2 c3 f2 f3 h m1 hp0 hz1
    obtain ⟨c0, c2, c3, f2, f3, hrb', hsb'⟩ := R.cells
    have hvz : w.heap.size < wc.heap.size := (Array.getElem?_eq_some_iff.1 V).1
    have V0 := Lib.hid V
    clear V
    have htz : (tl s).size ≤ 140737488351232 := by unfold tl; simp; omega
    have e := HR.out
    rw [if_neg (by omega), if_neg (by omega), if_pos k4] at e
    have K0 := Lib.hid e
    rw [k4] at x0 V0
    clear k4 e HR
    have m2 := number_walk 4 sb rb (tl s) wc R.2.1 c0 htz (by omega)
    have hb := numOf_lt ((tl s).extract 0 4) 4 (by simp; omega)
    unfold NumPost at m2
    obtain ⟨q, hq⟩ : ∃ q, numOf ((tl s).extract 0 4) = q := ⟨_, rfl⟩
    rw [hq] at m2 hb
    have hb1 := hb.1
    have hb2 : q < 4294967296 := by have h3 : (256 ^ 4 : Nat) = 4294967296 := (by decide); have := hb.2; omega
    have HQ := Lib.hid hq
    clear hq hb
    by_cases hq0 : q = 0
    · have HQ0 := Lib.hid hq0
      have hq1 : ¬ 0 < q := by omega
      have hq2 : decide (0 < q) = false := by simp; omega
      clear hq0
      go_wp2_with (first
        | (go_at_call 94; refine m2.mono ?_; clear m2; rintro e w2 ⟨(⟨hle, rfl, hL⟩ | ⟨hle, n, rfl⟩), hst⟩; all_goals (have V2 := (hst.block w.heap.size hvz (by omega)).trans V0.out; clear x0 x1 x2 x3 x4 y0 y1 y2 y3 y4; obtain ⟨x0, x1, x2, x3, x4, y0, y1, y2, y3, y4⟩ := blk5 V2; have V2 := Lib.hid V2))
        | (refine wpList_put _ rfl _ _ rfl w.heap.size _ _ _ _ _ _ _ _ _ _ (by rfl) (by rfl) (by simp [Value.oneCell']) (setF V2.out).2.2.2 ?_; rintro wP hP))
      · have e := K0.out
        rw [if_neg (by omega), HQ.out, if_pos HQ0.out] at e
        rw [← e]
        exact post_cell26c Try.results71 rfl rfl rfl hP.at_ (.no (.mk 4 0 ⟨#[]⟩ [] _) none 0 rfl (((st.trans (.of_read hst)).set (Nat.le_refl _)).put hP (Nat.le_refl _)))
      · have e := K0.out
        rw [if_pos (by omega)] at e
        rw [← e]
        exact post_cell26c Try.results71 rfl rfl rfl hP.at_ (.no (.mk 4 0 ⟨#[]⟩ [] _) none 0 rfl (((st.trans (.of_read hst)).set (Nat.le_refl _)).put hP (Nat.le_refl _)))

    have hq1 : 0 < q := by omega
    have hq2 : decide (0 < q) = true := by simp; omega
    go_wp2_with (first
        | (go_at_call 94; refine m2.mono ?_; clear m2; rintro e w2 ⟨(⟨hle, rfl, hL⟩ | ⟨hle, n, rfl⟩), hst⟩; all_goals (have V2 := (hst.block w.heap.size hvz (by omega)).trans V0.out; clear x0 x1 x2 x3 x4 y0 y1 y2 y3 y4; obtain ⟨x0, x1, x2, x3, x4, y0, y1, y2, y3, y4⟩ := blk5 V2; have V2 := Lib.hid V2))
        | (refine wpList_put _ rfl _ _ rfl w.heap.size _ _ _ _ _ _ _ _ _ _ (by rfl) (by rfl) (by simp [Value.oneCell']) (setF V2.out).2.2.2 ?_; rintro wP hP))
    · have e := K0.out
      rw [if_neg (by omega), HQ.out, if_neg hq0] at e
      have hR2 := R.read hst hL
      exact post_cell26c Try.results71 rfl rfl rfl hP.at_ ⟨.inl ⟨.mk 4 0 ⟨#[]⟩ [] q, cut 4 (tl s), p - 1, none, 0, e.symm, rfl, T.Mut.flat _ _ _ _ _ _, hR2.keep ((hP.other _ (by omega)).trans (Below.heap_setCell _ _ _ _ (by show rb ≠ w.heap.size; omega))) ((hP.other _ (by omega)).trans (Below.heap_setCell _ _ _ _ (by show sb ≠ w.heap.size; omega))), T.wf_flat _ _ _ _ (by omega) (by show 0 ≤ _; omega)⟩, ((st.trans (.of_read hst)).set (Nat.le_refl _)).put hP (Nat.le_refl _)⟩
    · have e := K0.out
      rw [if_pos (by omega)] at e
      rw [← e]
      exact post_cell26c Try.results71 rfl rfl rfl hP.at_ (.no (.mk 4 0 ⟨#[]⟩ [] _) none 0 rfl (((st.trans (.of_read hst)).set (Nat.le_refl _)).put hP (Nat.le_refl _)))


set_option maxRecDepth 100000 in
set_option maxHeartbeats 4000000 in
theorem value_other (d p rb sb : Nat) (s : ByteArray) (w : World) (sub : Nat → Nat → ByteArray → Option (List T × ByteArray × Nat))
    (h : RS w rb sb s p d) (hs : s.size ≤ 140737488351232) (hp : p ≤ 1000000) (hd1 : d ≤ 1000) (h0 : 1 ≤ s.size) (h1 : 1 ≤ p) (k0 : hd s ≠ 0) (k1 : hd s ≠ 1) (k4 : hd s ≠ 4) (k2 : hd s ≠ 2) (k3 : hd s ≠ 3) :
    Calls Try.prog 71 #[.pointer (some ⟨rb, 0, none⟩)] w (ReadPost w rb sb d (rdNode d p s sub)) := by
  obtain ⟨c0, c2, c3, f2, f3, hrb, hsb⟩ := h.cells
  have hne := h.2.2
  have m1 := take1_walk 1 sb s (w.alloc (.cells #[.int .u8 0, .int .i64 0, .string ⟨#[]⟩, .slice none 0 0, .int .i64 0] 26 (0, 0))) ((Below.heap_alloc _ _ _ hsb).trans h.2.1) hs (by omega)
  rw [if_pos h0, if_pos h0] at m1
  have hp0 : ((p : Int) == 0) = false := by simp; omega
  obtain ⟨r, hr⟩ : ∃ r, rdNode d p s sub = r := ⟨_, rfl⟩
  rw [hr]
  rw [rdNode, if_neg (by omega)] at hr
  have HR := Lib.hid hr
  clear hr
  go_enter Try.func71, Try.ntmps71
  go_upto_region 5 with (go_at_call 92; refine m1.mono ?_; rintro e w1 ⟨rfl, rfl⟩)
  have hz1 : (s.extract 0 1).size = 1 := by simp; omega
  go_cut [2] (fun v2 wx => v2 = .pointer (some ⟨w.heap.size, 0, none⟩) ∧ wx.heap[w.heap.size]? = some (.cells #[.int .u8 (hd s), .int .i64 0, .string ⟨#[]⟩, .slice none 0 0, .int .i64 0] 26 (0, 0)) ∧ RS wx rb sb (tl s) (p - 1) d ∧ ValStep w wx rb sb)
  case first =>
    go_wp2_with fail
    go_meet
    case rel =>
      exact ⟨rfl, by rw [← hd_eq s (by omega)]; exact (h.started h1).2.2, (h.started h1).1, (h.started h1).2.1⟩
  case rest =>
    obtain ⟨rfl, V, R, st⟩ := hcut
    obtain ⟨x0, x1, x2, x3, x4, y0, y1, y2, y3, y4⟩ := blk5 V
    clear c0 c2 c3 f2 f3 h m1 hp0 hz1
    obtain ⟨c0, c2, c3, f2, f3, hrb', hsb'⟩ := R.cells
    have hvz : w.heap.size < wc.heap.size := (Array.getElem?_eq_some_iff.1 V).1
    have V0 := Lib.hid V
    clear V
    have htz : (tl s).size ≤ 140737488351232 := by unfold tl; simp; omega
    have e := HR.out
    rw [if_neg k0, if_neg k1, if_neg k4, if_neg k2, if_neg k3] at e
    have K0 := Lib.hid e
    have z0 : (hd s == 0) = false := by simpa using k0
    have z1 : (hd s == 1) = false := by simpa using k1
    have z2 : (hd s == 2) = false := by simpa using k2
    have z3 : (hd s == 3) = false := by simpa using k3
    have z4 : (hd s == 4) = false := by simpa using k4
    clear e HR k0 k1 k2 k3 k4
    go_wp2_with (refine wpList_put _ rfl _ _ rfl w.heap.size _ _ _ _ _ _ _ _ _ _ (by rfl) (by rfl) (by simp [Value.oneCell']) V0.out ?_; rintro wP hP)
    rw [← K0.out]
    exact post_cell26c Try.results71 rfl rfl rfl hP.at_ (.no (.mk (hd s) 0 ⟨#[]⟩ [] 0) none 0 rfl (st.put hP (Nat.le_refl _)))

set_option maxRecDepth 100000 in
set_option maxHeartbeats 4000000 in
theorem value_early (d p rb sb : Nat) (s : ByteArray) (w : World) (sub : Nat → Nat → ByteArray → Option (List T × ByteArray × Nat))
    (h : RS w rb sb s p d) (hs : s.size ≤ 140737488351232) (hp : p ≤ 1000000) (hd1 : d ≤ 1000) (h2 : ¬ (1 ≤ s.size ∧ 1 ≤ p)) :
    Calls Try.prog 71 #[.pointer (some ⟨rb, 0, none⟩)] w (ReadPost w rb sb d (rdNode d p s sub)) := by
  obtain ⟨c0, c2, c3, f2, f3, hrb, hsb⟩ := h.cells
  have hne := h.2.2
  have m1 := take1_walk 1 sb s (w.alloc (.cells #[.int .u8 0, .int .i64 0, .string ⟨#[]⟩, .slice none 0 0, .int .i64 0] 26 (0, 0))) ((Below.heap_alloc _ _ _ hsb).trans h.2.1) hs (by omega)
  by_cases h0 : ¬ 1 ≤ s.size
  · rw [if_neg h0, if_neg h0] at m1
    rw [rdNode, if_pos (.inl (by omega))]
    go_enter Try.func71, Try.ntmps71
    go_wp2_with (first
      | (go_at_call 92; refine m1.mono ?_; rintro e w1 ⟨rfl, rfl⟩)
      | (refine wpList_put _ rfl _ _ rfl w.heap.size _ _ _ _ _ _ _ _ _ _ (by rfl) (by rfl) (by simp [Value.oneCell']) (blk_new _ _) ?_; rintro wP hP))
    exact post_cell26c Try.results71 rfl rfl rfl hP.at_ (.no (.mk 0 0 ⟨#[]⟩ [] 0) none 0 rfl ((ValStep.of_below ((Below.refl _ _).alloc (Nat.le_refl _) _)).put hP (Nat.le_refl _)))
  have h0 : 1 ≤ s.size := Decidable.not_not.1 h0
  rw [if_pos h0, if_pos h0] at m1
  by_cases h1 : ¬ 1 ≤ p
  · have hp0 : ((p : Int) == 0) = true := by simp; omega
    rw [rdNode, if_pos (.inr (by omega))]
    go_enter Try.func71, Try.ntmps71
    go_wp2_with (first
      | (go_at_call 92; refine m1.mono ?_; rintro e w1 ⟨rfl, rfl⟩))
    exact post_cell26c Try.results71 rfl rfl rfl (ValStep.one (rb := rb)).2 (.no (.mk 0 0 ⟨#[]⟩ [] 0) none 0 rfl ValStep.one.1)
  have h1 : 1 ≤ p := Decidable.not_not.1 h1
  exact absurd ⟨h0, h1⟩ h2
end Go.Proofs.Ytapfmfihhpafcaa
