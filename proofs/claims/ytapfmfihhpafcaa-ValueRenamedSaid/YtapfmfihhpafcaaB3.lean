/-
  The walk of value.Refs: its closure, slices.Clip, value.walk with that closure.
-/
import Derived.Test.YtapfmfihhpafcaaB1
import Derived.Test.YtapfmfihhpafcaaLaw
import Derived.Deep.RegionLawGrows
import Derived.Deep.CutBlock
import Derived.Deep.Cut
import Derived.Deep.CutRange
import Derived.Deep.DeepCutAuto
namespace Go.Proofs.Ytapfmfihhpafcaa
open Go.RowKit
set_option linter.unusedVariables false

theorem info24 : (Try.prog.info? 24).map (fun i => (i.zero, i.size, i.bytes)) = some (some (.int .i64 0), 1, 8) := by kernel_rfl
theorem info3 : (Try.prog.info? 3).map (fun i => (i.zero, i.size, i.bytes)) = some (some (.int .i64 0), 1, 8) := by kernel_rfl

mutual
def T.refs : T → List Int
  | .mk k _ _ l r => (if k = 4 then [r] else []) ++ T.refss l
def T.refss : List T → List Int
  | [] => []
  | t :: ts => T.refs t ++ T.refss ts
end
mutual
def T.count : T → Nat
  | .mk _ _ _ l _ => 1 + T.counts l
def T.counts : List T → Nat
  | [] => 0
  | t :: ts => T.count t + T.counts ts
end

/-- The variable at ob holds a list of references that the call owns. -/
def OutIs (w : World) (ob : Nat) (vo : Value) (xs : List Int) : Prop :=
  w.heap[ob]? = some (.cells #[vo] 61 (0, 0)) ∧ w.ownsRow (ob + 1) 24 1 vo xs.length (xs.map (.int .i64))

/-- From w to w' nothing has turned but the variable at ob and the row that it held. -/
structure OutStep (w w' : World) (ob : Nat) (vo vo' : Value) : Prop where
  os : w'.os = w.os
  tape : w'.tape = w.tape
  output : w'.output = w.output
  size : w.heap.size ≤ w'.heap.size
  block : ∀ k, k < w.heap.size → k ≠ ob → vo.ownBlock ≠ some k → w'.heap[k]? = w.heap[k]?
  own : ∀ g, vo'.ownBlock = some g → vo.ownBlock = some g ∨ w.heap.size ≤ g

theorem OutStep.trans {w w1 w2 : World} {ob : Nat} {v v1 v2 : Value} (h : OutStep w w1 ob v v1) (h' : OutStep w1 w2 ob v1 v2) : OutStep w w2 ob v v2 := by
  refine ⟨h'.os.trans h.os, h'.tape.trans h.tape, h'.output.trans h.output, Nat.le_trans h.size h'.size, fun k hk h1 h2 => ?_, fun g hg => ?_⟩
  · refine (h'.block k (Nat.lt_of_lt_of_le hk h.size) h1 (fun e => ?_)).trans (h.block k hk h1 h2)
    rcases h.own k e with h3 | h3
    · exact h2 h3
    · omega
  · rcases h'.own g hg with h3 | h3
    · exact h.own g h3
    · exact .inr (Nat.le_trans h.size h3)
theorem OutStep.of_below {w w1 : World} {ob : Nat} {v : Value} (h : Below w.heap.size w w1) : OutStep w w1 ob v v :=
  ⟨h.os, h.tape, h.output, h.size, fun k hk _ _ => h.block k hk, fun _ hg => .inl hg⟩

theorem OutIs.step {w w1 : World} {ob : Nat} {v : Value} {xs : List Int} (h : OutIs w ob v xs) (hb : Below w.heap.size w w1) : OutIs w1 ob v xs := by
  have hz : ob < w.heap.size := (Array.getElem?_eq_some_iff.1 h.1).1
  refine ⟨(hb.block ob hz).trans h.1, h.2.1, ?_⟩
  rcases h.2.2 with h0 | ⟨g, cap, cur, hv, hbb, hg, r⟩
  · exact .inl h0
  · exact .inr ⟨g, cap, cur, hv, hbb, by rw [hb.block g (Array.getElem?_eq_some_iff.1 hg).1]; exact hg, r⟩

def Refs1Post (w : World) (ob : Nat) (vo : Value) (xs : List Int) (u : T) (e : Ending) (w' : World) : Prop :=
  e = .returned (.bool true) ∧ ∃ vo', OutIs w' ob vo' (xs ++ (if u.k = 4 then [u.r] else [])) ∧ OutStep w w' ob vo vo'

theorem blk1 {w : World} {b : Nat} {v0 : Value} {e : TypeId} (h : w.heap[b]? = some (.cells #[v0] e (0, 0))) : w.cell? ⟨b, 0, none⟩ = some v0 ∧ w.frozen? ⟨b, 0, none⟩ = false := by
  refine ⟨?_, ?_⟩ <;> simp [World.cell?, World.frozen?, h]

theorem set1 {w : World} {b : Nat} {v0 v : Value} {e : TypeId} (h : w.heap[b]? = some (.cells #[v0] e (0, 0))) : (w.setCell ⟨b, 0, none⟩ v).heap[b]? = some (.cells #[v] e (0, 0)) := by
  simp [World.setCell, Array.getElem?_modify, h]

set_option maxRecDepth 100000 in
set_option maxHeartbeats 1000000 in
theorem refs1_walk (u : T) (a : Option Addr) (c : Nat) (q : Value) (ob : Nat) (vo : Value) (xs : List Int) (w : World) (ho : OutIs w ob vo xs) (hx : xs.length ≤ 1000000) :
    Calls Try.prog 76 #[q, u.val a c, .pointer (some ⟨ob, 0, none⟩)] w (Refs1Post w ob vo xs u) := by
  obtain ⟨i0, hi, hz0, hz1, hz2⟩ := info_parts info24
  obtain ⟨h1, h2⟩ := ho
  obtain ⟨c0, f0⟩ := blk1 h1
  have hz : ob < w.heap.size := (Array.getElem?_eq_some_iff.1 h1).1
  unfold T.val
  by_cases hk : u.k = 4
  · have hk1 : (u.k == 4) = true := by simp [hk]
    have HK := Lib.hid hk
    clear hk
    go_enter Try.func76, Try.ntmps76
    go_wp2_with (at_builtin; refine wpList_append_lies _ rfl _ _ 61 rfl (ob + 1) 24 i0 _ 1 8 Try.underlying61 hi hz0 hz1 hz2 rfl (by decide) vo _ _ (by rfl) ((h2.alloc _).alloc _) ⟨w.heap.size + 1, 0, none⟩ 1 1 [.int .i64 u.r] (by rfl) rfl (World.news_of_block (cs := #[.int .i64 u.r]) (t := 24) (fr := (0, 0)) (two_blk1 _ _ _)) (by simp [Value.oneCell']) (by omega) (by unfold maxLen; omega) (by omega) (by simp; omega) _ rfl ?_; intro g cap w1 hown hgrow hat hlt; have hb1 := ((hgrow.block ob (by simp; omega) (fun e => by have := (h2.lt ob e.symm).1; omega)).trans ((Below.heap_alloc _ _ _ (by simp; omega)).trans (Below.heap_alloc _ _ _ hz))).trans h1; obtain ⟨d0, e0⟩ := blk1 hb1)
    go_ret
    refine ⟨rfl, _, ⟨set1 hb1, ?_⟩, ?_⟩
    · rw [if_pos HK.out, List.length_append, List.map_append]
      exact ownsRow_setCell_below hown (by simp) _
    · refine ⟨hgrow.os, hgrow.tape, hgrow.output, ?_, fun k hk h3 h4 => ?_, fun g' hg' => ?_⟩
      · have := hgrow.size
        simp [World.setCell] at this ⊢; omega
      · rw [Below.heap_setCell _ _ _ _ h3, hgrow.block k (by simp; omega) (fun e => h4 e.symm), Below.heap_alloc _ _ _ (by simp; omega), Below.heap_alloc _ _ _ hk]
      · have hg2 : g = g' := by simpa [Value.ownBlock] using hg'
        rcases hat with h5 | h5
        · exact .inl (by rw [h5, hg2])
        · right
          simp at h5
          omega
  · have hk1 : (u.k == 4) = false := by simpa using hk
    have HK := Lib.hid hk
    clear hk
    go_enter Try.func76, Try.ntmps76
    go_wp2_with fail
    go_ret
    have hb : Below w.heap.size w (w.alloc (.cells #[.int .u8 u.k, .int .i64 u.n, .string u.s, .slice a u.l.length c, .int .i64 u.r] 26 (0, 0))) := (Below.refl _ _).alloc (Nat.le_refl _) _
    exact ⟨rfl, vo, by rw [if_neg HK.out, List.append_nil]; exact OutIs.step ⟨h1, h2⟩ hb, OutStep.of_below hb⟩

theorem clip_walk (a : Option Addr) (n c : Nat) (w : World) (h : n ≤ c) : Calls Try.prog 88 #[.slice a n c] w fun e w' => e = .returned (.slice a n n) ∧ w = w' := by
  have h1 : (n : Int) ≤ (c : Int) := by omega
  cases a with
  | none =>
    go_enter Try.func88, Try.ntmps88
    go_wp2_with fail
    go_ret
    exact ⟨rfl, rfl⟩
  | some b =>
    go_enter Try.func88, Try.ntmps88
    go_wp2_with fail
    go_ret
    exact ⟨rfl, rfl⟩

theorem add_block (b : Addr) (j : Nat) : (b.add j).block = b.block := by unfold Addr.add; split <;> rfl

theorem blk5c {w : World} {b : Nat} {v0 v1 v2 v3 v4 : Value} {e : TypeId} (h : w.heap[b]? = some (.cells #[v0, v1, v2, v3, v4] e (0, 0))) :
    w.cell? ⟨b, 0, none⟩ = some v0 ∧ w.cell? ⟨b, 1, none⟩ = some v1 ∧ w.cell? ⟨b, 2, none⟩ = some v2 ∧ w.cell? ⟨b, 3, none⟩ = some v3 ∧ w.cell? ⟨b, 4, none⟩ = some v4 :=
  let h := blk5 h; ⟨h.1, h.2.1, h.2.2.1, h.2.2.2.1, h.2.2.2.2.1⟩

/-- A row of whole numbers that append has just made. -/
theorem ints_own {w : World} {base g cap ob : Nat} {q : List Int} {i : Int} {v : Value} (h : w.ownsRow base 3 1 (.slice (some ⟨g, 0, none⟩) (q.length + 1) cap) (q.length + 1) (q.map (Value.int .i64) ++ [.int .i64 i])) (hg : g ≠ ob) (hv : v.ownBlock ≠ some g) :
    Ints w (fun b => b ≠ ob ∧ v.ownBlock ≠ some b ∧ b < w.heap.size) (q ++ [i]) (some ⟨g, 0, none⟩) cap := by
  have hlt := (h.lt g rfl).2
  refine ⟨?_, .inr ⟨g, 0, rfl, ⟨hg, hv, hlt⟩, fun j hj => ?_⟩⟩
  · rcases h.2 with ⟨h0, _⟩ | ⟨g', cap', cur, hv, _, _, hle, _⟩
    · cases h0
    · injection hv with _ _ hc
      rw [List.length_append]; simp; omega
  · rw [Nat.zero_add, h.cellAt j (by simpa using hj)]
    have : (q.map (Value.int .i64) ++ [.int .i64 i]) = (q ++ [i]).map (Value.int .i64) := by simp
    rw [this, List.getElem?_map, List.getElem?_eq_getElem hj]
    rfl

def WalkPost (w : World) (ob : Nat) (vo : Value) (xs : List Int) (ys : List Int) (e : Ending) (w' : World) : Prop :=
  e = .returned (.bool true) ∧ ∃ vo', OutIs w' ob vo' (xs ++ ys) ∧ OutStep w w' ob vo vo'

theorem T.refss_take (l : List T) (i : Nat) (h : i < l.length) : T.refss (l.take (i + 1)) = T.refss (l.take i) ++ T.refs l[i] := by
  induction l generalizing i with
  | nil => simp at h
  | cons t ts ih =>
    cases i with
    | zero => simp [T.refss]
    | succ i => simp only [List.take_succ_cons, T.refss, List.getElem_cons_succ]; rw [ih i (by simpa using h), List.append_assoc]
theorem T.counts_mem (l : List T) (i : Nat) (h : i < l.length) : T.counts (l.take i) + T.count l[i] ≤ T.counts l := by
  induction l generalizing i with
  | nil => simp at h
  | cons t ts ih =>
    cases i with
    | zero => simp [T.counts]
    | succ i => simp only [List.take_succ_cons, T.counts, List.getElem_cons_succ]; have := ih i (by simpa using h); omega
mutual
theorem T.refs_le : ∀ t : T, (T.refs t).length ≤ T.count t
  | .mk k _ _ l r => by
    rw [T.refs, T.count, List.length_append]
    have := T.refss_le l
    split <;> simp <;> omega
theorem T.refss_le : ∀ l : List T, (T.refss l).length ≤ T.counts l
  | [] => by simp [T.refss]
  | t :: ts => by
    rw [T.refss, T.counts, List.length_append]
    have := T.refs_le t
    have := T.refss_le ts
    omega
end

set_option maxRecDepth 100000 in
set_option maxHeartbeats 4000000 in
theorem walk_refs (t : T) : ∀ (q : List Int) (qa : Option Addr) (qc : Nat) (a : Option Addr) (c ob : Nat) (vo : Value) (xs : List Int) (w : World) (B : Nat),
    T.At w B t a c → B ≤ ob → t.wf → OutIs w ob vo xs → Ints w (fun b => b ≠ ob ∧ vo.ownBlock ≠ some b ∧ b < w.heap.size) q qa qc → xs.length + t.count ≤ 100000 → q.length + t.count ≤ 100000 →
    Calls Try.prog 61 #[t.val a c, .slice qa q.length qc, .func (.func 76) #[] #[.pointer (some ⟨ob, 0, none⟩)]] w (WalkPost w ob vo xs t.refs) := by
  induction t using T.induct with
  | h k n s l r ih =>
  intro q qa qc a c ob vo xs w B hin hB hwf ho hq hc1 hc2
  have hwf0 := hwf
  rw [T.wf, T.wfs_iff] at hwf
  obtain ⟨⟨_, _, _, _, _, _, _, hll⟩, hwl⟩ := hwf
  have hob : ob < w.heap.size := (Array.getElem?_eq_some_iff.1 ho.1).1
  have m1 := refs1_walk (.mk k n s l r) a c (.slice qa q.length qc) ob vo xs (w.alloc (.cells #[.int .u8 k, .int .i64 n, .string s, .slice a l.length c, .int .i64 r] 26 (0, 0))) (ho.step ((Below.refl _ _).alloc (Nat.le_refl _) _)) (by omega)
  unfold T.val at m1 ⊢
  simp only [T.k, T.n, T.s, T.l, T.r] at m1 ⊢
  rw [T.refs]
  obtain ⟨ys, hys⟩ : ∃ ys, (if k = 4 then [r] else []) ++ T.refss l = ys := ⟨_, rfl⟩
  rw [hys]
  have HY := Lib.hid hys
  clear hys
  go_enter Try.func61, Try.ntmps61
  have hvo := ho.2.lt
  go_wp2_with (go_at_call 76; refine m1.mono ?_; clear m1; rintro e w1 ⟨rfl, vo1, ho1, hs1⟩; have B0 := (hs1.block w.heap.size (by simp) (by omega) (fun e => by have := (hvo _ e).2; omega)).trans (blk_new _ _); obtain ⟨x0, x1, x2, x3, x4, y0, y1, y2, y3, y4⟩ := blk5 B0)
  clear x0 x1 x2 x3 x4 y0 y1 y2 y3 y4 B0
  have hs0 : OutStep w w1 ob vo vo1 := (OutStep.of_below ((Below.refl _ _).alloc (Nat.le_refl _) _)).trans hs1
  replace ho1 : OutIs w1 ob vo1 (xs ++ (if k = 4 then [r] else [])) := ho1
  rw [T.count] at hc1 hc2
  have hlen := ho1.2.1
  obtain ⟨xs1, hxs1⟩ : ∃ xs1, xs ++ (if k = 4 then [r] else []) = xs1 := ⟨_, rfl⟩
  rw [hxs1] at ho1 hlen
  have hx1 : xs1.length ≤ xs.length + 1 := by rw [← hxs1]; split <;> simp
  have HX := Lib.hid hxs1
  clear hxs1
  go_loopg [17] l.length (fun g vi wr => ∃ (i : Nat) (voi : Value), vi = .int .i64 i ∧ i + g = l.length ∧ OutIs wr ob voi (xs1 ++ T.refss (l.take i)) ∧ OutStep w wr ob vo voi)
  case atStart => exact ⟨0, vo1, rfl, by simp, by rw [List.take_zero, T.refss, List.append_nil]; exact ho1, hs0⟩
  case round =>
    obtain ⟨i, voi, rfl, hgi, hoi, hsi⟩ := hrel
    have hvoi := hoi.2.lt
    have hsz := hsi.size
    by_cases h : i < l.length
    · have hbB : ∀ b, b < B → wr.heap[b]? = w.heap[b]? := fun b hb => hsi.block b (by omega) (by omega) (fun e => by have := (hvo _ e).1; omega)
      obtain ⟨b, o, a', c', rfl, hbB', ht, e0, e1, e2, e3, e4⟩ := (T.In.keep (ok' := (· < B)) (m' := false) hbB (fun _ h => h) id hin).elem i h
      have hq' : Ints wr (fun b => b ≠ ob ∧ voi.ownBlock ≠ some b ∧ b < w.heap.size) q qa qc := by
        refine Ints.keep (fun b hb => hsi.block b hb.2.2 hb.1 hb.2.1) (fun b hb => ⟨hb.1, fun e => ?_, hb.2.2⟩) hq
        rcases hsi.own b e with h1 | h1
        · exact hb.2.1 h1
        · have := hb.2.2; omega
      obtain ⟨j0, hji, hjz0, hjz1, hjz2⟩ := info_parts info3
      have hcap : q.length ≤ qc := hq.1
      have hold : ∀ b, qa = some b → ∀ j u, (q.map (Value.int .i64))[j]? = some u → b.block < wr.heap.size ∧ wr.cell? (b.add j) = some u := by
        intro b hb j u hu
        rcases hq'.2 with h0 | ⟨b2, o2, hb2, hok, hcell⟩
        · subst h0; simp at hu
        · rw [hb] at hb2
          injection hb2 with hb2
          subst hb2
          refine ⟨by show b2 < _; have := hok.2.2; omega, ?_⟩
          rw [List.getElem?_map] at hu
          obtain ⟨v, hv, rfl⟩ := Option.map_eq_some_iff.1 hu
          obtain ⟨hj, hv⟩ := List.getElem?_eq_some_iff.1 hv
          rw [Addr.add_lit, ← hv]
          exact hcell j hj
      have hnone : qa = none → q.length = 0 ∧ q.length = 0 := by
        intro h0
        rcases hq.2 with h1 | ⟨b2, o2, hb2, _⟩
        · subst h1; exact ⟨rfl, rfl⟩
        · rw [h0] at hb2; cases hb2
      go_wp2_with fail
      go_region_held3 (fun w' => w'.cell? ⟨wr.heap.size, 0, none⟩ = some (.int .u8 l[i].k) ∧ w'.cell? ⟨wr.heap.size, 1, none⟩ = some (.int .i64 l[i].n) ∧ w'.cell? ⟨wr.heap.size, 2, none⟩ = some (.string l[i].s) ∧
          w'.cell? ⟨wr.heap.size, 3, none⟩ = some (.slice a' l[i].l.length c') ∧ w'.cell? ⟨wr.heap.size, 4, none⟩ = some (.int .i64 l[i].r))
        (first | go_keep | exact blk5c C6 | exact blk5c C5)
        (first
          | (go_simp; go_at_call 88; refine (clip_walk _ _ _ _ hcap).mono ?_; rintro e w' ⟨rfl, rfl⟩)
          | (refine step_append_grows rfl _ _ 35 rfl 3 j0 _ 1 8 Try.underlying35 hji hjz0 hjz1 hjz2 rfl (by decide) qa q.length q.length (q.map (Value.int .i64)) (by rfl) hnone (by simp) (fun b hb j u hu => by exact (Below.cell (B := wr.heap.size) (w := wr) (p := b.add j) (by repeat (first | exact Below.refl _ _ | apply Below.drew | refine Below.alloc ?_ (by simp) _)) (by rw [add_block]; exact (hold b hb j u hu).1)).trans (hold b hb j u hu).2) _ 1 1 [.int .i64 i] (by rfl) rfl (World.news_of_block (cs := #[.int .i64 i]) (t := 3) (fr := (0, 0)) (by exact two_blk1 _ _ _)) (by simp [Value.oneCell']) (by omega) (by unfold maxLen; omega) (by omega) ?_; intro v' w5 hown5 hgrow5; obtain ⟨g5, cap5, rfl, hg51, hg52⟩ := hown5.form (by omega); have hg53 : wr.heap.size < g5 := (by have h9 := hg51; simp at h9; omega); have hb5 : Below wr.heap.size wr w5 := Below.grown (by repeat (first | exact Below.refl _ _ | apply Below.drew | refine Below.alloc ?_ (by simp) _)) hgrow5 (by simp; omega) (by intro k hk; cases hk); have hsz5 := hb5.size; have C5 := (hgrow5.block wr.heap.size (by simp; omega) (by simp)).trans (by exact two_blk0 _ _ _); have ih5 := ih l[i] (List.getElem_mem h) (q ++ [(i : Int)]) (some ⟨g5, 0, none⟩) cap5 a' c' ob voi (xs1 ++ T.refss (l.take i)) w5 B (T.At.below hb5 (by omega) ht) hB (hwl _ (List.getElem_mem h)) (hoi.step hb5) (ints_own hown5 (by omega) (fun e => by have := (hvoi _ e).2; omega)) (by rw [List.length_append]; have := T.refss_le (l.take i); have := T.counts_mem l i h; omega) (by rw [List.length_append]; have := T.counts_mem l i h; simp; omega); simp only [List.length_append, List.length_cons, List.length_nil, Nat.zero_add] at ih5; unfold T.val at ih5; clear hown5 ih)
          | (go_simp; go_at_call 61; refine ih5.mono ?_; clear ih5; rintro e w6 ⟨rfl, vo6, ho6, hs6⟩; have C6 := (hs6.block wr.heap.size (by omega) (by omega) (fun e => by have := (hvoi _ e).2; omega)).trans C5))
      all_goals
        go_wp2_with fail
        go_roundg (gk - 1)
        case measure => omega
        case rel => exact ⟨i + 1, vo6, by go_num, by omega, by rw [T.refss_take l i h, ← List.append_assoc]; exact ho6, hsi.trans ((OutStep.of_below hb5).trans hs6)⟩
    · go_wp2_with fail
      go_ret
      exact ⟨rfl, voi, by have h5 : l.take i = l := List.take_of_length_le (by omega); rw [h5] at hoi; rw [← HY.out, ← List.append_assoc, HX.out]; exact hoi, hsi⟩
end Go.Proofs.Ytapfmfihhpafcaa
