/-
  value.rename: the references of a value renamed where they stand.
-/
import Derived.Test.YtapfmfihhpafcaaM1
import Derived.Maps.OwnSet
import Derived.Maps.OwnOps
namespace Go.Proofs.Ytapfmfihhpafcaa
open Go.RowKit Go.Maps
set_option linter.unusedVariables false

/-- What a reference is named. -/
def nameOf : List Int → List Int → Int → Option Int
  | x :: xs, y :: ys, r => if x = r then some y else nameOf xs ys r
  | _, _, _ => none

mutual
/-- A value with all its references renamed. -/
def T.ren (f : Int → Option Int) : T → Option T
  | .mk k n s l r => if k = 4 then (f r).map fun r' => .mk k n s l r' else (T.rens f l).map fun l' => .mk k n s l' r
def T.rens (f : Int → Option Int) : List T → Option (List T)
  | [] => some []
  | t :: ts => (T.ren f t).bind fun t' => (T.rens f ts).map fun ts' => t' :: ts'
end

theorem T.rens_length {f : Int → Option Int} : ∀ {l l' : List T}, T.rens f l = some l' → l'.length = l.length
  | [], l', h => by rw [T.rens] at h; cases h; rfl
  | t :: ts, l', h => by
    rw [T.rens] at h
    obtain ⟨t', _, h⟩ := Option.bind_eq_some_iff.1 h
    obtain ⟨ts', h2, rfl⟩ := Option.map_eq_some_iff.1 h
    simp [T.rens_length h2]

theorem T.rens_app {f : Int → Option Int} : ∀ (l l' : List T), T.rens f (l ++ l') = (T.rens f l).bind fun a => (T.rens f l').map fun b => a ++ b
  | [], l' => by
    rw [List.nil_append, T.rens]
    cases T.rens f l' <;> simp
  | t :: ts, l' => by
    rw [List.cons_append, T.rens, T.rens, T.rens_app ts l']
    cases T.ren f t with
    | none => rfl
    | some t' =>
      cases T.rens f ts with
      | none => rfl
      | some ts' => cases T.rens f l' <;> simp

theorem T.rens_one (f : Int → Option Int) (t : T) : T.rens f [t] = (T.ren f t).map fun t' => [t'] := by
  rw [T.rens, T.rens]
  cases T.ren f t <;> rfl

theorem T.rens_step {f : Int → Option Int} {l l1 : List T} {i : Nat} (h : T.rens f (l.take i) = some l1) (hi : i < l.length) :
    (∀ t', T.ren f l[i] = some t' → T.rens f (l.take (i + 1)) = some (l1 ++ [t'])) ∧ (T.ren f l[i] = none → T.rens f l = none) := by
  have e : T.rens f (l.take (i + 1)) = (T.ren f l[i]).map fun t' => l1 ++ [t'] := by
    rw [List.take_succ_eq_append_getElem hi, T.rens_app, h, T.rens_one]
    cases T.ren f l[i] <;> rfl
  refine ⟨fun t' ht => by rw [e, ht]; rfl, fun ht => ?_⟩
  rw [← List.take_append_drop (i + 1) l, T.rens_app, e, ht]
  rfl

theorem wf_i64 {k : Int} (h : -9223372036854775808 ≤ k) (h' : k ≤ 9223372036854775807) : (Lit.int .i64 k).wf = true := by simp [Lit.wf, IntKind.min, IntKind.max, IntKind.bits, IntKind.signed]; omega

/-- The map of the names, as a function. -/
def Names (w : World) (mb : Nat) (f : Int → Option Int) : Prop :=
  ∃ (n : Nat) (D : DataW Unit), w.ownsMap Try.prog 24 (plainElem Try.prog 24) mb n D ∧ IsMap D ∧ n ≤ 1000000 ∧
    ∀ r, (Lit.int .i64 r).wf = true → Maps.has D (.int .i64 r) = (f r).isSome ∧ ∀ y, f r = some y → D.atKey (.int .i64 r) (.lit (.int .i64 0)) = .lit (.int .i64 y)

theorem Names.keep {w w' : World} {mb : Nat} {f : Int → Option Int} (h : Names w mb f) (hk : w'.heap[mb]? = w.heap[mb]?) : Names w' mb f := by
  obtain ⟨n, D, ⟨es, clock, h1, h2⟩, h3⟩ := h
  exact ⟨n, D, ⟨es, clock, hk.trans h1, h2⟩, h3⟩
theorem Names.lt {w : World} {mb : Nat} {f : Int → Option Int} (h : Names w mb f) : mb < w.heap.size := by
  obtain ⟨n, D, h1, _⟩ := h
  exact h1.lt

theorem T.Sep.low {w : World} {lo lo' hi : Nat} (h : lo' ≤ lo) : ∀ {t : T} {a : Option Addr} {c : Nat}, T.Sep w lo hi t a c → T.Sep w lo' hi t a c
  | .mk _ _ _ l _, a, c, hs => by
    rw [T.Sep] at hs ⊢
    obtain ⟨m, xs, h1, h2, h3, h4, h5⟩ := hs
    exact ⟨m, xs, h1, fun g hg => ⟨by have := (h2 g hg).1; omega, (h2 g hg).2⟩, by omega, h4, h5⟩
theorem T.Sep.le {w : World} {lo hi : Nat} : ∀ {t : T} {a : Option Addr} {c : Nat}, T.Sep w lo hi t a c → lo ≤ hi
  | .mk _ _ _ l _, a, c, hs => by
    rw [T.Sep] at hs
    obtain ⟨m, xs, h1, h2, h3, h4, h5⟩ := hs
    omega
theorem T.Seps.low {w : World} {lo lo' hi : Nat} (h : lo' ≤ lo) : ∀ {l : List T} {xs : List Value}, T.Seps w lo hi l xs → T.Seps w lo' hi l xs
  | [], xs, hs => by rw [T.Seps] at hs ⊢; exact hs
  | t :: ts, xs, hs => by
    rw [T.Seps] at hs ⊢
    obtain ⟨m, a, c, ys, h1, h2, h3, h4, h5⟩ := hs
    exact ⟨m, a, c, ys, T.Sep.low h h1, h2, by omega, h4, h5⟩
theorem T.Seps.app {w : World} {m hi : Nat} (hm : m ≤ hi) : ∀ {l l' : List T} {lo : Nat} {xs ys : List Value}, lo ≤ m → T.Seps w lo m l xs → T.Seps w m hi l' ys → T.Seps w lo hi (l ++ l') (xs ++ ys)
  | [], l', lo, xs, ys, hl, h, h' => by
    rw [T.Seps] at h
    subst h
    exact T.Seps.low hl h'
  | t :: ts, l', lo, xs, ys, hl, h, h' => by
    rw [T.Seps] at h
    rw [List.cons_append, T.Seps]
    obtain ⟨m1, a, c, zs, h1, h2, h3, h4, h5⟩ := h
    exact ⟨m1, a, c, zs ++ ys, h1, by rw [h2, List.append_assoc], h3, by omega, T.Seps.app hm h4 h5 h'⟩

/-- The part at place i, and the whole about another part in its stead. -/
theorem T.Sep.step {w : World} {lo hi : Nat} {k n r : Int} {s : ByteArray} {l : List T} {a : Option Addr} {c : Nat} (hs : T.Sep w lo hi (.mk k n s l r) a c) (i : Nat) (h : i < l.length) :
    ∃ g cur a' c' lo' hi', a = some ⟨g, 0, none⟩ ∧ l.length ≤ c ∧ lo ≤ g ∧ g < lo' ∧ lo' ≤ hi' ∧ hi' ≤ hi ∧ w.heap[g]? = some (.cells cur 26 (0, 0)) ∧ i * 5 + 5 ≤ cur.size ∧ laidCells cur.toList (i * 5) (l[i].cells5 a' c') = cur.toList ∧ T.Sep w lo' hi' l[i] a' c' ∧
      ∀ (W : World) (t' : T), (∀ b, lo ≤ b → b < hi → b ≠ g → ¬ (lo' ≤ b ∧ b < hi') → W.heap[b]? = w.heap[b]?) → W.heap[g]? = some (.cells (laidCells cur.toList (i * 5) (t'.cells5 a' c')).toArray 26 (0, 0)) → T.Sep W lo' hi' t' a' c' →
        T.Sep W lo hi (.mk k n s (l.set i t') r) a c := by
  rw [T.Sep] at hs
  obtain ⟨m, xs, h1, h2, h3, h4, h5⟩ := hs
  rcases h1.2 with ⟨_, hn⟩ | ⟨g, cap, cur', hv, hb0, hg, hle, hcm, hcs, htake⟩
  · omega
  · simp only [Value.slice.injEq, true_and] at hv
    obtain ⟨rfl, rfl⟩ := hv
    have hgr := h2 g rfl
    obtain ⟨m1, m2, a', c', g1, g2, g3, g4, g5, g6, g7, g8⟩ := h5.get i h
    have hxl : xs.length = l.length * 5 := h1.1
    have hcl : cur'.toList.length = c * 5 := by rw [Array.length_toList]; exact hcs
    have htail : ∀ vs : List Value, vs.length = 5 → laidCells cur'.toList (i * 5) vs = laidCells xs (i * 5) vs ++ cur'.toList.drop (l.length * 5) := fun vs hvl => by
      unfold laidCells
      rw [← htake, List.take_take, Nat.min_eq_left (by omega), List.drop_take, List.append_assoc, List.append_assoc]
      congr 2
      have e := (List.take_append_drop (l.length * 5 - (i * 5 + 5)) (cur'.toList.drop (i * 5 + 5))).symm
      rw [List.drop_drop] at e
      have e2 : i * 5 + 5 + (l.length * 5 - (i * 5 + 5)) = l.length * 5 := by omega
      rw [e2] at e
      exact e
    refine ⟨g, cur', a', c', m1, m2, rfl, hle, hgr.1, by omega, g2, g3, hg, by omega, ?_, g4, ?_⟩
    · rw [htail _ rfl]
      have e : laidCells xs (i * 5) (l[i].cells5 a' c') = xs := g5.symm
      rw [e, ← htake]
      exact List.take_append_drop _ _
    · intro W t' hW hWg hWs
      have hset : l.set i t' = l.take i ++ ([t'] ++ l.drop (i + 1)) := by
        rw [List.set_eq_take_append_cons_drop, if_pos h]; rfl
      rw [T.Sep]
      refine ⟨m, laidCells xs (i * 5) (t'.cells5 a' c'), ⟨?_, .inr ⟨g, c, _, by rw [List.length_set], Nat.zero_le _, hWg, by rw [List.length_set]; exact hle, hcm, ?_, ?_⟩⟩, ?_, h3, h4, ?_⟩
      · rw [List.length_set]
        unfold laidCells
        simp [T.cells5]
        omega
      · unfold laidCells
        simp [T.cells5]
        omega
      · rw [List.length_set]
        show List.take _ (laidCells cur'.toList (i * 5) (t'.cells5 a' c')) = _
        rw [htail _ rfl, List.take_append_of_le_length (by unfold laidCells; simp [T.cells5]; omega), List.take_of_length_le (by unfold laidCells; simp [T.cells5]; omega)]
      · rw [List.length_set]; exact h2
      · rw [hset]
        unfold laidCells
        have k1 : T.Seps W m m1 (l.take i) (xs.take (i * 5)) := T.Seps.keep (fun b hb hb' => hW b (by omega) (by omega) (by omega) (by omega)) g7
        have k3 : T.Seps W m2 hi (l.drop (i + 1)) (xs.drop (i * 5 + 5)) := T.Seps.keep (fun b hb hb' => hW b (by omega) (by omega) (by omega) (by omega)) g8
        have k2 : T.Seps W m1 m2 [t'] (t'.cells5 a' c') := by
          rw [T.Seps]
          exact ⟨m2, a', c', [], hWs, by simp, g2, Nat.le_refl _, by rw [T.Seps]⟩
        exact T.Seps.app (by omega) g1 k1 (T.Seps.app g3 g2 k2 k3)

/-- Only rows between two bounds, and one block, have been written. -/
structure RenStep (w w' : World) (pb lo hi : Nat) : Prop where
  os : w'.os = w.os
  tape : w'.tape = w.tape
  output : w'.output = w.output
  size : w'.heap.size = w.heap.size
  other : ∀ k, k ≠ pb → ¬ (lo ≤ k ∧ k < hi) → w'.heap[k]? = w.heap[k]?

def RenPost (w : World) (f : Int → Option Int) (t : T) (a : Option Addr) (c pb po lo hi : Nat) (cur : Array Value) (e : Ending) (w' : World) : Prop :=
  e = .returned (.bool (t.ren f).isSome) ∧ RenStep w w' pb lo hi ∧ ∀ t', t.ren f = some t' → w'.heap[pb]? = some (.cells (laidCells cur.toList po (t'.cells5 a c)).toArray 26 (0, 0)) ∧ T.Sep w' lo hi t' a c

theorem laid_set4 {xs : List Value} {off : Nat} {v0 v1 v2 v3 v4 : Value} (h : laidCells xs off [v0, v1, v2, v3, v4] = xs) (hl : off + 5 ≤ xs.length) (u : Value) : xs.set (off + 4) u = laidCells xs off [v0, v1, v2, v3, u] := by
  have hl1 : (xs.take off).length = off := by rw [List.length_take]; omega
  conv => lhs; rw [← h]
  unfold laidCells
  rw [List.set_append, if_neg (by omega), hl1, Nat.add_sub_cancel_left]
  rfl

theorem zeroE24 (w : World) : (zeroValue 24).run Try.prog w = .ok (.int .i64 0) w := by kernel_rfl
theorem keyed24 : Keyed Try.prog 24 := int_keyed Try.underlying24

theorem set_block {w : World} {b o : Nat} {cur : Array Value} {v : Value} (h : w.heap[b]? = some (.cells cur 26 (0, 0))) : (w.setCell ⟨b, o, none⟩ v).heap[b]? = some (.cells (cur.toList.set o v).toArray 26 (0, 0)) := by
  have e : (cur.toList.set o v).toArray = cur.setIfInBounds o v := by
    apply Array.ext_getElem?
    intro i
    simp [Array.getElem?_setIfInBounds, List.getElem?_set]
  rw [e]
  simp [World.setCell, Array.getElem?_modify, h]

theorem RenStep.refl (w : World) (pb lo hi : Nat) : RenStep w w pb lo hi := ⟨rfl, rfl, rfl, rfl, fun _ _ _ => rfl⟩
theorem RenStep.trans {w w1 w2 : World} {pb lo hi g lo' hi' : Nat} (h : RenStep w w1 pb lo hi) (h' : RenStep w1 w2 g lo' hi') (hg : lo ≤ g ∧ g < hi) (hl : lo ≤ lo') (hh : hi' ≤ hi) : RenStep w w2 pb lo hi :=
  ⟨h'.os.trans h.os, h'.tape.trans h.tape, h'.output.trans h.output, h'.size.trans h.size, fun k h1 h2 => (h'.other k (by omega) (by omega)).trans (h.other k h1 h2)⟩

theorem app_drop {l l1 : List T} {i : Nat} (h1 : l1.length = i) (hi : i < l.length) : ∃ h : i < (l1 ++ l.drop i).length, (l1 ++ l.drop i)[i] = l[i] ∧ ∀ t', (l1 ++ l.drop i).set i t' = (l1 ++ [t']) ++ l.drop (i + 1) := by
  refine ⟨by simp; omega, ?_, fun t' => ?_⟩
  · subst h1
    rw [List.getElem_append_right (Nat.le_refl _)]
    simp
  · rw [List.set_append, if_neg (by omega), h1, Nat.sub_self, List.drop_eq_getElem_cons hi, List.set_cons_zero, List.append_assoc]
    rfl

set_option maxRecDepth 100000 in
set_option maxHeartbeats 4000000 in
theorem rename_walk (f : Int → Option Int) (mb : Nat) (t : T) : ∀ (a : Option Addr) (c : Nat) (w : World) (pb po lo hi : Nat) (cur : Array Value), w.heap[pb]? = some (.cells cur 26 (0, 0)) → po + 5 ≤ cur.size →
    laidCells cur.toList po (t.cells5 a c) = cur.toList → T.Sep w lo hi t a c → (pb < lo ∨ hi ≤ pb) → hi ≤ w.heap.size → Names w mb f → mb ≠ pb → ¬ (lo ≤ mb ∧ mb < hi) → t.wf →
    Calls Try.prog 84 #[.pointer (some ⟨pb, po, none⟩), .map (some mb)] w (RenPost w f t a c pb po lo hi cur) := by
  induction t using T.induct with
  | h k n s l r ih =>
  intro a c w pb po lo hi cur hcur hpo hgrp hsep hpb hhi hnm hmb hml hwf
  rw [T.wf, T.wfs_iff] at hwf
  obtain ⟨⟨_, _, _, _, hr0, hr1, _, hll⟩, hwl⟩ := hwf
  obtain ⟨x0, x1, x2, x3, x4⟩ := laid_cells hcur hgrp hpo
  simp only [T.k, T.n, T.s, T.l, T.r] at x0 x1 x2 x3 x4
  have HG := Lib.hid hgrp
  have hpz : pb < w.heap.size := (Array.getElem?_eq_some_iff.1 hcur).1
  by_cases hk : k = 4
  · subst hk
    obtain ⟨n0, D, hown, hmap, hn0, hD⟩ := hnm
    obtain ⟨d1, d2⟩ := hD r (wf_i64 hr0 hr1)
    have hkey : keyOf Try.prog 24 (.int .i64 r) = some (.int .i64 r) := keyOf_int_mk Try.underlying24 (wf_i64 hr0 hr1)
    have hfz : w.frozen? ⟨pb, po + 4, none⟩ = false := by simp [World.frozen?, hcur]
    have HC := Lib.hid hcur
    have HS := Lib.hid hsep
    have HD1 := Lib.hid d1
    have HD2 := Lib.hid d2
    clear hgrp hsep hcur d1 d2 hD ih hwl
    go_enter Try.func84, Try.ntmps84
    go_wp2_with (at_lookup; refine wpList_lookup_own_ok_int _ rfl _ _ 115 rfl 24 24 .i64 keyed24 Try.underlying115 Try.underlying24 (zeroE24 _) mb n0 D rfl hown _ _ rfl hkey ?_; intro cc hat hwc)
    go_ret
    have hcc : ∀ y, f r = some y → cc = y := fun y hy => by
      have := hat.symm.trans (HD2.out y hy)
      simpa using this
    refine ⟨ret_bool (by rw [HD1.out, T.ren, if_pos rfl]; cases f r <;> rfl), ⟨rfl, rfl, rfl, by simp [World.setCell], fun q h1 h2 => Below.heap_setCell _ _ _ _ h1⟩, fun t' ht' => ?_⟩
    rw [T.ren, if_pos rfl] at ht'
    obtain ⟨y, hy, rfl⟩ := Option.map_eq_some_iff.1 ht'
    have hy2 := hcc y hy
    subst hy2
    refine ⟨?_, T.Sep.keep (fun b h1 h2 => Below.heap_setCell _ _ _ _ (by show b ≠ pb; omega)) (t := .mk 4 n s l cc) (by have h9 := HS.out; rw [T.Sep] at h9 ⊢; exact h9)⟩
    rw [set_block HC.out]
    have hl5 : po + 5 ≤ cur.toList.length := by rw [Array.length_toList]; exact hpo
    rw [laid_set4 (v0 := .int .u8 4) (v1 := .int .i64 n) (v2 := .string s) (v3 := .slice a l.length c) (v4 := .int .i64 r) HG.out hl5 (.int .i64 cc)]
    rfl
  · have hk' : (k == 4) = false := by simpa using hk
    have hren : ∀ o, T.rens f l = o → T.ren f (.mk k n s l r) = o.map fun l' => .mk k n s l' r := fun o ho => by rw [T.ren, if_neg hk, ho]
    have HN := Lib.hid hnm
    have HC := Lib.hid hcur
    have HR := Lib.hid hren
    have HK := Lib.hid hk
    have hll' : (l.length : Int) ≤ 2199023255488 := by omega
    have HW := Lib.hid hwl
    have HX := Lib.hid (And.intro x0 (And.intro x1 (And.intro x2 (And.intro x3 x4))))
    have HS := Lib.hid hsep
    clear hren hnm hcur hk hgrp hwl hsep
    go_enter Try.func84, Try.ntmps84
    go_wp2_with fail
    go_loopg [32] l.length (fun gg vi wr => ∃ (i : Nat) (l1 : List T), vi = .int .i64 i ∧ i + gg = l.length ∧ Aside (l1.length = i) ∧ Aside (T.rens f (l.take i) = some l1) ∧ Aside (T.Sep wr lo hi (.mk k n s (l1 ++ l.drop i) r) a c) ∧ Aside (wr.heap[pb]? = some (.cells cur 26 (0, 0))) ∧ RenStep w wr pb lo hi)
    case atStart => exact ⟨0, [], rfl, by simp, rfl, by show T.rens f [] = _; rw [T.rens], by show T.Sep _ _ _ (.mk k n s ([] ++ l.drop 0) r) _ _; exact HS.out, HC.out, RenStep.refl _ _ _ _⟩
    case round =>
      obtain ⟨i, l1, rfl, hgi, hl1, hrs, hsp, hpc, hst⟩ := hrel
      obtain ⟨x0, x1, x2, x3, x4⟩ := laid_cells hpc.out HG.out hpo
      simp only [T.k, T.n, T.s, T.l, T.r] at x0 x1 x2 x3 x4
      by_cases h : i < l.length
      · obtain ⟨hi', hget, hset⟩ := app_drop hl1.out h
        obtain ⟨g, cur', a', c', lo', hi2, rfl, hle, b1, b2, b3, b4, hg, hgs, hgl, hgsp, hre⟩ := hsp.out.step i hi'
        rw [hget] at hgl hgsp
        have hst' := hst
        obtain ⟨so, sta, sou, ssz, soth⟩ := hst
        have hm := ih l[i] (List.getElem_mem h) a' c' wr g (i * 5) lo' hi2 cur' hg hgs hgl hgsp (.inl b2) (by omega) (HN.out.keep (soth mb hmb hml)) (by omega) (by omega) (HW.out _ (List.getElem_mem h))
        obtain ⟨st1, st2⟩ := T.rens_step hrs.out h
        have HST := Lib.hid hst'
        have HRE := Lib.hid hre
        have HGE := Lib.hid hset
        have hlel : l.length ≤ c := by simp [hl1.out] at hle; omega
        unfold RenPost at hm
        clear ih hget hset hgl hgsp hg hre hle hst' soth x0 x1 x2 x4 so sta sou HX HW
        cases hr : T.ren f l[i] with
        | none =>
          have hn := HR.out _ (st2 hr)
          rw [hr] at hm
          have HNN := Lib.hid hn
          clear hn hr st1 st2
          go_wp2_with (go_at_call 84; refine hm.mono ?_; clear hm; rintro e w3 ⟨rfl, hs3, _⟩)
          go_ret
          exact ⟨by rw [HNN.out]; rfl, HST.out.trans hs3 (by omega) (by omega) b4, fun t' ht' => by rw [HNN.out] at ht'; cases ht'⟩
        | some t' =>
          have hn := st1 t' hr
          rw [hr] at hm
          have hok : ∀ (e : Ending) (w3 : World), (e = .returned (.bool (some t').isSome) ∧ RenStep wr w3 g lo' hi2 ∧ ∀ t'_1, some t' = some t'_1 → w3.heap[g]? = some (.cells (laidCells cur'.toList (i * 5) (t'_1.cells5 a' c')).toArray 26 (0, 0)) ∧ T.Sep w3 lo' hi2 t'_1 a' c') → e = .returned (.bool true) ∧ RenStep wr w3 g lo' hi2 ∧ w3.heap[g]? = some (.cells (laidCells cur'.toList (i * 5) (t'.cells5 a' c')).toArray 26 (0, 0)) ∧ T.Sep w3 lo' hi2 t' a' c' := fun e w3 h => ⟨h.1, h.2.1, h.2.2 t' rfl⟩
          have hm2 := hm.mono hok
          have HNN := Lib.hid hn
          clear hn hr st1 st2 hm hok
          go_wp2_with (go_at_call 84; refine hm2.mono ?_; clear hm2; rintro e w3 ⟨rfl, hs3, hg3, hsp3⟩; have HG3 := Lib.hid hg3; have HSP3 := Lib.hid hsp3; have HS3 := Lib.hid hs3; clear hg3 hsp3 hs3)
          go_roundg (gk - 1)
          case measure => omega
          case rel =>
            have hs3 := HS3.out
            refine ⟨i + 1, l1 ++ [t'], by go_num, by omega, by show (l1 ++ [t']).length = i + 1; rw [List.length_append, hl1.out]; rfl, HNN.out, ?_, ?_, HST.out.trans hs3 (by omega) (by omega) b4⟩
            · show T.Sep _ _ _ _ _ _
              rw [← HGE.out]
              exact HRE.out w3 t' (fun b h1 h2 h3 h4 => hs3.other b h3 h4) HG3.out HSP3.out
            · show w3.heap[pb]? = _
              rw [hs3.other pb (by omega) (by omega)]
              exact hpc.out
      · have hil : i = l.length := by omega
        have hrs' := hrs.out
        rw [List.take_of_length_le (by omega)] at hrs'
        have hn := HR.out _ hrs'
        have hsp' := hsp.out
        rw [List.drop_of_length_le (by omega), List.append_nil] at hsp'
        have HNN := Lib.hid hn
        have HSS := Lib.hid hsp'
        have HRS := Lib.hid hrs'
        have HIL := Lib.hid hil
        clear ih hil hrs' hn hsp' x0 x1 x2 x3 x4 HX HW
        go_wp2_with fail
        go_ret
        refine ⟨by rw [HNN.out]; rfl, hst, fun t' ht' => ?_⟩
        rw [HNN.out] at ht'
        have ht2 : .mk k n s l1 r = t' := by simpa using ht'
        subst ht2
        refine ⟨?_, HSS.out⟩
        rw [hpc.out]
        have hlen : l1.length = l.length := T.rens_length HRS.out
        have e := HG.out
        have e2 : (T.mk k n s l1 r).cells5 a c = (T.mk k n s l r).cells5 a c := by simp [T.cells5, T.k, T.n, T.s, T.l, T.r, hlen]
        rw [e2, e]
end Go.Proofs.Ytapfmfihhpafcaa
