/-
  A value that came in, opened into its tree.
-/
import Derived.Test.YtapfmfihhpafcaaMut
import Derived.ChangeArms
import Derived.ChangeSame
import Derived.SizedLaws
import Derived.DataShut
namespace Go.Proofs.Ytapfmfihhpafcaa
open Go.RowKit
set_option linter.unusedVariables false

theorem cellsOf26 : Try.prog.cellsOf 26 = 5 := by kernel_rfl
theorem cellsOf22 : Try.prog.cellsOf 22 = 1 := by kernel_rfl
theorem cellsOf2 : Try.prog.cellsOf 2 = 1 := by kernel_rfl
theorem cellsOf9 : Try.prog.cellsOf 9 = 1 := by kernel_rfl
theorem cellsOf23 : Try.prog.cellsOf 23 = 1 := by kernel_rfl
theorem cellsOf24 : Try.prog.cellsOf 24 = 1 := by kernel_rfl
theorem cellsOf3 : Try.prog.cellsOf 3 = 1 := by kernel_rfl
theorem bytesOf26 : Try.prog.bytesOf 26 = 64 := by kernel_rfl
theorem bytesOf24 : Try.prog.bytesOf 24 = 8 := by kernel_rfl
theorem bytesOf3 : Try.prog.bytesOf 3 = 8 := by kernel_rfl

theorem exists_list {α : Type} {P : Nat → α → Prop} : ∀ n, (∀ i, i < n → ∃ t, P i t) → ∃ l : List α, l.length = n ∧ ∀ i (h : i < l.length), P i l[i]
  | 0, _ => ⟨[], rfl, fun i h => absurd h (by simp)⟩
  | n + 1, h => by
    obtain ⟨l, hl, hp⟩ := exists_list (P := P) n fun i hi => h i (by omega)
    obtain ⟨t, ht⟩ := h n (by omega)
    refine ⟨l ++ [t], by simp [hl], fun i hi => ?_⟩
    rw [List.getElem_append]
    split
    · exact hp i _
    · have : i = n := by simp at hi; omega
      subst this
      simpa [hl] using ht

theorem lit_u8 {k : Int} (h : (Lit.int .u8 k).wf = true) : 0 ≤ k ∧ k ≤ 255 := by
  rw [Lit.wf_int_iff] at h; simpa [IntKind.min, IntKind.max, IntKind.signed, IntKind.bits] using h
theorem lit_i64 {k : Int} (h : (Lit.int .i64 k).wf = true) : -9223372036854775808 ≤ k ∧ k ≤ 9223372036854775807 := by
  rw [Lit.wf_int_iff] at h; simpa [IntKind.min, IntKind.max, IntKind.signed, IntKind.bits] using h

theorem mem_weightsAll {H : Type} {P : Program} {e : TypeId} : ∀ {l : List (DataW H)} {d : DataW H} {n : Nat}, d ∈ l → n ∈ d.weights P e → n ∈ DataW.weightsAll P e l
  | d' :: l, d, n, hd, hn => by
    rw [DataW.weightsAll]
    rcases List.mem_cons.1 hd with rfl | hd
    · exact List.mem_append_left _ hn
    · exact List.mem_append_right _ (mem_weightsAll hd hn)

section
variable {H : Type} {enc : TypeId × Value → H} {w : World} {sp : Nat → Bool} {held : Bool}

def Opened (w : World) (cs : List Value) : Prop := ∃ (t : T) (a : Option Addr) (c : Nat), cs = t.cells5 a c ∧ T.In w (· < w.heap.size) false t a c ∧ t.wf

set_option maxRecDepth 100000 in
theorem open_val : ∀ (fuel : Nat) (cs : List Value) (x : DataW H × List MemPlace), DataW.trod enc Try.prog w 0 sp held fuel 26 cs = some x → (∀ n ∈ x.1.weights Try.prog 26, n ≤ reachBytes) → Opened w cs := by
  intro fuel
  induction fuel using Nat.strongRecOn with
  | _ fuel ih =>
    intro cs x h hw
    obtain ⟨xs, m, rfl, rfl, hl, hlen, hf⟩ := DataW.trod_struct Try.underlying26 h
    rw [cellsOf26] at hl
    match xs, hlen, cs, hl with
    | [y0, y1, y2, y3, y4], _, [v0, v1, v2, v3, v4], _ =>
      have g0 := hf 0 _ rfl
      have g1 := hf 1 _ rfl
      have g2 := hf 2 _ rfl
      have g3 := hf 3 _ rfl
      have g4 := hf 4 _ rfl
      simp [cellsOf22, cellsOf2, cellsOf9, cellsOf23, cellsOf24] at g0 g1 g2 g3 g4
      obtain ⟨k, hv0, rfl, wk⟩ := DataW.trod_int Try.underlying22 g0
      obtain ⟨n, hv1, rfl, wn⟩ := DataW.trod_int Try.underlying2 g1
      obtain ⟨s, hv2, rfl, ws⟩ := DataW.trod_string Try.underlying9 g2
      obtain ⟨r, hv4, rfl, wr⟩ := DataW.trod_int Try.underlying24 g4
      simp only [List.cons.injEq, and_true] at hv0 hv1 hv2 hv4
      subst hv0 hv1 hv2 hv4
      have hwe : ∀ q ∈ DataW.weightsEach (H := H) Try.prog [22, 2, 9, 23, 24] [DataW.lit (.int .u8 k), .lit (.int .i64 n), .lit (.string s.data.toList), y3.1, .lit (.int .i64 r)], q ≤ reachBytes := by
        intro q hq
        refine hw q ?_
        rw [DataW.weights, Try.underlying26]
        exact hq
      have hs : s.size ≤ 140737488351232 := by
        have := hwe s.data.toList.length (DataW.weights_mem_each (j := 2) rfl rfl _ (by simp [DataW.weights]))
        rw [Array.length_toList] at this
        exact this
      have hlist : ∀ q ∈ y3.1.weights Try.prog 23, q ≤ reachBytes := fun q hq => hwe q (DataW.weights_mem_each (j := 3) rfl rfl _ hq)
      have bk := lit_u8 wk
      have bn := lit_i64 wn
      have br := lit_i64 wr
      rcases DataW.trod_slice Try.underlying23 g3 with ⟨hv3, rfl⟩ | ⟨a, len, cap, elems, rest, n', rfl, hv3, rfl, hb, hle, hcap, hel, helem, _, _⟩
      · simp only [List.cons.injEq, and_true] at hv3
        subst hv3
        refine ⟨.mk k n s [] r, none, 0, rfl, ?_, ?_⟩
        · rw [T.In]; exact ⟨Nat.le_refl _, .inl rfl⟩
        · rw [T.wf, T.wfs]; exact ⟨⟨bk.1, bk.2, bn.1, bn.2, br.1, br.2, hs, by simp⟩, trivial⟩
      · simp only [List.cons.injEq, and_true] at hv3
        subst hv3
        rw [DataW.weights, Try.underlying23] at hlist
        have hlen' : (elems.length + rest.length) * 64 ≤ reachBytes := by
          have := hlist ((elems.length + rest.length) * 64) (by simp [bytesOf26])
          exact this
        rw [cellsOf26] at helem
        by_cases h0 : len = 0
        · subst h0
          refine ⟨.mk k n s [] r, some a, cap, rfl, ?_, ?_⟩
          · rw [T.In]; exact ⟨Nat.zero_le _, .inl rfl⟩
          · rw [T.wf, T.wfs]; exact ⟨⟨bk.1, bk.2, bn.1, bn.2, br.1, br.2, hs, by simp⟩, trivial⟩
        have get : ∀ i (hi : i < len), ∃ (t : T) (a' : Option Addr) (c' : Nat), T.wf t ∧ T.In w (· < w.heap.size) false t a' c' ∧ ∀ j, j < 5 → w.cell? ((a.add (i * 5)).add j) = (t.cells5 a' c')[j]? := by
          intro i hi
          have h1 := helem i hi
          rw [List.getElem?_eq_getElem (by omega)] at h1
          obtain ⟨cs', hc', ht'⟩ := Option.bind_eq_some_iff.1 h1
          obtain ⟨t, a', c', rfl, hin, hwf⟩ := ih n' (by omega) cs' _ ht' (fun q hq => hlist q (by
            refine List.mem_cons_of_mem _ (List.mem_append_left _ (mem_weightsAll (d := (elems[i]'(by omega)).1) (List.mem_map_of_mem (List.getElem_mem _)) hq))))
          obtain ⟨_, _, hcell⟩ := World.cells?_some hc'
          exact ⟨t, a', c', hwf, hin, hcell⟩
        obtain ⟨t0, a0, c0, _, _, hc0⟩ := get 0 (by omega)
        have hz : w.cell? a = some (.int .u8 t0.k) := by
          have := hc0 0 (by omega)
          rw [Nat.zero_mul, Addr.add, Addr.add, if_pos rfl, if_pos rfl] at this
          exact this
        have hsp := World.cell?_spot hz
        obtain ⟨b, o, sp⟩ := a
        simp only at hsp
        subst hsp
        have hbz := World.block_lt_of_cell? _ _ hz
        have hadd : ∀ i j, ((⟨b, o, none⟩ : Addr).add i).add j = ⟨b, o + i + j, none⟩ := fun i j => by rw [Addr.add_lit, Addr.add_lit]
        obtain ⟨l, hll, hl⟩ := exists_list (P := fun i (t : T) => T.wf t ∧ T.Cell w (· < w.heap.size) false t b (o + i * 5)) len (fun i hi => by
          obtain ⟨t, a', c', hwf, hin, hc⟩ := get i hi
          simp only [hadd] at hc
          exact ⟨t, hwf, a', c', hin, hc 0 (by omega), hc 1 (by omega), hc 2 (by omega), hc 3 (by omega), hc 4 (by omega)⟩)
        have hbound : l.length ≤ 2199023255488 := by unfold reachBytes at hlen'; omega
        refine ⟨.mk k n s l r, some ⟨b, o, none⟩, cap, by rw [T.cells5]; simp only [T.k, T.n, T.s, T.l, T.r]; rw [hll], ?_, ?_⟩
        · rw [T.In]
          exact ⟨by omega, .inr ⟨b, o, rfl, hbz, by simp, T.Ins.mk fun i hi => (hl i hi).2⟩⟩
        · rw [T.wf, T.wfs_iff]
          refine ⟨⟨bk.1, bk.2, bn.1, bn.2, br.1, br.2, hs, hbound⟩, fun x hx => ?_⟩
          obtain ⟨i, hi, rfl⟩ := List.getElem_of_mem hx
          exact (hl i hi).1
end
end Go.Proofs.Ytapfmfihhpafcaa
