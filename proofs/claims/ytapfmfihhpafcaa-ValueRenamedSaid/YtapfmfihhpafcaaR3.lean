/-
  value.Rename, where it does not refuse.
-/
import Derived.Test.YtapfmfihhpafcaaR2
namespace Go.Proofs.Ytapfmfihhpafcaa
open Go.RowKit Go.Maps
set_option linter.unusedVariables false

set_option maxRecDepth 100000 in
set_option maxHeartbeats 4000000 in
theorem rename_yes (t : T) (fr nx : List Int) (a : Option Addr) (c : Nat) (fa : Option Addr) (fc : Nat) (na : Option Addr) (nc : Nat) (w : World) (B : Nat) (hin : T.At w B t a c) (hw : t.wf) (h1 : Ints w (· < B) fr fa fc) (h2 : Ints w (· < B) nx na nc) (hB : B ≤ w.heap.size) (hfl : fr.length ≤ 1000000)
    (hfr : ∀ x ∈ fr, -9223372036854775808 ≤ x ∧ x ≤ 9223372036854775807) (hnr : ∀ x ∈ nx, -9223372036854775808 ≤ x ∧ x ≤ 9223372036854775807) (hm : t.may = true) (hl : fr.length = nx.length) (hf : someLow fr = false) (hn : someLow nx = false) :
    Calls Try.prog 48 #[t.val a c, .slice fa fr.length fc, .slice na nx.length nc] w (GotR w (match t.ren (nameOf fr nx) with | some t' => (t', 0) | none => (T.zero, 21))) := by
  obtain ⟨w1, hw1⟩ : ∃ w1, w1 = (w.alloc (.cells #[.int .u8 t.k, .int .i64 t.n, .string t.s, .slice a t.l.length c, .int .i64 t.r] 26 (0, 0))).alloc (.cells #[.int .u8 0, .int .i64 0, .string ⟨#[]⟩, .slice none 0 0, .int .i64 0] 26 (0, 0)) := ⟨_, rfl⟩
  have hb1 : Below w.heap.size w w1 := by rw [hw1]; exact two_boxes _ _ _
  have D0 : w1.heap[w.heap.size]? = some (.cells #[.int .u8 t.k, .int .i64 t.n, .string t.s, .slice a t.l.length c, .int .i64 t.r] 26 (0, 0)) := by rw [hw1]; exact two_blk0 _ _ _
  have D1 : w1.heap[w.heap.size + 1]? = some (.cells #[.int .u8 0, .int .i64 0, .string ⟨#[]⟩, .slice none 0 0, .int .i64 0] 26 (0, 0)) := by rw [hw1]; exact two_blk1 _ _ _
  have z1 : w1.heap.size = w.heap.size + 2 := by rw [hw1]; simp
  have Z1 := Lib.hid z1
  have hi := T.At.below hb1 hB hin
  have m1 := fun w' (hb : Below w1.heap.size w1 w') => may_walk t a c w' B (T.At.below hb (by omega) hi) (by have := hb.size; omega) hw
  have i1 : ∀ w' (hb : Below w1.heap.size w1 w'), Calls Try.prog 66 #[.slice fa fr.length fc, .func (.func 83) #[] #[]] w' fun e w'' => e = .returned (.bool (someLow fr)) ∧ w' = w'' := fun w' hb => containsLow_walk fr fa fc w' (Ints.all (fun b hk => (hb.block b (by omega)).trans (hb1.block b (by omega))) h1) hfl
  have i2 : ∀ w' (hb : Below w1.heap.size w1 w'), Calls Try.prog 66 #[.slice na nx.length nc, .func (.func 83) #[] #[]] w' fun e w'' => e = .returned (.bool (someLow nx)) ∧ w' = w'' := fun w' hb => containsLow_walk nx na nc w' (Ints.all (fun b hk => (hb.block b (by omega)).trans (hb1.block b (by omega))) h2) (by omega)
  rw [hm] at m1
  rw [hf] at i1
  rw [hn] at i2
  obtain ⟨res, hres⟩ : ∃ res, t.ren (nameOf fr nx) = res := ⟨_, rfl⟩
  rw [hres]
  have tval : ∀ (u : T) p q, u.val p q = .agg #[.int .u8 u.k, .int .i64 u.n, .string u.s, .slice p u.l.length q, .int .i64 u.r] := fun _ _ _ => rfl
  have m3 := fun w' (hb : Below w1.heap.size w1 w') => ownSep_walk t a c w' B (T.At.below hb (by omega) hi) (by have := hb.size; omega) hw
  unfold OwnSep at m3
  simp only [tval] at m1 m3
  rw [tval]
  obtain ⟨x0, x1, x2, x3, x4⟩ := blk5cc D0
  have p1 := Ints.below hb1 hB h1
  have p2 := Ints.below hb1 hB h2
  have hl1 : ((fr.length : Int) == (nx.length : Int)) = true := by simp; omega
  have hl2 : ((fr.length : Int) != (nx.length : Int)) = false := by simp; omega
  have hl3 : (fr.length == nx.length) = true := by simpa using hl
  have E0 := Lib.hid D0
  have E1 := Lib.hid D1
  have HB1 := Lib.hid hb1
  have HP1 := Lib.hid p1
  have HP2 := Lib.hid p2
  have HFR := Lib.hid hfr
  have HNR := Lib.hid hnr
  have HRES := Lib.hid hres
  have HL := Lib.hid hl
  have HW := Lib.hid hw
  clear D0 D1 hb1 hin hi h1 h2 tval z1 p1 p2 hfr hnr hres hl hm hf hn hw
  go_enter Try.func48, Try.ntmps48
  go_upto_region 1 with (fail)
  rw [← hw1]
  clear hw1
  go_upto_region 4 with (first
    | (go_at_call 34; refine (m1 _ (Below.refl _ _)).mono ?_; clear m1; rintro e wA ⟨rfl, hbA⟩)
    | (go_at_call 66; refine (i1 _ hbA).mono ?_; clear i1; rintro e w' ⟨rfl, rfl⟩)
    | (go_at_call 66; refine (i2 _ hbA).mono ?_; clear i2; rintro e w' ⟨rfl, rfl⟩))
  clear x0 x1 x2 x3 x4 hl1 hl2 hl3
  have hmk := run_makeMap_hint wA fr.length
  obtain ⟨wB, hwB⟩ : ∃ wB, wB = wA.alloc (.map #[] 0) := ⟨_, rfl⟩
  have hbAB : Below wA.heap.size wA wB := by rw [hwB]; exact (Below.refl _ _).alloc (Nat.le_refl _) _
  have zAB : wA.heap.size < wB.heap.size := by rw [hwB]; simp
  have hown0 : wB.ownsMap (H := Unit) Try.prog 24 (plainElem Try.prog 24) wA.heap.size 0 (.map []) := by rw [hwB]; exact World.ownsMap_made _ _ _ _
  rw [← hwB] at hmk
  have zA := hbA.size
  have hzA : w.heap.size + 2 ≤ wA.heap.size := by rw [Z1.out] at zA; exact zA
  have HBAB := Lib.hid hbAB
  have HBA := Lib.hid hbA
  clear hwB hbAB hbA
  go_wp2_with fail
  clear hmk
  go_loopg [41] fr.length (fun gg vi wr => ∃ (i : Nat), vi = .int .i64 i ∧ i + gg = fr.length ∧ Aside (Below wA.heap.size wA wr) ∧ wA.heap.size < wr.heap.size ∧ NamesN wr wA.heap.size i (nameOf (fr.take i) (nx.take i)))
  case atStart => exact ⟨0, rfl, by simp, HBAB.out, zAB, .map [], hown0, isMap_empty, fun r _ => ⟨rfl, fun y hy => by simp [nameOf] at hy⟩⟩
  case round =>
    obtain ⟨i, rfl, hgi, hb, hz, D, hown, hmap, hD⟩ := hrel
    have hb1r : Below w1.heap.size w1 wr := HBA.out.trans (hb.out.mono zA)
    by_cases h : i < fr.length
    · have h' : i < nx.length := by have := HL.out; omega
      obtain ⟨b, o, rfl, hbB, e1⟩ := (Ints.below hb1r (by rw [Z1.out]; omega) HP1.out).elem i h
      obtain ⟨b', o', rfl, hbB', e2⟩ := (Ints.below hb1r (by rw [Z1.out]; omega) HP2.out).elem i h'
      have hx := HFR.out _ (List.getElem_mem h)
      have hy := HNR.out _ (List.getElem_mem h')
      have hsn := fun r => nameOf_snoc (fr.take i) (nx.take i) fr[i] nx[i] r (by simp; omega)
      rw [← List.take_succ_eq_append_getElem h, ← List.take_succ_eq_append_getElem h'] at hsn
      obtain ⟨x, hxx⟩ : ∃ x, fr[i] = x := ⟨_, rfl⟩
      obtain ⟨y, hyy⟩ : ∃ y, nx[i] = y := ⟨_, rfl⟩
      rw [hxx] at e1 hx hsn
      rw [hyy] at e2 hy hsn
      have hkey : keyOf Try.prog 24 (.int .i64 x) = some (.int .i64 x) := keyOf_int_mk Try.underlying24 (wf_i64 hx.1 hx.2)
      have hwy := wf_i64 hy.1 hy.2
      obtain ⟨hd1, hd2⟩ := hD x (wf_i64 hx.1 hx.2)
      have HSN := Lib.hid hsn
      have HDD := Lib.hid hD
      have i3 : (i : Int) < (nx.length : Int) := by omega
      clear hxx hyy hx hy hsn hD hb1r m3
      cases hq : nameOf (fr.take i) (nx.take i) x with
      | some v =>
        rw [hq] at hd1
        have hd1' : Maps.has D (.int .i64 x) = true := hd1
        have HQ := Lib.hid hq
        clear hd1 hd2 hq
        go_wp2_with (at_lookup; refine wpList_lookup_own_ok_int _ rfl _ _ 115 rfl 24 24 .i64 keyed24 Try.underlying115 Try.underlying24 (zeroE24 _) wA.heap.size i D rfl hown _ _ rfl hkey ?_; intro cc hat hwc; clear hat hwc)
        go_roundg (gk - 1)
        case measure => omega
        case rel =>
          refine ⟨i + 1, by go_num, by omega, hb, hz, D, hown.mono (by omega), hmap, fun r hr => ?_⟩
          obtain ⟨k1, k2⟩ := HDD.out r hr
          rw [HSN.out r]
          cases hqr : nameOf (fr.take i) (nx.take i) r with
          | some v' => rw [hqr] at k1 k2; exact ⟨k1, k2⟩
          | none =>
            have hne : ¬ x = r := fun e => by rw [e, hqr] at HQ; exact absurd HQ.out (by simp)
            rw [hqr] at k1
            simp only [if_neg hne]
            exact ⟨k1, fun y hy => by cases hy⟩
      | none =>
        rw [hq] at hd1
        have hd1' : Maps.has D (.int .i64 x) = false := hd1
        have HQ := Lib.hid hq
        clear hd1 hd2 hq
        go_wp2_with (first
          | (at_lookup; refine wpList_lookup_own_ok_int _ rfl _ _ 115 rfl 24 24 .i64 keyed24 Try.underlying115 Try.underlying24 (zeroE24 _) wA.heap.size i D rfl hown _ _ rfl hkey ?_; intro cc hat hwc; clear hat hwc)
          | (at_mapUpdate; refine wpList_mapUpdate_own _ rfl _ _ _ 115 rfl 24 24 keyed24 Try.underlying115 _ wA.heap.size i D rfl hown (by unfold maxLen; omega) _ _ _ rfl rfl hkey _ [] (plainElem_int Try.underlying24 hwy) ?_; intro w5 hown5 hgrow5))
        go_roundg (gk - 1)
        case measure => omega
        case rel =>
          refine ⟨i + 1, by go_num, by omega, ?_, by have := hgrow5.size; omega, NamesN.put hmap HDD.out x y HQ.out hown5 HSN.out⟩
          exact (⟨hgrow5.os.trans hb.out.os, hgrow5.tape.trans hb.out.tape, hgrow5.output.trans hb.out.output, Nat.le_trans hb.out.size hgrow5.size, fun k hk => (hgrow5.block k (by omega) (by intro e; cases e; omega)).trans (hb.out.block k hk)⟩ : Below _ _ _)
    · have hil : i = fr.length := by omega
      have hil2 : i = nx.length := hil.trans HL.out
      have hnm : Names wr wA.heap.size (nameOf fr nx) := by
        have := (NamesN.names (N := i) ⟨D, hown, hmap, hD⟩ (by omega))
        rw [List.take_of_length_le (by omega), List.take_of_length_le (by omega)] at this
        exact this
      have zr := hb1r.size
      have V0 := (hb1r.block w.heap.size (by rw [Z1.out]; omega)).trans E0.out
      have V1 := (hb1r.block (w.heap.size + 1) (by rw [Z1.out]; omega)).trans E1.out
      obtain ⟨x0, x1, x2, x3, x4⟩ := blk5cc V0
      have V1 := Lib.hid V1
      have HB1r := Lib.hid hb1r
      have HNM := Lib.hid hnm
      have m4 := m3 _ hb1r
      clear hb1r hil hil2 hnm V0 hown hD hmap m3
      go_upto_region 13 with (go_at_call 59; refine m4.mono ?_; clear m4; rintro e w6 ⟨a6, c6, rfl, hs6, hb6⟩)
      obtain ⟨wL, hwL⟩ : ∃ wL, wL = w6.alloc (.cells #[.int .u8 t.k, .int .i64 t.n, .string t.s, .slice a6 t.l.length c6, .int .i64 t.r] 26) := ⟨_, rfl⟩
      rw [← hwL]
      have hb6L : Below w6.heap.size w6 wL := by rw [hwL]; exact (Below.refl _ _).alloc (Nat.le_refl _) _
      have OL : wL.heap[w6.heap.size]? = some (.cells #[.int .u8 t.k, .int .i64 t.n, .string t.s, .slice a6 t.l.length c6, .int .i64 t.r] 26 (0, 0)) := by rw [hwL]; exact blk_new _ _
      have zL : w6.heap.size < wL.heap.size := (Array.getElem?_eq_some_iff.1 OL).1
      have z6 := hb6.size
      have sL : T.Sep wL wr.heap.size w6.heap.size t a6 c6 := T.Sep.keep (fun b _ hb => hb6L.block b hb) hs6
      have nL : Names wL wA.heap.size (nameOf fr nx) := HNM.out.keep ((hb6L.block _ (by omega)).trans (hb6.block _ hz))
      have mR := rename_walk (nameOf fr nx) wA.heap.size t a6 c6 wL w6.heap.size 0 wr.heap.size w6.heap.size #[.int .u8 t.k, .int .i64 t.n, .string t.s, .slice a6 t.l.length c6, .int .i64 t.r] OL (by simp) (by simp [laidCells, T.cells5]) sL (.inr (Nat.le_refl _)) (by omega) nL (by omega) (by omega) HW.out
      unfold RenPost at mR
      rw [HRES.out] at mR
      have hbrL : Below wr.heap.size wr wL := hb6.trans (hb6L.mono z6)
      have V1L := Lib.hid ((hbrL.block (w.heap.size + 1) (by omega)).trans V1.out)
      have HBRL := Lib.hid hbrL
      clear hwL hs6 hb6 hb6L sL nL OL V1 x0 x1 x2 x3 x4 hbrL
      cases res with
      | none =>
        go_wp2_with (first
          | (go_at_call 84; refine mR.mono ?_; clear mR; rintro e w7 ⟨rfl, hs7, _⟩; have G1 := Lib.hid ((hs7.other (w.heap.size + 1) (by omega) (by omega)).trans V1L.out))
          | (refine wpList_put _ rfl _ _ rfl (w.heap.size + 1) _ _ _ _ _ _ _ _ _ _ (by rfl) (by rfl) (by simp [Value.oneCell']) G1.out ?_; rintro wP hP))
        refine post_cell26r Try.results48 rfl rfl rfl hP.at_ ⟨⟨none, 0, rfl, T.Mut.zero _ _⟩, HB1.out.trans (Below.trans ?_ (hP.below (by omega)))⟩
        have hb7 : Below w1.heap.size w1 w7 := (HB1r.out.trans (HBRL.out.mono zr)).trans ⟨hs7.os, hs7.tape, hs7.output, by rw [hs7.size]; exact Nat.le_refl _, fun k hk => hs7.other k (by omega) (by omega)⟩
        exact hb7.mono (by rw [Z1.out]; omega)
      | some t' =>
        have ok2 : ∀ (e : Ending) (w7 : World), (e = .returned (.bool (some t').isSome) ∧ RenStep wL w7 w6.heap.size wr.heap.size w6.heap.size ∧ ∀ t'_1, some t' = some t'_1 → w7.heap[w6.heap.size]? = some (.cells (laidCells (Array.toList #[.int .u8 t.k, .int .i64 t.n, .string t.s, .slice a6 t.l.length c6, .int .i64 t.r]) 0 (t'_1.cells5 a6 c6)).toArray 26 (0, 0)) ∧ T.Sep w7 wr.heap.size w6.heap.size t'_1 a6 c6) →
          e = .returned (.bool true) ∧ RenStep wL w7 w6.heap.size wr.heap.size w6.heap.size ∧ w7.heap[w6.heap.size]? = some (.cells #[.int .u8 t'.k, .int .i64 t'.n, .string t'.s, .slice a6 t'.l.length c6, .int .i64 t'.r] 26 (0, 0)) ∧ T.Sep w7 wr.heap.size w6.heap.size t' a6 c6 := fun e w7 h => ⟨h.1, h.2.1, (h.2.2 t' rfl).1, (h.2.2 t' rfl).2⟩
        have mR2 := mR.mono ok2
        clear mR ok2
        go_wp2_with (first
          | (go_at_call 84; refine mR2.mono ?_; clear mR2; rintro e w7 ⟨rfl, hs7, ho7, hsp7⟩; have G1 := Lib.hid ((hs7.other (w.heap.size + 1) (by omega) (by omega)).trans V1L.out); obtain ⟨x0, x1, x2, x3, x4⟩ := blk5cc ho7; have HSP7 := Lib.hid hsp7; clear ho7 hsp7)
          | (refine wpList_put _ rfl _ _ rfl (w.heap.size + 1) _ _ _ _ _ _ _ _ _ _ (by rfl) (by rfl) (by simp [Value.oneCell']) G1.out ?_; rintro wP hP))
        have hb7 : Below w1.heap.size w1 w7 := (HB1r.out.trans (HBRL.out.mono zr)).trans ⟨hs7.os, hs7.tape, hs7.output, by rw [hs7.size]; exact Nat.le_refl _, fun k hk => hs7.other k (by omega) (by omega)⟩
        refine post_cell26r Try.results48 rfl rfl rfl hP.at_ ⟨⟨a6, c6, rfl, ?_⟩, HB1.out.trans (Below.trans (hb7.mono (by rw [Z1.out]; omega)) (hP.below (by omega)))⟩
        have s7 := hs7.size
        exact T.Sep.mut (fun b hb hb' => ⟨hP.other b (by omega), by omega, by rw [hP.size]; omega⟩) HSP7.out
end Go.Proofs.Ytapfmfihhpafcaa
