/-
  The reader's value: lists.
-/
import Derived.Test.YtapfmfihhpafcaaC1
namespace Go.Proofs.Ytapfmfihhpafcaa
open Go.RowKit
set_option linter.unusedVariables false

theorem ReadPost.of_none {w w' : World} {rb sb d : Nat} {e : Ending} (h : ReadPost w rb sb d none e w') : (∃ t a c, e = .returned (.tuple #[T.val t a c, .bool false])) ∧ ValStep w w' rb sb := by
  obtain ⟨(⟨_, _, _, _, _, h1, _⟩ | ⟨_, h1⟩), hs⟩ := h
  · cases h1
  · exact ⟨h1, hs⟩
theorem ReadPost.of_some {w w' : World} {rb sb d p' : Nat} {t : T} {s' : ByteArray} {e : Ending} (h : ReadPost w rb sb d (some (t, s', p')) e w') :
    (∃ a c, e = .returned (.tuple #[t.val a c, .bool true]) ∧ T.Mut w' (New w.heap.size w') t a c ∧ RS w' rb sb s' p' d ∧ t.wf) ∧ ValStep w w' rb sb := by
  obtain ⟨(⟨t2, s2, p2, a, c, h1, h2, h3, h4, h5⟩ | ⟨h1, _⟩), hs⟩ := h
  · injection h1 with h1
    injection h1 with h6 h7
    injection h7 with h7 h8
    subst h6; subst h7; subst h8
    exact ⟨⟨a, c, h2, h3, h4, h5⟩, hs⟩
  · cases h1

theorem ownsRow_keep {w w' : World} {base n : Nat} {v : Value} {xs : List Value} (h : w.ownsRow base 26 5 v n xs) (hk : ∀ g, v.ownBlock = some g → w'.heap[g]? = w.heap[g]?) : w'.ownsRow base 26 5 v n xs := by
  refine ⟨h.1, ?_⟩
  rcases h.2 with h0 | ⟨g, cap, cur, hv, hb, hg, r⟩
  · exact .inl h0
  · exact .inr ⟨g, cap, cur, hv, hb, by rw [hk g (by rw [hv]; rfl)]; exact hg, r⟩

/-- The blocks of the parts read so far: neither the list's own row nor what was there. -/
def ChS (lo : Nat) (w : World) (v : Value) (b : Nat) : Prop := lo ≤ b ∧ b < w.heap.size ∧ v.ownBlock ≠ some b

theorem rcells {w : World} {rb sb : Nat} {p d : Int} (h : w.heap[rb]? = some (.cells #[.func (.func 92) #[] #[.pointer (some ⟨sb, 0, none⟩)], .func (.func 93) #[] #[.pointer (some ⟨sb, 0, none⟩)], .int .i64 p, .int .i64 d] 109 (0, 0))) :
    w.cell? ⟨rb, 0, none⟩ = some (.func (.func 92) #[] #[.pointer (some ⟨sb, 0, none⟩)]) ∧ w.cell? ⟨rb, 2, none⟩ = some (.int .i64 p) ∧ w.cell? ⟨rb, 3, none⟩ = some (.int .i64 d) ∧ w.frozen? ⟨rb, 2, none⟩ = false ∧ w.frozen? ⟨rb, 3, none⟩ = false := by
  refine ⟨?_, ?_, ?_, ?_, ?_⟩ <;> simp [World.cell?, World.frozen?, h]

theorem RS.nest {w : World} {rb sb p d d' : Nat} {s : ByteArray} {x : Int} (h : RS w rb sb s p d) (hx : x = (d' : Int)) : RS (w.setCell ⟨rb, 3, none⟩ (.int .i64 x)) rb sb s p d' := by
  subst hx
  refine ⟨?_, (Below.heap_setCell _ _ _ _ (Ne.symm h.2.2)).trans h.2.1, h.2.2⟩
  simp [World.setCell, Array.getElem?_modify, h.1]
theorem ValStep.nest {w : World} {rb sb : Nat} {v : Value} : ValStep w (w.setCell ⟨rb, 3, none⟩ v) rb sb :=
  ⟨rfl, rfl, rfl, by simp [World.setCell], fun k _ h2 _ => Below.heap_setCell _ _ _ _ h2⟩

theorem rdNode_le {d p : Nat} {s : ByteArray} {sub : Nat → Nat → ByteArray → Option (List T × ByteArray × Nat)} (hs : ∀ n p s r, sub n p s = some r → r.2.2 ≤ p ∧ r.2.1.size ≤ s.size) {r : T × ByteArray × Nat} (h : rdNode d p s sub = some r) : r.2.2 ≤ p ∧ r.2.1.size ≤ s.size := by
  unfold rdNode at h
  have ht : (tl s).size ≤ s.size := by unfold tl; simp
  have hc : ∀ n (x : ByteArray), (cut n x).size ≤ x.size := fun n x => by unfold cut; simp
  split at h; · cases h
  split at h; · cases h; exact ⟨by simp, ht⟩
  split at h
  · split at h; · cases h
    cases h; exact ⟨by simp, Nat.le_trans (hc _ _) ht⟩
  split at h
  · split at h; · cases h
    split at h; · cases h
    cases h; exact ⟨by simp, Nat.le_trans (hc _ _) ht⟩
  split at h
  · split at h; · cases h
    split at h; · cases h
    split at h; · cases h
    cases h; exact ⟨by simp, Nat.le_trans (hc _ _) (Nat.le_trans (hc _ _) ht)⟩
  split at h
  · split at h; · cases h
    split at h; · cases h
    obtain ⟨q, hq, rfl⟩ := Option.map_eq_some_iff.1 h
    obtain ⟨h1, h2⟩ := hs _ _ _ _ hq
    exact ⟨by simp; omega, Nat.le_trans h2 (Nat.le_trans (hc _ _) ht)⟩
  · cases h

theorem rds_le {f : Nat → ByteArray → Option (T × ByteArray × Nat)} (hf : ∀ p s r, f p s = some r → r.2.2 ≤ p ∧ r.2.1.size ≤ s.size) : ∀ n p s r, rds f n p s = some r → r.2.2 ≤ p ∧ r.2.1.size ≤ s.size
  | 0, p, s, r, h => by rw [rds] at h; cases h; exact ⟨Nat.le_refl _, Nat.le_refl _⟩
  | n + 1, p, s, r, h => by
    rw [rds] at h
    obtain ⟨x, hx, h⟩ := Option.bind_eq_some_iff.1 h
    obtain ⟨y, hy, rfl⟩ := Option.map_eq_some_iff.1 h
    have h1 := hf _ _ _ hx
    have h2 := rds_le hf n _ _ _ hy
    exact ⟨Nat.le_trans h2.1 h1.1, Nat.le_trans h2.2 h1.2⟩

theorem rd_le : ∀ d p s r, rd d p s = some r → r.2.2 ≤ p ∧ r.2.1.size ≤ s.size
  | 0, p, s, r, h => rdNode_le (fun _ _ _ _ h => by cases h) h
  | d + 1, p, s, r, h => rdNode_le (rds_le (rd_le d)) h

set_option maxRecDepth 100000 in
set_option maxHeartbeats 4000000 in
theorem value_k3 (d p rb sb : Nat) (s : ByteArray) (w : World) (sub : Nat → Nat → ByteArray → Option (List T × ByteArray × Nat)) (hsub : d = 0 ∨ ∃ d', d = d' + 1 ∧ sub = rds (rd d') ∧ ValCalls d' rb sb)
    (h : RS w rb sb s p d) (hs : s.size ≤ 140737488351232) (hp : p ≤ 1000000) (hd1 : d ≤ 1000) (h0 : 1 ≤ s.size) (h1 : 1 ≤ p) (k3 : hd s = 3) :
    Calls Try.prog 71 #[.pointer (some ⟨rb, 0, none⟩)] w (ReadPost w rb sb d (rdNode d p s sub)) := by
  obtain ⟨c0, c2, c3, f2, f3, hrb, hsb⟩ := h.cells
  have hne := h.2.2
  have m1 := take1_walk 1 sb s (w.alloc (.cells #[.int .u8 0, .int .i64 0, .string ⟨#[]⟩, .slice none 0 0, .int .i64 0] 26 (0, 0))) ((Below.heap_alloc _ _ _ hsb).trans h.2.1) hs (by omega)
  rw [if_pos h0, if_pos h0] at m1
  have hp0 : ((p : Int) == 0) = false := by simp; omega
  obtain ⟨r, hr⟩ : ∃ r, rdNode d p s sub = r := ⟨_, rfl⟩
  rw [hr]
  rw [rdNode, if_neg (by omega)] at hr
  have HR := Lib.hid hr
  clear hr
  go_enter Try.func71, Try.ntmps71
  go_upto_region 5 with (go_at_call 92; refine m1.mono ?_; rintro e w1 ⟨rfl, rfl⟩)
  have hz1 : (s.extract 0 1).size = 1 := by simp; omega
  go_cut [2] (fun v2 wx => v2 = .pointer (some ⟨w.heap.size, 0, none⟩) ∧ wx.heap[w.heap.size]? = some (.cells #[.int .u8 (hd s), .int .i64 0, .string ⟨#[]⟩, .slice none 0 0, .int .i64 0] 26 (0, 0)) ∧ RS wx rb sb (tl s) (p - 1) d ∧ ValStep w wx rb sb)
  case first =>
    go_wp2_with fail
    go_meet
    case rel =>
      exact ⟨rfl, by rw [← hd_eq s (by omega)]; exact (h.started h1).2.2, (h.started h1).1, (h.started h1).2.1⟩
  case rest =>
    obtain ⟨rfl, V, R, st⟩ := hcut
    obtain ⟨x0, x1, x2, x3, x4, y0, y1, y2, y3, y4⟩ := blk5 V
    clear c0 c2 c3 f2 f3 h m1 hp0 hz1
    obtain ⟨c0, c2, c3, f2, f3, hrb', hsb'⟩ := R.cells
    have hvz : w.heap.size < wc.heap.size := (Array.getElem?_eq_some_iff.1 V).1
    have V0 := Lib.hid V
    clear V
    have htz : (tl s).size ≤ 140737488351232 := by unfold tl; simp; omega
    have e := HR.out
    rw [if_neg (by omega), if_neg (by omega), if_neg (by omega), if_neg (by omega), if_pos k3] at e
    have K0 := Lib.hid e
    rw [k3] at x0 V0
    clear k3 e HR
    have m2 := number_walk 2 sb rb (tl s) wc R.2.1 c0 htz (by omega)
    have hb := numOf_lt ((tl s).extract 0 2) 2 (by simp; omega)
    unfold NumPost at m2
    obtain ⟨q, hq⟩ := numOf_nat ((tl s).extract 0 2)
    rw [hq] at m2 hb
    have hb2 : q < 65536 := by have h3 : (256 ^ 2 : Nat) = 65536 := (by decide); have := hb.2; omega
    have HQ := Lib.hid hq
    clear hq hb
    have hcz : (cut 2 (tl s)).size ≤ 140737488351232 := by unfold cut; simp; omega
    by_cases hd0 : d = 0
    · have z1 : ((d : Int) == 0) = true := by simp; omega
      go_wp2_with (first
        | (go_at_call 94; refine m2.mono ?_; clear m2; rintro e w2 ⟨(⟨hle, rfl, hL⟩ | ⟨hle, n, rfl⟩), hst⟩; all_goals (have V2 := (hst.block w.heap.size hvz (by omega)).trans V0.out; have hrb2 := hst.block rb (by omega) hne; have R2h := hrb2.trans R.1; clear x0 x1 x2 x3 x4 y0 y1 y2 y3 y4 c0 c2 c3 f2 f3; obtain ⟨x0, x1, x2, x3, x4, y0, y1, y2, y3, y4⟩ := blk5 V2; have V2 := Lib.hid V2; obtain ⟨c0, c2, c3, f2, f3⟩ := rcells R2h))
        | (refine wpList_put _ rfl _ _ rfl w.heap.size _ _ _ _ _ _ _ _ _ _ (by rfl) (by rfl) (by simp [Value.oneCell']) V2.out ?_; rintro wP hP))
      · have e := K0.out
        rw [if_neg (by omega), if_pos (.inl hd0)] at e
        rw [← e]
        exact post_cell26c Try.results71 rfl rfl rfl hP.at_ (.no (.mk 3 0 ⟨#[]⟩ [] 0) none 0 rfl ((st.trans (.of_read hst)).put hP (Nat.le_refl _)))
      · have e := K0.out
        rw [if_pos (by omega)] at e
        rw [← e]
        exact post_cell26c Try.results71 rfl rfl rfl hP.at_ (.no (.mk 3 0 ⟨#[]⟩ [] 0) none 0 rfl ((st.trans (.of_read hst)).put hP (Nat.le_refl _)))
    have z1 : ((d : Int) == 0) = false := by simp; omega
    by_cases hpq : p - 1 < q
    · have z2 : decide (((p - 1 : Nat) : Int) < (q : Int)) = true := by simp; omega
      have z3 : decide (p - 1 < q) = true := by simp; omega
      go_wp2_with (first
        | (go_at_call 94; refine m2.mono ?_; clear m2; rintro e w2 ⟨(⟨hle, rfl, hL⟩ | ⟨hle, n, rfl⟩), hst⟩; all_goals (have V2 := (hst.block w.heap.size hvz (by omega)).trans V0.out; have hrb2 := hst.block rb (by omega) hne; have R2h := hrb2.trans R.1; clear x0 x1 x2 x3 x4 y0 y1 y2 y3 y4 c0 c2 c3 f2 f3; obtain ⟨x0, x1, x2, x3, x4, y0, y1, y2, y3, y4⟩ := blk5 V2; have V2 := Lib.hid V2; obtain ⟨c0, c2, c3, f2, f3⟩ := rcells R2h))
        | (refine wpList_put _ rfl _ _ rfl w.heap.size _ _ _ _ _ _ _ _ _ _ (by rfl) (by rfl) (by simp [Value.oneCell']) V2.out ?_; rintro wP hP))
      · have e := K0.out
        rw [if_neg (by omega), HQ.out, Int.toNat_natCast, if_pos (.inr hpq)] at e
        rw [← e]
        exact post_cell26c Try.results71 rfl rfl rfl hP.at_ (.no (.mk 3 0 ⟨#[]⟩ [] 0) none 0 rfl ((st.trans (.of_read hst)).put hP (Nat.le_refl _)))
      · have e := K0.out
        rw [if_pos (by omega)] at e
        rw [← e]
        exact post_cell26c Try.results71 rfl rfl rfl hP.at_ (.no (.mk 3 0 ⟨#[]⟩ [] 0) none 0 rfl ((st.trans (.of_read hst)).put hP (Nat.le_refl _)))
    have z2 : decide (((p - 1 : Nat) : Int) < (q : Int)) = false := by simp; omega
    have z3 : decide (p - 1 < q) = false := by simp; omega
    have z4 : ¬ ((p - 1 : Nat) : Int) < (q : Int) := by omega
    by_cases hsh : (tl s).size < 2
    · go_wp2_with (first
        | (go_at_call 94; refine m2.mono ?_; clear m2; rintro e w2 ⟨(⟨hle, rfl, hL⟩ | ⟨hle, n, rfl⟩), hst⟩; all_goals (have V2 := (hst.block w.heap.size hvz (by omega)).trans V0.out; have hrb2 := hst.block rb (by omega) hne; have R2h := hrb2.trans R.1; clear x0 x1 x2 x3 x4 y0 y1 y2 y3 y4 c0 c2 c3 f2 f3; obtain ⟨x0, x1, x2, x3, x4, y0, y1, y2, y3, y4⟩ := blk5 V2; have V2 := Lib.hid V2; obtain ⟨c0, c2, c3, f2, f3⟩ := rcells R2h))
        | (refine wpList_put _ rfl _ _ rfl w.heap.size _ _ _ _ _ _ _ _ _ _ (by rfl) (by rfl) (by simp [Value.oneCell']) V2.out ?_; rintro wP hP))
      · omega
      · have e := K0.out
        rw [if_pos hsh] at e
        rw [← e]
        exact post_cell26c Try.results71 rfl rfl rfl hP.at_ (.no (.mk 3 0 ⟨#[]⟩ [] 0) none 0 rfl ((st.trans (.of_read hst)).put hP (Nat.le_refl _)))
    go_upto_region 27 with (first
        | (go_at_call 94; refine m2.mono ?_; clear m2; rintro e w2 ⟨(⟨hle, rfl, hL⟩ | ⟨hle, n, rfl⟩), hst⟩; all_goals (have V2 := (hst.block w.heap.size hvz (by omega)).trans V0.out; have hrb2 := hst.block rb (by omega) hne; have R2h := hrb2.trans R.1; clear x0 x1 x2 x3 x4 y0 y1 y2 y3 y4 c0 c2 c3 f2 f3; obtain ⟨x0, x1, x2, x3, x4, y0, y1, y2, y3, y4⟩ := blk5 V2; have V2 := Lib.hid V2; obtain ⟨c0, c2, c3, f2, f3⟩ := rcells R2h)))
    · rcases hsub with h | ⟨d', rfl, rfl, hval⟩
      · exact absurd h hd0
      have e := K0.out
      rw [if_neg (by omega), HQ.out, Int.toNat_natCast, if_neg (by omega)] at e
      have HE := Lib.hid e
      have hR2 := R.read hst hL
      have st2 := st.trans (.of_read hst)
      have hwz2 := hst.size
      clear e K0 HQ z1 z2 z3 z4 hd0 hpq hsh hL R2h R V0 c0 hrb2
      go_wp2_with fail
      have hx : ((d' + 1 : Nat) : Int) - 1 = (d' : Int) := by omega
      go_loopg [145] q (fun g vi wr => ∃ (ts : List T) (a : Option Addr) (c : Nat) (xs : List Value) (si : ByteArray) (pi : Nat), vi = .int .u64 (ts.length : Nat) ∧ ts.length + g = q ∧
        wr.heap[w.heap.size]? = some (.cells #[.int .u8 3, .int .i64 0, .string ⟨#[]⟩, .slice a ts.length c, .int .i64 0] 26 (0, 0)) ∧ wr.ownsRow (w.heap.size + 1) 26 5 (.slice a ts.length c) ts.length xs ∧ T.Muts wr (ChS (w.heap.size + 1) wr (.slice a ts.length c)) ts xs ∧
        RS wr rb sb si pi d' ∧ ValStep w wr rb sb ∧ w.heap.size < wr.heap.size ∧ pi ≤ 1000000 ∧ si.size ≤ 140737488351232 ∧ Aside (rds (rd d') q (p - 1) (cut 2 (tl s)) = (rds (rd d') (q - ts.length) pi si).map (fun z => (ts ++ z.1, z.2))) ∧ Aside (∀ t ∈ ts, t.wf))
      case atStart =>
        refine ⟨[], none, 0, [], cut 2 (tl s), p - 1, rfl, by simp, ?_, World.ownsRow_nil _ _ _ _, by rw [T.Muts], ?_, st2.trans ValStep.nest, by simp [World.setCell]; omega, by omega, hcz, ?_, by intro t ht; cases ht⟩
        · exact (Below.heap_setCell _ _ _ _ (by show w.heap.size ≠ rb; omega)).trans V2.out
        · exact hR2.nest (by first | rfl | omega)
        · show rds (rd d') q (p - 1) (cut 2 (tl s)) = _
          rw [List.length_nil, Nat.sub_zero]
          cases rds (rd d') q (p - 1) (cut 2 (tl s)) <;> simp
      case round =>
        obtain ⟨ts, a, c, xs, si, pi, rfl, hig, Vr, hown, hmut, hRr, str, hzr, hpi, hsi, hrds, hwfs⟩ := hrel
        have hrb3 := hRr.cells.2.2.2.2.2.1
        have hsb3 := hRr.cells.2.2.2.2.2.2
        have VR := Lib.hid Vr
        clear Vr x0 x1 x2 x3 x4 y0 y1 y2 y3 y4
        have hlt := hown.lt
        by_cases h : ts.length < q
        · have hm := hval pi si wr hRr hsi hpi
          obtain ⟨rr, hrr⟩ : ∃ rr, rd d' pi si = rr := ⟨_, rfl⟩
          rw [hrr] at hm
          have HRR := Lib.hid hrr
          clear hrr
          cases rr with
          | none =>
            have hm2 := hm.mono (R' := fun e w' => (∃ t a c, e = .returned (.tuple #[T.val t a c, .bool false])) ∧ ValStep wr w' rb sb) (fun e w' h => h.of_none)
            clear hm hval
            go_wp2_with (first
              | (go_at_call 71; refine hm2.mono ?_; clear hm2; rintro e w3 ⟨⟨t, a2, c2, he⟩, hst3⟩; unfold T.val at he; subst he; have V3 := (hst3.block w.heap.size hzr (by omega) (by omega)).trans VR.out; have hz3 := hst3.size; obtain ⟨x0, x1, x2, x3, x4, y0, y1, y2, y3, y4⟩ := blk5 V3; have V3 := Lib.hid V3; have hv3 : w.heap.size < w3.heap.size := Nat.lt_of_lt_of_le hzr hz3)
              | (refine wpList_put _ rfl _ _ rfl w.heap.size _ _ _ _ _ _ _ _ _ _ (by rfl) (by rfl) (by simp [Value.oneCell']) ((Below.heap_alloc _ _ _ hv3).trans V3.out) ?_; rintro wP hP))
            have e := HE.out
            have hq1 : q - ts.length = (q - ts.length - 1) + 1 := by omega
            rw [hrds.out, hq1, rds, HRR.out] at e
            rw [← show none = r from e]
            exact post_cell26c Try.results71 rfl rfl rfl hP.at_ (.no (.mk 3 0 ⟨#[]⟩ ts 0) a c rfl (((str.trans hst3).trans (.of_below ((Below.refl _ _).alloc (Nat.le_refl _) _))).put hP (Nat.le_refl _)))
          | some v =>
            obtain ⟨t, s', p'⟩ := v
            have hm2 := hm.mono (R' := fun e w' => (∃ a c, e = .returned (.tuple #[t.val a c, .bool true]) ∧ T.Mut w' (New wr.heap.size w') t a c ∧ RS w' rb sb s' p' d' ∧ t.wf) ∧ ValStep wr w' rb sb) (fun e w' h => h.of_some)
            clear hm hval
            obtain ⟨i0, hi, hz0, hz1, hz2⟩ := info_parts info26
            have hle := rd_le d' pi si (t, s', p') HRR.out
            go_wp2_with (first
              | (go_at_call 71; refine hm2.mono ?_; clear hm2; rintro e w3 ⟨⟨a2, c2, he, hmt, hR3, htw⟩, hst3⟩; unfold T.val at he; subst he; have V3 := (hst3.block w.heap.size hzr (by omega) (by omega)).trans VR.out; have hz3 := hst3.size; obtain ⟨x0, x1, x2, x3, x4, y0, y1, y2, y3, y4⟩ := blk5 V3; have V3 := Lib.hid V3; have hv3 : w.heap.size < w3.heap.size := Nat.lt_of_lt_of_le hzr hz3; have HM := Lib.hid hmt; clear hmt; have own3 : w3.ownsRow (w.heap.size + 1) 26 5 (.slice a ts.length c) ts.length xs := ownsRow_keep hown (fun g hg => hst3.block g (hlt g hg).2 (by have := (hlt g hg).1; omega) (by have := (hlt g hg).1; omega)))
              | (at_builtin; refine wpList_append_lies _ rfl _ _ 23 rfl (w.heap.size + 1) 26 i0 _ 5 64 Try.underlying23 hi hz0 hz1 hz2 rfl (by decide) (.slice a ts.length c) _ _ (by rfl) ((own3.alloc _).alloc _) ⟨w3.heap.size + 1, 0, none⟩ 1 1 (t.cells5 a2 c2) (by rfl) rfl (World.news_of_block (cs := #[.int .u8 t.k, .int .i64 t.n, .string t.s, .slice a2 t.l.length c2, .int .i64 t.r]) (t := 26) (fr := (0, 0)) (two_blk1 _ _ _)) (by simp [T.cells5, Value.oneCell']) (by omega) (by unfold maxLen; omega) (by omega) (by simp; omega) _ rfl ?_; intro g cap w4 hown4 hgrow4 hat4 hlt4; have V4 := ((hgrow4.block w.heap.size (by simp; omega) (fun e => by have := (hlt _ e.symm).1; omega)).trans ((Below.heap_alloc _ _ _ (by simp; omega)).trans (Below.heap_alloc _ _ _ hv3))).trans V3.out; clear x0 x1 x2 x3 x4 y0 y1 y2 y3 y4; obtain ⟨x0, x1, x2, x3, x4, y0, y1, y2, y3, y4⟩ := blk5 V4; have V4 := Lib.hid V4))
            have hz4 := hgrow4.size
            simp only [World.size_alloc] at hz4
            have hkeep : ∀ b, b ≠ w.heap.size → b < w3.heap.size → (Value.slice a ts.length c).ownBlock ≠ some b → (w4.setCell ⟨w.heap.size, 3, none⟩ (.slice (some ⟨g, 0, none⟩) (ts.length + 1) cap)).heap[b]? = w3.heap[b]? := fun b hb1 hb2 hb3 => by
              rw [Below.heap_setCell _ _ _ _ hb1, hgrow4.block b (by simp; omega) (fun e => hb3 e.symm), Below.heap_alloc _ _ _ (by simp; omega), Below.heap_alloc _ _ _ hb2]
            have hgs : ∀ b, w.heap.size + 1 ≤ b → b < w3.heap.size → (Value.slice a ts.length c).ownBlock ≠ some b → (Value.slice (some ⟨g, 0, none⟩) (ts.length + 1) cap).ownBlock ≠ some b := fun b _ hb2 hb3 e => by
              have e2 : g = b := by simpa [Value.ownBlock] using e
              rcases hat4 with h5 | h5
              · exact hb3 (by rw [h5, e2])
              · simp at h5; omega
            have hown5 := ownsRow_setCell_below hown4 (a := ⟨w.heap.size, 3, none⟩) (by simp) (.slice (some ⟨g, 0, none⟩) (ts.length + 1) cap)
            have hV5 := (setF (x := .slice (some ⟨g, 0, none⟩) (ts.length + 1) cap) V4.out).2.2.1
            have hsz5 : (w4.setCell ⟨w.heap.size, 3, none⟩ (.slice (some ⟨g, 0, none⟩) (ts.length + 1) cap)).heap.size = w4.heap.size := by simp [World.setCell]
            have hmut5 : T.Muts (w4.setCell ⟨w.heap.size, 3, none⟩ (.slice (some ⟨g, 0, none⟩) (ts.length + 1) cap)) (ChS (w.heap.size + 1) (w4.setCell ⟨w.heap.size, 3, none⟩ (.slice (some ⟨g, 0, none⟩) (ts.length + 1) cap)) (.slice (some ⟨g, 0, none⟩) (ts.length + 1) cap)) (ts ++ [t]) (xs ++ t.cells5 a2 c2) := by
              refine T.Muts.app (T.Muts.keep (fun b hb => ?_) (fun b hb => ?_) hmut) (T.Muts.one (T.Mut.keep (fun b hb => ?_) (fun b hb => ?_) HM.out))
              · exact (hkeep b (by have := hb.1; omega) (by have := hb.2.1; omega) hb.2.2).trans (hst3.block b hb.2.1 (by have := hb.1; omega) (by have := hb.1; omega))
              · exact ⟨hb.1, by rw [hsz5]; have := hb.2.1; omega, hgs b hb.1 (by have := hb.2.1; omega) hb.2.2⟩
              · exact hkeep b (by have := hb.1; omega) hb.2 (fun e => by have := (hlt b e).2; have := hb.1; omega)
              · exact ⟨by have := hb.1; omega, by rw [hsz5]; have := hb.2; omega, hgs b (by have := hb.1; omega) hb.2 (fun e => by have := (hlt b e).2; have := hb.1; omega)⟩
            have hR5 : RS (w4.setCell ⟨w.heap.size, 3, none⟩ (.slice (some ⟨g, 0, none⟩) (ts.length + 1) cap)) rb sb s' p' d' := hR3.keep (hkeep rb (by omega) (by omega) (fun e => by have := (hlt rb e).1; omega)) (hkeep sb (by omega) (by omega) (fun e => by have := (hlt sb e).1; omega))
            have hst5 : ValStep w (w4.setCell ⟨w.heap.size, 3, none⟩ (.slice (some ⟨g, 0, none⟩) (ts.length + 1) cap)) rb sb := by
              have h6 := str.trans hst3
              exact ⟨hgrow4.os.trans h6.os, hgrow4.tape.trans h6.tape, hgrow4.output.trans h6.output, by rw [hsz5]; have := h6.size; omega, fun k hk h7 h8 => (hkeep k (by omega) (by have := h6.size; omega) (fun e => by have := (hlt k e).1; omega)).trans (h6.block k hk h7 h8)⟩
            have hlen : (ts ++ [t]).length = ts.length + 1 := by simp
            go_roundg (gk - 1)
            case measure => omega
            case rel =>
              refine ⟨ts ++ [t], some ⟨g, 0, none⟩, cap, xs ++ t.cells5 a2 c2, s', p', by rw [hlen]; go_num, by rw [hlen]; omega, by rw [hlen]; exact hV5, by rw [hlen]; exact hown5, by rw [hlen]; exact hmut5, hR5, hst5, by rw [hsz5]; omega, by have h9 : p' ≤ pi := hle.1; omega, by have h9 : s'.size ≤ si.size := hle.2; omega, ?_, ?_⟩
              · show rds (rd d') q (p - 1) (cut 2 (tl s)) = _
                have hq1 : q - ts.length = (q - (ts ++ [t]).length) + 1 := by rw [hlen]; omega
                rw [hrds.out, hq1, rds, HRR.out]
                simp only [Option.bind_some]
                cases rds (rd d') (q - (ts ++ [t]).length) p' s' <;> simp
              · intro x hx
                rcases List.mem_append.1 hx with hx | hx
                · exact hwfs.out x hx
                · rw [List.mem_singleton.1 hx]; exact htw
        · have hq : q = ts.length := by omega
          obtain ⟨c0, c2, c3, f2, f3⟩ := rcells hRr.1
          obtain ⟨x0, x1, x2, x3, x4, y0, y1, y2, y3, y4⟩ := blk5 VR.out
          have e := HE.out
          have hz : q - ts.length = 0 := by omega
          rw [hrds.out, hz, rds] at e
          simp only [Option.map_some, List.append_nil] at e
          have HE2 := Lib.hid e
          clear e hz hq
          clear hx
          go_wp2_with (refine wpList_put _ rfl _ _ rfl w.heap.size _ _ _ _ _ _ _ _ _ _ (by rfl) (by rfl) (by simp [Value.oneCell']) ((Below.heap_setCell wr ⟨rb, 3, none⟩ _ w.heap.size (by show w.heap.size ≠ rb; omega)).trans VR.out) ?_; rintro wP hP)
          have hkP : ∀ b, b ≠ w.heap.size → b ≠ rb → wP.heap[b]? = wr.heap[b]? := fun b h1 h2 => (hP.other b h1).trans (Below.heap_setCell _ _ _ _ h2)
          have hPz : wP.heap.size = wr.heap.size := by rw [hP.size]; simp [World.setCell]
          refine post_cell26c Try.results71 rfl rfl rfl hP.at_ ⟨.inl ⟨.mk 3 0 ⟨#[]⟩ ts 0, si, pi, a, c, HE2.out.symm, rfl, ?_, (hRr.nest (d' := d' + 1) (by first | rfl | omega)).keep (hP.other rb (by omega)) (hP.other sb (by omega)), ?_⟩, (str.trans ValStep.nest).put hP (Nat.le_refl _)⟩
          · refine Mut_list (ownsRow_keep hown (fun g hg => hkP g (by have := (hlt g hg).1; omega) (by have := (hlt g hg).1; omega))) (T.Muts.keep (fun b hb => hkP b (by have := hb.1; omega) (by have := hb.1; omega)) (fun _ h => h) hmut) (fun b hb => ⟨by have := hb.1; omega, by rw [hPz]; exact hb.2.1⟩) (fun g hg => ⟨by have := (hlt g hg).1; omega, by rw [hPz]; exact (hlt g hg).2⟩)
          · rw [T.wf, T.wfs_iff]
            refine ⟨⟨by omega, by omega, by omega, by omega, by omega, by omega, by show 0 ≤ _; omega, by omega⟩, hwfs.out⟩
    · exact absurd hsh (by omega)
end Go.Proofs.Ytapfmfihhpafcaa
