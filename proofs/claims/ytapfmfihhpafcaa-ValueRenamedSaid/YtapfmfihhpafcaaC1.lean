/-
  The reader's value: texts.
-/
import Derived.Test.YtapfmfihhpafcaaB9
namespace Go.Proofs.Ytapfmfihhpafcaa
open Go.RowKit
set_option linter.unusedVariables false

set_option maxRecDepth 100000 in
set_option maxHeartbeats 4000000 in
theorem value_k2 (d p rb sb : Nat) (s : ByteArray) (w : World) (sub : Nat → Nat → ByteArray → Option (List T × ByteArray × Nat))
    (h : RS w rb sb s p d) (hs : s.size ≤ 140737488351232) (hp : p ≤ 1000000) (hd1 : d ≤ 1000) (h0 : 1 ≤ s.size) (h1 : 1 ≤ p) (k2 : hd s = 2) :
    Calls Try.prog 71 #[.pointer (some ⟨rb, 0, none⟩)] w (ReadPost w rb sb d (rdNode d p s sub)) := by
  obtain ⟨c0, c2, c3, f2, f3, hrb, hsb⟩ := h.cells
  have hne := h.2.2
  have m1 := take1_walk 1 sb s (w.alloc (.cells #[.int .u8 0, .int .i64 0, .string ⟨#[]⟩, .slice none 0 0, .int .i64 0] 26 (0, 0))) ((Below.heap_alloc _ _ _ hsb).trans h.2.1) hs (by omega)
  rw [if_pos h0, if_pos h0] at m1
  have hp0 : ((p : Int) == 0) = false := by simp; omega
  obtain ⟨r, hr⟩ : ∃ r, rdNode d p s sub = r := ⟨_, rfl⟩
  rw [hr]
  rw [rdNode, if_neg (by omega)] at hr
  have HR := Lib.hid hr
  clear hr
  go_enter Try.func71, Try.ntmps71
  go_upto_region 5 with (go_at_call 92; refine m1.mono ?_; rintro e w1 ⟨rfl, rfl⟩)
  have hz1 : (s.extract 0 1).size = 1 := by simp; omega
  go_cut [2] (fun v2 wx => v2 = .pointer (some ⟨w.heap.size, 0, none⟩) ∧ wx.heap[w.heap.size]? = some (.cells #[.int .u8 (hd s), .int .i64 0, .string ⟨#[]⟩, .slice none 0 0, .int .i64 0] 26 (0, 0)) ∧ RS wx rb sb (tl s) (p - 1) d ∧ ValStep w wx rb sb)
  case first =>
    go_wp2_with fail
    go_meet
    case rel =>
      exact ⟨rfl, by rw [← hd_eq s (by omega)]; exact (h.started h1).2.2, (h.started h1).1, (h.started h1).2.1⟩
  case rest =>
    obtain ⟨rfl, V, R, st⟩ := hcut
    obtain ⟨x0, x1, x2, x3, x4, y0, y1, y2, y3, y4⟩ := blk5 V
    clear c0 c2 c3 f2 f3 h m1 hp0 hz1
    obtain ⟨c0, c2, c3, f2, f3, hrb', hsb'⟩ := R.cells
    have hvz : w.heap.size < wc.heap.size := (Array.getElem?_eq_some_iff.1 V).1
    have V0 := Lib.hid V
    clear V
    have htz : (tl s).size ≤ 140737488351232 := by unfold tl; simp; omega
    have e := HR.out
    rw [if_neg (by omega), if_neg (by omega), if_neg (by omega), if_pos k2] at e
    have K0 := Lib.hid e
    rw [k2] at x0 V0
    clear k2 e HR
    have C0 := Lib.hid c0
    have m2 := number_walk 2 sb rb (tl s) wc R.2.1 c0 htz (by omega)
    have hb := numOf_lt ((tl s).extract 0 2) 2 (by simp; omega)
    unfold NumPost at m2
    obtain ⟨q, hq⟩ := numOf_nat ((tl s).extract 0 2)
    rw [hq] at m2 hb
    have hb2 : q < 65536 := by have h3 : (256 ^ 2 : Nat) = 65536 := (by decide); have := hb.2; omega
    have HQ := Lib.hid hq
    clear hq hb
    have hcz : (cut 2 (tl s)).size ≤ 140737488351232 := by unfold cut; simp; omega
    by_cases hbig : 256 < q
    · have hbig' : (256 : Int) < (q : Int) := by omega
      go_wp2_with (first
        | (go_at_call 94; refine m2.mono ?_; clear m2; rintro e w2 ⟨(⟨hle, rfl, hL⟩ | ⟨hle, n, rfl⟩), hst⟩; all_goals (have V2 := (hst.block w.heap.size hvz (by omega)).trans V0.out; have hrb2 := hst.block rb (by omega) hne; clear x0 x1 x2 x3 x4 y0 y1 y2 y3 y4 c0 c2 c3 f2 f3; obtain ⟨x0, x1, x2, x3, x4, y0, y1, y2, y3, y4⟩ := blk5 V2; have V2 := Lib.hid V2; have c0 : w2.cell? ⟨rb, 0, none⟩ = some (.func (.func 92) #[] #[.pointer (some ⟨sb, 0, none⟩)]) := (cell_of_heap hrb2 0).trans C0.out))
        | (refine wpList_put _ rfl _ _ rfl w.heap.size _ _ _ _ _ _ _ _ _ _ (by rfl) (by rfl) (by simp [Value.oneCell']) V2.out ?_; rintro wP hP))
      · have e := K0.out
        rw [if_neg (by omega), HQ.out, if_pos (by omega)] at e
        rw [← e]
        exact post_cell26c Try.results71 rfl rfl rfl hP.at_ (.no (.mk 2 0 ⟨#[]⟩ [] 0) none 0 rfl ((st.trans (.of_read hst)).put hP (Nat.le_refl _)))
      · have e := K0.out
        rw [if_pos (by omega)] at e
        rw [← e]
        exact post_cell26c Try.results71 rfl rfl rfl hP.at_ (.no (.mk 2 0 ⟨#[]⟩ [] 0) none 0 rfl ((st.trans (.of_read hst)).put hP (Nat.le_refl _)))
    have hbig' : ¬ (256 : Int) < (q : Int) := by omega
    have hb3 : decide ((256 : Int) < (q : Int)) = false := by simp; omega
    have hb4 : decide (256 < q) = false := by simp; omega
    have hb5 : ¬ 256 < q := by omega
    by_cases hsz : q ≤ (cut 2 (tl s)).size
    · have m3 := fun (w2 : World) (hL : Left w2 sb (cut 2 (tl s))) => take1_walk q sb (cut 2 (tl s)) w2 hL hcz (by omega)
      simp only [if_pos hsz] at m3
      go_wp2_with (first
        | (go_at_call 94; refine m2.mono ?_; clear m2; rintro e w2 ⟨(⟨hle, rfl, hL⟩ | ⟨hle, n, rfl⟩), hst⟩; all_goals (have V2 := (hst.block w.heap.size hvz (by omega)).trans V0.out; have hrb2 := hst.block rb (by omega) hne; clear x0 x1 x2 x3 x4 y0 y1 y2 y3 y4 c0 c2 c3 f2 f3; obtain ⟨x0, x1, x2, x3, x4, y0, y1, y2, y3, y4⟩ := blk5 V2; have V2 := Lib.hid V2; have c0 : w2.cell? ⟨rb, 0, none⟩ = some (.func (.func 92) #[] #[.pointer (some ⟨sb, 0, none⟩)]) := (cell_of_heap hrb2 0).trans C0.out))
        | (go_at_call 92; refine (m3 _ hL).mono ?_; clear m3; rintro e w3 ⟨rfl, rfl⟩; have V3 := Lib.hid ((Below.heap_setCell w2 ⟨sb, 0, none⟩ (.string ((cut 2 (tl s)).extract q (cut 2 (tl s)).size)) w.heap.size (by show w.heap.size ≠ sb; omega)).trans V2.out))
        | (refine wpList_put _ rfl _ _ rfl w.heap.size _ _ _ _ _ _ _ _ _ _ (by rfl) (by rfl) (by simp [Value.oneCell']) (setF V3.out).2.1 ?_; rintro wP hP)
        | (refine wpList_put _ rfl _ _ rfl w.heap.size _ _ _ _ _ _ _ _ _ _ (by rfl) (by rfl) (by simp [Value.oneCell']) V2.out ?_; rintro wP hP))
      · have e := K0.out
        rw [if_neg (by omega), HQ.out, if_neg (by omega), Int.toNat_natCast, if_neg (by omega)] at e
        have hR2 := R.read hst hL
        have hR3 : RS (w2.setCell ⟨sb, 0, none⟩ (.string ((cut 2 (tl s)).extract q (cut 2 (tl s)).size))) rb sb (cut q (cut 2 (tl s))) (p - 1) d := hR2.read (ReadStep.set _ _ _) (put1 hL)
        refine post_cell26c Try.results71 rfl rfl rfl hP.at_ ⟨.inl ⟨.mk 2 0 ((cut 2 (tl s)).extract 0 q) [] 0, cut q (cut 2 (tl s)), p - 1, none, 0, e.symm, rfl, T.Mut.flat _ _ _ _ _ _, hR3.keep ((hP.other _ (by omega)).trans (Below.heap_setCell _ _ _ _ (by show rb ≠ w.heap.size; omega))) ((hP.other _ (by omega)).trans (Below.heap_setCell _ _ _ _ (by show sb ≠ w.heap.size; omega))), T.wf_flat _ _ _ _ (by omega) (by simp; omega)⟩, (((st.trans (.of_read hst)).trans (.of_read (ReadStep.set _ _ _))).set (Nat.le_refl _)).put hP (Nat.le_refl _)⟩
      · have e := K0.out
        rw [if_pos (by omega)] at e
        rw [← e]
        exact post_cell26c Try.results71 rfl rfl rfl hP.at_ (.no (.mk 2 0 ⟨#[]⟩ [] 0) none 0 rfl ((st.trans (.of_read hst)).put hP (Nat.le_refl _)))
    · have m3 := fun (w2 : World) (hL : Left w2 sb (cut 2 (tl s))) => take1_walk q sb (cut 2 (tl s)) w2 hL hcz (by omega)
      simp only [if_neg hsz] at m3
      go_wp2_with (first
        | (go_at_call 94; refine m2.mono ?_; clear m2; rintro e w2 ⟨(⟨hle, rfl, hL⟩ | ⟨hle, n, rfl⟩), hst⟩; all_goals (have V2 := (hst.block w.heap.size hvz (by omega)).trans V0.out; have hrb2 := hst.block rb (by omega) hne; clear x0 x1 x2 x3 x4 y0 y1 y2 y3 y4 c0 c2 c3 f2 f3; obtain ⟨x0, x1, x2, x3, x4, y0, y1, y2, y3, y4⟩ := blk5 V2; have V2 := Lib.hid V2; have c0 : w2.cell? ⟨rb, 0, none⟩ = some (.func (.func 92) #[] #[.pointer (some ⟨sb, 0, none⟩)]) := (cell_of_heap hrb2 0).trans C0.out))
        | (go_at_call 92; refine (m3 _ hL).mono ?_; clear m3; rintro e w3 ⟨rfl, rfl⟩; have tok : True := trivial)
        | (refine wpList_put _ rfl _ _ rfl w.heap.size _ _ _ _ _ _ _ _ _ _ (by rfl) (by rfl) (by simp [Value.oneCell']) (setF V2.out).2.1 ?_; rintro wP hP)
        | (refine wpList_put _ rfl _ _ rfl w.heap.size _ _ _ _ _ _ _ _ _ _ (by rfl) (by rfl) (by simp [Value.oneCell']) V2.out ?_; rintro wP hP))
      · have e := K0.out
        rw [if_neg (by omega), HQ.out, if_neg (by omega), Int.toNat_natCast, if_pos (by omega)] at e
        rw [← e]
        exact post_cell26c Try.results71 rfl rfl rfl hP.at_ (.no (.mk 2 0 ⟨#[]⟩ [] 0) none 0 rfl (((st.trans (.of_read hst)).set (Nat.le_refl _)).put hP (Nat.le_refl _)))
      · have e := K0.out
        rw [if_pos (by omega)] at e
        rw [← e]
        exact post_cell26c Try.results71 rfl rfl rfl hP.at_ (.no (.mk 2 0 ⟨#[]⟩ [] 0) none 0 rfl ((st.trans (.of_read hst)).put hP (Nat.le_refl _)))

end Go.Proofs.Ytapfmfihhpafcaa
