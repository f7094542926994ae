/-
  value.Front, value.Read.
-/
import Derived.Test.YtapfmfihhpafcaaC2
import Derived.Test.YtapfmfihhpafcaaA7
namespace Go.Proofs.Ytapfmfihhpafcaa
open Go.RowKit
set_option linter.unusedVariables false

theorem value_core (d p rb sb : Nat) (s : ByteArray) (w : World) (sub : Nat → Nat → ByteArray → Option (List T × ByteArray × Nat)) (hsub : d = 0 ∨ ∃ d', d = d' + 1 ∧ sub = rds (rd d') ∧ ValCalls d' rb sb)
    (h : RS w rb sb s p d) (hs : s.size ≤ 140737488351232) (hp : p ≤ 1000000) (hd1 : d ≤ 1000) :
    Calls Try.prog 71 #[.pointer (some ⟨rb, 0, none⟩)] w (ReadPost w rb sb d (rdNode d p s sub)) := by
  by_cases he : 1 ≤ s.size ∧ 1 ≤ p
  case neg => exact value_early d p rb sb s w sub h hs hp hd1 he
  obtain ⟨h0, h1⟩ := he
  by_cases k0 : hd s = 0
  · exact value_k0 d p rb sb s w sub h hs hp hd1 h0 h1 k0
  by_cases k1 : hd s = 1
  · exact value_k1 d p rb sb s w sub h hs hp hd1 h0 h1 k1
  by_cases k4 : hd s = 4
  · exact value_k4 d p rb sb s w sub h hs hp hd1 h0 h1 k4
  by_cases k2 : hd s = 2
  · exact value_k2 d p rb sb s w sub h hs hp hd1 h0 h1 k2
  by_cases k3 : hd s = 3
  · exact value_k3 d p rb sb s w sub hsub h hs hp hd1 h0 h1 k3
  exact value_other d p rb sb s w sub h hs hp hd1 h0 h1 k0 k1 k4 k2 k3

theorem value_walk (rb sb : Nat) : ∀ d, d ≤ 1000 → ValCalls d rb sb
  | 0, hd => fun p s w h hs hp => by rw [rd]; exact value_core 0 p rb sb s w _ (.inl rfl) h hs hp hd
  | d + 1, hd => fun p s w h hs hp => by rw [rd]; exact value_core (d + 1) p rb sb s w _ (.inr ⟨d, rfl, rfl, value_walk rb sb d (by omega)⟩) h hs hp hd

def OverPost (w : World) (s : ByteArray) (e : Ending) (w' : World) : Prop :=
  e = .returned (.pointer (some ⟨w.heap.size + 1, 0, none⟩)) ∧ RS w' (w.heap.size + 1) w.heap.size s 512 16 ∧ Below w.heap.size w w'

set_option maxRecDepth 100000 in
theorem over_walk (s : ByteArray) (w : World) : Calls Try.prog 70 #[.string s] w (OverPost w s) := by
  go_enter Try.func70, Try.ntmps70
  go_wp2_with fail
  go_ret
  exact ⟨rfl, ⟨by exact two_blk1 _ _ _, by exact two_blk0 _ _ _, by omega⟩, two_boxes _ _ _⟩

/-- What Front hands back. -/
def FrontPost (w : World) (s : ByteArray) (e : Ending) (w' : World) : Prop :=
  ((∃ t r p a c, rd 16 512 s = some (t, r, p) ∧ e = .returned (.tuple #[t.val a c, .string r, .int .i64 0]) ∧ T.Mut w' (New w.heap.size w') t a c ∧ t.wf ∧ r.size ≤ s.size) ∨
    (rd 16 512 s = none ∧ e = .returned (.tuple #[T.zero.val none 0, .string ⟨#[]⟩, .int .i64 20]))) ∧ Below w.heap.size w w'

theorem post_cell26d {fn : Func} {R : Ending → World → Prop} {a : Act} {w : World} {b : Nat} {v0 v1 v2 v3 v4 u u' : Value} (hr : fn.results = #[.cell 2 26, .tmp 3, .tmp 4]) (hp : a.tmps[2]?.getD undef = .pointer (some ⟨b, 0, none⟩)) (hu : a.tmps[3]?.getD undef = u) (hu' : a.tmps[4]?.getD undef = u') (hd : a.defers = [])
    (C : w.heap[b]? = some (.cells #[v0, v1, v2, v3, v4] 26 (0, 0))) (h : R (.returned (.tuple #[.agg #[v0, v1, v2, v3, v4], u, u'])) w) : bodyPost Try.prog fn R .ret a w := by
  obtain ⟨c0, c1, c2, c3, c4⟩ := blk5cc C
  refine bodyPost_ret (v := .tuple #[.agg #[v0, v1, v2, v3, v4], u, u']) ?_ hd h
  simp only [results, hr]
  simp [hp, hu, hu', go_sem, c0, c1, c2, c3, c4]

theorem keep6 {w : World} {b r : Nat} {v0 v1 v2 v3 v4 f : Value} (D : w.heap[b]? = some (.cells #[v0, v1, v2, v3, v4] 26 (0, 0))) (hc : w.cell? ⟨r, 1, none⟩ = some f) (hne : r ≠ b) :
    (((((w.setCell ⟨b, 0, none⟩ v0).setCell ⟨b, 1, none⟩ v1).setCell ⟨b, 2, none⟩ v2).setCell ⟨b, 3, none⟩ v3).setCell ⟨b, 4, none⟩ v4).cell? ⟨b, 0, none⟩ = some v0 ∧
    (((((w.setCell ⟨b, 0, none⟩ v0).setCell ⟨b, 1, none⟩ v1).setCell ⟨b, 2, none⟩ v2).setCell ⟨b, 3, none⟩ v3).setCell ⟨b, 4, none⟩ v4).cell? ⟨b, 1, none⟩ = some v1 ∧
    (((((w.setCell ⟨b, 0, none⟩ v0).setCell ⟨b, 1, none⟩ v1).setCell ⟨b, 2, none⟩ v2).setCell ⟨b, 3, none⟩ v3).setCell ⟨b, 4, none⟩ v4).cell? ⟨b, 2, none⟩ = some v2 ∧
    (((((w.setCell ⟨b, 0, none⟩ v0).setCell ⟨b, 1, none⟩ v1).setCell ⟨b, 2, none⟩ v2).setCell ⟨b, 3, none⟩ v3).setCell ⟨b, 4, none⟩ v4).cell? ⟨b, 3, none⟩ = some v3 ∧
    (((((w.setCell ⟨b, 0, none⟩ v0).setCell ⟨b, 1, none⟩ v1).setCell ⟨b, 2, none⟩ v2).setCell ⟨b, 3, none⟩ v3).setCell ⟨b, 4, none⟩ v4).cell? ⟨b, 4, none⟩ = some v4 ∧
    (((((w.setCell ⟨b, 0, none⟩ v0).setCell ⟨b, 1, none⟩ v1).setCell ⟨b, 2, none⟩ v2).setCell ⟨b, 3, none⟩ v3).setCell ⟨b, 4, none⟩ v4).cell? ⟨r, 1, none⟩ = some f := by
  obtain ⟨h1, h2, _⟩ := fill5 (v0 := v0) (v1 := v1) (v2 := v2) (v3 := v3) (v4 := v4) D
  obtain ⟨c0, c1, c2, c3, c4⟩ := blk5cc h1
  exact ⟨c0, c1, c2, c3, c4, (cell_of_heap (h2 r hne) 1).trans hc⟩

theorem keep6d {w : World} {b r : Nat} {v0 v1 v2 v3 v4 f : Value} (D : w.heap[b]? = some (.cells #[v0, v1, v2, v3, v4] 26 (0, 0))) (hc : w.cell? ⟨r, 1, none⟩ = some f) (hne : r ≠ b) :
    (((((w.setCell ⟨b, 0, none⟩ v0).setCell ⟨b, 1, none⟩ v1).setCell ⟨b, 2, none⟩ v2).setCell ⟨b, 3, none⟩ v3).setCell ⟨b, 4, none⟩ v4).drew.cell? ⟨b, 0, none⟩ = some v0 ∧
    (((((w.setCell ⟨b, 0, none⟩ v0).setCell ⟨b, 1, none⟩ v1).setCell ⟨b, 2, none⟩ v2).setCell ⟨b, 3, none⟩ v3).setCell ⟨b, 4, none⟩ v4).drew.cell? ⟨b, 1, none⟩ = some v1 ∧
    (((((w.setCell ⟨b, 0, none⟩ v0).setCell ⟨b, 1, none⟩ v1).setCell ⟨b, 2, none⟩ v2).setCell ⟨b, 3, none⟩ v3).setCell ⟨b, 4, none⟩ v4).drew.cell? ⟨b, 2, none⟩ = some v2 ∧
    (((((w.setCell ⟨b, 0, none⟩ v0).setCell ⟨b, 1, none⟩ v1).setCell ⟨b, 2, none⟩ v2).setCell ⟨b, 3, none⟩ v3).setCell ⟨b, 4, none⟩ v4).drew.cell? ⟨b, 3, none⟩ = some v3 ∧
    (((((w.setCell ⟨b, 0, none⟩ v0).setCell ⟨b, 1, none⟩ v1).setCell ⟨b, 2, none⟩ v2).setCell ⟨b, 3, none⟩ v3).setCell ⟨b, 4, none⟩ v4).drew.cell? ⟨b, 4, none⟩ = some v4 ∧
    (((((w.setCell ⟨b, 0, none⟩ v0).setCell ⟨b, 1, none⟩ v1).setCell ⟨b, 2, none⟩ v2).setCell ⟨b, 3, none⟩ v3).setCell ⟨b, 4, none⟩ v4).drew.cell? ⟨r, 1, none⟩ = some f := by
  simp only [World.cell?_drew]
  exact keep6 D hc hne

theorem Put.drew {w X : World} {g : Nat} {cur : Array Value} (h : Put w g cur X) : Put w g cur X.drew := ⟨h.os, h.tape, h.output, h.size, h.at_, h.other⟩

theorem put5 {w : World} {b : Nat} {u0 u1 u2 u3 u4 v0 v1 v2 v3 v4 : Value} (D : w.heap[b]? = some (.cells #[u0, u1, u2, u3, u4] 26 (0, 0))) :
    Put w b #[v0, v1, v2, v3, v4] (((((w.setCell ⟨b, 0, none⟩ v0).setCell ⟨b, 1, none⟩ v1).setCell ⟨b, 2, none⟩ v2).setCell ⟨b, 3, none⟩ v3).setCell ⟨b, 4, none⟩ v4) := by
  obtain ⟨h1, h2, h3⟩ := fill5 (v0 := v0) (v1 := v1) (v2 := v2) (v3 := v3) (v4 := v4) D
  have hB := ((((((Below.refl b w).setCell (p := ⟨b, 0, none⟩) (Nat.le_refl _) v0).setCell (p := ⟨b, 1, none⟩) (Nat.le_refl _) v1).setCell (p := ⟨b, 2, none⟩) (Nat.le_refl _) v2).setCell (p := ⟨b, 3, none⟩) (Nat.le_refl _) v3).setCell (p := ⟨b, 4, none⟩) (Nat.le_refl _) v4)
  exact ⟨hB.os, hB.tape, hB.output, h3, h1, h2⟩

theorem put6 {w : World} {b : Nat} {u0 u1 u2 u3 u4 v0 v1 v2 v3 v4 : Value} (D : w.heap[b]? = some (.cells #[u0, u1, u2, u3, u4] 26 (0, 0))) :
    Put w b #[v0, v1, v2, v3, v4] (((((w.setCell ⟨b, 0, none⟩ v0).setCell ⟨b, 1, none⟩ v1).setCell ⟨b, 2, none⟩ v2).setCell ⟨b, 3, none⟩ v3).setCell ⟨b, 4, none⟩ v4).drew := (put5 D).drew

set_option maxRecDepth 100000 in
set_option maxHeartbeats 1000000 in
theorem front_walk (s : ByteArray) (w : World) (hs : s.size ≤ 140737488351232) : Calls Try.prog 27 #[.string s] w (FrontPost w s) := by
  obtain ⟨w1, hw1⟩ : ∃ w1, w1 = w.alloc (.cells #[.int .u8 0, .int .i64 0, .string ⟨#[]⟩, .slice none 0 0, .int .i64 0] 26 (0, 0)) := ⟨_, rfl⟩
  have hb1 : Below w.heap.size w w1 := by rw [hw1]; exact (Below.refl _ _).alloc (Nat.le_refl _) _
  have D0 : w1.heap[w.heap.size]? = some (.cells #[.int .u8 0, .int .i64 0, .string ⟨#[]⟩, .slice none 0 0, .int .i64 0] 26 (0, 0)) := by rw [hw1]; exact blk_new _ _
  have hz1 : w1.heap.size = w.heap.size + 1 := by rw [hw1]; simp
  have m1 := over_walk s w1
  unfold OverPost at m1
  simp only [hz1] at m1
  have m2 := fun (w2 : World) (h : RS w2 (w.heap.size + 1 + 1) (w.heap.size + 1) s 512 16) => value_walk (w.heap.size + 1 + 1) (w.heap.size + 1) 16 (by omega) 512 s w2 h hs (by omega)
  have M2 := Lib.hid m2
  have HZ1 := Lib.hid hz1
  clear m2 hz1
  go_enter Try.func27, Try.ntmps27
  go_upto_region 1 with (fail)
  rw [← hw1]
  clear hw1
  go_upto_region 2 with (go_at_call 70; refine m1.mono ?_; clear m1; rintro e w2 ⟨rfl, hR, hb2⟩)
  have hm := M2.out w2 hR
  have hz0 : w.heap.size + 1 ≤ w2.heap.size := by have h9 := hb2.size; rw [HZ1.out] at h9; exact h9
  have hbw : Below w.heap.size w1 w2 := hb2.mono (by omega)
  have D2 := Lib.hid ((hb2.block w.heap.size (by omega)).trans D0)
  clear M2 D0
  obtain ⟨rr, hrr⟩ : ∃ rr, rd 16 512 s = rr := ⟨_, rfl⟩
  rw [hrr] at hm
  have HRR := Lib.hid hrr
  clear hrr
  cases rr with
  | none =>
    have hm2 := hm.mono (R' := fun e w' => (∃ t a c, e = .returned (.tuple #[T.val t a c, .bool false])) ∧ ValStep w2 w' (w.heap.size + 1 + 1) (w.heap.size + 1)) (fun e w' h => h.of_none)
    clear hm
    go_wp2_with (first
      | (go_at_call 71; refine hm2.mono ?_; clear hm2; rintro e w3 ⟨⟨t, a2, c2, he⟩, hst3⟩; unfold T.val at he; subst he; have D3 := Lib.hid ((hst3.block w.heap.size (by omega) (by omega) (by omega)).trans D2.out))
      | (refine wpList_put _ rfl _ _ rfl w.heap.size _ _ _ _ _ _ _ _ _ _ (by rfl) (by rfl) (by simp [Value.oneCell']) D4.out ?_; rintro wQ hQ)
      | (refine wpList_put _ rfl _ _ rfl w.heap.size _ _ _ _ _ _ _ _ _ _ (by rfl) (by rfl) (by simp [Value.oneCell']) D3.out ?_; rintro wP hP; have D4 := Lib.hid hP.at_))
    exact post_cell26d Try.results27 rfl rfl rfl rfl hQ.at_ ⟨.inr ⟨HRR.out, rfl⟩, hb1.trans (hbw.trans (Below.trans ⟨hst3.os, hst3.tape, hst3.output, hst3.size, fun k hk => hst3.block k (by omega) (by omega) (by omega)⟩ ((hP.below (Nat.le_refl _)).trans (hQ.below (Nat.le_refl _)))))⟩
  | some v =>
    obtain ⟨t, s', p'⟩ := v
    have hle := rd_le 16 512 s (t, s', p') HRR.out
    have hm2 := hm.mono (R' := fun e w' => (∃ a c, e = .returned (.tuple #[t.val a c, .bool true]) ∧ T.Mut w' (New w2.heap.size w') t a c ∧ RS w' (w.heap.size + 1 + 1) (w.heap.size + 1) s' p' 16 ∧ t.wf) ∧ ValStep w2 w' (w.heap.size + 1 + 1) (w.heap.size + 1)) (fun e w' h => h.of_some)
    clear hm
    go_wp2_with (first
      | (go_at_call 71; refine hm2.mono ?_; clear hm2; rintro e w3 ⟨⟨a2, c2, he, hmt, hR3, htw⟩, hst3⟩; unfold T.val at he; subst he; have D3 := Lib.hid ((hst3.block w.heap.size (by omega) (by omega) (by omega)).trans D2.out))
      | (refine wpList_put _ rfl _ _ rfl w.heap.size _ _ _ _ _ _ _ _ _ _ (by rfl) (by rfl) (by simp [Value.oneCell']) D3.out ?_; rintro wP hP; have D4 := Lib.hid hP.at_))
    have hR4 : RS wP (w.heap.size + 1 + 1) (w.heap.size + 1) s' p' 16 := hR3.keep (hP.other _ (by omega)) (hP.other _ (by omega))
    obtain ⟨x0, x1, x2, x3, x4, y0, y1, y2, y3, y4⟩ := blk5 D4.out
    have c1 : wP.cell? ⟨w.heap.size + 1 + 1, 1, none⟩ = some (.func (.func 93) #[] #[.pointer (some ⟨w.heap.size + 1, 0, none⟩)]) := by simp [World.cell?, hR4.1]
    have m3 := rest1_walk (w.heap.size + 1) s' wP.drew hR4.2.1
    have HP := Lib.hid hP
    have HR4 := Lib.hid hR4
    have HM := Lib.hid hmt
    clear hP hR4 hmt
    go_region_held3 (fun w' => w'.cell? ⟨w.heap.size, 0, none⟩ = some (.int .u8 t.k) ∧ w'.cell? ⟨w.heap.size, 1, none⟩ = some (.int .i64 t.n) ∧ w'.cell? ⟨w.heap.size, 2, none⟩ = some (.string t.s) ∧
        w'.cell? ⟨w.heap.size, 3, none⟩ = some (.slice a2 t.l.length c2) ∧ w'.cell? ⟨w.heap.size, 4, none⟩ = some (.int .i64 t.r) ∧ w'.cell? ⟨w.heap.size + 1 + 1, 1, none⟩ = some (.func (.func 93) #[] #[.pointer (some ⟨w.heap.size + 1, 0, none⟩)]))
      (first | with_reducible exact keep6d (w := wP) D4.out c1 (by omega) | with_reducible exact keep6 (w := wP) D4.out c1 (by omega) | go_keep)
      (first
        | (go_simp; go_at_call 93; refine m3.mono ?_; rintro e w5 ⟨rfl, rfl⟩))
    go_ways
    all_goals go_wp2_with fail
    have hP := HP.out
    have hmt := HM.out
    have hz3 := hst3.size
    refine post_cell26d Try.results27 rfl rfl rfl rfl (put6 D4.out).at_ ⟨.inl ⟨t, s', p', a2, c2, HRR.out, rfl, ?_, htw, hle.2⟩, ?_⟩
    · refine T.Mut.keep (fun b hb => ?_) (fun b hb => ?_) hmt
      · have hne : b ≠ w.heap.size := by have := hb.1; omega
        exact ((put6 D4.out).other b hne).trans (hP.other b hne)
      · refine ⟨by have := hb.1; omega, ?_⟩
        have h9 := (put6 (v0 := .int .u8 t.k) (v1 := .int .i64 t.n) (v2 := .string t.s) (v3 := .slice a2 t.l.length c2) (v4 := .int .i64 t.r) D4.out).size
        rw [h9, hP.size]; exact hb.2
    · exact hb1.trans (hbw.trans (Below.trans ⟨hst3.os, hst3.tape, hst3.output, hst3.size, fun k hk => hst3.block k (by omega) (by omega) (by omega)⟩ ((hP.below (Nat.le_refl _)).trans ((put6 D4.out).below (Nat.le_refl _)))))
end Go.Proofs.Ytapfmfihhpafcaa
