/-
  value.Bytes.
-/
import Derived.Test.YtapfmfihhpafcaaB4
import Derived.Test.YtapfmfihhpafcaaB6
import Derived.Laws.BytesString
namespace Go.Proofs.Ytapfmfihhpafcaa
open Go.RowKit
set_option linter.unusedVariables false

/-- The text of some bytes. -/
def strOf (xs : List Int) : ByteArray := ⟨(xs.map fun x => UInt8.ofNat x.toNat).toArray⟩

theorem strOf_fold : ∀ (xs : List Int) (s : ByteArray), xs.foldl (fun r n => r.push (UInt8.ofNat n.toNat)) s = ⟨(s.data.toList ++ xs.map fun x => UInt8.ofNat x.toNat).toArray⟩
  | [], s => by cases s; simp
  | x :: xs, s => by
    rw [List.foldl_cons, strOf_fold xs]
    cases s with
    | mk d => simp [ByteArray.push]

theorem conv_row {w : World} {base g n c : Nat} {xs : List Int} (h : Row w base (.slice (some ⟨g, 0, none⟩) n c) xs) : (convert 97 9 (.slice (some ⟨g, 0, none⟩) n c)).run Try.prog w = .ok (.string (strOf xs)) w := by
  have hn : xs.length = n ∧ ∀ j u, (xs.map (Value.int .u8))[j]? = some u → w.cell? ((⟨g, 0, none⟩ : Addr).add j) = some u := by
    refine ⟨?_, h.cells rfl⟩
    rcases h.2 with ⟨h0, _⟩ | ⟨g', cap', cur, hv, _⟩
    · cases h0
    · injection hv with _ h1 _; exact h1.symm
  rw [run_convert_bytes_string w 97 9 5 _ _ _ Try.underlying97 Try.underlying5 Try.underlying9]
  have h1 := run_loadCells_list (P := Try.prog) w ⟨g, 0, none⟩ (xs.map (Value.int .u8)) hn.2
  rw [List.length_map, hn.1] at h1
  rw [run_bytesToString w ⟨g, 0, none⟩ n c xs h1, strOf_fold]
  simp [strOf]

theorem T.bytes_of_look (t : T) : ∀ (room deep : Int), 1 ≤ T.look room deep t → t.bytes.length ≤ 300 * t.count := by
  induction t using T.induct with
  | h k n s l r ih =>
    intro room deep h
    have key : ∀ (l : List T), (∀ x ∈ l, ∀ (room deep : Int), 1 ≤ T.look room deep x → x.bytes.length ≤ 300 * x.count) → ∀ m, 1 ≤ m → 1 ≤ T.looks room deep m l → (T.bytess l).length ≤ 300 * T.counts l := by
      intro l
      induction l with
      | nil => intro _ m _ _; simp [T.bytess]
      | cons t ts ih2 =>
        intro hx m h1 h2
        rw [T.looks] at h2
        by_cases hq : T.look (room - m) (deep - 1) t < 0
        · rw [if_pos hq] at h2; omega
        rw [if_neg hq] at h2
        have h3 : 1 ≤ T.look (room - m) (deep - 1) t := by
          rcases T.look_pos t (room - m) (deep - 1) with h | h
          · exact absurd h hq
          · exact h
        have h4 := hx t (by simp) (room - m) (deep - 1) h3
        have h5 := ih2 (fun x hx' => hx x (by simp [hx'])) (m + T.look (room - m) (deep - 1) t) (by omega) h2
        rw [T.bytess, T.counts, List.length_append]
        omega
    rw [T.look] at h
    by_cases h1 : room < 1
    · rw [if_pos h1] at h; omega
    rw [if_neg h1] at h
    by_cases h2 : fieldsOk k n s l r
    case neg => rw [if_pos h2] at h; omega
    rw [if_neg (not_not_intro h2)] at h
    have hs : s.size ≤ 256 := h2.2.2.2.2.2.2
    rw [T.bytes, T.count, List.length_cons]
    by_cases k1 : k = 1
    · rw [if_pos k1, big_length]; omega
    rw [if_neg k1]
    by_cases k2 : k = 2
    · rw [if_pos k2, List.length_append, big_length, sbytes_length]; omega
    rw [if_neg k2]
    by_cases k3 : k = 3
    · rw [if_pos k3, List.length_append, big_length]
      rw [if_neg (not_not_intro k3)] at h
      by_cases h4 : deep < 1
      · rw [if_pos h4] at h; omega
      rw [if_neg h4] at h
      by_cases h5 : room ≤ l.length
      · rw [if_pos h5] at h; omega
      rw [if_neg h5] at h
      have := key l ih 1 (by omega) h
      omega
    rw [if_neg k3]
    by_cases k4 : k = 4
    · rw [if_pos k4, big_length]; omega
    · rw [if_neg k4]; simp; omega

theorem T.bytes_of_may {t : T} (h : t.may = true) : t.bytes.length ≤ 153600 := by
  have h1 := T.bytes_of_look t 512 16 (T.look_of_may h)
  have := T.count_of_may h
  omega

theorem T.bytes_ne (t : T) : 1 ≤ t.bytes.length := by
  obtain ⟨k, n, s, l, r⟩ := t
  rw [T.bytes]; simp

/-- What Bytes answers. -/
noncomputable def T.bytesAns (t : T) : Value := .tuple (if t.may && !someBig t.refs then #[.string (strOf t.bytes), .int .i64 0] else #[.string ⟨#[]⟩, .int .i64 2])

theorem ints_of_own {w : World} {base e : Nat} {v : Value} {xs : List Int} (h : w.ownsRow base e 1 v xs.length (xs.map (.int .i64))) : ∃ a c, v = .slice a xs.length c ∧ Ints w (fun _ => True) xs a c := by
  rcases h.2 with ⟨hv, h0⟩ | ⟨g, cap, cur, hv, hb, hg, hle, r⟩
  · exact ⟨none, 0, by rw [hv, h0], by omega, .inl (List.length_eq_zero_iff.1 h0)⟩
  · refine ⟨_, cap, hv, hle, .inr ⟨g, 0, rfl, trivial, fun j hj => ?_⟩⟩
    subst hv
    rw [Nat.zero_add, h.cellAt j (by omega), List.getElem?_map, List.getElem?_eq_getElem hj]
    rfl

set_option maxRecDepth 100000 in
set_option maxHeartbeats 1000000 in
theorem bytes_walk (t : T) (a : Option Addr) (c : Nat) (w : World) (B : Nat) (hin : T.At w B t a c) (hB : B ≤ w.heap.size) (hw : t.wf) :
    Calls Try.prog 22 #[t.val a c] w fun e w' => e = .returned t.bytesAns ∧ Below w.heap.size w w' := by
  obtain ⟨w1, hw1⟩ : ∃ w1, w1 = w.alloc (.cells #[.int .u8 t.k, .int .i64 t.n, .string t.s, .slice a t.l.length c, .int .i64 t.r] 26 (0, 0)) := ⟨_, rfl⟩
  have hb1 : Below w.heap.size w w1 := by rw [hw1]; exact (Below.refl _ _).alloc (Nat.le_refl _) _
  have D0 : w1.heap[w.heap.size]? = some (.cells #[.int .u8 t.k, .int .i64 t.n, .string t.s, .slice a t.l.length c, .int .i64 t.r] 26 (0, 0)) := by rw [hw1]; exact blk_new _ _
  have hz1 : w1.heap.size = w.heap.size + 1 := by rw [hw1]; simp
  have m1 := may_walk t a c w1 B (T.At.below hb1 hB hin) (by omega) hw
  have m2 := fun (w2 : World) (hb2 : Below w1.heap.size w1 w2) => refs_walk t a c w2 B (T.At.below hb2 (by omega) (T.At.below hb1 hB hin)) (by have := hb2.size; omega) hw
  have m3 := fun (hm : t.may = true) (w2 : World) (hb2 : Below w1.heap.size w1 w2) => write_walk t a c w2.heap.size (.slice none 0 0) [] w2 B (T.At.below hb2 (by omega) (T.At.below hb1 hB hin)) (by have := hb2.size; omega) (Nat.le_refl _) hw (World.ownsRow_nil _ _ _ _) (by have := T.bytes_of_may hm; simp; omega)
  clear hin hw
  unfold T.val at m1 m2 m3 ⊢
  obtain ⟨ys, hys⟩ : ∃ ys, t.bytesAns = ys := ⟨_, rfl⟩
  rw [hys]
  have HY := Lib.hid hys
  clear hys
  go_enter Try.func22, Try.ntmps22
  go_upto_region 1 with (fail)
  rw [← hw1]
  clear hw1
  obtain ⟨x0, x1, x2, x3, x4, y0, y1, y2, y3, y4⟩ := blk5 D0
  have D0 := Lib.hid D0
  cases hm : t.may with
  | false =>
    rw [hm] at m1
    have HM := Lib.hid hm
    clear hm m2 m3
    go_wp2_with (go_at_call 34; refine m1.mono ?_; clear m1; rintro e wA ⟨rfl, hbA⟩)
    go_ret2
    exact ⟨by rw [← HY.out]; unfold T.bytesAns; rw [HM.out]; rfl, hb1.trans (hbA.mono (by omega))⟩
  | true =>
    rw [hm] at m1
    have m4 := m3 hm
    have hc := T.count_of_may hm
    have hrl := T.refs_le t
    rw [hm] at m2
    simp only [if_true] at m2
    have HM := Lib.hid hm
    clear hm m3
    cases hbig : someBig t.refs with
    | true =>
      have HB := Lib.hid hbig
      go_wp2_with (first
        | (go_at_call 34; refine m1.mono ?_; clear m1; rintro e wA ⟨rfl, hbA⟩; have D2 := (hbA.block (w.heap.size) (by omega)).trans D0.out; clear x0 x1 x2 x3 x4 y0 y1 y2 y3 y4; obtain ⟨x0, x1, x2, x3, x4, y0, y1, y2, y3, y4⟩ := blk5 D2)
        | (go_at_call 35; refine (m2 _ hbA).mono ?_; clear m2; rintro e wB ⟨v, rfl, hv, hbB⟩; obtain ⟨ra, rc, rfl, hri⟩ := ints_of_own hv)
        | (go_at_call 66; refine (containsFunc_walk t.refs ra rc _ hri (by omega)).mono ?_; rintro e wC ⟨rfl, rfl⟩; rw [hbig]))
      go_ret2
      exact ⟨by rw [← HY.out]; unfold T.bytesAns; rw [HM.out, HB.out]; rfl, hb1.trans ((hbA.mono (by omega)).trans (hbB.mono (by have := hbA.size; omega)))⟩
    | false =>
      have HB := Lib.hid hbig
      go_wp2_with (first
        | (go_at_call 34; refine m1.mono ?_; clear m1; rintro e wA ⟨rfl, hbA⟩; have D2 := (hbA.block (w.heap.size) (by omega)).trans D0.out; clear x0 x1 x2 x3 x4 y0 y1 y2 y3 y4; obtain ⟨x0, x1, x2, x3, x4, y0, y1, y2, y3, y4⟩ := blk5 D2)
        | (go_at_call 35; refine (m2 _ hbA).mono ?_; clear m2; rintro e wB ⟨v, rfl, hv, hbB⟩; obtain ⟨ra, rc, rfl, hri⟩ := ints_of_own hv; have hbAB := hbA.trans (hbB.mono hbA.size); have D3 := (hbAB.block (w.heap.size) (by omega)).trans D0.out; clear x0 x1 x2 x3 x4 y0 y1 y2 y3 y4; obtain ⟨x0, x1, x2, x3, x4, y0, y1, y2, y3, y4⟩ := blk5 D3)
        | (go_at_call 66; refine (containsFunc_walk t.refs ra rc _ hri (by omega)).mono ?_; rintro e wC ⟨rfl, rfl⟩; rw [hbig])
        | (go_at_call 68; refine (m4 _ hbAB).mono ?_; clear m4; rintro e wD ⟨vd, rfl, rd, sd⟩; rw [List.nil_append] at rd; obtain ⟨gd, cd, rfl, _, _⟩ := rd.form (by have := T.bytes_ne t; omega); have hcv := conv_row rd))
      go_ret2
      refine ⟨by rw [← HY.out]; unfold T.bytesAns; rw [HM.out, HB.out]; rfl, hb1.trans ((hbAB.mono (by omega)).trans ⟨sd.os, sd.tape, sd.output, sd.size, fun k hk => sd.block k (by have := hbAB.size; omega) (by simp [Value.ownBlock])⟩)⟩
end Go.Proofs.Ytapfmfihhpafcaa
