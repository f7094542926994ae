/-
  Plain laws: what is written is read again, and the other way round; the order.
-/
import Derived.Test.YtapfmfihhpafcaaF1
import Derived.Test.YtapfmfihhpafcaaA6
namespace Go.Proofs.Ytapfmfihhpafcaa
set_option linter.unusedVariables false

/-- What reads the parts of a list, by the depth that is left. -/
def rdSub : Nat → Nat → Nat → ByteArray → Option (List T × ByteArray × Nat)
  | 0 => fun _ _ _ => none
  | d + 1 => rds (rd d)
theorem rd_node (d p : Nat) (s : ByteArray) : rd d p s = rdNode d p s (rdSub d) := by cases d <;> rfl

theorem byte_k {k : Int} (h0 : 0 ≤ k) (h1 : k ≤ 255) : ((UInt8.ofNat k.toNat).toNat : Int) = k := by
  rw [UInt8.toNat_ofNat']; omega
theorem byte_of {c : UInt8} {k : Int} (h : (c.toNat : Int) = k) : UInt8.ofNat k.toNat = c := by
  subst h; simp

theorem someBig_app (xs ys : List Int) : someBig (xs ++ ys) = (someBig xs || someBig ys) := by simp [someBig]

theorem u64_ref {r : Int} (h0 : 0 ≤ r) (h1 : r ≤ 4294967295) : IntKind.u64.wrap r = r := by
  rw [IntKind.wrap_u64]; omega

theorem T.counts_le_of (l : List T) : l.length ≤ T.counts l := by
  induction l with
  | nil => simp
  | cons t ts ih => rw [T.counts]; obtain ⟨k, n, s, l, r⟩ := t; rw [T.count]; simp; omega

theorem nil_of_list {s : ByteArray} (h : s.toList = []) : s = ⟨#[]⟩ := by
  rw [ByteArray.toList_eq] at h
  rw [mkS_of s, h]; rfl

theorem T.bytes0 (n r : Int) (s : ByteArray) (l : List T) : T.bytes (.mk 0 n s l r) = [0] := by simp [T.bytes]
theorem T.bytes1 (n r : Int) (s : ByteArray) (l : List T) : T.bytes (.mk 1 n s l r) = 1 :: big (n + 9223372036854775808) 8 := by simp [T.bytes]
theorem T.bytes2 (n r : Int) (s : ByteArray) (l : List T) : T.bytes (.mk 2 n s l r) = 2 :: (big s.size 2 ++ sbytes s) := by simp [T.bytes]
theorem T.bytes3 (n r : Int) (s : ByteArray) (l : List T) : T.bytes (.mk 3 n s l r) = 3 :: (big l.length 2 ++ T.bytess l) := by simp [T.bytes]
theorem T.bytes4 (n r : Int) (s : ByteArray) (l : List T) : T.bytes (.mk 4 n s l r) = 4 :: big (IntKind.u64.wrap r) 4 := by simp [T.bytes]

theorem rd_bytes (t : T) : ∀ (d p : Nat) (r : List UInt8), 1 ≤ t.look p d → t.wf → someBig t.refs = false → p ≤ 65000 → rd d p (mkS (B8 t.bytes ++ r)) = some (t, mkS r, p - t.count) ∧ t.count ≤ p := by
  induction t using T.induct with
  | h k n s l rr ih =>
  intro d p r h hwf hbig hp
  have hcnt := T.count_of_look _ _ _ h
  have hle := T.look_le (.mk k n s l rr) (p : Int) d (by omega)
  refine ⟨?_, by omega⟩
  rw [T.wf, T.wfs_iff] at hwf
  obtain ⟨⟨hk0, hk1, hn0, hn1, hr0, hr1, hs0, hl0⟩, hwl⟩ := hwf
  rw [T.refs, someBig_app] at hbig
  obtain ⟨hb1, hb2⟩ := (Bool.or_eq_false_iff).1 hbig
  rw [T.look] at h
  by_cases h1 : (p : Int) < 1
  · rw [if_pos h1] at h; omega
  rw [if_neg h1] at h
  by_cases h2 : fieldsOk k n s l rr
  case neg => rw [if_pos h2] at h; omega
  rw [if_neg (not_not_intro h2)] at h
  obtain ⟨f1, f2, f3, f4, f5, f6, f7⟩ := h2
  have hh : ((UInt8.ofNat k.toNat).toNat : Int) = k := byte_k hk0 hk1
  obtain ⟨xs, hxs⟩ : ∃ xs, T.bytes (.mk k n s l rr) = k :: xs := ⟨_, rfl⟩
  have hc : ∀ xs, B8 (k :: xs) ++ r = UInt8.ofNat k.toNat :: (B8 xs ++ r) := fun xs => rfl
  rw [rd_node, hxs, hc, rdNode, hd_mk, hh, tl_mk, if_neg (by rw [mkS_size]; simp; omega)]
  rw [T.count]
  by_cases k0 : k = 0
  · subst k0
    have e1 : n = 0 := by simpa using f1
    have e2 : s = ⟨#[]⟩ := nil_of_list (by simpa using f2)
    have e3 : l = [] := by simpa using f3
    have e4 : rr = 0 := by simpa using f4
    subst e1 e2 e3 e4
    rw [T.bytes0] at hxs
    injection hxs with _ hxs
    subst hxs
    simp [B8, T.counts]
  rw [if_neg k0]
  by_cases k1 : k = 1
  · subst k1
    have e2 : s = ⟨#[]⟩ := nil_of_list (by simpa using f2)
    have e3 : l = [] := by simpa using f3
    have e4 : rr = 0 := by simpa using f4
    subst e2 e3 e4
    have hl8 : (B8 (big (n + 9223372036854775808) 8)).length = 8 := by rw [B8_length, big_length]
    have hn : numL (B8 (big (n + 9223372036854775808) 8)) = n + 9223372036854775808 := by rw [numL_big _ (by omega)]; omega
    rw [T.bytes1] at hxs
    injection hxs with _ hxs
    subst hxs
    rw [if_pos rfl, if_neg (by rw [mkS_size, List.length_append, hl8]; omega), mkS_extract, cut_mk, numOf_mk]
    have ht : ((B8 (big (n + 9223372036854775808) 8) ++ r).drop 0).take (8 - 0) = B8 (big (n + 9223372036854775808) 8) := by
      rw [List.drop_zero, List.take_append_of_le_length (by rw [hl8]; omega), List.take_of_length_le (by rw [hl8]; omega)]
    have hd' : (B8 (big (n + 9223372036854775808) 8) ++ r).drop 8 = r := by
      rw [List.drop_append_of_le_length (by rw [hl8]; omega), List.drop_of_length_le (by rw [hl8]; omega), List.nil_append]
    rw [ht, hd', hn]
    simp [T.counts]
  rw [if_neg k1]
  by_cases k4 : k = 4
  · subst k4
    have e1 : n = 0 := by simpa using f1
    have e2 : s = ⟨#[]⟩ := nil_of_list (by simpa using f2)
    have e3 : l = [] := by simpa using f3
    subst e1 e2 e3
    have hr : rr ≤ 4294967295 := by
      rw [if_pos rfl] at hb1
      simpa [someBig] using hb1
    have hr2 : 1 ≤ rr := f6 rfl
    have hw := u64_ref (by omega) hr
    rw [T.bytes4, hw] at hxs
    injection hxs with _ hxs
    subst hxs
    rw [if_pos rfl]
    have hl8 : (B8 (big rr 4)).length = 4 := by rw [B8_length, big_length]
    have hn : numL (B8 (big rr 4)) = rr := by rw [numL_big _ (by omega)]; omega
    rw [if_neg (by rw [mkS_size, List.length_append, hl8]; omega), mkS_extract, cut_mk, numOf_mk]
    have ht : ((B8 (big rr 4) ++ r).drop 0).take (4 - 0) = B8 (big rr 4) := by
      rw [List.drop_zero, List.take_append_of_le_length (by rw [hl8]; omega), List.take_of_length_le (by rw [hl8]; omega)]
    have hd' : (B8 (big rr 4) ++ r).drop 4 = r := by
      rw [List.drop_append_of_le_length (by rw [hl8]; omega), List.drop_of_length_le (by rw [hl8]; omega), List.nil_append]
    rw [ht, hd', hn, if_neg (by omega)]
    simp [T.counts]
  rw [if_neg k4]
  by_cases k2 : k = 2
  · subst k2
    have e1 : n = 0 := by simpa using f1
    have e3 : l = [] := by simpa using f3
    have e4 : rr = 0 := by simpa using f4
    subst e1 e3 e4
    have hl8 : (B8 (big (s.size : Int) 2)).length = 2 := by rw [B8_length, big_length]
    have hn : numL (B8 (big (s.size : Int) 2)) = s.size := by rw [numL_big _ (by omega)]; omega
    rw [T.bytes2] at hxs
    injection hxs with _ hxs
    subst hxs
    rw [if_pos rfl, B8_app, B8_sbytes, List.append_assoc]
    rw [if_neg (by rw [mkS_size, List.length_append, hl8]; omega), mkS_extract, cut_mk, numOf_mk]
    have ht : ((B8 (big (s.size : Int) 2) ++ (s.data.toList ++ r)).drop 0).take (2 - 0) = B8 (big (s.size : Int) 2) := by
      rw [List.drop_zero, List.take_append_of_le_length (by rw [hl8]; omega), List.take_of_length_le (by rw [hl8]; omega)]
    have hd' : (B8 (big (s.size : Int) 2) ++ (s.data.toList ++ r)).drop 2 = s.data.toList ++ r := by
      rw [List.drop_append_of_le_length (by rw [hl8]; omega), List.drop_of_length_le (by rw [hl8]; omega), List.nil_append]
    have hsl : s.data.toList.length = s.size := by rw [Array.length_toList]; rfl
    rw [ht, hd', hn, if_neg (by omega), Int.toNat_natCast, if_neg (by rw [mkS_size, List.length_append, hsl]; omega), mkS_extract, cut_mk]
    have ht2 : ((s.data.toList ++ r).drop 0).take (s.size - 0) = s.data.toList := by
      rw [List.drop_zero, List.take_append_of_le_length (by rw [hsl]; omega), List.take_of_length_le (by rw [hsl]; omega)]
    have hd2 : (s.data.toList ++ r).drop s.size = r := by
      rw [List.drop_append_of_le_length (by rw [hsl]; omega), List.drop_of_length_le (by rw [hsl]; omega), List.nil_append]
    rw [ht2, hd2, ← mkS_of]
    simp [T.counts]
  rw [if_neg k2]
  have k3 : k = 3 := by omega
  subst k3
  have e1 : n = 0 := by simpa using f1
  have e2 : s = ⟨#[]⟩ := nil_of_list (by simpa using f2)
  have e4 : rr = 0 := by simpa using f4
  subst e1 e2 e4
  rw [if_neg (by simp)] at h
  by_cases h4 : (d : Int) < 1
  · rw [if_pos h4] at h; omega
  rw [if_neg h4] at h
  by_cases h5 : (p : Int) ≤ l.length
  · rw [if_pos h5] at h; omega
  rw [if_neg h5] at h
  have hl8 : (B8 (big (l.length : Int) 2)).length = 2 := by rw [B8_length, big_length]
  have hn : numL (B8 (big (l.length : Int) 2)) = l.length := by rw [numL_big _ (by omega)]; omega
  rw [T.bytes3] at hxs
  injection hxs with _ hxs
  subst hxs
  rw [if_pos rfl, B8_app, List.append_assoc]
  rw [if_neg (by rw [mkS_size, List.length_append, hl8]; omega), mkS_extract, cut_mk, numOf_mk]
  have ht : ((B8 (big (l.length : Int) 2) ++ (B8 (T.bytess l) ++ r)).drop 0).take (2 - 0) = B8 (big (l.length : Int) 2) := by
    rw [List.drop_zero, List.take_append_of_le_length (by rw [hl8]; omega), List.take_of_length_le (by rw [hl8]; omega)]
  have hd' : (B8 (big (l.length : Int) 2) ++ (B8 (T.bytess l) ++ r)).drop 2 = B8 (T.bytess l) ++ r := by
    rw [List.drop_append_of_le_length (by rw [hl8]; omega), List.drop_of_length_le (by rw [hl8]; omega), List.nil_append]
  rw [ht, hd', hn, Int.toNat_natCast, if_neg (by omega)]
  obtain ⟨d', rfl⟩ : ∃ d', d = d' + 1 := ⟨d - 1, by omega⟩
  have key : ∀ (l : List T), (∀ x ∈ l, ∀ (d p : Nat) (r : List UInt8), 1 ≤ x.look p d → x.wf → someBig x.refs = false → p ≤ 65000 → rd d p (mkS (B8 x.bytes ++ r)) = some (x, mkS r, p - x.count) ∧ x.count ≤ p) →
      (∀ x ∈ l, x.wf) → someBig (T.refss l) = false → ∀ m : Nat, 1 ≤ m → 1 ≤ T.looks (p : Int) ((d' + 1 : Nat) : Int) (m : Int) l → rds (rd d') l.length (p - m) (mkS (B8 (T.bytess l) ++ r)) = some (l, mkS r, p - m - T.counts l) := by
    intro l
    induction l with
    | nil => intro _ _ _ m _ _; simp [rds, T.bytess, B8, T.counts]
    | cons x xs ih2 =>
      intro hx hxw hxb m h1 h2
      rw [T.looks] at h2
      have c1 : ((d' + 1 : Nat) : Int) - 1 = (d' : Int) := by omega
      rw [c1] at h2
      by_cases hq : T.look ((p : Int) - (m : Int)) (d' : Int) x < 0
      · rw [if_pos hq] at h2; omega
      rw [if_neg hq] at h2
      have h3 : 1 ≤ T.look ((p : Int) - (m : Int)) (d' : Int) x := by
        rcases T.look_pos x ((p : Int) - (m : Int)) (d' : Int) with h | h
        · exact absurd h hq
        · exact h
      have hmp : m ≤ p := by
        rcases Nat.lt_or_ge p m with h | h
        · exfalso
          obtain ⟨k, n, s, l, r⟩ := x
          rw [T.look, if_pos (by omega)] at h3
          omega
        · exact h
      have c2 : (p : Int) - (m : Int) = ((p - m : Nat) : Int) := by omega
      have hcx := T.count_of_look x _ _ h3
      rw [← hcx] at h2
      rw [c2] at h3
      rw [T.refss, someBig_app] at hxb
      obtain ⟨b1, b2⟩ := (Bool.or_eq_false_iff).1 hxb
      have hx1 := hx x (by simp) d' (p - m) (B8 (T.bytess xs) ++ r) h3 (hxw x (by simp)) b1 (by omega)
      have hx2 := ih2 (fun y hy => hx y (by simp [hy])) (fun y hy => hxw y (by simp [hy])) b2 (m + x.count) (by omega) (by
        have c3 : ((m + x.count : Nat) : Int) = (m : Int) + (x.count : Int) := by omega
        rw [c3]; exact h2)
      rw [List.length_cons, rds, T.bytess, B8_app, List.append_assoc, hx1.1]
      rw [Nat.sub_add_eq] at hx2
      simp only [Option.bind_some]
      rw [hx2, T.counts]
      simp only [Option.map_some, Option.some.injEq, Prod.mk.injEq, true_and]
      omega
  have hk := key l ih hwl hb2 1 (by omega) h
  show (rds (rd d') l.length (p - 1) _).map _ = _
  rw [hk]
  simp only [Option.map_some, Option.some.injEq, Prod.mk.injEq, true_and]
  omega
end Go.Proofs.Ytapfmfihhpafcaa
