/-
  Plain laws: what is read is written again; the order.
-/
import Derived.Test.YtapfmfihhpafcaaF2
namespace Go.Proofs.Ytapfmfihhpafcaa
set_option linter.unusedVariables false

/-- What a reading says. -/
def RdSays (d p : Nat) (s : List UInt8) (t : T) (r : ByteArray) (q : Nat) : Prop :=
  ∃ r', r = mkS r' ∧ s = B8 t.bytes ++ r' ∧ 1 ≤ t.look p d ∧ someBig t.refs = false ∧ q + t.count = p

theorem fields_nil {k n r : Int} {s : ByteArray} : (⟨#[]⟩ : ByteArray).toList = [] := by simp [ByteArray.toList_eq]

theorem rdNode_inv (d p : Nat) (s : List UInt8) (sub : Nat → Nat → ByteArray → Option (List T × ByteArray × Nat)) (t : T) (r : ByteArray) (q : Nat)
    (hsub : ∀ n p s l r q, sub n p (mkS s) = some (l, r, q) → ∃ r', r = mkS r' ∧ s = B8 (T.bytess l) ++ r' ∧ l.length = n ∧ q + T.counts l = p ∧ someBig (T.refss l) = false ∧ ∀ m P : Nat, P = p + m → 1 ≤ m → 1 ≤ T.looks (P : Int) (d : Int) (m : Int) l)
    (h : rdNode d p (mkS s) sub = some (t, r, q)) : RdSays d p s t r q := by
  rw [rdNode] at h
  by_cases h0 : (mkS s).size < 1 ∨ p = 0
  · rw [if_pos h0] at h; cases h
  rw [if_neg h0] at h
  rw [mkS_size] at h0
  obtain ⟨c, s, rfl⟩ : ∃ c s', s = c :: s' := by
    cases s with
    | nil => simp at h0
    | cons c s' => exact ⟨c, s', rfl⟩
  have hp : 1 ≤ p := by omega
  have hfn : (⟨#[]⟩ : ByteArray).toList = [] := by simp [ByteArray.toList_eq]
  have hsz : (⟨#[]⟩ : ByteArray).size = 0 := rfl
  rw [hd_mk, tl_mk] at h
  by_cases k0 : (c.toNat : Int) = 0
  · rw [if_pos k0] at h
    simp only [Option.some.injEq, Prod.mk.injEq] at h
    obtain ⟨rfl, rfl, rfl⟩ := h
    refine ⟨s, rfl, ?_, ?_, by simp [T.refs, T.refss, someBig], by simp [T.count, T.counts]; omega⟩
    · rw [T.bytes0]; rw [← byte_of k0]; rfl
    · simp [T.look, fieldsOk, hfn, hsz]; omega
  rw [if_neg k0] at h
  by_cases k1 : (c.toNat : Int) = 1
  · rw [if_pos k1, mkS_size] at h
    by_cases h8 : s.length < 8
    · rw [if_pos h8] at h; cases h
    rw [if_neg h8, mkS_extract, cut_mk, numOf_mk] at h
    simp only [Option.some.injEq, Prod.mk.injEq] at h
    obtain ⟨rfl, rfl, rfl⟩ := h
    refine ⟨s.drop 8, rfl, ?_, ?_, by simp [T.refs, T.refss, someBig], by simp [T.count, T.counts]; omega⟩
    · have hl : ((s.drop 0).take (8 - 0)).length = 8 := by simp; omega
      rw [T.bytes1, Int.sub_add_cancel]
      have e : B8 (1 :: big (numL ((s.drop 0).take (8 - 0))) 8) = c :: B8 (big (numL ((s.drop 0).take (8 - 0))) 8) := by rw [← byte_of k1]; rfl
      rw [e, big_numL hl]
      simp
    · simp [T.look, fieldsOk, hfn, hsz]; omega
  rw [if_neg k1] at h
  by_cases k4 : (c.toNat : Int) = 4
  · rw [if_pos k4, mkS_size] at h
    by_cases h8 : s.length < 4
    · rw [if_pos h8] at h; cases h
    rw [if_neg h8, mkS_extract, cut_mk, numOf_mk] at h
    have hl : ((s.drop 0).take (4 - 0)).length = 4 := by simp; omega
    by_cases hz : numL ((s.drop 0).take (4 - 0)) = 0
    · rw [if_pos hz] at h; cases h
    rw [if_neg hz] at h
    simp only [Option.some.injEq, Prod.mk.injEq] at h
    obtain ⟨rfl, rfl, rfl⟩ := h
    have hlt := numL_lt ((s.drop 0).take (4 - 0))
    rw [hl] at hlt
    have h32 : (256 : Int) ^ 4 = 4294967296 := by decide
    rw [h32] at hlt
    have hw := u64_ref (r := numL ((s.drop 0).take (4 - 0))) (by omega) (by omega)
    refine ⟨s.drop 4, rfl, ?_, ?_, ?_, by simp [T.count, T.counts]; omega⟩
    · rw [T.bytes4, hw]
      have e : B8 (4 :: big (numL ((s.drop 0).take (4 - 0))) 4) = c :: B8 (big (numL ((s.drop 0).take (4 - 0))) 4) := by rw [← byte_of k4]; rfl
      rw [e, big_numL hl]
      simp
    · rw [T.look, if_neg (by omega), if_neg, if_pos (by omega)]
      · omega
      · refine not_not_intro ⟨.inr rfl, .inr hfn, .inr rfl, .inl rfl, by omega, fun _ => by omega, by rw [hsz]; omega⟩
    · rw [T.refs, if_pos rfl, T.refss]
      simp only [someBig, List.append_nil, List.any_cons, List.any_nil, Bool.or_false, decide_eq_false_iff_not]
      omega
  rw [if_neg k4] at h
  by_cases k2 : (c.toNat : Int) = 2
  · rw [if_pos k2, mkS_size] at h
    by_cases h8 : s.length < 2
    · rw [if_pos h8] at h; cases h
    rw [if_neg h8, mkS_extract, cut_mk, numOf_mk] at h
    have hl : ((s.drop 0).take (2 - 0)).length = 2 := by simp; omega
    have hlt := numL_lt ((s.drop 0).take (2 - 0))
    obtain ⟨n, hn⟩ : ∃ n : Nat, numL ((s.drop 0).take (2 - 0)) = n := ⟨_, (Int.toNat_of_nonneg hlt.1).symm⟩
    have hbig := big_numL hl
    rw [hn] at h hbig
    by_cases h25 : (256 : Int) < n
    · rw [if_pos h25] at h; cases h
    rw [if_neg h25, mkS_size, Int.toNat_natCast] at h
    by_cases hnl : (s.drop 2).length < n
    · rw [if_pos hnl] at h; cases h
    rw [if_neg hnl, mkS_extract, cut_mk] at h
    simp only [Option.some.injEq, Prod.mk.injEq] at h
    obtain ⟨rfl, rfl, rfl⟩ := h
    have hsize : (mkS (((s.drop 2).drop 0).take (n - 0))).size = n := by rw [mkS_size]; simp at hnl ⊢; omega
    refine ⟨(s.drop 2).drop n, rfl, ?_, ?_, by simp [T.refs, T.refss, someBig], by simp [T.count, T.counts]; omega⟩
    · rw [T.bytes2, hsize]
      have e : B8 (2 :: (big (n : Int) 2 ++ sbytes (mkS (((s.drop 2).drop 0).take (n - 0))))) = c :: (B8 (big (n : Int) 2) ++ B8 (sbytes (mkS (((s.drop 2).drop 0).take (n - 0))))) := by
        rw [← byte_of k2, ← B8_app]; rfl
      rw [e, hbig, B8_sbytes, mkS_list]
      simp only [List.drop_zero, Nat.sub_zero, List.cons_append, List.append_assoc, List.take_append_drop]
    · rw [T.look, if_neg (by omega), if_neg, if_pos (by omega)]
      · omega
      · refine not_not_intro ⟨.inr rfl, .inl rfl, .inr rfl, .inr rfl, by omega, fun h => by omega, by rw [hsize]; omega⟩
  rw [if_neg k2] at h
  by_cases k3 : (c.toNat : Int) = 3
  case neg => rw [if_neg k3] at h; cases h
  rw [if_pos k3, mkS_size] at h
  by_cases h8 : s.length < 2
  · rw [if_pos h8] at h; cases h
  rw [if_neg h8, mkS_extract, cut_mk, numOf_mk] at h
  have hl : ((s.drop 0).take (2 - 0)).length = 2 := by simp; omega
  have hlt := numL_lt ((s.drop 0).take (2 - 0))
  obtain ⟨n, hn⟩ : ∃ n : Nat, numL ((s.drop 0).take (2 - 0)) = n := ⟨_, (Int.toNat_of_nonneg hlt.1).symm⟩
  have hbig := big_numL hl
  rw [hn] at h hbig
  rw [Int.toNat_natCast] at h
  by_cases hd : d = 0 ∨ p - 1 < n
  · rw [if_pos hd] at h; cases h
  rw [if_neg hd] at h
  obtain ⟨⟨l, r2, q2⟩, h1, h2⟩ := Option.map_eq_some_iff.1 h
  simp only [Prod.mk.injEq] at h2
  obtain ⟨rfl, rfl, rfl⟩ := h2
  obtain ⟨r', rfl, hs, hll, hq, hb, hlook⟩ := hsub _ _ _ _ _ _ h1
  refine ⟨r', rfl, ?_, ?_, ?_, by rw [T.count]; omega⟩
  · rw [T.bytes3, hll]
    have e : B8 (3 :: (big (n : Int) 2 ++ T.bytess l)) = c :: (B8 (big (n : Int) 2) ++ B8 (T.bytess l)) := by rw [← byte_of k3, ← B8_app]; rfl
    rw [e, hbig]
    simp only [List.drop_zero, Nat.sub_zero, List.cons_append, List.append_assoc]
    rw [← hs, List.take_append_drop]
  · rw [T.look, if_neg (by omega), if_neg, if_neg (by simp), if_neg (by omega), if_neg (by omega)]
    · exact hlook 1 p (by omega) (by omega)
    · exact not_not_intro ⟨.inr rfl, .inr hfn, .inl rfl, .inr rfl, by omega, fun h => by omega, by rw [hsz]; omega⟩
  · rw [T.refs, if_neg (by omega), List.nil_append]; exact hb

theorem rds_inv (d : Nat) (f : Nat → ByteArray → Option (T × ByteArray × Nat)) (hf : ∀ p s t r q, f p (mkS s) = some (t, r, q) → RdSays d p s t r q) : ∀ n p s l r q, rds f n p (mkS s) = some (l, r, q) →
    ∃ r', r = mkS r' ∧ s = B8 (T.bytess l) ++ r' ∧ l.length = n ∧ q + T.counts l = p ∧ someBig (T.refss l) = false ∧ ∀ m P : Nat, P = p + m → 1 ≤ m → 1 ≤ T.looks (P : Int) ((d + 1 : Nat) : Int) (m : Int) l
  | 0, p, s, l, r, q, h => by
    rw [rds] at h
    simp only [Option.some.injEq, Prod.mk.injEq] at h
    obtain ⟨rfl, rfl, rfl⟩ := h
    exact ⟨s, rfl, by simp [T.bytess, B8], rfl, by simp [T.counts], by simp [T.refss, someBig], fun m P _ h1 => by rw [T.looks]; omega⟩
  | n + 1, p, s, l, r, q, h => by
    rw [rds] at h
    obtain ⟨⟨t, r1, q1⟩, h1, h2⟩ := Option.bind_eq_some_iff.1 h
    obtain ⟨⟨l', r2, q2⟩, h3, h4⟩ := Option.map_eq_some_iff.1 h2
    simp only [Prod.mk.injEq] at h4
    obtain ⟨rfl, rfl, rfl⟩ := h4
    simp only at h3
    obtain ⟨r1', rfl, rfl, hlook, hb, hq⟩ := hf _ _ _ _ _ h1
    obtain ⟨r', rfl, rfl, hll, hq2, hb2, hlook2⟩ := rds_inv d f hf n _ _ _ _ _ h3
    refine ⟨r', rfl, by rw [T.bytess, B8_app, List.append_assoc], by simp [hll], by rw [T.counts]; omega, by rw [T.refss, someBig_app, hb, hb2]; rfl, fun m P hP h1 => ?_⟩
    have c1 : ((d + 1 : Nat) : Int) - 1 = (d : Int) := by omega
    have c2 : (P : Int) - (m : Int) = (p : Int) := by omega
    have hc := T.count_of_look _ _ _ hlook
    rw [T.looks, c1, c2, if_neg (by omega), ← hc]
    have c3 : (m : Int) + (t.count : Int) = ((m + t.count : Nat) : Int) := by omega
    rw [c3]
    exact hlook2 (m + t.count) P (by omega) (by omega)

theorem rd_inv : ∀ (d p : Nat) (s : List UInt8) (t : T) (r : ByteArray) (q : Nat), rd d p (mkS s) = some (t, r, q) → RdSays d p s t r q
  | 0, p, s, t, r, q, h => rdNode_inv 0 p s _ t r q (fun _ _ _ _ _ _ h => by cases h) h
  | d + 1, p, s, t, r, q, h => rdNode_inv (d + 1) p s _ t r q (rds_inv d (rd d) (fun p s t r q h => rd_inv d p s t r q h)) h

theorem cmpI_zero {x y : Int} (h : cmpI x y = 0) : x = y := by
  unfold cmpI at h; split at h; · omega
  split at h <;> omega
theorem cmpS_zero {x y : ByteArray} (h : cmpS x y = 0) : x = y := by
  unfold cmpS at h; split at h; · omega
  split at h
  · rename_i _ h1
    rw [ByteArray.toList_eq, ByteArray.toList_eq] at h1
    rw [mkS_of x, mkS_of y, h1]
  · omega
theorem bytesLess_irrefl : ∀ l : List UInt8, Op.bytesLess l l = false
  | [] => rfl
  | c :: l => by simp [Op.bytesLess, bytesLess_irrefl l]
theorem cmpS_refl (x : ByteArray) : cmpS x x = 0 := by
  unfold cmpS; rw [if_neg (by rw [bytesLess_irrefl]; simp), if_pos rfl]
theorem cmpI_refl (x : Int) : cmpI x x = 0 := by unfold cmpI; rw [if_neg (by omega), if_neg (by omega)]

theorem T.vord_refl (t : T) : t.vord t = 0 := by
  induction t using T.induct with
  | h k n s l r ih =>
    have key : ∀ (l : List T), (∀ x ∈ l, x.vord x = 0) → T.vords l l = 0 := by
      intro l
      induction l with
      | nil => intro _; rw [T.vords]
      | cons x xs ih2 =>
        intro hx
        rw [T.vords, hx x (by simp), if_neg (by simp)]
        exact ih2 fun y hy => hx y (by simp [hy])
    rw [T.vord, if_neg (by simp)]
    split; · exact cmpI_refl _
    split; · exact cmpS_refl _
    split; · exact cmpI_refl _
    exact key l ih

theorem nil_bytes {s : ByteArray} (h : s.toList = []) : s = ⟨#[]⟩ := nil_of_list h

/-- Of values that may be the order tells them apart. -/
theorem T.vord_eq (t : T) : ∀ (u : T) (p d p' d' : Int), 1 ≤ t.look p d → 1 ≤ u.look p' d' → t.vord u = 0 → t = u := by
  induction t using T.induct with
  | h k n s l r ih =>
    intro u p d p' d' h h' hv
    obtain ⟨k', n', s', l', r'⟩ := u
    have key : ∀ (l l' : List T), (∀ x ∈ l, ∀ (u : T) (p d p' d' : Int), 1 ≤ x.look p d → 1 ≤ u.look p' d' → x.vord u = 0 → x = u) → ∀ P D P' D' m m', 1 ≤ T.looks P D m l → 1 ≤ T.looks P' D' m' l' → T.vords l l' = 0 → l = l' := by
      intro l
      induction l with
      | nil =>
        intro l' _ P D P' D' m m' _ _ hv
        cases l' with
        | nil => rfl
        | cons _ _ => rw [T.vords] at hv; omega
      | cons x xs ih2 =>
        intro l' hx P D P' D' m m' h1 h2 hv
        cases l' with
        | nil => rw [T.vords] at hv; omega
        | cons y ys =>
          rw [T.vords] at hv
          rw [T.looks] at h1 h2
          by_cases q1 : T.look (P - m) (D - 1) x < 0
          · rw [if_pos q1] at h1; omega
          rw [if_neg q1] at h1
          by_cases q2 : T.look (P' - m') (D' - 1) y < 0
          · rw [if_pos q2] at h2; omega
          rw [if_neg q2] at h2
          by_cases hv1 : x.vord y ≠ 0
          · rw [if_pos hv1] at hv; omega
          rw [if_neg hv1] at hv
          have p1 : 1 ≤ T.look (P - m) (D - 1) x := by have := T.look_pos x (P - m) (D - 1); omega
          have p2 : 1 ≤ T.look (P' - m') (D' - 1) y := by have := T.look_pos y (P' - m') (D' - 1); omega
          have e1 := hx x (by simp) y _ _ _ _ p1 p2 (Decidable.not_not.1 hv1)
          have e2 := ih2 ys (fun z hz => hx z (by simp [hz])) P D P' D' _ _ h1 h2 hv
          rw [e1, e2]
    rw [T.look] at h h'
    by_cases a1 : p < 1
    · rw [if_pos a1] at h; omega
    by_cases b1 : p' < 1
    · rw [if_pos b1] at h'; omega
    rw [if_neg a1] at h
    rw [if_neg b1] at h'
    by_cases a2 : fieldsOk k n s l r
    case neg => rw [if_pos a2] at h; omega
    by_cases b2 : fieldsOk k' n' s' l' r'
    case neg => rw [if_pos b2] at h'; omega
    rw [if_neg (not_not_intro a2)] at h
    rw [if_neg (not_not_intro b2)] at h'
    rw [T.vord] at hv
    by_cases hk : k ≠ k'
    · rw [if_pos hk] at hv; exact absurd (cmpI_zero hv) hk
    rw [if_neg hk] at hv
    have hk := Decidable.not_not.1 hk
    subst hk
    obtain ⟨f1, f2, f3, f4, _⟩ := a2
    obtain ⟨g1, g2, g3, g4, _⟩ := b2
    by_cases k1 : k = 1
    · subst k1
      rw [if_pos rfl] at hv
      have e := cmpI_zero hv
      have f2' := nil_bytes (f2.resolve_left (by omega))
      have g2' := nil_bytes (g2.resolve_left (by omega))
      have f3' := f3.resolve_left (by omega)
      have g3' := g3.resolve_left (by omega)
      have f4' := f4.resolve_left (by omega)
      have g4' := g4.resolve_left (by omega)
      subst e f2' g2' f3' g3' f4' g4'
      rfl
    rw [if_neg k1] at hv
    have f1' := f1.resolve_left k1
    have g1' := g1.resolve_left k1
    subst f1' g1'
    by_cases k2 : k = 2
    · subst k2
      rw [if_pos rfl] at hv
      have e := cmpS_zero hv
      simp at f3 f4 g3 g4
      simp_all
    rw [if_neg k2] at hv
    have f2' := nil_bytes (f2.resolve_left k2)
    have g2' := nil_bytes (g2.resolve_left k2)
    subst f2' g2'
    by_cases k4 : k = 4
    · subst k4
      rw [if_pos rfl] at hv
      have e := cmpI_zero hv
      simp at f3 g3
      simp_all
    rw [if_neg k4] at hv
    have f4' := f4.resolve_left k4
    have g4' := g4.resolve_left k4
    subst f4' g4'
    by_cases k3 : k = 3
    · subst k3
      rw [if_neg (by simp)] at h h'
      by_cases a3 : d < 1
      · rw [if_pos a3] at h; omega
      by_cases b3 : d' < 1
      · rw [if_pos b3] at h'; omega
      rw [if_neg a3] at h
      rw [if_neg b3] at h'
      by_cases a4 : p ≤ l.length
      · rw [if_pos a4] at h; omega
      by_cases b4 : p' ≤ l'.length
      · rw [if_pos b4] at h'; omega
      rw [if_neg a4] at h
      rw [if_neg b4] at h'
      rw [key l l' ih _ _ _ _ _ _ h h' hv]
    · have f3' := f3.resolve_left k3
      have g3' := g3.resolve_left k3
      subst f3' g3'
      rfl

theorem less_numL : ∀ {l l' : List UInt8}, l.length = l'.length → (Op.bytesLess l l' = decide (numL l < numL l'))
  | [], [], _ => by simp [Op.bytesLess]
  | c :: l, c' :: l', hl => by
    have hl' : l.length = l'.length := by simpa using hl
    have ih := less_numL hl'
    have h1 := numL_lt l
    have h2 := numL_lt l'
    rw [numL_cons, numL_cons, ← hl']
    rw [← hl'] at h2
    rw [Op.bytesLess, ih]
    obtain ⟨p, hp⟩ : ∃ p : Int, p = 256 ^ l.length := ⟨_, rfl⟩
    rw [← hp] at h1 h2 ⊢
    obtain ⟨x, hx⟩ : ∃ x : Int, x = c.toNat := ⟨_, rfl⟩
    obtain ⟨y, hy⟩ : ∃ y : Int, y = c'.toNat := ⟨_, rfl⟩
    rw [← hx, ← hy]
    rcases Int.lt_trichotomy x y with h | h | h
    · have hc : c < c' := by rw [UInt8.lt_iff_toNat_lt]; omega
      have : x * p + p ≤ y * p := by
        have := Int.mul_le_mul_of_nonneg_right (show x + 1 ≤ y by omega) (show 0 ≤ p by omega)
        rw [Int.add_mul, Int.one_mul] at this; exact this
      simp [hc]; omega
    · have hc : c = c' := UInt8.toNat_inj.1 (by omega)
      subst hc
      subst h
      simp
    · have hc : ¬ c < c' := by rw [UInt8.lt_iff_toNat_lt]; omega
      have hne : ¬ c = c' := fun e => by subst e; omega
      have : y * p + p ≤ x * p := by
        have := Int.mul_le_mul_of_nonneg_right (show y + 1 ≤ x by omega) (show 0 ≤ p by omega)
        rw [Int.add_mul, Int.one_mul] at this; exact this
      have hq : ¬ x * p + numL l < y * p + numL l' := by omega
      rw [decide_eq_false hc, decide_eq_false hq, show (c == c') = false from by simpa using hne]
      rfl

theorem less_big (k : Int) (x y : Int) (w : Nat) (hx0 : 0 ≤ x) (hx1 : x < 256 ^ w) (hy0 : 0 ≤ y) (hy1 : y < 256 ^ w) :
    Op.bytesLess (strOf (k :: big x w)).toList (strOf (k :: big y w)).toList = decide (x < y) := by
  rw [strOf_mk, strOf_mk, mkS_toList, mkS_toList]
  have e : ∀ z, B8 (k :: big z w) = UInt8.ofNat k.toNat :: B8 (big z w) := fun z => rfl
  rw [e, e, Op.bytesLess, less_numL (by rw [B8_length, B8_length, big_length, big_length]), numL_big _ hx0, numL_big _ hy0, Int.emod_eq_of_lt hx0 hx1, Int.emod_eq_of_lt hy0 hy1]
  simp
end Go.Proofs.Ytapfmfihhpafcaa
