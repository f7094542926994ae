/-
  Plain laws on renaming: there and back; twice at once; what stays.
-/
import Derived.Test.YtapfmfihhpafcaaS1
import Derived.Test.YtapfmfihhpafcaaA8
namespace Go.Proofs.Ytapfmfihhpafcaa
open Go.RowKit
set_option linter.unusedVariables false
set_option linter.unusedSimpArgs false

theorem T.ren_parts {f : Int → Option Int} (hf : ∀ r y, f r = some y → 1 ≤ y) {t t' : T} (h : t.ren f = some t') (hm : t.may = true) : t'.parts = t.parts := by
  have h1 := T.look_of_may hm
  have e := T.ren_look hf t 512 16 t' h h1
  rw [T.parts_of, T.parts_of, e]

mutual
theorem T.ren_deep {f : Int → Option Int} : ∀ {t t' : T}, t.ren f = some t' → t'.deep = t.deep
  | .mk k n s l r, t', h => by
    rw [T.ren] at h
    by_cases k4 : k = 4
    · rw [if_pos k4] at h
      obtain ⟨y, hy, rfl⟩ := Option.map_eq_some_iff.1 h
      rw [T.deep, T.deep]
    · rw [if_neg k4] at h
      obtain ⟨l', hl, rfl⟩ := Option.map_eq_some_iff.1 h
      rw [T.deep, T.deep, T.rens_deep hl 0]
theorem T.rens_deep {f : Int → Option Int} : ∀ {l l' : List T}, T.rens f l = some l' → ∀ d, T.deeps d l' = T.deeps d l
  | [], l', h, d => by rw [T.rens] at h; cases h; rfl
  | t :: ts, l', h, d => by
    rw [T.rens] at h
    obtain ⟨t', ht, h⟩ := Option.bind_eq_some_iff.1 h
    obtain ⟨ts', h2, rfl⟩ := Option.map_eq_some_iff.1 h
    rw [T.deeps, T.deeps, T.ren_deep ht, T.rens_deep h2]
end

mutual
/-- Without references nothing is renamed. -/
theorem T.ren_none {f : Int → Option Int} : ∀ {t : T}, t.refs = [] → t.ren f = some t
  | .mk k n s l r, h => by
    rw [T.refs] at h
    by_cases k4 : k = 4
    · rw [if_pos k4] at h; simp at h
    · rw [if_neg k4, List.nil_append] at h
      rw [T.ren, if_neg k4, T.rens_none h]
      rfl
theorem T.rens_none {f : Int → Option Int} : ∀ {l : List T}, T.refss l = [] → T.rens f l = some l
  | [], h => by rw [T.rens]
  | t :: ts, h => by
    rw [T.refss] at h
    obtain ⟨h1, h2⟩ := List.append_eq_nil_iff.1 h
    rw [T.rens, T.ren_none h1, T.rens_none h2]
    rfl
end

mutual
theorem T.ren_id : ∀ (t : T), t.ren some = some t
  | .mk k n s l r => by
    rw [T.ren, T.rens_id l]
    by_cases k4 : k = 4
    · rw [if_pos k4]; rfl
    · rw [if_neg k4]; rfl
theorem T.rens_id : ∀ (l : List T), T.rens some l = some l
  | [] => by rw [T.rens]
  | t :: ts => by rw [T.rens, T.ren_id t, T.rens_id ts]; rfl
end

mutual
/-- Renamed twice. -/
theorem T.ren_comp {f g h : Int → Option Int} (hc : ∀ r y, f r = some y → g y = h r) : ∀ {t t' : T}, t.ren f = some t' → t'.ren g = t.ren h
  | .mk k n s l r, t', ht => by
    rw [T.ren] at ht
    by_cases k4 : k = 4
    · rw [if_pos k4] at ht
      obtain ⟨y, hy, rfl⟩ := Option.map_eq_some_iff.1 ht
      rw [T.ren, T.ren, if_pos k4, if_pos k4, hc r y hy]
    · rw [if_neg k4] at ht
      obtain ⟨l', hl, rfl⟩ := Option.map_eq_some_iff.1 ht
      rw [T.ren, T.ren, if_neg k4, if_neg k4, T.rens_comp hc hl]
theorem T.rens_comp {f g h : Int → Option Int} (hc : ∀ r y, f r = some y → g y = h r) : ∀ {l l' : List T}, T.rens f l = some l' → T.rens g l' = T.rens h l
  | [], l', ht => by rw [T.rens] at ht; cases ht; rw [T.rens, T.rens]
  | t :: ts, l', ht => by
    rw [T.rens] at ht
    obtain ⟨t', h1, ht⟩ := Option.bind_eq_some_iff.1 ht
    obtain ⟨ts', h2, rfl⟩ := Option.map_eq_some_iff.1 ht
    rw [T.rens, T.rens, T.ren_comp hc h1, T.rens_comp hc h2]
end

/-- There and back. -/
theorem nameOf_back : ∀ (fr nx : List Int) (r y : Int), nx.Pairwise (· ≠ ·) → nameOf fr nx r = some y → nameOf nx fr y = some r
  | x :: xs, y' :: ys, r, y, hp, h => by
    rw [nameOf] at h
    rw [List.pairwise_cons] at hp
    by_cases hx : x = r
    · rw [if_pos hx] at h
      cases h
      rw [nameOf, if_pos rfl, hx]
    · rw [if_neg hx] at h
      have hm := nameOf_mem xs ys r y h
      rw [nameOf, if_neg (hp.1 y hm)]
      exact nameOf_back xs ys r y hp.2 h
  | [], _, _, _, _, h => by simp [nameOf] at h
  | _ :: _, [], _, _, _, h => by simp [nameOf] at h

theorem nameOf_imgs {g : Int → Option Int} : ∀ (xs ys zs : List Int) (r : Int), imgs g ys = some zs → nameOf xs zs r = (nameOf xs ys r).bind g
  | [], ys, zs, r, h => by simp [nameOf]
  | x :: xs, [], zs, r, h => by rw [imgs] at h; cases h; simp [nameOf]
  | x :: xs, y :: ys, zs, r, h => by
    rw [imgs] at h
    obtain ⟨z, hz, h⟩ := Option.bind_eq_some_iff.1 h
    obtain ⟨zs', h2, rfl⟩ := Option.map_eq_some_iff.1 h
    rw [nameOf, nameOf]
    by_cases hx : x = r
    · rw [if_pos hx, if_pos hx]; exact hz.symm
    · rw [if_neg hx, if_neg hx]; exact nameOf_imgs xs ys zs' r h2

theorem nameOf_some : ∀ (xs ys : List Int) (r : Int), xs.length = ys.length → r ∈ xs → ∃ y, nameOf xs ys r = some y
  | x :: xs, y :: ys, r, hl, h => by
    rw [nameOf]
    by_cases hx : x = r
    · exact ⟨y, by rw [if_pos hx]⟩
    · rw [if_neg hx]
      rcases List.mem_cons.1 h with rfl | h
      · exact absurd rfl hx
      · exact nameOf_some xs ys r (by simpa using hl) h
  | [], _, _, _, h => by cases h
  | _ :: _, [], _, hl, _ => by simp at hl

theorem imgs_some {g : Int → Option Int} : ∀ (l : List Int), (∀ x ∈ l, ∃ y, g x = some y) → ∃ zs, imgs g l = some zs
  | [], _ => ⟨[], by rw [imgs]⟩
  | x :: xs, h => by
    obtain ⟨y, hy⟩ := h x (by simp)
    obtain ⟨zs, hz⟩ := imgs_some xs (fun x hx => h x (by simp [hx]))
    exact ⟨y :: zs, by rw [imgs, hy, hz]; rfl⟩

theorem imgs_mem {g : Int → Option Int} : ∀ {l zs : List Int}, imgs g l = some zs → ∀ z ∈ zs, ∃ x ∈ l, g x = some z
  | [], zs, h, z, hz => by rw [imgs] at h; cases h; cases hz
  | x :: xs, zs, h, z, hz => by
    rw [imgs] at h
    obtain ⟨y, hy, h⟩ := Option.bind_eq_some_iff.1 h
    obtain ⟨zs', h2, rfl⟩ := Option.map_eq_some_iff.1 h
    rcases List.mem_cons.1 hz with rfl | hz
    · exact ⟨x, by simp, hy⟩
    · obtain ⟨x', h3, h4⟩ := imgs_mem h2 z hz
      exact ⟨x', by simp [h3], h4⟩

theorem low_of {l : List Int} (h : ∀ x ∈ l, 1 ≤ x) : someLow l = false := by
  unfold someLow
  rw [List.any_eq_false]
  intro x hx
  have := h x hx
  simp; omega

theorem pair_of_index {l : List Int} (h : ∀ p q, q < p → p < l.length → l.getD p 0 ≠ l.getD q 0) : l.Pairwise (· ≠ ·) := by
  rw [List.pairwise_iff_getElem]
  intro i j hi hj hij
  have := h j i hij hj
  rw [List.getD_eq_getElem?_getD, List.getD_eq_getElem?_getD, List.getElem?_eq_getElem hj, List.getElem?_eq_getElem hi, Option.getD_some, Option.getD_some] at this
  exact fun e => this e.symm

/-- What it says that Rename has gone well. -/
theorem renAns_ok {t : T} {fr nx : List Int} (h : (renAns t fr nx).2 = 0) : t.may = true ∧ fr.length = nx.length ∧ someLow fr = false ∧ someLow nx = false ∧ t.ren (nameOf fr nx) = some (renAns t fr nx).1 := by
  unfold renAns at h ⊢
  by_cases hok : (t.may && decide (fr.length = nx.length) && !someLow fr && !someLow nx) = true
  · rw [if_pos hok] at h ⊢
    have h9 := hok
    simp only [Bool.and_eq_true, decide_eq_true_eq, Bool.not_eq_true'] at h9
    obtain ⟨⟨⟨hm, hl⟩, hf⟩, hn⟩ := h9
    refine ⟨hm, hl, hf, hn, ?_⟩
    cases hr : t.ren (nameOf fr nx) with
    | none => rw [hr] at h; simp at h
    | some t' => rfl
  · rw [if_neg hok] at h; simp at h

theorem renAns_of {t t' : T} {fr nx : List Int} (hm : t.may = true) (hl : fr.length = nx.length) (hf : someLow fr = false) (hn : someLow nx = false) (h : t.ren (nameOf fr nx) = some t') : renAns t fr nx = (t', 0) := by
  unfold renAns
  rw [if_pos (by rw [hm, hf, hn, decide_eq_true hl]; rfl), h]

/-- All that the law asks of a renaming that went well. -/
theorem renamed_facts {t : T} {fr nx : List Int} (h : (renAns t fr nx).2 = 0) : t.may = true ∧ (renAns t fr nx).1.may = true ∧ fr.length = nx.length ∧ imgs (nameOf fr nx) t.refs = some (renAns t fr nx).1.refs ∧ (renAns t fr nx).1.parts = t.parts ∧ (renAns t fr nx).1.deep = t.deep ∧
    (t.refs = [] → (renAns t fr nx).1 = t) ∧ (nx.Pairwise (· ≠ ·) → renAns (renAns t fr nx).1 nx fr = (t, 0)) ∧
    (∀ ne : List Int, (renAns (renAns t fr nx).1 nx ne).2 = 0 → ∃ both, imgs (nameOf nx ne) nx = some both ∧ (∀ z ∈ both, z ∈ ne) ∧ both.length = nx.length ∧ renAns t fr both = ((renAns (renAns t fr nx).1 nx ne).1, 0)) := by
  obtain ⟨hm, hl, hf, hn, hr⟩ := renAns_ok h
  obtain ⟨t', ht'⟩ : ∃ t', (renAns t fr nx).1 = t' := ⟨_, rfl⟩
  rw [ht'] at hr ⊢
  have hpos : ∀ r y, nameOf fr nx r = some y → 1 ≤ y := fun r y h => low_none hn y (nameOf_mem _ _ _ _ h)
  have hm' := T.ren_may hpos hr hm
  refine ⟨hm, hm', hl, T.ren_refs (T.flat_of_look t _ _ (T.look_of_may hm)) hr, T.ren_parts hpos hr hm, T.ren_deep hr, fun h0 => ?_, fun hp => ?_, fun ne hne => ?_⟩
  · rw [T.ren_none h0] at hr
    cases hr; rfl
  · refine renAns_of hm' hl.symm hn hf ?_
    rw [T.ren_comp (h := some) (fun r y h => nameOf_back fr nx r y hp h) hr]
    exact T.ren_id t
  · obtain ⟨_, hl2, _, hn2, hr2⟩ := renAns_ok hne
    obtain ⟨both, hb⟩ := imgs_some (g := nameOf nx ne) nx (fun x hx => nameOf_some nx ne x hl2 hx)
    have hmem : ∀ z ∈ both, z ∈ ne := fun z hz => by
      obtain ⟨x, _, hx⟩ := imgs_mem hb z hz
      exact nameOf_mem _ _ _ _ hx
    refine ⟨both, hb, hmem, imgs_length hb, renAns_of hm (by rw [imgs_length hb]; exact hl) hf (low_of fun z hz => low_none hn2 z (hmem z hz)) ?_⟩
    rw [← hr2]
    symm
    refine T.ren_comp (fun r y hy => ?_) hr
    rw [nameOf_imgs fr nx both r hb, hy]
    rfl
end Go.Proofs.Ytapfmfihhpafcaa
