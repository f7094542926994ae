/-
  posternlaw02.image: what some references are turned into; what a renamed value's references are.
-/
import Derived.Test.YtapfmfihhpafcaaR5
import Derived.Test.YtapfmfihhpafcaaB4
import Derived.Deep.DeepCutAuto
import Derived.Deep.CutBlock
import Derived.Outline
namespace Go.Proofs.Ytapfmfihhpafcaa
open Go.RowKit
set_option linter.unusedVariables false
set_option linter.unusedSimpArgs false

/-- All turned, or none. -/
def imgs (f : Int → Option Int) : List Int → Option (List Int)
  | [] => some []
  | x :: xs => (f x).bind fun y => (imgs f xs).map fun ys => y :: ys

theorem imgs_app {f : Int → Option Int} : ∀ (l l' : List Int), imgs f (l ++ l') = (imgs f l).bind fun a => (imgs f l').map fun b => a ++ b
  | [], l' => by
    rw [List.nil_append, imgs]
    cases imgs f l' <;> simp
  | t :: ts, l' => by
    rw [List.cons_append, imgs, imgs, imgs_app ts l']
    cases f t with
    | none => rfl
    | some t' =>
      cases imgs f ts with
      | none => rfl
      | some ts' => cases imgs f l' <;> simp

theorem imgs_one (f : Int → Option Int) (t : Int) : imgs f [t] = (f t).map fun t' => [t'] := by
  rw [imgs, imgs]
  cases f t <;> rfl

theorem imgs_step {f : Int → Option Int} {l l1 : List Int} {i : Nat} (h : imgs f (l.take i) = some l1) (hi : i < l.length) :
    (∀ t', f l[i] = some t' → imgs f (l.take (i + 1)) = some (l1 ++ [t'])) ∧ (f l[i] = none → imgs f l = none) := by
  have e : imgs f (l.take (i + 1)) = (f l[i]).map fun t' => l1 ++ [t'] := by
    rw [List.take_succ_eq_append_getElem hi, imgs_app, h, imgs_one]
    cases f l[i] <;> rfl
  refine ⟨fun t' ht => by rw [e, ht]; rfl, fun ht => ?_⟩
  rw [← List.take_append_drop (i + 1) l, imgs_app, e, ht]
  rfl

theorem imgs_length {f : Int → Option Int} : ∀ {l l' : List Int}, imgs f l = some l' → l'.length = l.length
  | [], l', h => by rw [imgs] at h; cases h; rfl
  | t :: ts, l', h => by
    rw [imgs] at h
    obtain ⟨t', _, h⟩ := Option.bind_eq_some_iff.1 h
    obtain ⟨ts', h2, rfl⟩ := Option.map_eq_some_iff.1 h
    simp [imgs_length h2]

mutual
/-- The references of a renamed value are the old ones, turned. -/
theorem T.ren_refs {f : Int → Option Int} : ∀ {t t' : T}, t.flat → t.ren f = some t' → imgs f t.refs = some t'.refs
  | .mk k n s l r, t', hfl, h => by
    rw [T.flat] at hfl
    rw [T.ren] at h
    by_cases k4 : k = 4
    · rw [if_pos k4] at h
      obtain ⟨y, hy, rfl⟩ := Option.map_eq_some_iff.1 h
      have hl := hfl.1 k4
      subst hl
      rw [T.refs, T.refs, if_pos k4, if_pos k4, T.refss, List.append_nil, List.append_nil, imgs_one, hy]
      rfl
    · rw [if_neg k4] at h
      obtain ⟨l', hl, rfl⟩ := Option.map_eq_some_iff.1 h
      rw [T.refs, T.refs, if_neg k4, List.nil_append, List.nil_append]
      exact T.rens_refs hfl.2 hl
theorem T.rens_refs {f : Int → Option Int} : ∀ {l l' : List T}, T.flats l → T.rens f l = some l' → imgs f (T.refss l) = some (T.refss l')
  | [], l', _, h => by rw [T.rens] at h; cases h; rw [T.refss, imgs]
  | t :: ts, l', hfl, h => by
    rw [T.flats] at hfl
    rw [T.rens] at h
    obtain ⟨t', ht, h⟩ := Option.bind_eq_some_iff.1 h
    obtain ⟨ts', h2, rfl⟩ := Option.map_eq_some_iff.1 h
    rw [T.refss, T.refss, imgs_app, T.ren_refs hfl.1 ht, T.rens_refs hfl.2 h2]
    rfl
end

/-- Where the search for a name stands still. -/
def ImgAt (fr nx : List Int) (x : Int) (k : Nat) : Prop :=
  k ≤ fr.length ∧ (∀ (_ : k < fr.length) (h' : k < nx.length), nameOf fr nx x = some nx[k]) ∧ ((k = fr.length ∨ nx.length ≤ k) → nameOf fr nx x = none)

theorem nameOf_nil (xs : List Int) (r : Int) : nameOf xs [] r = none := by cases xs <;> simp [nameOf]

theorem nameOf_skip (fr nx : List Int) (k : Nat) (x : Int) (h : k < fr.length) (hne : fr[k] ≠ x) : nameOf (fr.drop k) (nx.drop k) x = nameOf (fr.drop (k + 1)) (nx.drop (k + 1)) x := by
  by_cases h' : k < nx.length
  · rw [nameOf_drop fr nx k x h h', if_neg hne]
  · rw [List.drop_of_length_le (i := k) (l := nx) (by omega), List.drop_of_length_le (i := k + 1) (l := nx) (by omega), nameOf_nil, nameOf_nil]

theorem imgAt_end (fr nx : List Int) (x : Int) (k : Nat) (he : nameOf fr nx x = nameOf (fr.drop k) (nx.drop k) x) (hk : k = fr.length) : ImgAt fr nx x k := by
  have : nameOf fr nx x = none := by rw [he, List.drop_of_length_le (by omega)]; simp [nameOf]
  exact ⟨by omega, fun h => by omega, fun _ => this⟩
theorem imgAt_hit (fr nx : List Int) (x : Int) (k : Nat) (he : nameOf fr nx x = nameOf (fr.drop k) (nx.drop k) x) (hk : k < fr.length) (hx : fr[k] = x) : ImgAt fr nx x k := by
  refine ⟨by omega, fun _ h' => ?_, fun h => ?_⟩
  · rw [he, nameOf_drop fr nx k x hk h', if_pos hx]
  · rw [he, List.drop_of_length_le (l := nx) (by omega), nameOf_nil]

def ImgPost (w : World) (res : Option (List Int)) (e : Ending) (w' : World) : Prop :=
  ((∃ ys v, res = some ys ∧ e = .returned (.tuple #[v, .bool true]) ∧ w'.ownsRow w.heap.size 24 1 v ys.length (ys.map (.int .i64))) ∨ (res = none ∧ e = .returned (.tuple #[.slice none 0 0, .bool false]))) ∧ Below w.heap.size w w'

set_option maxRecDepth 100000 in
set_option maxHeartbeats 4000000 in
theorem image_walk (l fr nx : List Int) (la : Option Addr) (lc : Nat) (fa : Option Addr) (fc : Nat) (na : Option Addr) (nc : Nat) (w : World) (B : Nat) (hl : Ints w (· < B) l la lc) (h1 : Ints w (· < B) fr fa fc) (h2 : Ints w (· < B) nx na nc) (hB : B ≤ w.heap.size)
    (hll : l.length ≤ 1000000) (hfl : fr.length ≤ 1000000) (hnl : nx.length ≤ 1000000) :
    Calls Try.prog 50 #[.slice la l.length lc, .slice fa fr.length fc, .slice na nx.length nc] w (ImgPost w (imgs (nameOf fr nx) l)) := by
  obtain ⟨res, hres⟩ : ∃ res, imgs (nameOf fr nx) l = res := ⟨_, rfl⟩
  rw [hres]
  have HR := Lib.hid hres
  have HL := Lib.hid hl
  have H1 := Lib.hid h1
  have H2 := Lib.hid h2
  obtain ⟨j0, hji, hjz0, hjz1, hjz2⟩ := info_parts info24
  clear hres hl h1 h2
  go_enter Try.func50, Try.ntmps50
  go_wp2_with fail
  go_loopg [8, 9] l.length (fun gg vo vi wr => ∃ (i : Nat) (ys : List Int), vi = .int .i64 i ∧ i + gg = l.length ∧ Aside (ys.length = i) ∧ Aside (imgs (nameOf fr nx) (l.take i) = some ys) ∧ Aside (Below w.heap.size w wr) ∧ wr.ownsRow w.heap.size 24 1 vo i (ys.map (.int .i64)))
  case atStart => exact ⟨0, [], rfl, by simp, rfl, by show imgs _ [] = _; rw [imgs], Below.refl _ _, World.ownsRow_nil _ _ _ _⟩
  case round =>
    obtain ⟨i, ys, rfl, hgi, hyl, hys, hb, hown⟩ := hrel
    obtain ⟨w0, rfl⟩ : ∃ w0 : World, w0 = wr := ⟨_, rfl⟩
    have zr := hb.out.size
    by_cases h : i < l.length
    · obtain ⟨bl, ol, rfl, _, el⟩ := (Ints.below hb.out hB HL.out).elem i h
      obtain ⟨st1, st2⟩ := imgs_step hys.out h
      obtain ⟨x, hx⟩ : ∃ x, l[i] = x := ⟨_, rfl⟩
      rw [hx] at el st1 st2
      have S1 := Lib.hid st1
      have S2 := Lib.hid st2
      have HO := Lib.hid hown
      clear hx st1 st2 hown
      go_upto_block 2 with fail
      go_cut [10] (fun vk wx => ∃ k : Nat, vk = .int .i64 k ∧ Aside (ImgAt fr nx x k) ∧ Aside (Below w0.heap.size w0 wx))
      case first =>
        go_wp2_with fail
        go_loopg [10] fr.length (fun gg2 vk wq => ∃ k : Nat, vk = .int .i64 k ∧ k + gg2 = fr.length ∧ Aside (Below w0.heap.size w0 wq) ∧ Aside (nameOf fr nx x = nameOf (fr.drop k) (nx.drop k) x))
        case atStart => exact ⟨0, rfl, by simp, Below.refl _ _, rfl⟩
        case round =>
          obtain ⟨k, rfl, hgk, hbq, hnm⟩ := hrel
          have zq := hbq.out.size
          have hbw : Below w.heap.size w wr := hb.out.trans (hbq.out.mono zr)
          have elq : wr.cell? ⟨bl, ol + i, none⟩ = some (.int .i64 x) := (hbq.out.cell (p := ⟨bl, ol + i, none⟩) (by show bl < w0.heap.size; omega)).trans el
          by_cases hk : k < fr.length
          · obtain ⟨bf, of, rfl, _, ef⟩ := (Ints.below hbw hB H1.out).elem k hk
            have hsk := nameOf_skip fr nx k x hk
            have hhit := imgAt_hit fr nx x k hnm.out hk
            obtain ⟨z, hz⟩ : ∃ z, fr[k] = z := ⟨_, rfl⟩
            rw [hz] at ef hsk hhit
            clear hz
            have g1 : decide ((k : Int) < (fr.length : Int)) = true := by simp; omega
            have g2 : (k : Int) < (fr.length : Int) := by omega
            by_cases hzx : z = x
            · have HH := Lib.hid (hhit hzx)
              subst hzx
              clear hhit hsk el hbw
              go_upto_region 6 with fail
              go_quiet (fail)
              go_wp2_with fail
              go_meet
              case rel =>
                have hb0 := hbq.out
                exact ⟨k, rfl, HH.out, by show Below _ _ _; exact ⟨hb0.os, hb0.tape, hb0.output, hb0.size, hb0.block⟩⟩
            · have HH := Lib.hid (hsk hzx)
              have hne : (z == x) = false := by simpa using hzx
              have hne2 : (z != x) = true := by simpa using hzx
              clear hhit hsk el hbw hzx
              go_upto_region 6 with fail
              go_quiet (fail)
              go_wp2_with fail
              go_roundg (gk - 1)
              case measure => omega
              case rel =>
                have hb0 := hbq.out
                exact ⟨k + 1, by go_num, by omega, by show Below _ _ _; exact ⟨hb0.os, hb0.tape, hb0.output, hb0.size, hb0.block⟩, by show nameOf fr nx x = _; rw [hnm.out, HH.out]⟩
          · have hkl : k = fr.length := by omega
            have HH := Lib.hid (imgAt_end fr nx x k hnm.out hkl)
            have g1 : decide ((k : Int) < (fr.length : Int)) = false := by simp; omega
            have g2 : ¬ (k : Int) < (fr.length : Int) := by omega
            clear hkl el elq hbw
            go_upto_region 6 with fail
            go_quiet (fail)
            go_wp2_with fail
            go_meet
            case rel =>
              have hb0 := hbq.out
              exact ⟨k, rfl, HH.out, by show Below _ _ _; exact ⟨hb0.os, hb0.tape, hb0.output, hb0.size, hb0.block⟩⟩
      case rest =>
        obtain ⟨k, rfl, him, hbx⟩ := hcut
        have hbw : Below w.heap.size w wc := hb.out.trans (hbx.out.mono zr)
        have zc := hbx.out.size
        have HBW := Lib.hid hbw
        have ho := ownsRow_of_block'' (w' := wc) HO.out (fun g hg => hbx.out.block g (HO.out.lt g hg).2)
        have hlt9 := ho.lt
        obtain ⟨hi1, hi2, hi3⟩ := him.out
        by_cases hk : k = fr.length
        · have hn := hi3 (.inl hk)
          have e := S2.out hn
          rw [HR.out] at e
          have HE := Lib.hid e
          have g1 : ((k : Int) == (fr.length : Int)) = true := by simp; omega
          have g2 : (k == fr.length) = true := by simpa using hk
          clear hi1 hi2 hi3 hn e hk hbw
          go_wp2_with fail
          go_ret2
          exact ⟨.inr ⟨HE.out, rfl⟩, HBW.out⟩
        have g1 : ((k : Int) == (fr.length : Int)) = false := by simp; omega
        have g2 : (k == fr.length) = false := by simpa using hk
        by_cases hk2 : nx.length ≤ k
        · have hn := hi3 (.inr hk2)
          have e := S2.out hn
          rw [HR.out] at e
          have HE := Lib.hid e
          have g3 : (nx.length : Int) ≤ (k : Int) := by omega
          clear hi1 hi2 hi3 hn e hk hbw
          go_wp2_with fail
          go_ret2
          exact ⟨.inr ⟨HE.out, rfl⟩, HBW.out⟩
        · have hkn : k < nx.length := by omega
          have hv := hi2 (by omega) hkn
          have e := S1.out _ hv
          obtain ⟨bn, on, rfl, _, en⟩ := (Ints.below hbw hB H2.out).elem k hkn
          obtain ⟨y, hy⟩ : ∃ y, nx[k] = y := ⟨_, rfl⟩
          rw [hy] at en e
          have HE := Lib.hid e
          have g3 : ¬ (nx.length : Int) ≤ (k : Int) := by omega
          have g4 : (k : Int) < (nx.length : Int) := by omega
          clear hi1 hi2 hi3 hv e hk hy hbw el
          go_wp2_with (at_builtin; refine wpList_append_lies _ rfl _ _ 61 rfl w.heap.size 24 j0 _ 1 8 Try.underlying61 hji hjz0 hjz1 hjz2 rfl (by decide) u8 i _ (by rfl) (ho.alloc _) ⟨wc.heap.size, 0, none⟩ 1 1 [.int .i64 y] (by rfl) rfl (World.news_of_block (cs := #[.int .i64 y]) (t := 24) (fr := (0, 0)) (blk_new _ _)) (by simp [Value.oneCell']) (by omega) (by unfold maxLen; omega) (by omega) (by simp; omega) _ rfl ?_; intro g cap wB hownB hgrowB hatB hltB)
          go_roundg (gk - 1)
          case measure => omega
          case rel =>
            refine ⟨i + 1, ys ++ [y], by go_num, by omega, by show (ys ++ [y]).length = i + 1; rw [List.length_append, hyl.out]; rfl, HE.out, ?_, by rw [List.map_append]; exact hownB⟩
            exact Below.grown (HBW.out.alloc (by omega) _) hgrowB (by simp; omega) (fun q hq => (hlt9 q hq).1)
    · have hil : i = l.length := by omega
      have e := hys.out
      rw [List.take_of_length_le (by omega), HR.out] at e
      have HE := Lib.hid e
      have ho : w0.ownsRow w.heap.size 24 1 u8 ys.length (ys.map (.int .i64)) := by rw [hyl.out]; exact hown
      have HO := Lib.hid ho
      clear e hil hown ho
      go_wp2_with fail
      go_ret2
      exact ⟨.inl ⟨ys, u8, HE.out, rfl, HO.out⟩, hb.out⟩
end Go.Proofs.Ytapfmfihhpafcaa
