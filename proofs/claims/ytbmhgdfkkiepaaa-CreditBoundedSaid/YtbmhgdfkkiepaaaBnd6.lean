/-
  CreditBounded: any act, under one law; and how it goes on to the end. Up to 200 acts.
-/
import Derived.Test.YtbmhgdfkkiepaaaBnd5
namespace Go.Proofs.Ytbmhgdfkkiepaaa
open Go.RowKit

def DoesPost (w0 : World) (X B C most k : Nat) (e : Ending) (W : World) : Prop := e = .returned (.bool true) ∧ ∃ x vw vg, Ends w0 X B C most x x.s x.us vw vg W ∧ Good most k x
theorem DoesPost.of {w0 : World} {X B C most k k' : Nat} {x : Two} {e : Ending} {W : World} (h : Done w0 X B C most x e W) (g : Good most k' x) (hk : k' ≤ k) : DoesPost w0 X B C most k e W :=
  ⟨h.1, x, h.2.choose, h.2.choose_spec.choose, h.2.choose_spec.choose_spec, g.more hk⟩

theorem does_any (w0 : World) (X B C most k what n : Nat) (x : Two) (vw vg : Value) (W : World) (hm : 1 ≤ most) (hm2 : most ≤ 256) (hk : k ≤ 200) (hw : what ≤ 255) (hn : n ≤ 255) (good : Good most k x) (h : Ends w0 X B C most x x.s x.us vw vg W) :
    Calls Try.prog 27 #[.pointer (some ⟨X, 0, none⟩), .agg #[.int .u8 what, .int .u8 n]] W (DoesPost w0 X B C most (k + 1)) := by
  by_cases c0 : what ≤ 2
  · by_cases hb : x.s + n ≤ x.g
    · exact (does_spend w0 X B C most k what n x vw vg W hm hm2 hk (by omega) hn good h hb).mono fun e W' hd => DoesPost.of hd (good.spend hn hb) (Nat.le_refl _)
    · exact (does_busy w0 X B C most k what n x vw vg W hm hm2 hk (by omega) hn good h (by have := good.sg; omega)).mono fun e W' hd => DoesPost.of hd good (by omega)
  by_cases c1 : what ≤ 4
  · have e : n = 5 * (n / 5) + n % 5 := by omega
    rw [e]
    exact (does_take w0 X B C most k what (n / 5) (n % 5) x vw vg W hm hm2 hk (by omega) (by omega) (by omega) good h).mono fun e W' hd => DoesPost.of hd.1 hd.2 (by omega)
  by_cases c2 : what ≤ 6
  · exact (does_use w0 X B C most k what n _ x vw vg W hm hm2 hk (by omega) hn good h rfl).mono fun e W' hd => DoesPost.of hd (good.use (by omega)) (by omega)
  by_cases c3 : what = 7
  · subst c3
    by_cases hd : x.us + most - x.g2 < max (most / 2) 1
    · exact (does_grant_not w0 X B C most k n x vw vg W hm hm2 hk hn good h hd).mono fun e W' hd => DoesPost.of hd good (by omega)
    · exact (does_grant w0 X B C most k n x vw vg W hm hm2 hk hn good h (by omega)).mono fun e W' hd => DoesPost.of hd good.grant (Nat.le_refl _)
  by_cases c4 : what = 8
  · subst c4
    by_cases hg : x.grants = []
    · exact (does_granted_none w0 X B C most n x vw vg W hn h hg).mono fun e W' hd => DoesPost.of hd good (by omega)
    · have hl : 0 < x.grants.length := List.length_pos_iff.2 hg
      have ht : x.grants[n % x.grants.length]? = some (x.grants[n % x.grants.length]'(Nat.mod_lt _ hl)) := List.getElem?_eq_getElem _
      exact (does_granted w0 X B C most k n x vw vg W hm hm2 hk hn good h _ hl ht).mono fun e W' hd => DoesPost.of hd (good.granted (List.mem_of_getElem? ht)).2 (by omega)
  exact (does_other w0 X B C most what n x vw vg W (by omega) hw hn h).mono fun e W' hd => DoesPost.of hd good (by omega)

/-! ### To the end -/
theorem takeN_way (j : Nat) : ∀ x : Two, (takeN j x).way = x.way.drop j := by
  induction j with
  | zero => intro x; rfl
  | succ j ih =>
    intro x
    cases h : x.way with
    | nil => rw [takeN_nil _ _ h, h]; rfl
    | cons a ys => rw [takeN_cons j a ys x h, ih]; rfl
/-- Four come. -/
def DrainPost (w0 : World) (X B C most k l : Nat) (e : Ending) (W : World) : Prop := e = .returned (.bool true) ∧ ∃ x vw vg, Ends w0 X B C most x x.s x.us vw vg W ∧ Good most k x ∧ x.way.length = l - 4
theorem drain_any (w0 : World) (X B C most k : Nat) (x : Two) (vw vg : Value) (W : World) (hm : 1 ≤ most) (hm2 : most ≤ 256) (hk : k ≤ 200) (good : Good most k x) (h : Ends w0 X B C most x x.s x.us vw vg W) :
    Calls Try.prog 27 #[.pointer (some ⟨X, 0, none⟩), .agg #[.int .u8 3, .int .u8 4]] W (DrainPost w0 X B C most k x.way.length) :=
  (does_take w0 X B C most k 3 0 4 x vw vg W hm hm2 hk (by omega) (by omega) (by omega) good h).mono fun e W' hd =>
    ⟨hd.1.1, _, _, _, hd.1.2.choose_spec.choose_spec, hd.2, by rw [takeN_way, List.length_drop]⟩
/-- 255 are used. -/
def UsedPost (w0 : World) (X B C most k d : Nat) (e : Ending) (W : World) : Prop := e = .returned (.bool true) ∧ ∃ x vw vg, Ends w0 X B C most x x.s x.us vw vg W ∧ Good most k x ∧ x.way = [] ∧ x.tk - x.us = d - 255
theorem used_any (w0 : World) (X B C most k : Nat) (x : Two) (vw vg : Value) (W : World) (hm : 1 ≤ most) (hm2 : most ≤ 256) (hk : k ≤ 200) (good : Good most k x) (h : Ends w0 X B C most x x.s x.us vw vg W) (hw : x.way = []) :
    Calls Try.prog 27 #[.pointer (some ⟨X, 0, none⟩), .agg #[.int .u8 5, .int .u8 255]] W (UsedPost w0 X B C most k (x.tk - x.us)) :=
  (does_use w0 X B C most k 5 255 _ x vw vg W hm hm2 hk (by omega) (by omega) good h rfl).mono fun e W' hd =>
    ⟨hd.1, _, _, _, hd.2.choose_spec.choose_spec, good.use (by omega), hw, by simp only; omega⟩
/-- The last grant. -/
def LastPost (w0 : World) (X B C most k : Nat) (e : Ending) (W : World) : Prop := e = .returned (.bool true) ∧ ∃ x vw vg, Ends w0 X B C most x x.s x.us vw vg W ∧ Good most k x ∧ x.s = x.us ∧ x.us + most - x.g2 < max (most / 2) 1
theorem last_any (w0 : World) (X B C most k : Nat) (x : Two) (vw vg : Value) (W : World) (hm : 1 ≤ most) (hm2 : most ≤ 256) (hk : k ≤ 200) (good : Good most k x) (h : Ends w0 X B C most x x.s x.us vw vg W) (hw : x.way = []) (hu : x.tk - x.us = 0) :
    Calls Try.prog 27 #[.pointer (some ⟨X, 0, none⟩), .agg #[.int .u8 7, .int .u8 0]] W (LastPost w0 X B C most (k + 1)) := by
  have e1 : x.s = x.us := by
    have h1 := good.ut
    have h2 := good.st
    rw [hw] at h2
    simp at h2
    omega
  by_cases hd : x.us + most - x.g2 < max (most / 2) 1
  · exact (does_grant_not w0 X B C most k 0 x vw vg W hm hm2 hk (by omega) good h hd).mono fun e W' hd' => ⟨hd'.1, _, _, _, hd'.2.choose_spec.choose_spec, good.more (by omega), e1, hd⟩
  · exact (does_grant w0 X B C most k 0 x vw vg W hm hm2 hk (by omega) good h (by omega)).mono fun e W' hd' => ⟨hd'.1, _, _, _, hd'.2.choose_spec.choose_spec, good.grant, e1, by simp only; omega⟩
/-- With all grants told, half can be spent. -/
theorem end_any {most k : Nat} {x : Two} (hm : 1 ≤ most) (good : Good most k x) (hs : x.s = x.us) (hd : x.us + most - x.g2 < max (most / 2) 1) (ha : ∀ t ∈ x.grants, t ≤ x.g) : x.s ≤ x.g ∧ most / 2 ≤ x.g - x.s ∧ 1 ≤ x.g - x.s := by
  have h1 := good.gg
  have h2 : x.g = x.g2 := by
    rcases good.last with e | e
    · exact e
    · have := ha _ e; omega
  have h3 := good.sg
  omega
end Go.Proofs.Ytbmhgdfkkiepaaa
