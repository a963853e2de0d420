/-
  SeqAsked's plain law: what a range asks and gives, up to a stop. Numbers alone.
-/
import Derived.Test.YtmghgjokleeigaaIter2
namespace Go.Proofs.Ytmghgjokleeigaa

/-- Is number x (of a span from fr) not had? -/
def notHad (fr had x : Nat) : Bool := !had.testBit ((x - fr) % 64)
/-- Of the first k numbers, those that are missing. -/
def missF (fr had k : Nat) : List Nat := (List.range' fr k).filter (notHad fr had)
theorem missF_in (fr had k : Nat) (h : notHad fr had (fr + k) = true) : missF fr had (k + 1) = missF fr had k ++ [fr + k] := by
  unfold missF
  rw [List.range'_concat, List.filter_append]
  simp [h]
theorem missF_out (fr had k : Nat) (h : notHad fr had (fr + k) = false) : missF fr had (k + 1) = missF fr had k := by
  unfold missF
  rw [List.range'_concat, List.filter_append]
  simp [h]
theorem missF_len (fr had k : Nat) : (missF fr had k).length ≤ k := by
  unfold missF
  refine Nat.le_trans (List.length_filter_le _ _) ?_
  rw [List.length_range']; omega
theorem missF_mono (fr had : Nat) {j k : Nat} (h : j ≤ k) : (missF fr had j).length ≤ (missF fr had k).length := by
  induction k with
  | zero => obtain rfl : j = 0 := by omega
            exact Nat.le_refl _
  | succ k ih =>
    by_cases e : j = k + 1
    · subst e; exact Nat.le_refl _
    · refine Nat.le_trans (ih (by omega)) ?_
      cases hb : notHad fr had (fr + k) with
      | true => rw [missF_in _ _ _ hb]; simp
      | false => rw [missF_out _ _ _ hb]; exact Nat.le_refl _
/-- It stops behind K of m numbers: st are told and one more, or all have come. -/
structure Stops (fr had m st K : Nat) : Prop where
  le : K ≤ m
  here : K = m ∨ st < (missF fr had K).length
  not : ∀ k, k < K → (missF fr had k).length ≤ st
theorem Stops.unique {fr had m st K L : Nat} (h : Stops fr had m st K) (h' : Stops fr had m st L) : K = L := by
  rcases Nat.lt_trichotomy K L with hlt | e | hlt
  · have h1 := h'.not K hlt
    have h2 := h'.le
    rcases h.here with e | e <;> omega
  · exact e
  · have h1 := h.not L hlt
    have h2 := h.le
    rcases h'.here with e | e <;> omega
theorem and_one_bit (had j : Nat) (h : had ≤ 18446744073709551615) : bits BinOp.and IntKind.u64 (((had / 2 ^ j : Nat)) : Int) 1 = if had.testBit j then 1 else 0 := by
  have hd : had / 2 ^ j ≤ had := Nat.div_le_self _ _
  have e := Go.u64_and_nat (had / 2 ^ j) 1 (by omega) (by omega)
  rw [show ((1 : Nat) : Int) = 1 from rfl] at e
  rw [e, Nat.and_one_is_mod, Nat.testBit_eq_decide_div_mod_eq]
  by_cases h1 : had / 2 ^ j % 2 = 1
  · simp [h1]
  · have : had / 2 ^ j % 2 = 0 := by omega
    simp [this]
end Go.Proofs.Ytmghgjokleeigaa
