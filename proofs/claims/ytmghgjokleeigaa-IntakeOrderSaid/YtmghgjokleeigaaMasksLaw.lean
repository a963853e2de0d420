/-
  THE PLAIN LAW OF MASKS: what a mask tells is just the mask's bits; the mask of these is the mask again, but for the bits beyond the last number. No Go here.
-/
import Derived.Test.YtmghgjokleeigaaSeq5
namespace Go.Proofs.Ytmghgjokleeigaa

theorem maskOf_bit_aux (ack j : Nat) : ∀ (l : List Nat) (m : Nat), (l.foldl (fun m n => m ||| 2 ^ (n - ack - 1)) m).testBit j = (m.testBit j || l.any (fun n => n - ack - 1 == j)) := by
  intro l
  induction l with
  | nil => intro m; simp
  | cons x l ih =>
    intro m
    rw [List.foldl_cons, ih, Nat.testBit_or, List.any_cons, Bool.or_assoc]
    congr 2
    rw [Nat.testBit_two_pow]
    exact Bool.eq_iff_iff.2 (by simp)
theorem maskOf_bit (ack j : Nat) (l : List Nat) (h : ∀ x ∈ l, ack < x) : (maskOf ack l).testBit j = decide (ack + 1 + j ∈ l) := by
  unfold maskOf
  rw [maskOf_bit_aux]
  simp only [Nat.zero_testBit, Bool.false_or]
  rw [Bool.eq_iff_iff]
  simp only [List.any_eq_true, beq_iff_eq, decide_eq_true_eq]
  constructor
  · rintro ⟨x, hx, e⟩
    have := h x hx
    rwa [show ack + 1 + j = x from by omega]
  · intro hx
    exact ⟨_, hx, by omega⟩

theorem mem_behindL_iff (ack n : Nat) : n ∈ behindL ack ↔ ack < n ∧ n ≤ ack + 32 ∧ n ≤ 4294967295 := by
  simp only [behindL, List.mem_range'_1]
  omega
theorem behindL_len (ack : Nat) : (behindL ack).length ≤ 32 := by simp only [behindL, List.length_range']; omega

theorem mem_toldL (ack mask n : Nat) : n ∈ toldL ack mask ↔ (ack < n ∧ n ≤ ack + 32 ∧ n ≤ 4294967295) ∧ mask.testBit (n - ack - 1) = true := by
  simp only [toldL, List.mem_filter, mem_behindL_iff]
theorem toldL_len (ack mask : Nat) : (toldL ack mask).length ≤ 32 := Nat.le_trans (List.length_filter_le _ _) (behindL_len ack)
theorem toldL_take (ack mask most : Nat) (h : 32 ≤ most) : (toldL ack mask).take most = toldL ack mask := List.take_of_length_le (Nat.le_trans (toldL_len ack mask) h)

theorem filter_mem (ack mask : Nat) : (behindL ack).filter (fun n => decide (n ∈ toldL ack mask)) = toldL ack mask := by
  unfold toldL
  refine List.filter_congr ?_
  intro n hn
  rw [Bool.eq_iff_iff]
  simp [List.mem_filter, hn]

def wantOf (ack mask : Nat) : Nat := if 4294967295 - ack < 32 then mask &&& (2 ^ (4294967295 - ack) - 1) else mask

theorem wantOf_bit (ack mask j : Nat) (ha : ack ≤ 4294967295) (hm : mask ≤ 4294967295) : (wantOf ack mask).testBit j = decide (ack + 1 + j ∈ toldL ack mask) := by
  have h32 : ∀ i, 32 ≤ i → mask.testBit i = false := fun i hi => Nat.testBit_lt_two_pow (Nat.lt_of_lt_of_le (show mask < 2 ^ 32 by omega) (Nat.pow_le_pow_right (by omega) hi))
  rw [Bool.eq_iff_iff, decide_eq_true_eq, mem_toldL]
  rw [show ack + 1 + j - ack - 1 = j from by omega]
  unfold wantOf
  split
  · rw [Nat.testBit_and, Nat.testBit_two_pow_sub_one]
    simp only [Bool.and_eq_true, decide_eq_true_eq]
    constructor
    · rintro ⟨h1, h2⟩; exact ⟨by omega, h1⟩
    · rintro ⟨h1, h2⟩; exact ⟨h2, by omega⟩
  · constructor
    · intro h1
      refine ⟨?_, h1⟩
      by_cases hj : 32 ≤ j
      · rw [h32 j hj] at h1; cases h1
      · omega
    · exact fun h => h.2

theorem back_is (ack mask : Nat) (ha : ack ≤ 4294967295) (hm : mask ≤ 4294967295) : maskOf ack ((behindL ack).filter (fun n => decide (n ∈ toldL ack mask))) = wantOf ack mask := by
  rw [filter_mem]
  refine Nat.eq_of_testBit_eq fun j => ?_
  rw [maskOf_bit _ _ _ (fun x hx => ((mem_toldL ack mask x).1 hx).1.1), wantOf_bit ack mask j ha hm]

theorem all_and (ack mask : Nat) (ha : ack ≤ 4294967295) (hm : mask ≤ 4294967295) : maskOf ack (behindL ack) &&& wantOf ack mask = wantOf ack mask := by
  refine Nat.eq_of_testBit_eq fun j => ?_
  rw [Nat.testBit_and, maskOf_bit _ _ _ (fun x hx => ((mem_behindL_iff ack x).1 hx).1), wantOf_bit ack mask j ha hm, Bool.eq_iff_iff]
  simp only [Bool.and_eq_true, decide_eq_true_eq]
  constructor
  · exact fun h => h.2
  · intro h
    exact ⟨(mem_behindL_iff _ _).2 ((mem_toldL _ _ _).1 h).1, h⟩

theorem wantOf_lt (ack mask : Nat) (hm : mask ≤ 4294967295) : wantOf ack mask ≤ 4294967295 := by
  unfold wantOf
  split
  · exact Nat.le_trans Nat.and_le_left hm
  · exact hm

theorem toldL_sorted (ack mask : Nat) : ∀ i x y, (toldL ack mask)[i]? = some x → (toldL ack mask)[i + 1]? = some y → ¬ y < x := by
  have h : (toldL ack mask).Pairwise (· < ·) := by
    unfold toldL behindL
    exact List.Pairwise.filter _ (List.pairwise_lt_range')
  intro i x y hx hy
  have h1 := (List.getElem?_eq_some_iff.1 hx)
  have h2 := (List.getElem?_eq_some_iff.1 hy)
  obtain ⟨l1, rfl⟩ := h1
  obtain ⟨l2, rfl⟩ := h2
  have := List.pairwise_iff_getElem.1 h i (i + 1) l1 l2 (by omega)
  omega
end Go.Proofs.Ytmghgjokleeigaa
