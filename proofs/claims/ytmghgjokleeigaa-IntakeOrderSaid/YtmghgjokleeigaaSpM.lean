/-
  The document's Mask by its contract.
-/
import Derived.Test.YtmghgjokleeigaaSpR
namespace Go.Proofs.Ytmghgjokleeigaa
open Go.RowKit Go.Shelf

def mkL (ack : Nat) (hv : List Nat) (j : Nat) : List Nat := (List.range' (ack + 1) (min j (4294967295 - ack))).filter fun n => decide (n ∈ hv)
def mkM (ack : Nat) (hv : List Nat) (j : Nat) : Nat := maskOf ack (mkL ack hv j)
theorem mkM_32 (ack : Nat) (hv : List Nat) : mkM ack hv 32 = maskOf ack ((behindL ack).filter fun n => decide (n ∈ hv)) := rfl
theorem maskOf_bound (ack j : Nat) (l : List Nat) (h : ∀ x ∈ l, x ≤ ack + j) (h2 : ∀ x ∈ l, ack < x) : maskOf ack l < 2 ^ j := by
  refine Nat.lt_pow_two_of_testBit _ (fun k hk => ?_)
  rw [maskOf_bit ack k l h2, decide_eq_false (fun hh => by have := h _ hh; omega)]
theorem mkM_lt (ack : Nat) (hv : List Nat) (j : Nat) : mkM ack hv j < 2 ^ j := by
  refine maskOf_bound ack j _ (fun x hx => ?_) (fun x hx => ?_) <;> (have := (List.mem_filter.1 hx).1; rw [List.mem_range'_1] at this; omega)
theorem mkM_in (ack : Nat) (hv : List Nat) (j : Nat) (h : ack + 1 + j ≤ 4294967295 ∧ ack + 1 + j ∈ hv) : mkM ack hv (j + 1) = mkM ack hv j + 2 ^ j := by
  have e : mkL ack hv (j + 1) = mkL ack hv j ++ [ack + 1 + j] := by
    unfold mkL
    rw [Nat.min_eq_left (by omega), Nat.min_eq_left (by omega), List.range'_concat, List.filter_append]
    simp [h.2]
  have hl := mkM_lt ack hv j
  unfold mkM at hl ⊢
  rw [e, maskOf_snoc, show ack + 1 + j - ack - 1 = j by omega, Nat.or_comm, Nat.add_comm]
  have := Nat.two_pow_add_eq_or_of_lt hl 1
  rw [Nat.mul_one] at this
  exact this.symm
theorem mkM_out (ack : Nat) (hv : List Nat) (j : Nat) (h : ¬ (ack + 1 + j ≤ 4294967295 ∧ ack + 1 + j ∈ hv)) : mkM ack hv (j + 1) = mkM ack hv j := by
  unfold mkM
  congr 1
  unfold mkL
  by_cases h1 : ack + 1 + j ≤ 4294967295
  · rw [Nat.min_eq_left (by omega), Nat.min_eq_left (by omega), List.range'_concat, List.filter_append]
    have h2 : ack + 1 + j ∉ hv := fun hh => h ⟨h1, hh⟩
    simp [h2]
  · rw [Nat.min_eq_right (by omega), Nat.min_eq_right (by omega)]

set_option maxRecDepth 100000 in
set_option maxHeartbeats 4000000 in
theorem rmask_any (ack : Nat) (ha : ack ≤ 4294967295) (u : Value) (hv : List Nat) (w : World) (hu : RowU .u32 w u hv) (hx : hv.length ≤ 1099511627776) :
    Calls Try.prog 28 #[.int .u32 ack, u] w fun e W => e = .returned (.int .u32 (maskOf ack ((behindL ack).filter fun n => decide (n ∈ hv)))) ∧ w = W := by
  have HU := Lib.hid hu; clear hu
  rw [← mkM_32]
  go_enter Try.func28, Try.ntmps28
  go_wp2_with fail
  go_loop [5, 6, 7] (fun m b i => ∃ j : Nat, j ≤ 32 ∧ i = .int .u64 ((j + 1 : Nat) : Int) ∧ m = .int .u32 (mkM ack hv j) ∧ b = .int .u32 ((2 ^ j % 4294967296 : Nat) : Int)) (fun _ _ i => 40 - (intOf i).toNat)
  case atStart => exact ⟨0, by omega, rfl, by simp [mkM, mkL, maskOf], rfl⟩
  case round =>
    obtain ⟨j, hj, rfl, rfl, rfl⟩ := hrel
    have S1 : Hid (ack + 1 + j ≤ 4294967295 ∧ ack + 1 + j ∈ hv → mkM ack hv (j + 1) = mkM ack hv j + 2 ^ j) := Lib.hid (mkM_in ack hv j)
    have S2 : Hid (¬ (ack + 1 + j ≤ 4294967295 ∧ ack + 1 + j ∈ hv) → mkM ack hv (j + 1) = mkM ack hv j) := Lib.hid (mkM_out ack hv j)
    have S4 : Hid (j = 32 → mkM ack hv 32 = mkM ack hv j) := Lib.hid (fun h => by rw [h])
    have hML := mkM_lt ack hv j
    have hP1 : 2 ^ j ≤ 2 ^ 32 := Nat.pow_le_pow_right (by omega) hj
    have hP3 : Hid (j < 32 → 2 ^ j ≤ 2147483648) := Lib.hid (fun h => Nat.pow_le_pow_right (i := j) (j := 31) (by omega) (by omega))
    have E2 : Hid ((2 : Nat) ^ (j + 1) = 2 ^ j * 2) := Lib.hid (Nat.pow_succ _ _)
    generalize mkM ack hv j = M at hML S1 S2 S4 ⊢
    generalize (2 : Nat) ^ j = Q at hML hP1 hP3 E2 S1 ⊢
    obtain ⟨P, hP⟩ : ∃ P, P = Q % 4294967296 := ⟨_, rfl⟩
    obtain ⟨P2, hP2⟩ : ∃ P2, P2 = 2 ^ (j + 1) % 4294967296 := ⟨_, rfl⟩
    obtain ⟨K, hK⟩ : ∃ K, K = j + 1 := ⟨_, rfl⟩
    obtain ⟨N, hN⟩ : ∃ N, N = ack + K := ⟨_, rfl⟩
    have z1 : IntKind.u64.wrap (IntKind.u64.wrap (ack : Int) + (K : Int)) = (N : Int) := by simp [IntKind.wrap, IntKind.bits, IntKind.signed]; omega
    have z2 : IntKind.u32.wrap ((P : Int) * 2) = (P2 : Int) := by have := E2.out; simp [IntKind.wrap, IntKind.bits, IntKind.signed]; omega
    have hN2 : N ≤ 4294967500 := by omega
    rw [← hP, ← hK]
    have HP2 := Lib.hid hP2; have HK := Lib.hid hK; have HN := Lib.hid hN; have HP := Lib.hid hP; have HML := Lib.hid hML; have HP1 := Lib.hid hP1; have Hj := Lib.hid hj; have Ha := Lib.hid ha
    clear hP2 hK hN hP hML hP1 hj ha
    by_cases hlt : K ≤ 32
    · have h31 := hP3.out (by have := HK.out; omega)
      have fin : ∀ M2, mkM ack hv (j + 1) = M2 → (∃ j' : Nat, j' ≤ 32 ∧ Value.int .u64 ((K : Int) + 1) = .int .u64 ((j' + 1 : Nat) : Int) ∧ Value.int .u32 (M2 : Int) = .int .u32 (mkM ack hv j' : Int) ∧ Value.int .u32 (P2 : Int) = .int .u32 ((2 ^ j' % 4294967296 : Nat) : Int)) ∧ 40 - (intOf (.int .u64 ((K : Int) + 1))).toNat < 40 - (intOf (.int .u64 (K : Int))).toNat := by
        intro M2 h
        have hk := HK.out
        exact ⟨⟨j + 1, by omega, by congr 1; omega, by rw [h], by rw [HP2.out]⟩, by simp [intOf]; omega⟩
      have Fin := Lib.hid fin; clear fin
      by_cases hin : N ≤ 4294967295
      · by_cases hm : N ∈ hv
        · have C1 : Hid (Calls Try.prog 64 #[u, .int .u32 N] w fun e W => e = .returned (.bool true) ∧ w = W) := Lib.hid ((rhas_any u hv N w HU.out hx).mono fun e W h => ⟨h.1.trans (ret_bool (decide_eq_true hm)), h.2⟩)
          have e1 := S1.out ⟨by have := HK.out; have := HN.out; omega, by rw [show ack + 1 + j = N by have := HK.out; have := HN.out; omega]; exact hm⟩
          obtain ⟨M2, hM2⟩ : ∃ M2, M2 = M + Q := ⟨_, rfl⟩
          have z3 : IntKind.u32.wrap ((M : Int) + (P : Int)) = (M2 : Int) := by have := HML.out; have := HP.out; simp [IntKind.wrap, IntKind.bits, IntKind.signed]; omega
          have Z := Lib.hid (e1.trans hM2.symm)
          clear hm e1 hM2 h31 hN2
          go_wp2_with (go_at_call 64; refine C1.out.mono ?_; rintro e w' ⟨rfl, rfl⟩)
          exact Fin.out M2 Z.out
        · have C1 : Hid (Calls Try.prog 64 #[u, .int .u32 N] w fun e W => e = .returned (.bool false) ∧ w = W) := Lib.hid ((rhas_any u hv N w HU.out hx).mono fun e W h => ⟨h.1.trans (ret_bool (decide_eq_false hm)), h.2⟩)
          have e1 := Lib.hid (S2.out (by rintro ⟨_, hh⟩; rw [show ack + 1 + j = N by have := HK.out; have := HN.out; omega] at hh; exact hm hh))
          clear hm h31 hN2
          go_wp2_with (go_at_call 64; refine C1.out.mono ?_; rintro e w' ⟨rfl, rfl⟩)
          exact Fin.out M e1.out
      · have e1 := Lib.hid (S2.out (by rintro ⟨hh, _⟩; have := HK.out; have := HN.out; omega))
        clear h31
        go_wp2_with fail
        exact Fin.out M e1.out
    · have e1 := Lib.hid (S4.out (by have := HK.out; have := Hj.out; omega))
      go_wp2_with fail
      go_ret
      exact ⟨(show Ending.returned (.int .u32 (M : Int)) = .returned (.int .u32 (mkM ack hv 32 : Int)) by rw [e1.out]), rfl⟩
end Go.Proofs.Ytmghgjokleeigaa
