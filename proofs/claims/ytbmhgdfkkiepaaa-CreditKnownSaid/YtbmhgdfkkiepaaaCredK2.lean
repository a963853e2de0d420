/-
  CreditKnown: the walk.
-/
import Derived.Test.YtbmhgdfkkiepaaaCredK
import Derived.LoopN
namespace Go.Proofs.Ytbmhgdfkkiepaaa
open Go.RowKit

set_option maxRecDepth 100000 in
set_option maxHeartbeats 2000000 in
theorem known_walk (w : World) : Calls Try.prog 6 #[] w (TruePost w) := by
  go_enter Try.func6, Try.ntmps6
  have i0 : ∀ v, Sem.run Try.prog (Instr.index 67 (.agg #[.int .i64 0, .int .i64 (-1), .int .i64 8193]) (.int .i64 0)) v = .ok (.int .i64 0) v := by intro v; kernel_rfl
  have i1 : ∀ v, Sem.run Try.prog (Instr.index 67 (.agg #[.int .i64 0, .int .i64 (-1), .int .i64 8193]) (.int .i64 1)) v = .ok (.int .i64 (-1)) v := by intro v; kernel_rfl
  have i2 : ∀ v, Sem.run Try.prog (Instr.index 67 (.agg #[.int .i64 0, .int .i64 (-1), .int .i64 8193]) (.int .i64 2)) v = .ok (.int .i64 8193) v := by intro v; kernel_rfl
  go_wp2_with fail
  have hS : Sp ((w.alloc (.cells #[.int .u64 0, .int .u64 0, .int .u64 0] 64)).alloc (.cells #[.int .u64 0, .int .u64 0, .int .u64 0, .int .u64 0] 66)) w.heap.size 0 0 0 := alloc_old _ (alloc_new _ _)
  have hG : Gv ((w.alloc (.cells #[.int .u64 0, .int .u64 0, .int .u64 0] 64)).alloc (.cells #[.int .u64 0, .int .u64 0, .int .u64 0, .int .u64 0] 66)) (w.heap.size + 1) 0 0 0 0 := by
    have := alloc_new (w.alloc (.cells #[.int .u64 0, .int .u64 0, .int .u64 0] 64)) (.cells #[.int .u64 0, .int .u64 0, .int .u64 0, .int .u64 0] 66)
    rw [World.size_alloc] at this; exact this
  have hb : Below w.heap.size w ((w.alloc (.cells #[.int .u64 0, .int .u64 0, .int .u64 0] 64)).alloc (.cells #[.int .u64 0, .int .u64 0, .int .u64 0, .int .u64 0] 66)) := ((Below.refl _ _).alloc (Nat.le_refl _) _).alloc (by simp) _
  generalize ((w.alloc (.cells #[.int .u64 0, .int .u64 0, .int .u64 0] 64)).alloc (.cells #[.int .u64 0, .int .u64 0, .int .u64 0, .int .u64 0] 66)) = w1 at hS hG hb ⊢
  refine (grant_nil _).mono ?_
  rintro e w' ⟨rfl, n1, rfl⟩
  have hS1 : Sp (w1.drewN n1) w.heap.size 0 0 0 := hS
  have hG1 : Gv (w1.drewN n1) (w.heap.size + 1) 0 0 0 0 := hG
  have hb1 := below_drewN hb n1
  clear hS hG hb
  generalize w1.drewN n1 = w2 at hS1 hG1 hb1 ⊢
  go_wp2_with fail
  refine (spend_nil 0 _).mono ?_; rintro e w' ⟨rfl, rfl⟩
  go_wp2_with fail
  refine (granted_zero _ 0 0 0 _ hS1).mono ?_; rintro e w' ⟨rfl, rfl⟩
  go_wp2_with fail
  refine (left_nil _).mono ?_; rintro e w' ⟨rfl, rfl⟩
  go_wp2_with fail
  refine (take_nil 0 _).mono ?_; rintro e w' ⟨rfl, rfl⟩
  go_wp2_with fail
  refine (use_zero _ 0 0 0 0 _ hG1).mono ?_; rintro e w' ⟨rfl, rfl⟩
  go_wp2_with fail
  refine (held_zero _ 0 0 0 _ hG1).mono ?_; rintro e w' ⟨rfl, rfl⟩
  clear hS1 hG1
  go_wp2_with fail
  refine wp_loop_rounds 4 ?_
  rw [rounds_succ]
  go_wp2_with fail
  refine (news_bad 0 (.inl (by omega)) _).mono ?_; rintro e w3 ⟨rfl, h3⟩
  have hb2 := below_then hb1 (Nat.le_refl _) h3; clear hb1 h3
  go_wp2_with fail
  refine (newg_bad 0 (.inl (by omega)) _).mono ?_; rintro e w4 ⟨rfl, h3⟩
  have hb3 := below_then hb2 (Nat.le_refl _) h3; clear hb2 h3
  go_wp2_with fail
  rw [rounds_succ]
  go_wp2_with fail
  refine (news_bad (-1) (.inl (by omega)) _).mono ?_; rintro e w5 ⟨rfl, h3⟩
  have hb4 := below_then hb3 (Nat.le_refl _) h3; clear hb3 h3
  go_wp2_with fail
  refine (newg_bad (-1) (.inl (by omega)) _).mono ?_; rintro e w6 ⟨rfl, h3⟩
  have hb5 := below_then hb4 (Nat.le_refl _) h3; clear hb4 h3
  go_wp2_with fail
  rw [rounds_succ]
  go_wp2_with fail
  refine (news_bad 8193 (.inr (by omega)) _).mono ?_; rintro e w7 ⟨rfl, h3⟩
  have hb6 := below_then hb5 (Nat.le_refl _) h3; clear hb5 h3
  go_wp2_with fail
  refine (newg_bad 8193 (.inr (by omega)) _).mono ?_; rintro e w8 ⟨rfl, h3⟩
  have hb7 := below_then hb6 (Nat.le_refl _) h3; clear hb6 h3
  go_wp2_with fail
  rw [rounds_succ]
  go_wp2_with fail
  refine (news_good 1 (by omega) (by omega) _).mono ?_
  rintro e w9 ⟨B, hB1, rfl, hS, hb⟩
  replace hB1 := Nat.le_trans hb7.size hB1
  replace hb7 := below_then hb7 (Nat.le_refl _) hb
  clear hb
  go_wp2_with fail
  refine (newg_good 1 (by omega) (by omega) _).mono ?_
  rintro e w10 ⟨C, hC1, rfl, hG, hb⟩
  have hBC : B ≠ C := by have := block_lt hS; omega
  have hCn : w.heap.size ≤ C := Nat.le_trans hb7.size hC1
  replace hS := below_block hS hb
  replace hb7 := below_then hb7 (Nat.le_refl _) hb
  clear hb hC1
  go_wp2_with fail
  refine (spend_ok B 1 1 0 (by omega) (by omega) (by omega) 0 (by omega) _ hS).mono ?_
  rintro e w11 ⟨rfl, hS3, hg⟩
  have hG3 := keep_block hG hg hBC.symm
  have hb3 := below_grown hb7 (Nat.le_refl _) hB1 hg
  clear hS hG hb7 hg
  go_wp2_with fail
  refine (spend_ok B 1 1 0 (by omega) (by omega) (by omega) 1 (by omega) _ hS3).mono ?_
  rintro e w12 ⟨rfl, hS, hg⟩
  have hG := keep_block hG3 hg hBC.symm
  have hb7 := below_grown hb3 (Nat.le_refl _) hB1 hg
  clear hS3 hG3 hb3 hg
  go_wp2_with fail
  refine (spend_busy B 1 1 (0 + 1) (by omega) (by omega) (by omega) 1 (by omega) (by omega) (by omega) _ hS).mono ?_
  rintro e w' ⟨rfl, n4, rfl⟩
  have hS4 : Sp (w12.drewN n4) B 1 1 (0 + 1) := hS
  have hG4 : Gv (w12.drewN n4) C 1 1 0 0 := hG
  have hb4 := below_drewN hb7 n4
  clear hS hG hb7
  generalize w12.drewN n4 = w13 at hS4 hG4 hb4 ⊢
  go_wp2_with fail
  refine (take_ok C 1 1 0 0 (by omega) (by omega) (by omega) 1 (by omega) _ hG4).mono ?_
  rintro e w14 ⟨rfl, hG5, hg⟩
  have hS5 := keep_block hS4 hg hBC
  have hb5 := below_grown hb4 (Nat.le_refl _) hCn hg
  clear hS4 hG4 hb4 hg
  go_wp2_with fail
  refine (take_full C 1 1 (0 + 1) 0 (by omega) (by omega) (by omega) 1 (by omega) (by omega) (by omega) _ hG5).mono ?_
  rintro e w' ⟨rfl, n5, rfl⟩
  have hS4 : Sp (w14.drewN n5) B 1 1 (0 + 1) := hS5
  have hG4 : Gv (w14.drewN n5) C 1 1 (0 + 1) 0 := hG5
  have hb4 := below_drewN hb5 n5
  clear hS5 hG5 hb5
  generalize w14.drewN n5 = w15 at hS4 hG4 hb4 ⊢
  go_wp2_with fail
  refine (grant_not C 1 1 (0 + 1) 0 (by omega) (by omega) (by omega) (by omega) (by omega) _ hG4).mono ?_
  rintro e w' ⟨rfl, n6, rfl⟩
  have hS5 : Sp (w15.drewN n6) B 1 1 (0 + 1) := hS4
  have hG5 : Gv (w15.drewN n6) C 1 1 (0 + 1) 0 := hG4
  have hb5 := below_drewN hb4 n6
  clear hS4 hG4 hb4
  generalize w15.drewN n6 = w16 at hS5 hG5 hb5 ⊢
  go_wp2_with fail
  refine (use_ok C 1 1 (0 + 1) 0 (by omega) (by omega) (by omega) 1 (by omega) _ hG5).mono ?_
  rintro e w17 ⟨rfl, hG6, hg⟩
  have hS6 := keep_block hS5 hg hBC
  have hb6 := below_grown hb5 (Nat.le_refl _) hCn hg
  clear hS5 hG5 hb5 hg
  go_wp2_with fail
  refine (grant_due C 1 1 (0 + 1) (0 + 1) (by omega) (by omega) (by omega) (by omega) (by omega) _ hG6).mono ?_
  rintro e w18 ⟨rfl, hG7, hg⟩
  have hS7 := keep_block hS6 hg hBC
  have hb7 := below_grown hb6 (Nat.le_refl _) hCn hg
  clear hS6 hG6 hb6 hg
  go_wp2_with fail
  refine (grant_not C 1 (0 + 1 + 1) (0 + 1) (0 + 1) (by omega) (by omega) (by omega) (by omega) (by omega) _ hG7).mono ?_
  rintro e w' ⟨rfl, n7, rfl⟩
  have hS8 : Sp (w18.drewN n7) B 1 1 (0 + 1) := hS7
  have hb8 := below_drewN hb7 n7
  clear hS7 hG7 hb7
  generalize w18.drewN n7 = w19 at hS8 hb8 ⊢
  go_wp2_with fail
  refine (news_good 8192 (by omega) (by omega) _).mono ?_
  rintro e w20 ⟨D, hD1, rfl, hD, hb⟩
  have hBD : B ≠ D := by have := block_lt hS8; omega
  have hDn : w.heap.size ≤ D := Nat.le_trans hb8.size hD1
  replace hS8 := below_block hS8 hb
  replace hb8 := below_then hb8 (Nat.le_refl _) hb
  clear hb hD1
  go_wp2_with fail
  refine (granted_range B 1 1 (0 + 1) (by omega) (by omega) (by omega) 3 (by omega) (by omega) _ hS8).mono ?_
  rintro e w' ⟨rfl, n8, rfl⟩
  have hS9 : Sp (w20.drewN n8) B 1 1 (0 + 1) := hS8
  have hD9 : Sp (w20.drewN n8) D 8192 8192 0 := hD
  have hb9 := below_drewN hb8 n8
  clear hS8 hD hb8
  generalize w20.drewN n8 = w21 at hS9 hD9 hb9 ⊢
  go_wp2_with fail
  refine (granted_ok B 1 1 (0 + 1) (by omega) (by omega) (by omega) (by omega) 2 (by omega) (by omega) _ hS9).mono ?_
  rintro e w22 ⟨rfl, hS10, hg⟩
  have hD10 := keep_block hD9 hg hBD.symm
  have hb10 := below_grown hb9 (Nat.le_refl _) hB1 hg
  clear hS9 hD9 hb9 hg
  go_wp2_with fail
  refine (left_any B 1 (max 1 2) (0 + 1) (by omega) (by omega) (by omega) _ hS10).mono ?_
  rintro e w' ⟨rfl, n9, rfl⟩
  have hD11 : Sp (w22.drewN n9) D 8192 8192 0 := hD10
  have hb11 := below_drewN hb10 n9
  clear hS10 hD10 hb10
  generalize w22.drewN n9 = w23 at hD11 hb11 ⊢
  go_wp2_with fail
  refine (left_any D 8192 8192 0 (by omega) (by omega) (by omega) _ hD11).mono ?_
  rintro e w' ⟨rfl, n10, rfl⟩
  have hD12 : Sp (w23.drewN n10) D 8192 8192 0 := hD11
  have hb12 := below_drewN hb11 n10
  clear hD11 hb11
  generalize w23.drewN n10 = w24 at hD12 hb12 ⊢
  go_wp2_with fail
  refine (granted_range D 8192 8192 0 (by omega) (by omega) (by omega) 9223372036854775808 (by omega) (by omega) _ hD12).mono ?_
  rintro e w' ⟨rfl, n11, rfl⟩
  have hb13 := below_drewN hb12 n11
  clear hD12 hb12
  generalize w24.drewN n11 = w25 at hb13 ⊢
  go_wp2_with fail
  refine (wakes9 _).mono ?_
  rintro e w26 ⟨rfl, hb⟩
  have hb14 := below_then hb13 (Nat.le_refl _) hb
  go_wp2_with fail
  go_ret
  exact ⟨rfl, hb14⟩
end Go.Proofs.Ytbmhgdfkkiepaaa
