/-
  The chapter's example of credit (wakes). No condition.
-/
import Derived.Test.YtbmhgdfkkiepaaaCred3
namespace Go.Proofs.Ytbmhgdfkkiepaaa
open Go.RowKit

def TruePost (w : World) (e : Ending) (W : World) : Prop := e = .returned (.bool true) ∧ Below w.heap.size w W
theorem below_then {n0 : Nat} {w W W2 : World} (h : Below n0 w W) (hn : n0 ≤ w.heap.size) (h2 : Below W.heap.size W W2) : Below n0 w W2 := h.trans (h2.mono (Nat.le_trans hn h.size))
theorem below_drewN {n0 : Nat} {w W : World} (h : Below n0 w W) (n : Nat) : Below n0 w (W.drewN n) := ⟨h.os, h.tape, h.output, h.size, h.block⟩
theorem below_grown {n0 b : Nat} {w W W2 : World} (h : Below n0 w W) (hn : n0 ≤ w.heap.size) (hb : n0 ≤ b) (hg : W.grownBy W2 (some b)) : Below n0 w W2 :=
  h.grown hg (Nat.le_trans hn h.size) (fun k e => by cases e; exact hb)
theorem keep_block {w W : World} {b b' : Nat} {o : Obj} (h : w.heap[b]? = some o) (hg : w.grownBy W (some b')) (hne : b ≠ b') : W.heap[b]? = some o :=
  (hg.block b (block_lt h) (by simpa using hne)).trans h
theorem below_block {w W : World} {b : Nat} {o : Obj} (h : w.heap[b]? = some o) (hb : Below w.heap.size w W) : W.heap[b]? = some o := (hb.block b (block_lt h)).trans h

set_option maxRecDepth 100000 in
set_option maxHeartbeats 1000000 in
theorem wakes9 (w : World) : Calls Try.prog 14 #[] w (TruePost w) := by
  go_enter Try.func14, Try.ntmps14
  go_wp2_with fail
  refine (news_good 10 (by omega) (by omega) _).mono ?_
  rintro e w1 ⟨B, hB1, rfl, hS, hb⟩
  go_wp2_with fail
  refine (newg_good 10 (by omega) (by omega) _).mono ?_
  rintro e w2 ⟨C, hC1, rfl, hG, hb2⟩
  have hBC : B ≠ C := by have := block_lt hS; omega
  have hCn : w.heap.size ≤ C := Nat.le_trans hb.size hC1
  replace hS := below_block hS hb2
  replace hb := below_then hb (Nat.le_refl _) hb2
  clear hb2 hC1
  go_wp2_with fail
  refine (spend_ok B 10 10 0 (by omega) (by omega) (by omega) 7 (by omega) _ hS).mono ?_
  rintro e w3 ⟨rfl, hS3, hg⟩
  have hG3 := keep_block hG hg hBC.symm
  have hb3 := below_grown hb (Nat.le_refl _) hB1 hg
  clear hS hG hb hg
  go_wp2_with fail
  refine (spend_busy B 10 10 (0 + 7) (by omega) (by omega) (by omega) 4 (by omega) (by omega) (by omega) _ hS3).mono ?_
  rintro e w4 ⟨rfl, n4, rfl⟩
  have hS4 : Sp (w3.drewN n4) B 10 10 (0 + 7) := hS3
  have hG4 : Gv (w3.drewN n4) C 10 10 0 0 := hG3
  have hb4 := below_drewN hb3 n4
  clear hS3 hG3 hb3
  generalize w3.drewN n4 = w4 at hS4 hG4 hb4 ⊢
  go_wp2_with fail
  refine (take_ok C 10 10 0 0 (by omega) (by omega) (by omega) 7 (by omega) _ hG4).mono ?_
  rintro e w5 ⟨rfl, hG5, hg⟩
  have hS5 := keep_block hS4 hg hBC
  have hb5 := below_grown hb4 (Nat.le_refl _) hCn hg
  clear hS4 hG4 hb4 hg
  go_wp2_with fail
  refine (use_ok C 10 10 (0 + 7) 0 (by omega) (by omega) (by omega) 4 (by omega) _ hG5).mono ?_
  rintro e w6 ⟨rfl, hG6, hg⟩
  have hS6 := keep_block hS5 hg hBC
  have hb6 := below_grown hb5 (Nat.le_refl _) hCn hg
  clear hS5 hG5 hb5 hg
  go_wp2_with fail
  refine (grant_not C 10 10 (0 + 7) (0 + 4) (by omega) (by omega) (by omega) (by omega) (by omega) _ hG6).mono ?_
  rintro e w7 ⟨rfl, n7, rfl⟩
  have hS7 : Sp (w6.drewN n7) B 10 10 (0 + 7) := hS6
  have hG7 : Gv (w6.drewN n7) C 10 10 (0 + 7) (0 + 4) := hG6
  have hb7 := below_drewN hb6 n7
  clear hS6 hG6 hb6
  generalize w6.drewN n7 = w7 at hS7 hG7 hb7 ⊢
  go_wp2_with fail
  refine (use_ok C 10 10 (0 + 7) (0 + 4) (by omega) (by omega) (by omega) 1 (by omega) _ hG7).mono ?_
  rintro e w8 ⟨rfl, hG8, hg⟩
  have hS8 := keep_block hS7 hg hBC
  have hb8 := below_grown hb7 (Nat.le_refl _) hCn hg
  clear hS7 hG7 hb7 hg
  go_wp2_with fail
  refine (grant_due C 10 10 (0 + 7) (0 + 4 + 1) (by omega) (by omega) (by omega) (by omega) (by omega) _ hG8).mono ?_
  rintro e w9 ⟨rfl, hG9, hg⟩
  have hS9 := keep_block hS8 hg hBC
  have hb9 := below_grown hb8 (Nat.le_refl _) hCn hg
  clear hS8 hG8 hb8 hg hG9
  go_wp2_with fail
  refine (granted_ok B 10 10 (0 + 7) (by omega) (by omega) (by omega) (by omega) 15 (by omega) (by omega) _ hS9).mono ?_
  rintro e w10 ⟨rfl, hS10, hg⟩
  have hb10 := below_grown hb9 (Nat.le_refl _) hB1 hg
  clear hS9 hb9 hg
  go_wp2_with fail
  refine (spend_ok B 10 (max 10 15) (0 + 7) (by omega) (by omega) (by omega) 8 (by omega) _ hS10).mono ?_
  rintro e w11 ⟨rfl, hS11, hg⟩
  have hb11 := below_grown hb10 (Nat.le_refl _) hB1 hg
  go_wp2_with fail
  go_ret
  exact ⟨rfl, hb11⟩
end Go.Proofs.Ytbmhgdfkkiepaaa
