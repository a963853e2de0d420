/-
  Every call of a spender and of a giver, and the document's, under one law for each. Amounts stay under 2^40.
-/
import Derived.Test.YtbmhgdfkkiepaaaCredW
namespace Go.Proofs.Ytbmhgdfkkiepaaa
open Go.RowKit

/-- n is added to s where g bears it; else the code c. -/
def addR (c : Int) (g s : Nat) (n : Int) : Int × Nat := if n < 0 then (1, s) else if (g : Int) - s < n then (c, s) else (0, s + n.toNat)
/-- A grant taken. -/
def grantedR (most g s t : Nat) : Int × Nat := if s + most < t then (24, g) else (0, max g t)
/-- A grant given. -/
def grantR (most g u : Nat) : (Nat × Bool) × Nat := if u + most - g < max (most / 2) 1 then ((0, false), g) else ((u + most, true), u + most)
def UPost (w : World) (B : Nat) (S : Nat → World → Prop) (r : Int × Nat) (e : Ending) (W : World) : Prop := e = .returned (.int .i64 r.1) ∧ S r.2 W ∧ w.grownBy W (some B)
theorem grown_drewN (w : World) (n : Nat) (b : Option Nat) : w.grownBy (w.drewN n) b := ⟨rfl, rfl, rfl, Nat.le_refl _, fun _ _ _ => rfl⟩
theorem grown_self (w : World) (b : Option Nat) : w.grownBy w b := ⟨rfl, rfl, rfl, Nat.le_refl _, fun _ _ _ => rfl⟩

theorem spend_u (B most g s : Nat) (n : Int) (hm : most ≠ 0) (hs : s ≤ g) (hg : g ≤ 1099511627776) (hn : n ≤ 9223372036854775807) (w : World) (h : Sp w B most g s) :
    Calls Try.prog 15 #[.pointer (some ⟨B, 0, none⟩), .int .i64 n] w (UPost w B (fun s' W => Sp W B most g s') (addR 8 g s n)) := by
  unfold addR
  by_cases h1 : n < 0
  · rw [if_pos h1]
    exact (spend_neg B most g s hm n h1 w h).mono fun e W k => ⟨k.1, k.2 ▸ h, k.2 ▸ grown_self w _⟩
  · by_cases h2 : (g : Int) - s < n
    · rw [if_neg h1, if_pos h2]
      exact (spend_busy B most g s hm hs hg n (by omega) hn h2 w h).mono fun e W k => ⟨k.1, by obtain ⟨_, m, rfl⟩ := k; exact h, by obtain ⟨_, m, rfl⟩ := k; exact grown_drewN w m _⟩
    · rw [if_neg h1, if_neg h2]
      obtain ⟨m, rfl⟩ := Int.eq_ofNat_of_zero_le (show 0 ≤ n by omega)
      exact (spend_ok B most g s hm hs hg m (by omega) w h).mono fun e W k => ⟨k.1, k.2.1, k.2.2⟩
theorem take_u (B most g t u : Nat) (n : Int) (hm : most ≠ 0) (hs : t ≤ g) (hg : g ≤ 1099511627776) (hn : n ≤ 9223372036854775807) (w : World) (h : Gv w B most g t u) :
    Calls Try.prog 19 #[.pointer (some ⟨B, 0, none⟩), .int .i64 n] w (UPost w B (fun t' W => Gv W B most g t' u) (addR 7 g t n)) := by
  unfold addR
  by_cases h1 : n < 0
  · rw [if_pos h1]
    exact (take_neg B most g t u hm n h1 w h).mono fun e W k => ⟨k.1, k.2 ▸ h, k.2 ▸ grown_self w _⟩
  · by_cases h2 : (g : Int) - t < n
    · rw [if_neg h1, if_pos h2]
      exact (take_full B most g t u hm hs hg n (by omega) hn h2 w h).mono fun e W k => ⟨k.1, by obtain ⟨_, m, rfl⟩ := k; exact h, by obtain ⟨_, m, rfl⟩ := k; exact grown_drewN w m _⟩
    · rw [if_neg h1, if_neg h2]
      obtain ⟨m, rfl⟩ := Int.eq_ofNat_of_zero_le (show 0 ≤ n by omega)
      exact (take_ok B most g t u hm hs hg m (by omega) w h).mono fun e W k => ⟨k.1, k.2.1, k.2.2⟩
theorem use_u (B most g t u : Nat) (n : Int) (hm : most ≠ 0) (hs : u ≤ t) (hg : t ≤ 1099511627776) (hn : n ≤ 9223372036854775807) (w : World) (h : Gv w B most g t u) :
    Calls Try.prog 21 #[.pointer (some ⟨B, 0, none⟩), .int .i64 n] w (UPost w B (fun u' W => Gv W B most g t u') (addR 1 t u n)) := by
  unfold addR
  by_cases h1 : n < 0
  · rw [if_pos h1]
    exact (use_neg B most g t u hm n h1 w h).mono fun e W k => ⟨k.1, by obtain ⟨_, m, rfl⟩ := k; exact h, by obtain ⟨_, m, rfl⟩ := k; exact grown_drewN w m _⟩
  · by_cases h2 : (t : Int) - u < n
    · rw [if_neg h1, if_pos h2]
      exact (use_more B most g t u hm hs hg n (by omega) hn h2 w h).mono fun e W k => ⟨k.1, by obtain ⟨_, m, rfl⟩ := k; exact h, by obtain ⟨_, m, rfl⟩ := k; exact grown_drewN w m _⟩
    · rw [if_neg h1, if_neg h2]
      obtain ⟨m, rfl⟩ := Int.eq_ofNat_of_zero_le (show 0 ≤ n by omega)
      exact (use_ok B most g t u hm hs hg m (by omega) w h).mono fun e W k => ⟨k.1, k.2.1, k.2.2⟩
theorem granted_u (B most g s t : Nat) (hm : most ≠ 0) (hm2 : most ≤ 8192) (hs : s ≤ 1099511627776) (hg : g ≤ 1099511627776) (ht : t ≤ 18446744073709551615) (w : World) (h : Sp w B most g s) :
    Calls Try.prog 17 #[.pointer (some ⟨B, 0, none⟩), .int .u64 t] w (UPost w B (fun g' W => Sp W B most g' s) (grantedR most g s t)) := by
  unfold grantedR
  by_cases h1 : s + most < t
  · rw [if_pos h1]
    exact (granted_range B most g s hm hm2 hs t ht h1 w h).mono fun e W k => ⟨k.1, by obtain ⟨_, m, rfl⟩ := k; exact h, by obtain ⟨_, m, rfl⟩ := k; exact grown_drewN w m _⟩
  · rw [if_neg h1]
    exact (granted_ok B most g s hm hm2 hs hg t ht (by omega) w h).mono fun e W k => ⟨k.1, k.2.1, k.2.2⟩
def GrantU (w : World) (B most t u : Nat) (k : IntKind) (S : Nat → World → Prop) (r : (Nat × Bool) × Nat) (e : Ending) (W : World) : Prop := e = .returned (.tuple #[.int k r.1.1, .bool r.1.2]) ∧ S r.2 W ∧ w.grownBy W (some B)
theorem grant_u (B most g t u : Nat) (hm : most ≠ 0) (hm2 : most ≤ 8192) (hs : g ≤ u + most) (hg : u ≤ 1099511627776) (w : World) (h : Gv w B most g t u) :
    Calls Try.prog 23 #[.pointer (some ⟨B, 0, none⟩)] w (GrantU w B most t u .u64 (fun g' W => Gv W B most g' t u) (grantR most g u)) := by
  unfold grantR
  by_cases h1 : u + most - g < max (most / 2) 1
  · rw [if_pos h1]
    exact (grant_not B most g t u hm hm2 hs hg h1 w h).mono fun e W k => ⟨k.1, by obtain ⟨_, m, rfl⟩ := k; exact h, by obtain ⟨_, m, rfl⟩ := k; exact grown_drewN w m _⟩
  · rw [if_neg h1]
    exact (grant_due B most g t u hm hm2 hs hg (by omega) w h).mono fun e W k => ⟨k.1, k.2.1, k.2.2⟩

/-! ### The document's -/
theorem may_any (n : Int) (w : World) : Calls Try.prog 13 #[.int .i64 n] w fun e W => e = .returned (.bool (decide (1 ≤ n ∧ n ≤ 8192))) ∧ w = W := by
  by_cases h : 1 ≤ n
  · go_enter Try.func13, Try.ntmps13
    go_wp2
    go_ret
    exact ⟨ret_bool (by simp [h]), rfl⟩
  · go_enter Try.func13, Try.ntmps13
    go_wp2
    go_ret
    exact ⟨ret_bool (by simp; omega), rfl⟩
theorem set_u {w : World} {b o : Nat} {c : Array Value} {x : Value} {t : TypeId} (n : Nat) (h : w.heap[b]? = some (.cells c t (0, 0))) : ((w.drewN n).setCell ⟨b, o, none⟩ x).heap[b]? = some (.cells (c.setIfInBounds o x) t (0, 0)) := set_cells (w := w.drewN n) h
theorem rspend_u (B most g s : Nat) (n : Int) (hs : s ≤ g) (hg : g ≤ 1099511627776) (hn : n ≤ 9223372036854775807) (w : World) (h : RSp w B most g s) :
    Calls Try.prog 16 #[.pointer (some ⟨B, 0, none⟩), .int .i64 n] w (UPost w B (fun s' W => RSp W B most g s') (addR 8 g s n)) := by
  obtain ⟨c0, c1, c2, f0, f1, f2⟩ := three_cell h
  unfold addR
  by_cases h1 : n < 0
  · rw [if_pos h1]
    go_enter Try.func16, Try.ntmps16
    go_wp2_with fail
    go_ret
    exact ⟨rfl, h, grown_self w _⟩
  · by_cases h2 : (g : Int) - s < n
    · rw [if_neg h1, if_pos h2]
      go_enter Try.func16, Try.ntmps16
      go_wp2_with fail
      go_quiet (fail)
      go_wp2_with fail
      go_ret
      exact ⟨rfl, h, grown_drewN w _ _⟩
    · rw [if_neg h1, if_neg h2]
      obtain ⟨m, rfl⟩ := Int.eq_ofNat_of_zero_le (show 0 ≤ n by omega)
      go_enter Try.func16, Try.ntmps16
      go_wp2_with fail
      go_quiet (fail)
      go_wp2_with fail
      go_ret
      exact ⟨rfl, set_u _ h, grown_set_drewN w _ _ _ _⟩
theorem rtake_u (B most g t u : Nat) (n : Int) (hs : t ≤ g) (hg : g ≤ 1099511627776) (hn : n ≤ 9223372036854775807) (w : World) (h : RGv w B most g t u) :
    Calls Try.prog 20 #[.pointer (some ⟨B, 0, none⟩), .int .i64 n] w (UPost w B (fun t' W => RGv W B most g t' u) (addR 7 g t n)) := by
  obtain ⟨c0, c1, c2, c3, f0, f1, f2, f3⟩ := four_cell h
  unfold addR
  by_cases h1 : n < 0
  · rw [if_pos h1]
    go_enter Try.func20, Try.ntmps20
    go_wp2_with fail
    go_ret
    exact ⟨rfl, h, grown_self w _⟩
  · by_cases h2 : (g : Int) - t < n
    · rw [if_neg h1, if_pos h2]
      go_enter Try.func20, Try.ntmps20
      go_wp2_with fail
      go_quiet (fail)
      go_wp2_with fail
      go_ret
      exact ⟨rfl, h, grown_drewN w _ _⟩
    · rw [if_neg h1, if_neg h2]
      obtain ⟨m, rfl⟩ := Int.eq_ofNat_of_zero_le (show 0 ≤ n by omega)
      go_enter Try.func20, Try.ntmps20
      go_wp2_with fail
      go_quiet (fail)
      go_wp2_with fail
      go_ret
      exact ⟨rfl, set_u _ h, grown_set_drewN w _ _ _ _⟩
theorem ruse_u (B most g t u : Nat) (n : Int) (hs : u ≤ t) (hg : t ≤ 1099511627776) (hn : n ≤ 9223372036854775807) (w : World) (h : RGv w B most g t u) :
    Calls Try.prog 22 #[.pointer (some ⟨B, 0, none⟩), .int .i64 n] w (UPost w B (fun u' W => RGv W B most g t u') (addR 1 t u n)) := by
  obtain ⟨c0, c1, c2, c3, f0, f1, f2, f3⟩ := four_cell h
  unfold addR
  by_cases h1 : n < 0
  · rw [if_pos h1]
    have d1 : decide (n < 0) = true := decide_eq_true h1
    go_enter Try.func22, Try.ntmps22
    go_wp2_with fail
    go_quiet (fail)
    go_wp2_with fail
    go_ret
    exact ⟨rfl, h, grown_drewN w _ _⟩
  · have d1 : decide (n < 0) = false := decide_eq_false h1
    by_cases h2 : (t : Int) - u < n
    · rw [if_neg h1, if_pos h2]
      go_enter Try.func22, Try.ntmps22
      go_wp2_with fail
      go_quiet (fail)
      go_wp2_with fail
      go_ret
      exact ⟨rfl, h, grown_drewN w _ _⟩
    · rw [if_neg h1, if_neg h2]
      obtain ⟨m, rfl⟩ := Int.eq_ofNat_of_zero_le (show 0 ≤ n by omega)
      go_enter Try.func22, Try.ntmps22
      go_wp2_with fail
      go_quiet (fail)
      go_wp2_with fail
      go_ret
      exact ⟨rfl, set_u _ h, grown_set_drewN w _ _ _ _⟩
theorem rgranted_u (B most g s t : Nat) (hm2 : most ≤ 8192) (hs : s ≤ 1099511627776) (hg : g ≤ 1099511627776) (ht : t ≤ 18446744073709551615) (w : World) (h : RSp w B most g s) :
    Calls Try.prog 18 #[.pointer (some ⟨B, 0, none⟩), .int .u64 t] w (UPost w B (fun g' W => RSp W B most g' s) (grantedR most g s t)) := by
  obtain ⟨c0, c1, c2, f0, f1, f2⟩ := three_cell h
  unfold grantedR
  by_cases h1 : s + most < t
  · rw [if_pos h1]
    have h1' : (s : Int) + most < t := by omega
    go_enter Try.func18, Try.ntmps18
    go_wp2_with fail
    go_quiet (fail)
    go_wp2_with fail
    go_ret
    exact ⟨rfl, h, grown_drewN w _ _⟩
  · rw [if_neg h1]
    have h1' : ¬ (s : Int) + most < t := by omega
    by_cases h2 : g < t
    · rw [Nat.max_eq_right (by omega)]
      go_enter Try.func18, Try.ntmps18
      go_wp2_with fail
      go_quiet (fail)
      go_wp2_with fail
      go_ret
      exact ⟨rfl, set_u _ h, grown_set_drewN w _ _ _ _⟩
    · rw [Nat.max_eq_left (by omega)]
      go_enter Try.func18, Try.ntmps18
      go_wp2_with fail
      go_quiet (fail)
      go_wp2_with fail
      go_ret
      exact ⟨rfl, h, grown_drewN w _ _⟩
set_option maxRecDepth 100000 in
theorem rgrant_u (B most g t u : Nat) (hm : most ≠ 0) (hm2 : most ≤ 8192) (hs : g ≤ u + most) (hg : u ≤ 1099511627776) (w : World) (h : RGv w B most g t u) :
    Calls Try.prog 24 #[.pointer (some ⟨B, 0, none⟩)] w (GrantU w B most t u .i64 (fun g' W => RGv W B most g' t u) (grantR most g u)) := by
  obtain ⟨c0, c1, c2, c3, f0, f1, f2, f3⟩ := four_cell h
  unfold grantR
  by_cases h1 : u + most - g < max (most / 2) 1
  · rw [if_pos h1]
    by_cases h3 : most = 1
    · subst h3
      have h2 : (u : Int) + 1 - g < 1 := by omega
      go_enter Try.func24, Try.ntmps24
      go_wp2_with fail
      go_quiet (fail)
      go_wp2_with fail
      go_ret2
      exact ⟨rfl, h, grown_drewN w _ _⟩
    · have h4 : ((most : Int) / 2 == 0) = false := by rw [beq_eq_false_iff_ne]; omega
      have h2 : (u : Int) + most - g < (most : Int) / 2 := by omega
      go_enter Try.func24, Try.ntmps24
      go_wp2_with fail
      go_quiet (fail)
      go_wp2_with fail
      go_ret2
      exact ⟨rfl, h, grown_drewN w _ _⟩
  · rw [if_neg h1]
    by_cases h3 : most = 1
    · subst h3
      have h2 : ¬ (u : Int) + 1 - g < 1 := by omega
      go_enter Try.func24, Try.ntmps24
      go_wp2_with fail
      go_quiet (fail)
      go_wp2_with fail
      have h' : RGv (w.drewN nq) B 1 g t u := h
      have hg' := grown_drewN w nq (some B)
      clear h c0 c1 c2 c3 f0 f1 f2 f3
      generalize w.drewN nq = w2 at h' hg' ⊢
      obtain ⟨c0, c1, c2, c3, f0, f1, f2, f3⟩ := four_cell h'
      go_region
      go_wp2_with fail
      go_ret2
      exact ⟨rfl, set_cells h', grown_then hg' (grown_set_drewN w2 1 _ _ _)⟩
    · have h4 : ((most : Int) / 2 == 0) = false := by rw [beq_eq_false_iff_ne]; omega
      have h2 : ¬ (u : Int) + most - g < (most : Int) / 2 := by omega
      go_enter Try.func24, Try.ntmps24
      go_wp2_with fail
      go_quiet (fail)
      go_wp2_with fail
      have h' : RGv (w.drewN nq) B most g t u := h
      have hg' := grown_drewN w nq (some B)
      clear h c0 c1 c2 c3 f0 f1 f2 f3
      generalize w.drewN nq = w2 at h' hg' ⊢
      obtain ⟨c0, c1, c2, c3, f0, f1, f2, f3⟩ := four_cell h'
      go_region
      go_wp2_with fail
      go_ret2
      exact ⟨rfl, set_cells h', grown_then hg' (grown_set_drewN w2 1 _ _ _)⟩
end Go.Proofs.Ytbmhgdfkkiepaaa
