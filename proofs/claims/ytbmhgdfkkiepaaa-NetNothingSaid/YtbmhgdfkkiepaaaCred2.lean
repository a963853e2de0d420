/-
  The rest of Spender and Giver: Granted, Left, Take, Use, Grant, Held, the makers. Amounts stay under 2^40.
-/
import Derived.Test.YtbmhgdfkkiepaaaCred1
namespace Go.Proofs.Ytbmhgdfkkiepaaa
open Go.RowKit

theorem granted_range (B most granted spent : Nat) (hm : most ≠ 0) (hm2 : most ≤ 8192) (hs : spent ≤ 1099511627776) (t : Nat) (ht : t ≤ 18446744073709551615) (hr : spent + most < t) (w : World) (h : Sp w B most granted spent) :
    Calls Try.prog 17 #[.pointer (some ⟨B, 0, none⟩), .int .u64 t] w (QuietU w (.int .i64 24)) := by
  obtain ⟨c0, c1, c2, f0, f1, f2⟩ := three_cell h
  have e1 : decide (spent < t) = true := by simp; omega
  have e1' : (spent : Int) < (t : Int) := by omega
  have e2 : IntKind.u64.wrap ((t : Int) - spent) = (t : Int) - spent := by simp [IntKind.wrap, IntKind.bits, IntKind.signed]; omega
  have e3 : (most : Int) < (t : Int) - spent := by omega
  go_enter Try.func17, Try.ntmps17
  go_wp2_with (go_at_call 42; refine (snone_any B most granted spent hm _ h).mono ?_; rintro e w' ⟨rfl, rfl⟩)
  go_quiet (fail)
  clear e2
  go_wp2_with fail
  go_ret
  exact ⟨rfl, nq, rfl⟩

def GrantedPost (w : World) (B most granted spent : Nat) (e : Ending) (W : World) : Prop := e = .returned (.int .i64 0) ∧ Sp W B most granted spent ∧ w.grownBy W (some B)
theorem granted_ok (B most granted spent : Nat) (hm : most ≠ 0) (hm2 : most ≤ 8192) (hs : spent ≤ 1099511627776) (hg : granted ≤ 1099511627776) (t : Nat) (ht : t ≤ 18446744073709551615) (hr : t ≤ spent + most) (w : World) (hS : Sp w B most granted spent) :
    Calls Try.prog 17 #[.pointer (some ⟨B, 0, none⟩), .int .u64 t] w (GrantedPost w B most (max granted t) spent) := by
  obtain ⟨c0, c1, c2, f0, f1, f2⟩ := three_cell hS
  by_cases hlt : spent < t
  · have e1 : decide (spent < t) = true := by simp; omega
    have e1' : (spent : Int) < (t : Int) := by omega
    have e2 : IntKind.u64.wrap ((t : Int) - spent) = (t : Int) - spent := by simp [IntKind.wrap, IntKind.bits, IntKind.signed]; omega
    have e3 : ¬ (most : Int) < (t : Int) - spent := by omega
    go_enter Try.func17, Try.ntmps17
    go_wp2_with (go_at_call 42; refine (snone_any B most granted spent hm _ hS).mono ?_; rintro e w' ⟨rfl, rfl⟩)
    go_quiet (fail)
    clear e2
    go_wp2_with fail
    all_goals
      go_ret
      refine ⟨rfl, ?_, grown_set_drewN w nq _ _ _⟩
    · rw [Nat.max_eq_right (by omega)]; exact set_cells (w := w.drewN nq) hS
    · rw [Nat.max_eq_left (by omega)]; exact set_cells (w := w.drewN nq) hS
  · have e1 : decide (spent < t) = false := by simp; omega
    go_enter Try.func17, Try.ntmps17
    go_wp2_with (go_at_call 42; refine (snone_any B most granted spent hm _ hS).mono ?_; rintro e w' ⟨rfl, rfl⟩)
    go_quiet (fail)
    go_wp2_with fail
    all_goals
      go_ret
      refine ⟨rfl, ?_, grown_set_drewN w nq _ _ _⟩
    · rw [Nat.max_eq_right (by omega)]; exact set_cells (w := w.drewN nq) hS
    · rw [Nat.max_eq_left (by omega)]; exact set_cells (w := w.drewN nq) hS
theorem left_any (B most granted spent : Nat) (hm : most ≠ 0) (hs : spent ≤ granted) (hg : granted ≤ 1099511627776) (w : World) (h : Sp w B most granted spent) :
    Calls Try.prog 25 #[.pointer (some ⟨B, 0, none⟩)] w (QuietU w (.int .i64 ((granted : Int) - spent))) := by
  obtain ⟨c0, c1, c2, f0, f1, f2⟩ := three_cell h
  have e2 : IntKind.u64.wrap ((granted : Int) - spent) = (granted : Int) - spent := by simp [IntKind.wrap, IntKind.bits, IntKind.signed]; omega
  have e3 : IntKind.i64.wrap ((granted : Int) - spent) = (granted : Int) - spent := IntWalk.i64_in _ (by omega)
  go_enter Try.func25, Try.ntmps25
  go_wp2_with (go_at_call 42; refine (snone_any B most granted spent hm _ h).mono ?_; rintro e w' ⟨rfl, rfl⟩)
  go_quiet (fail)
  clear e2 e3
  go_wp2_with fail
  go_ret
  exact ⟨rfl, nq, rfl⟩

/-! ### Giver -/
theorem take_neg (B most granted taken used : Nat) (hm : most ≠ 0) (n : Int) (hn : n < 0) (w : World) (h : Gv w B most granted taken used) : Calls Try.prog 19 #[.pointer (some ⟨B, 0, none⟩), .int .i64 n] w fun e W => e = .returned (.int .i64 1) ∧ w = W := by
  go_enter Try.func19, Try.ntmps19
  go_wp2_with (go_at_call 44; refine (gnone_any B most granted taken used hm _ h).mono ?_; rintro e w' ⟨rfl, rfl⟩)
  go_ret
  exact ⟨rfl, rfl⟩
theorem take_full (B most granted taken used : Nat) (hm : most ≠ 0) (hs : taken ≤ granted) (hg : granted ≤ 1099511627776) (n : Int) (h0 : 0 ≤ n) (hn : n ≤ 9223372036854775807) (hn' : (granted : Int) - taken < n) (w : World) (h : Gv w B most granted taken used) :
    Calls Try.prog 19 #[.pointer (some ⟨B, 0, none⟩), .int .i64 n] w (QuietU w (.int .i64 7)) := by
  obtain ⟨c0, c1, c2, c3, f0, f1, f2, f3⟩ := four_cell h
  have h0' : ¬ n < 0 := by omega
  go_enter Try.func19, Try.ntmps19
  go_wp2_with (go_at_call 44; refine (gnone_any B most granted taken used hm _ h).mono ?_; rintro e w' ⟨rfl, rfl⟩)
  go_quiet ((go_at_call 43; exact quiet_same (fits_no taken granted n hs hg h0 hn hn' _)))
  go_wp2_with fail
  go_ret
  exact ⟨rfl, nq, rfl⟩
def GvPost (w : World) (B most granted taken used : Nat) (r : Int) (e : Ending) (W : World) : Prop := e = .returned (.int .i64 r) ∧ Gv W B most granted taken used ∧ w.grownBy W (some B)
theorem take_ok (B most granted taken used : Nat) (hm : most ≠ 0) (hs : taken ≤ granted) (hg : granted ≤ 1099511627776) (n : Nat) (hn : (n : Int) ≤ (granted : Int) - taken) (w : World) (h : Gv w B most granted taken used) :
    Calls Try.prog 19 #[.pointer (some ⟨B, 0, none⟩), .int .i64 n] w (GvPost w B most granted (taken + n) used 0) := by
  obtain ⟨c0, c1, c2, c3, f0, f1, f2, f3⟩ := four_cell h
  have h0' : ¬ (n : Int) < 0 := by omega
  go_enter Try.func19, Try.ntmps19
  go_wp2_with (go_at_call 44; refine (gnone_any B most granted taken used hm _ h).mono ?_; rintro e w' ⟨rfl, rfl⟩)
  go_quiet ((go_at_call 43; exact quiet_same (fits_yes taken granted n hs hg (by omega) hn _)))
  go_wp2_with fail
  go_ret
  exact ⟨rfl, set_cells (w := w.drewN nq) h, grown_set_drewN w nq _ _ _⟩
theorem use_neg (B most granted taken used : Nat) (hm : most ≠ 0) (n : Int) (hn : n < 0) (w : World) (h : Gv w B most granted taken used) : Calls Try.prog 21 #[.pointer (some ⟨B, 0, none⟩), .int .i64 n] w (QuietU w (.int .i64 1)) := by
  have h0' : decide (n < 0) = true := by simp; omega
  go_enter Try.func21, Try.ntmps21
  go_wp2_with (go_at_call 44; refine (gnone_any B most granted taken used hm _ h).mono ?_; rintro e w' ⟨rfl, rfl⟩)
  go_quiet (fail)
  go_wp2_with fail
  go_ret
  exact ⟨rfl, nq, rfl⟩
theorem use_more (B most granted taken used : Nat) (hm : most ≠ 0) (hs : used ≤ taken) (hg : taken ≤ 1099511627776) (n : Int) (h0 : 0 ≤ n) (hn : n ≤ 9223372036854775807) (hn' : (taken : Int) - used < n) (w : World) (h : Gv w B most granted taken used) :
    Calls Try.prog 21 #[.pointer (some ⟨B, 0, none⟩), .int .i64 n] w (QuietU w (.int .i64 1)) := by
  obtain ⟨c0, c1, c2, c3, f0, f1, f2, f3⟩ := four_cell h
  have h0' : decide (n < 0) = false := by simp; omega
  go_enter Try.func21, Try.ntmps21
  go_wp2_with (go_at_call 44; refine (gnone_any B most granted taken used hm _ h).mono ?_; rintro e w' ⟨rfl, rfl⟩)
  go_quiet ((go_at_call 43; exact quiet_same (fits_no used taken n hs hg h0 hn hn' _)))
  go_wp2_with fail
  go_ret
  exact ⟨rfl, nq, rfl⟩
theorem use_ok (B most granted taken used : Nat) (hm : most ≠ 0) (hs : used ≤ taken) (hg : taken ≤ 1099511627776) (n : Nat) (hn : (n : Int) ≤ (taken : Int) - used) (w : World) (h : Gv w B most granted taken used) :
    Calls Try.prog 21 #[.pointer (some ⟨B, 0, none⟩), .int .i64 n] w (GvPost w B most granted taken (used + n) 0) := by
  obtain ⟨c0, c1, c2, c3, f0, f1, f2, f3⟩ := four_cell h
  have h0' : decide ((n : Int) < 0) = false := by simp
  go_enter Try.func21, Try.ntmps21
  go_wp2_with (go_at_call 44; refine (gnone_any B most granted taken used hm _ h).mono ?_; rintro e w' ⟨rfl, rfl⟩)
  go_quiet ((go_at_call 43; exact quiet_same (fits_yes used taken n hs hg (by omega) hn _)))
  go_wp2_with fail
  go_ret
  exact ⟨rfl, set_cells (w := w.drewN nq) h, grown_set_drewN w nq _ _ _⟩
theorem held_any (B most granted taken used : Nat) (hm : most ≠ 0) (hs : used ≤ taken) (hg : taken ≤ 1099511627776) (w : World) (h : Gv w B most granted taken used) :
    Calls Try.prog 26 #[.pointer (some ⟨B, 0, none⟩)] w (QuietU w (.int .i64 ((taken : Int) - used))) := by
  obtain ⟨c0, c1, c2, c3, f0, f1, f2, f3⟩ := four_cell h
  have e2 : IntKind.u64.wrap ((taken : Int) - used) = (taken : Int) - used := by simp [IntKind.wrap, IntKind.bits, IntKind.signed]; omega
  have e3 : IntKind.i64.wrap ((taken : Int) - used) = (taken : Int) - used := IntWalk.i64_in _ (by omega)
  go_enter Try.func26, Try.ntmps26
  go_wp2_with (go_at_call 44; refine (gnone_any B most granted taken used hm _ h).mono ?_; rintro e w' ⟨rfl, rfl⟩)
  go_quiet (fail)
  clear e2 e3
  go_wp2_with fail
  go_ret
  exact ⟨rfl, nq, rfl⟩
theorem grant_not (B most granted taken used : Nat) (hm : most ≠ 0) (hm2 : most ≤ 8192) (hs : granted ≤ used + most) (hg : used ≤ 1099511627776) (hd : used + most - granted < max (most / 2) 1) (w : World) (h : Gv w B most granted taken used) :
    Calls Try.prog 23 #[.pointer (some ⟨B, 0, none⟩)] w (QuietU w (.tuple #[.int .u64 0, .bool false])) := by
  obtain ⟨c0, c1, c2, c3, f0, f1, f2, f3⟩ := four_cell h
  by_cases h1 : (most : Int) / 2 < 1
  · have h2 : (used : Int) + most - granted < 1 := by omega
    go_enter Try.func23, Try.ntmps23
    go_wp2_with fail
    go_quiet ((go_at_call 44; exact quiet_same (gnone_any B most granted taken used hm _ h)))
    go_wp2_with fail
    go_ret2
    exact ⟨rfl, nq, rfl⟩
  · have h2 : (used : Int) + most - granted < (most : Int) / 2 := by omega
    go_enter Try.func23, Try.ntmps23
    go_wp2_with fail
    go_quiet ((go_at_call 44; exact quiet_same (gnone_any B most granted taken used hm _ h)))
    go_wp2_with fail
    go_ret2
    exact ⟨rfl, nq, rfl⟩
end Go.Proofs.Ytbmhgdfkkiepaaa
