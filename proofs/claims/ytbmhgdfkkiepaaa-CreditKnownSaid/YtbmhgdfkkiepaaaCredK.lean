/-
  CreditKnown: no end, empty ends, limits that are none. The walk.
-/
import Derived.Test.YtbmhgdfkkiepaaaCredW
namespace Go.Proofs.Ytbmhgdfkkiepaaa
open Go.RowKit

theorem snone_nil (w : World) : Calls Try.prog 42 #[.pointer none] w fun e W => e = .returned (.bool true) ∧ w = W := by
  go_enter Try.func42, Try.ntmps42
  go_wp2
  go_ret
  exact ⟨rfl, rfl⟩
theorem snone_zero (B g s : Nat) (w : World) (h : Sp w B 0 g s) : Calls Try.prog 42 #[.pointer (some ⟨B, 0, none⟩)] w fun e W => e = .returned (.bool true) ∧ w = W := by
  obtain ⟨c0, c1, c2, _⟩ := three_cell h
  go_enter Try.func42, Try.ntmps42
  go_wp2
  go_ret
  exact ⟨rfl, rfl⟩
theorem gnone_nil (w : World) : Calls Try.prog 44 #[.pointer none] w fun e W => e = .returned (.bool true) ∧ w = W := by
  go_enter Try.func44, Try.ntmps44
  go_wp2
  go_ret
  exact ⟨rfl, rfl⟩
theorem gnone_zero (B g s u : Nat) (w : World) (h : Gv w B 0 g s u) : Calls Try.prog 44 #[.pointer (some ⟨B, 0, none⟩)] w fun e W => e = .returned (.bool true) ∧ w = W := by
  obtain ⟨c0, c1, c2, _⟩ := four_cell h
  go_enter Try.func44, Try.ntmps44
  go_wp2
  go_ret
  exact ⟨rfl, rfl⟩
theorem spend_nil (n : Int) (w : World) : Calls Try.prog 15 #[.pointer none, .int .i64 n] w fun e W => e = .returned (.int .i64 2) ∧ w = W := by
  go_enter Try.func15, Try.ntmps15
  go_wp2_with (go_at_call 42; refine (snone_nil _).mono ?_; rintro e w' ⟨rfl, rfl⟩)
  go_ret
  exact ⟨rfl, rfl⟩
theorem granted_zero (B g s t : Nat) (w : World) (h : Sp w B 0 g s) : Calls Try.prog 17 #[.pointer (some ⟨B, 0, none⟩), .int .u64 t] w fun e W => e = .returned (.int .i64 2) ∧ w = W := by
  go_enter Try.func17, Try.ntmps17
  go_wp2_with (go_at_call 42; refine (snone_zero B g s _ h).mono ?_; rintro e w' ⟨rfl, rfl⟩)
  go_ret
  exact ⟨rfl, rfl⟩
theorem left_nil (w : World) : Calls Try.prog 25 #[.pointer none] w fun e W => e = .returned (.int .i64 0) ∧ w = W := by
  go_enter Try.func25, Try.ntmps25
  go_wp2_with (go_at_call 42; refine (snone_nil _).mono ?_; rintro e w' ⟨rfl, rfl⟩)
  go_ret
  exact ⟨rfl, rfl⟩
theorem take_nil (n : Int) (w : World) : Calls Try.prog 19 #[.pointer none, .int .i64 n] w fun e W => e = .returned (.int .i64 2) ∧ w = W := by
  go_enter Try.func19, Try.ntmps19
  go_wp2_with (go_at_call 44; refine (gnone_nil _).mono ?_; rintro e w' ⟨rfl, rfl⟩)
  go_ret
  exact ⟨rfl, rfl⟩
theorem use_zero (B g s u : Nat) (n : Int) (w : World) (h : Gv w B 0 g s u) : Calls Try.prog 21 #[.pointer (some ⟨B, 0, none⟩), .int .i64 n] w fun e W => e = .returned (.int .i64 2) ∧ w = W := by
  go_enter Try.func21, Try.ntmps21
  go_wp2_with (go_at_call 44; refine (gnone_zero B g s u _ h).mono ?_; rintro e w' ⟨rfl, rfl⟩)
  go_ret
  exact ⟨rfl, rfl⟩
theorem held_zero (B g s u : Nat) (w : World) (h : Gv w B 0 g s u) : Calls Try.prog 26 #[.pointer (some ⟨B, 0, none⟩)] w fun e W => e = .returned (.int .i64 0) ∧ w = W := by
  go_enter Try.func26, Try.ntmps26
  go_wp2_with (go_at_call 44; refine (gnone_zero B g s u _ h).mono ?_; rintro e w' ⟨rfl, rfl⟩)
  go_ret
  exact ⟨rfl, rfl⟩
theorem grant_nil (w : World) : Calls Try.prog 23 #[.pointer none] w (QuietU w (.tuple #[.int .u64 0, .bool false])) := by
  go_enter Try.func23, Try.ntmps23
  go_wp2_with fail
  go_quiet ((go_at_call 44; exact quiet_same (gnone_nil _)))
  go_wp2_with fail
  go_ret2
  exact ⟨rfl, nq, rfl⟩
end Go.Proofs.Ytbmhgdfkkiepaaa
