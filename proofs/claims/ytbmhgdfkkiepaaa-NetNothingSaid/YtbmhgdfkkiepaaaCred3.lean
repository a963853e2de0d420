/-
  Grant where it is due; the makers. Amounts stay under 2^40.
-/
import Derived.Test.YtbmhgdfkkiepaaaCred2
import Derived.BigRegion
namespace Go.Proofs.Ytbmhgdfkkiepaaa
open Go.RowKit

theorem grown_then {a b c : World} {r : Option Nat} (h : a.grownBy b r) (k : b.grownBy c r) : a.grownBy c r :=
  ⟨k.os.trans h.os, k.tape.trans h.tape, k.output.trans h.output, Nat.le_trans h.size k.size, fun i hi hr => (k.block i (Nat.lt_of_lt_of_le hi h.size) hr).trans (h.block i hi hr)⟩

def GrantPost (w : World) (B most taken used : Nat) (e : Ending) (W : World) : Prop := e = .returned (.tuple #[.int .u64 ((used + most : Nat) : Int), .bool true]) ∧ Gv W B most (used + most) taken used ∧ w.grownBy W (some B)
set_option maxRecDepth 100000 in
set_option maxHeartbeats 400000 in
theorem grant_due (B most granted taken used : Nat) (hm : most ≠ 0) (hm2 : most ≤ 8192) (hs : granted ≤ used + most) (hg : used ≤ 1099511627776) (hd : max (most / 2) 1 ≤ used + most - granted) (w : World) (h : Gv w B most granted taken used) :
    Calls Try.prog 23 #[.pointer (some ⟨B, 0, none⟩)] w (GrantPost w B most taken used) := by
  obtain ⟨c0, c1, c2, c3, f0, f1, f2, f3⟩ := four_cell h
  by_cases h1 : (most : Int) / 2 < 1
  · have h2 : ¬ (used : Int) + most - granted < 1 := by omega
    go_enter Try.func23, Try.ntmps23
    go_wp2_with fail
    go_quiet ((go_at_call 44; exact quiet_same (gnone_any B most granted taken used hm _ h)))
    go_wp2_with fail
    have h' : Gv (w.drewN nq) B most granted taken used := h
    clear h c0 c1 c2 c3 f0 f1 f2 f3
    have hg' : w.grownBy (w.drewN nq) (some B) := ⟨rfl, rfl, rfl, Nat.le_refl _, fun _ _ _ => rfl⟩
    generalize w.drewN nq = w2 at h' hg' ⊢
    obtain ⟨c0, c1, c2, c3, f0, f1, f2, f3⟩ := four_cell h'
    go_region
    go_wp2_with fail
    go_ret2
    exact ⟨rfl, set_cells h', grown_then hg' (grown_set_drewN w2 1 _ _ _)⟩
  · have h2 : ¬ (used : Int) + most - granted < (most : Int) / 2 := by omega
    go_enter Try.func23, Try.ntmps23
    go_wp2_with fail
    go_quiet ((go_at_call 44; exact quiet_same (gnone_any B most granted taken used hm _ h)))
    go_wp2_with fail
    have h' : Gv (w.drewN nq) B most granted taken used := h
    clear h c0 c1 c2 c3 f0 f1 f2 f3
    have hg' : w.grownBy (w.drewN nq) (some B) := ⟨rfl, rfl, rfl, Nat.le_refl _, fun _ _ _ => rfl⟩
    generalize w.drewN nq = w2 at h' hg' ⊢
    obtain ⟨c0, c1, c2, c3, f0, f1, f2, f3⟩ := four_cell h'
    go_region
    go_wp2_with fail
    go_ret2
    exact ⟨rfl, set_cells h', grown_then hg' (grown_set_drewN w2 1 _ _ _)⟩

theorem made_bad (n : Int) (h : n < 1 ∨ 8192 < n) (w : World) : Calls Try.prog 41 #[.int .i64 n] w fun e W => e = .returned (.tuple #[.agg #[.int .u64 0, .int .u64 0], .bool false]) ∧ w.alloc (.cells #[.int .u64 0, .int .u64 0] 62) = W := by
  go_enter Try.func41, Try.ntmps41
  rcases h with h | h
  · go_wp2_with fail
    exact bodyPost_ret (v := .tuple #[.agg #[.int .u64 0, .int .u64 0], .bool false]) (by simp [results, Try.results41, go_sem]) rfl ⟨rfl, rfl⟩
  · have h1 : ¬ n < 1 := by omega
    go_wp2_with fail
    exact bodyPost_ret (v := .tuple #[.agg #[.int .u64 0, .int .u64 0], .bool false]) (by simp [results, Try.results41, go_sem]) rfl ⟨rfl, rfl⟩
theorem made_good (n : Nat) (h1 : 1 ≤ n) (h2 : n ≤ 8192) (w : World) : Calls Try.prog 41 #[.int .i64 n] w fun e W => e = .returned (.tuple #[.agg #[.int .u64 n, .int .u64 n], .bool true]) ∧ w.alloc (.cells #[.int .u64 n, .int .u64 n] 62) = W := by
  go_enter Try.func41, Try.ntmps41
  go_wp2_with fail
  exact bodyPost_ret (v := .tuple #[.agg #[.int .u64 n, .int .u64 n], .bool true]) (by simp [results, Try.results41, go_sem]) rfl ⟨rfl, rfl⟩

/-- A maker's answer where the limit is none; what lay, lies. -/
def BadPost (w : World) (e : Ending) (W : World) : Prop := e = .returned (.tuple #[.pointer none, .int .i64 1]) ∧ Below w.heap.size w W
def NewSPost (w : World) (n : Nat) (e : Ending) (W : World) : Prop := ∃ B, w.heap.size ≤ B ∧ e = .returned (.tuple #[.pointer (some ⟨B, 0, none⟩), .int .i64 0]) ∧ Sp W B n n 0 ∧ Below w.heap.size w W
def NewGPost (w : World) (n : Nat) (e : Ending) (W : World) : Prop := ∃ B, w.heap.size ≤ B ∧ e = .returned (.tuple #[.pointer (some ⟨B, 0, none⟩), .int .i64 0]) ∧ Gv W B n n 0 0 ∧ Below w.heap.size w W
theorem news_bad (n : Int) (h : n < 1 ∨ 8192 < n) (w : World) : Calls Try.prog 11 #[.int .i64 n] w (BadPost w) := by
  have H := Lib.hid h; clear h
  go_enter Try.func11, Try.ntmps11
  go_wp2_with (go_at_call 41; refine (made_bad n H.out _).mono ?_; rintro e w' ⟨rfl, rfl⟩)
  go_ret2
  exact ⟨rfl, ((Below.refl _ _).alloc (Nat.le_refl _) _).alloc (by simp) _⟩
theorem newg_bad (n : Int) (h : n < 1 ∨ 8192 < n) (w : World) : Calls Try.prog 12 #[.int .i64 n] w (BadPost w) := by
  have H := Lib.hid h; clear h
  go_enter Try.func12, Try.ntmps12
  go_wp2_with (go_at_call 41; refine (made_bad n H.out _).mono ?_; rintro e w' ⟨rfl, rfl⟩)
  go_ret2
  exact ⟨rfl, ((Below.refl _ _).alloc (Nat.le_refl _) _).alloc (by simp) _⟩
theorem news_good (n : Nat) (h1 : 1 ≤ n) (h2 : n ≤ 8192) (w : World) : Calls Try.prog 11 #[.int .i64 n] w (NewSPost w n) := by
  go_enter Try.func11, Try.ntmps11
  go_wp2_with (go_at_call 41; refine (made_good n h1 h2 _).mono ?_; rintro e w' ⟨rfl, rfl⟩)
  go_ret2
  refine ⟨w.heap.size + 1 + 1, by omega, rfl, ?_, (((Below.refl _ _).alloc (Nat.le_refl _) _).alloc (by simp) _).alloc (by simp; omega) _⟩
  unfold Sp
  simp only [alloc_at, World.size_alloc]
  simp
theorem newg_good (n : Nat) (h1 : 1 ≤ n) (h2 : n ≤ 8192) (w : World) : Calls Try.prog 12 #[.int .i64 n] w (NewGPost w n) := by
  go_enter Try.func12, Try.ntmps12
  go_wp2_with (go_at_call 41; refine (made_good n h1 h2 _).mono ?_; rintro e w' ⟨rfl, rfl⟩)
  go_ret2
  refine ⟨w.heap.size + 1 + 1, by omega, rfl, ?_, (((Below.refl _ _).alloc (Nat.le_refl _) _).alloc (by simp) _).alloc (by simp; omega) _⟩
  unfold Gv
  simp only [alloc_at, World.size_alloc]
  simp
end Go.Proofs.Ytbmhgdfkkiepaaa
