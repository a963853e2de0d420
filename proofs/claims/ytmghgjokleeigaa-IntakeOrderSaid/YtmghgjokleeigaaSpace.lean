/-
  Space: New, Next, Used, Left, and the document's New and Next, each by its contract. No condition but the numbers' ranges.
-/
import Derived.Test.YtmghgjokleeigaaSl1
namespace Go.Proofs.Ytmghgjokleeigaa
open Go.RowKit Go.Shelf

theorem two_cell {w : World} {b : Nat} {v u : Value} {t : TypeId} (h : w.heap[b]? = some (.cells #[v, u] t (0, 0))) : w.cell? ⟨b, 0, none⟩ = some v ∧ w.cell? ⟨b, 1, none⟩ = some u ∧ w.frozen? ⟨b, 0, none⟩ = false ∧ w.frozen? ⟨b, 1, none⟩ = false := by
  simp [World.cell?, World.frozen?, h]
theorem two_set0 {w : World} {b : Nat} {v u x : Value} {t : TypeId} (h : w.heap[b]? = some (.cells #[v, u] t (0, 0))) : (w.setCell ⟨b, 0, none⟩ x).heap[b]? = some (.cells #[x, u] t (0, 0)) := by
  have hlt := block_lt h
  have h' : w.heap[b] = .cells #[v, u] t (0, 0) := by simpa [Array.getElem?_eq_getElem hlt] using h
  show (w.heap.modify b _)[b]? = _
  rw [Array.getElem?_eq_getElem (by simpa using hlt), Array.getElem_modify_self, h']
  rfl
theorem grown_set (w : World) (b o : Nat) (x : Value) : w.grownBy (w.setCell ⟨b, o, none⟩ x) (some b) :=
  ⟨rfl, rfl, rfl, by simp [World.setCell], fun k _ hk => Below.heap_setCell _ _ _ _ (fun e => hk (by rw [e]))⟩

theorem grown_set_drewN (w : World) (n b o : Nat) (x : Value) : w.grownBy ((w.drewN n).setCell ⟨b, o, none⟩ x) (some b) :=
  let g := grown_set (w.drewN n) b o x
  ⟨g.os, g.tape, g.output, g.size, g.block⟩

/-- A space that has given so many of its limit. -/
def Spc (W : World) (B used limit : Nat) : Prop := W.heap[B]? = some (.cells #[.int .u32 used, .int .u32 limit] 77 (0, 0))

theorem new_bad (n : Nat) (h : n < 1 ∨ 2147483648 < n) (w : World) : Calls Try.prog 33 #[.int .u32 n] w fun e W => e = .returned (.tuple #[.pointer none, .int .i64 1]) ∧ w = W := by
  go_enter Try.func33, Try.ntmps33
  rcases h with h | h
  · go_wp2
    go_ret2
    exact ⟨rfl, rfl⟩
  · have h1 : ¬ n < 1 := by omega
    go_wp2
    go_ret2
    exact ⟨rfl, rfl⟩
theorem new_good (n : Nat) (h1 : 1 ≤ n) (h2 : n ≤ 2147483648) (w : World) : Calls Try.prog 33 #[.int .u32 n] w fun e W => e = .returned (.tuple #[.pointer (some ⟨w.heap.size, 0, none⟩), .int .i64 0]) ∧ w.alloc (.cells #[.int .u32 0, .int .u32 n] 77) = W := by
  go_enter Try.func33, Try.ntmps33
  go_wp2
  go_ret2
  exact ⟨rfl, rfl⟩
theorem none_any (B used limit : Nat) (hl : limit ≠ 0) (w : World) (h : Spc w B used limit) : Calls Try.prog 69 #[.pointer (some ⟨B, 0, none⟩)] w fun e W => e = .returned (.bool false) ∧ w = W := by
  obtain ⟨c0, c1, f0, f1⟩ := two_cell h
  have hl' : ((limit : Int) == 0) = false := by rw [beq_eq_false_iff_ne]; omega
  go_enter Try.func69, Try.ntmps69
  go_wp2
  go_ret
  exact ⟨rfl, rfl⟩
def NextPost (w : World) (B used limit : Nat) (e : Ending) (W : World) : Prop :=
  if used < limit then e = .returned (.tuple #[.int .u32 used, .int .i64 0]) ∧ Spc W B (used + 1) limit ∧ w.grownBy W (some B)
  else e = .returned (.tuple #[.int .u32 0, .int .i64 7]) ∧ Spc W B used limit ∧ w.grownBy W (some B)
theorem next_any (B used limit : Nat) (hl : limit ≠ 0) (hu : used ≤ limit) (hl2 : limit ≤ 2147483648) (w : World) (h : Spc w B used limit) : Calls Try.prog 35 #[.pointer (some ⟨B, 0, none⟩)] w (NextPost w B used limit) := by
  obtain ⟨c0, c1, f0, f1⟩ := two_cell h
  by_cases hlt : used < limit
  · have hq : ((used : Int) == (limit : Int)) = false := by rw [beq_eq_false_iff_ne]; omega
    go_enter Try.func35, Try.ntmps35
    go_wp2_with (go_at_call 69; refine (none_any B used limit hl _ h).mono ?_; rintro e w' ⟨rfl, rfl⟩)
    go_quiet (fail)
    go_wp2_with fail
    go_ret2
    unfold NextPost
    rw [if_pos hlt]
    exact ⟨rfl, by have := two_set0 (w := w.drewN nq) (x := .int .u32 ((used : Int) + 1)) h; exact this, grown_set_drewN w nq _ _ _⟩
  · have hq : ((used : Int) == (limit : Int)) = true := by rw [beq_iff_eq]; omega
    go_enter Try.func35, Try.ntmps35
    go_wp2_with (go_at_call 69; refine (none_any B used limit hl _ h).mono ?_; rintro e w' ⟨rfl, rfl⟩)
    go_quiet (fail)
    go_wp2_with fail
    go_ret2
    unfold NextPost
    rw [if_neg hlt]
    exact ⟨rfl, h, rfl, rfl, rfl, Nat.le_refl _, fun _ _ _ => rfl⟩
theorem used_any (B used limit : Nat) (hl : limit ≠ 0) (w : World) (h : Spc w B used limit) : Calls Try.prog 37 #[.pointer (some ⟨B, 0, none⟩)] w fun e W => e = .returned (.int .u32 used) ∧ w = W := by
  obtain ⟨c0, c1, f0, f1⟩ := two_cell h
  go_enter Try.func37, Try.ntmps37
  go_wp2_with (go_at_call 69; refine (none_any B used limit hl _ h).mono ?_; rintro e w' ⟨rfl, rfl⟩)
  go_ret
  exact ⟨rfl, rfl⟩
theorem left_any (B used limit : Nat) (hl : limit ≠ 0) (hu : used ≤ limit) (hl2 : limit ≤ 2147483648) (w : World) (h : Spc w B used limit) : Calls Try.prog 38 #[.pointer (some ⟨B, 0, none⟩)] w (QuietU w (.int .u32 ((limit : Int) - used))) := by
  obtain ⟨c0, c1, f0, f1⟩ := two_cell h
  have e1 : IntKind.u32.wrap ((limit : Int) - used) = (limit : Int) - used := by rw [IntKind.wrap_u32]; omega
  go_enter Try.func38, Try.ntmps38
  go_wp2_with (go_at_call 69; refine (none_any B used limit hl _ h).mono ?_; rintro e w' ⟨rfl, rfl⟩)
  go_quiet (fail)
  go_wp2_with fail
  go_ret
  exact ⟨rfl, nq, rfl⟩

/-- The document's space. -/
def RSpc (W : World) (B used limit : Nat) : Prop := W.heap[B]? = some (.cells #[.int .u32 used, .int .u32 limit] 60 (0, 0))
theorem rnew_bad (n : Nat) (h : n < 1 ∨ 2147483648 < n) (w : World) : Calls Try.prog 34 #[.int .u32 n] w fun e W => e = .returned (.tuple #[.pointer none, .int .i64 1]) ∧ w = W := by
  go_enter Try.func34, Try.ntmps34
  rcases h with h | h
  · obtain rfl : n = 0 := by omega
    go_wp2
    go_ret2
    exact ⟨rfl, rfl⟩
  · have h1 : ((n : Int) == 0) = false := by rw [beq_eq_false_iff_ne]; omega
    go_wp2
    go_ret2
    exact ⟨rfl, rfl⟩
theorem rnew_good (n : Nat) (h1 : 1 ≤ n) (h2 : n ≤ 2147483648) (w : World) : Calls Try.prog 34 #[.int .u32 n] w fun e W => e = .returned (.tuple #[.pointer (some ⟨w.heap.size, 0, none⟩), .int .i64 0]) ∧ w.alloc (.cells #[.int .u32 0, .int .u32 n] 60) = W := by
  have h0 : ((n : Int) == 0) = false := by rw [beq_eq_false_iff_ne]; omega
  go_enter Try.func34, Try.ntmps34
  go_wp2
  go_ret2
  exact ⟨rfl, rfl⟩
def RNextPost (w : World) (B used limit : Nat) (e : Ending) (W : World) : Prop :=
  if used < limit then e = .returned (.tuple #[.int .u32 used, .int .i64 0]) ∧ RSpc W B (used + 1) limit ∧ w.grownBy W (some B)
  else e = .returned (.tuple #[.int .u32 0, .int .i64 7]) ∧ RSpc W B used limit ∧ w.grownBy W (some B)
theorem rnext_any (B used limit : Nat) (hu : used ≤ limit) (hl2 : limit ≤ 2147483648) (w : World) (h : RSpc w B used limit) : Calls Try.prog 36 #[.pointer (some ⟨B, 0, none⟩)] w (RNextPost w B used limit) := by
  obtain ⟨c0, c1, f0, f1⟩ := two_cell h
  by_cases hlt : used < limit
  · have hq : decide (limit ≤ used) = false := by simp; omega
    go_enter Try.func36, Try.ntmps36
    go_wp2
    go_quiet (fail)
    go_wp2_with fail
    go_ret2
    unfold RNextPost
    rw [if_pos hlt]
    exact ⟨rfl, by have := two_set0 (w := w.drewN nq) (x := .int .u32 ((used : Int) + 1)) h; exact this, grown_set_drewN w nq _ _ _⟩
  · have hq : decide (limit ≤ used) = true := by simp; omega
    go_enter Try.func36, Try.ntmps36
    go_wp2
    go_quiet (fail)
    go_wp2_with fail
    go_ret2
    unfold RNextPost
    rw [if_neg hlt]
    exact ⟨rfl, h, rfl, rfl, rfl, Nat.le_refl _, fun _ _ _ => rfl⟩
end Go.Proofs.Ytmghgjokleeigaa
