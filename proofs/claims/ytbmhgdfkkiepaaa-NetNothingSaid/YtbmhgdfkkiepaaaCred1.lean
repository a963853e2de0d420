/-
  Spender and Giver, and the document's, each call by its contract, a way at a time. Amounts stay under 2^40.
-/
import Derived.Test.YtbmhgdfkkiepaaaRows
import Derived.WalkKit
import Derived.BigQuiet
import Derived.Deep.QuietTactic
import Derived.WalkLawsBesides
import Derived.WalkSpells
import Derived.Lib.Hide
import Derived.OneCell
namespace Go.Proofs.Ytbmhgdfkkiepaaa
open Go.RowKit

theorem block_lt {w : World} {b : Nat} {o : Obj} (h : w.heap[b]? = some o) : b < w.heap.size := (Array.getElem?_eq_some_iff.1 h).1
theorem alloc_at (w : World) (o : Obj) (k : Nat) : (w.alloc o).heap[k]? = if k = w.heap.size then some o else w.heap[k]? := by
  show (w.heap.push o)[k]? = _
  rw [Array.getElem?_push]
theorem alloc_new (w : World) (o : Obj) : (w.alloc o).heap[w.heap.size]? = some o := by rw [alloc_at, if_pos rfl]
theorem alloc_old {w : World} {b : Nat} {o : Obj} (o' : Obj) (h : w.heap[b]? = some o) : (w.alloc o').heap[b]? = some o :=
  (Below.heap_alloc w o' b (block_lt h)).trans h
theorem grown_set_drewN (w : World) (n b o : Nat) (x : Value) : w.grownBy ((w.drewN n).setCell ⟨b, o, none⟩ x) (some b) :=
  ⟨rfl, rfl, rfl, by simp [World.setCell], fun k _ hk => Below.heap_setCell (w.drewN n) _ _ _ (fun e => hk (by rw [e]))⟩
/-- A block of cells behind a store. -/
theorem set_cells {w : World} {b o : Nat} {c : Array Value} {x : Value} {t : TypeId} (h : w.heap[b]? = some (.cells c t (0, 0))) : (w.setCell ⟨b, o, none⟩ x).heap[b]? = some (.cells (c.setIfInBounds o x) t (0, 0)) := by
  have hlt := block_lt h
  have h' : w.heap[b] = .cells c t (0, 0) := by simpa [Array.getElem?_eq_getElem hlt] using h
  show (w.heap.modify b _)[b]? = _
  rw [Array.getElem?_eq_getElem (by simpa using hlt), Array.getElem_modify_self, h']
  rfl
theorem ret_bool {a b : Bool} (h : a = b) : Ending.returned (.bool a) = .returned (.bool b) := by rw [h]
theorem ret_int {k : IntKind} {a b : Int} (h : a = b) : Ending.returned (.int k a) = .returned (.int k b) := by rw [h]
/-- The answer r, and draws alone. -/
def QuietU (w : World) (r : Value) (e : Ending) (W : World) : Prop := e = .returned r ∧ ∃ n, w.drewN n = W
theorem quiet_same {f : Nat} {args : Array Value} {w : World} {n : Nat} {v : Value} (h : Calls Try.prog f args (w.drewN n) fun e W => e = .returned v ∧ w.drewN n = W) : Calls Try.prog f args (w.drewN n) fun e w'' => e = .returned v ∧ ∃ m, w'' = w.drewN m :=
  Calls.quiet_of_same (h.mono (fun _ _ h => ⟨h.1, h.2.symm⟩))
theorem quiet_u {f : Nat} {args : Array Value} {w : World} {n : Nat} {v : Value} (h : Calls Try.prog f args (w.drewN n) (QuietU (w.drewN n) v)) : Calls Try.prog f args (w.drewN n) fun e w'' => e = .returned v ∧ ∃ m, w'' = w.drewN m :=
  h.mono (fun _ _ h => ⟨h.1, let ⟨m, hm⟩ := h.2; ⟨n + m, by rw [← hm, World.drewN_drewN]⟩⟩)

/-- A spender: what it may, was granted, has spent. -/
def Sp (W : World) (B most granted spent : Nat) : Prop := W.heap[B]? = some (.cells #[.int .u64 most, .int .u64 granted, .int .u64 spent] 64 (0, 0))
/-- A giver. -/
def Gv (W : World) (B most granted taken used : Nat) : Prop := W.heap[B]? = some (.cells #[.int .u64 most, .int .u64 granted, .int .u64 taken, .int .u64 used] 66 (0, 0))
/-- The document's. -/
def RSp (W : World) (B most granted spent : Nat) : Prop := W.heap[B]? = some (.cells #[.int .i64 most, .int .i64 granted, .int .i64 spent] 34 (0, 0))
def RGv (W : World) (B most granted taken used : Nat) : Prop := W.heap[B]? = some (.cells #[.int .i64 most, .int .i64 granted, .int .i64 taken, .int .i64 used] 37 (0, 0))
theorem three_cell {w : World} {b : Nat} {x y z : Value} {t : TypeId} (h : w.heap[b]? = some (.cells #[x, y, z] t (0, 0))) : w.cell? ⟨b, 0, none⟩ = some x ∧ w.cell? ⟨b, 1, none⟩ = some y ∧ w.cell? ⟨b, 2, none⟩ = some z ∧ w.frozen? ⟨b, 0, none⟩ = false ∧ w.frozen? ⟨b, 1, none⟩ = false ∧ w.frozen? ⟨b, 2, none⟩ = false := by
  simp [World.cell?, World.frozen?, h]
theorem four_cell {w : World} {b : Nat} {x y z u : Value} {t : TypeId} (h : w.heap[b]? = some (.cells #[x, y, z, u] t (0, 0))) : w.cell? ⟨b, 0, none⟩ = some x ∧ w.cell? ⟨b, 1, none⟩ = some y ∧ w.cell? ⟨b, 2, none⟩ = some z ∧ w.cell? ⟨b, 3, none⟩ = some u ∧ w.frozen? ⟨b, 0, none⟩ = false ∧ w.frozen? ⟨b, 1, none⟩ = false ∧ w.frozen? ⟨b, 2, none⟩ = false ∧ w.frozen? ⟨b, 3, none⟩ = false := by
  simp [World.cell?, World.frozen?, h]

theorem snone_any (B most granted spent : Nat) (hm : most ≠ 0) (w : World) (h : Sp w B most granted spent) : Calls Try.prog 42 #[.pointer (some ⟨B, 0, none⟩)] w fun e W => e = .returned (.bool false) ∧ w = W := by
  obtain ⟨c0, c1, c2, _⟩ := three_cell h
  have hl' : ((most : Int) == 0) = false := by rw [beq_eq_false_iff_ne]; omega
  go_enter Try.func42, Try.ntmps42
  go_wp2
  go_ret
  exact ⟨rfl, rfl⟩
theorem gnone_any (B most granted taken used : Nat) (hm : most ≠ 0) (w : World) (h : Gv w B most granted taken used) : Calls Try.prog 44 #[.pointer (some ⟨B, 0, none⟩)] w fun e W => e = .returned (.bool false) ∧ w = W := by
  obtain ⟨c0, c1, c2, _⟩ := four_cell h
  have hl' : ((most : Int) == 0) = false := by rw [beq_eq_false_iff_ne]; omega
  go_enter Try.func44, Try.ntmps44
  go_wp2
  go_ret
  exact ⟨rfl, rfl⟩
theorem fits_any (s g : Nat) (n : Int) (hs : s ≤ g) (hg : g ≤ 1099511627776) (h0 : 0 ≤ n) (hn : n ≤ 9223372036854775807) (w : World) : Calls Try.prog 43 #[.int .u64 s, .int .i64 n, .int .u64 g] w fun e W => e = .returned (.bool (decide (n ≤ (g : Int) - s))) ∧ w = W := by
  go_enter Try.func43, Try.ntmps43
  go_wp2
  go_ret
  exact ⟨rfl, rfl⟩
theorem fits_yes (s g : Nat) (n : Int) (hs : s ≤ g) (hg : g ≤ 1099511627776) (h0 : 0 ≤ n) (hn : n ≤ (g : Int) - s) (w : World) : Calls Try.prog 43 #[.int .u64 s, .int .i64 n, .int .u64 g] w fun e W => e = .returned (.bool true) ∧ w = W :=
  (fits_any s g n hs hg h0 (by omega) w).mono (fun _ _ h => ⟨h.1.trans (ret_bool (decide_eq_true hn)), h.2⟩)
theorem fits_no (s g : Nat) (n : Int) (hs : s ≤ g) (hg : g ≤ 1099511627776) (h0 : 0 ≤ n) (hn : n ≤ 9223372036854775807) (hn' : (g : Int) - s < n) (w : World) : Calls Try.prog 43 #[.int .u64 s, .int .i64 n, .int .u64 g] w fun e W => e = .returned (.bool false) ∧ w = W :=
  (fits_any s g n hs hg h0 hn w).mono (fun _ _ h => ⟨h.1.trans (ret_bool (decide_eq_false (by omega))), h.2⟩)

/-! ### Spender -/
theorem spend_neg (B most granted spent : Nat) (hm : most ≠ 0) (n : Int) (hn : n < 0) (w : World) (h : Sp w B most granted spent) : Calls Try.prog 15 #[.pointer (some ⟨B, 0, none⟩), .int .i64 n] w fun e W => e = .returned (.int .i64 1) ∧ w = W := by
  go_enter Try.func15, Try.ntmps15
  go_wp2_with (go_at_call 42; refine (snone_any B most granted spent hm _ h).mono ?_; rintro e w' ⟨rfl, rfl⟩)
  go_ret
  exact ⟨rfl, rfl⟩
theorem spend_busy (B most granted spent : Nat) (hm : most ≠ 0) (hs : spent ≤ granted) (hg : granted ≤ 1099511627776) (n : Int) (h0 : 0 ≤ n) (hn : n ≤ 9223372036854775807) (hn' : (granted : Int) - spent < n) (w : World) (h : Sp w B most granted spent) :
    Calls Try.prog 15 #[.pointer (some ⟨B, 0, none⟩), .int .i64 n] w (QuietU w (.int .i64 8)) := by
  obtain ⟨c0, c1, c2, f0, f1, f2⟩ := three_cell h
  have h0' : ¬ n < 0 := by omega
  go_enter Try.func15, Try.ntmps15
  go_wp2_with (go_at_call 42; refine (snone_any B most granted spent hm _ h).mono ?_; rintro e w' ⟨rfl, rfl⟩)
  go_quiet ((go_at_call 43; exact quiet_same (fits_no spent granted n hs hg h0 hn hn' _)))
  go_wp2_with fail
  go_ret
  exact ⟨rfl, nq, rfl⟩
def SpendPost (w : World) (B most granted spent : Nat) (r : Int) (e : Ending) (W : World) : Prop := e = .returned (.int .i64 r) ∧ Sp W B most granted spent ∧ w.grownBy W (some B)
theorem spend_ok (B most granted spent : Nat) (hm : most ≠ 0) (hs : spent ≤ granted) (hg : granted ≤ 1099511627776) (n : Nat) (hn : (n : Int) ≤ (granted : Int) - spent) (w : World) (h : Sp w B most granted spent) :
    Calls Try.prog 15 #[.pointer (some ⟨B, 0, none⟩), .int .i64 n] w (SpendPost w B most granted (spent + n) 0) := by
  obtain ⟨c0, c1, c2, f0, f1, f2⟩ := three_cell h
  have h0' : ¬ (n : Int) < 0 := by omega
  go_enter Try.func15, Try.ntmps15
  go_wp2_with (go_at_call 42; refine (snone_any B most granted spent hm _ h).mono ?_; rintro e w' ⟨rfl, rfl⟩)
  go_quiet ((go_at_call 43; exact quiet_same (fits_yes spent granted n hs hg (by omega) hn _)))
  go_wp2_with fail
  go_ret
  refine ⟨rfl, ?_, grown_set_drewN w nq _ _ _⟩
  exact set_cells (w := w.drewN nq) h
end Go.Proofs.Ytbmhgdfkkiepaaa
