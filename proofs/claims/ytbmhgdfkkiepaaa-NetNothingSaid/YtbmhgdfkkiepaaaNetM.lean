/-
  A net in memory: its two ways, each a row of datagrams; way and at, Waits, slices.Delete and slices.Clone by their contracts. Rows of up to 2^20 datagrams of up to 2^20 bytes.
-/
import Derived.Test.YtbmhgdfkkiepaaaOff
import Derived.Shelf.SlicesE.Delete
namespace Go.Proofs.Ytbmhgdfkkiepaaa
open Go.RowKit

abbrev byts (l : List Nat) : List Value := l.map fun x : Nat => Value.int .u8 x
/-- A slice's address, length, capacity. -/
abbrev Sl := Option Addr × Nat × Nat
def encS (s : Sl) : Value := .slice s.1 s.2.1 s.2.2
/-- A datagram: where it lies, its bytes. -/
abbrev Gr := Sl × List Nat
abbrev encG (g : Gr) : Value := encS g.1

def upd {α : Type} (f : Nat → α) (k : Nat) (x : α) : Nat → α := fun i => if i = k then x else f i
theorem upd_same {α : Type} (f : Nat → α) (k : Nat) (x : α) : upd f k x k = x := if_pos rfl
theorem upd_other {α : Type} (f : Nat → α) {k i : Nat} (x : α) (h : i ≠ k) : upd f k x i = f i := if_neg h
/-- Two slices in different blocks. -/
def Apart (u v : Value) : Prop := ∀ k, u.ownBlock = some k → v.ownBlock ≠ some k
theorem Apart.symm {u v : Value} (h : Apart u v) : Apart v u := fun k h1 h2 => h k h2 h1

structure NetIs (w0 : World) (N : Nat) (r : Nat → Value) (g : Nat → List Gr) (W : World) : Prop where
  net : W.heap[N]? = some (.cells #[.bool true, r 0, r 1] 93 (0, 0))
  row : ∀ k, k < 2 → OffRow W w0.heap.size 68 (r k) ((g k).map encG)
  gram : ∀ k, k < 2 → ∀ p ∈ g k, OffRow W w0.heap.size 5 (encG p) (byts p.2)
  apart : List.Pairwise (fun p q : Gr => Apart (encG p) (encG q)) (g 0 ++ g 1)
  ne : Apart (r 0) (r 1)
  hN : w0.heap.size ≤ N
  bel : Below w0.heap.size w0 W

section
variable {w0 : World} {N : Nat} {r : Nat → Value} {g : Nat → List Gr} {W W' : World}
theorem NetIs.same (h : NetIs w0 N r g W) (hb : Below W.heap.size W W') : NetIs w0 N r g W' :=
  ⟨(hb.block _ (block_lt h.net)).trans h.net, fun k hk => (h.row k hk).same fun b e => hb.block b (block_lt ((h.row k hk).own e).2.choose_spec),
    fun k hk p hp => (h.gram k hk p hp).same fun b e => hb.block b (block_lt ((h.gram k hk p hp).own e).2.choose_spec), h.apart, h.ne, h.hN, h.bel.trans (hb.mono h.bel.size)⟩
theorem NetIs.alloc (h : NetIs w0 N r g W) (o : Obj) : NetIs w0 N r g (W.alloc o) := h.same ((Below.refl _ _).alloc (Nat.le_refl _) _)
theorem NetIs.drewN (h : NetIs w0 N r g W) (n : Nat) : NetIs w0 N r g (W.drewN n) := h.same ⟨rfl, rfl, rfl, Nat.le_refl _, fun _ _ => rfl⟩
theorem NetIs.drew (h : NetIs w0 N r g W) : NetIs w0 N r g W.drew := h.drewN 1
theorem NetIs.cell (h : NetIs w0 N r g W) : W.cell? ⟨N, 0, none⟩ = some (.bool true) ∧ W.cell? ⟨N, 1, none⟩ = some (r 0) ∧ W.cell? ⟨N, 2, none⟩ = some (r 1) ∧ W.frozen? ⟨N, 1, none⟩ = false ∧ W.frozen? ⟨N, 2, none⟩ = false := by
  have := h.net
  simp [World.cell?, World.frozen?, this]
theorem NetIs.cellAt (h : NetIs w0 N r g W) {k : Nat} (hk : k < 2) : W.cell? ⟨N, 1 + k, none⟩ = some (r k) := by
  obtain rfl | rfl : k = 0 ∨ k = 1 := by omega
  · exact h.cell.2.1
  · exact h.cell.2.2.1
theorem NetIs.freeAt (h : NetIs w0 N r g W) {k : Nat} (hk : k < 2) : W.frozen? ⟨N, 1 + k, none⟩ = false := by
  obtain rfl | rfl : k = 0 ∨ k = 1 := by omega
  · exact h.cell.2.2.2.1
  · exact h.cell.2.2.2.2
theorem OffRow.typed {e t : TypeId} {base : Nat} {v : Value} {xs : List Value} {c : Array Value} {f : Nat × Nat} (h : OffRow W base e v xs) {k : Nat} (hk : v.ownBlock = some k) (hc : W.heap[k]? = some (.cells c t f)) : t = e := by
  obtain ⟨_, cur, hk2⟩ := h.own hk
  rw [hc] at hk2
  injection hk2 with h1
  injection h1
theorem NetIs.neRow (h : NetIs w0 N r g W) {k b : Nat} (hk : k < 2) (e : (r k).ownBlock = some b) : b ≠ N := by
  rintro rfl
  exact absurd ((h.row k hk).typed e h.net) (by decide)
theorem NetIs.neGram (h : NetIs w0 N r g W) {k b : Nat} (hk : k < 2) {p : Gr} (hp : p ∈ g k) (e : (encG p).ownBlock = some b) : b ≠ N := by
  rintro rfl
  exact absurd ((h.gram k hk p hp).typed e h.net) (by decide)
theorem NetIs.rowGram (h : NetIs w0 N r g W) {k i b : Nat} (hk : k < 2) (hi : i < 2) {p : Gr} (hp : p ∈ g k) (e : (encG p).ownBlock = some b) : (r i).ownBlock ≠ some b := by
  intro e2
  obtain ⟨_, cur, hc⟩ := (h.gram k hk p hp).own e
  exact absurd ((h.row i hi).typed e2 hc) (by decide)
theorem NetIs.neRows (h : NetIs w0 N r g W) {k i b : Nat} (hk : k < 2) (hi : i < 2) (hne : i ≠ k) (e : (r k).ownBlock = some b) : (r i).ownBlock ≠ some b := by
  obtain ⟨rfl, rfl⟩ | ⟨rfl, rfl⟩ : (k = 0 ∧ i = 1) ∨ (k = 1 ∧ i = 0) := by omega
  · exact h.ne b e
  · exact h.ne.symm b e

/-- A way has turned: its row's block, its cell, and blocks that are new. -/
theorem NetIs.put {k : Nat} {r' : Value} {g' : List Gr} (h : NetIs w0 N r g W) (hk : k < 2)
    (hblk : ∀ b, b < W.heap.size → b ≠ N → (r k).ownBlock ≠ some b → W'.heap[b]? = W.heap[b]?) (hsz : W.heap.size ≤ W'.heap.size)
    (hnet : W'.heap[N]? = some (.cells #[.bool true, upd r k r' 0, upd r k r' 1] 93 (0, 0)))
    (hrow : OffRow W' w0.heap.size 68 r' (g'.map encG)) (hr : ∀ b, r'.ownBlock = some b → (r k).ownBlock = some b ∨ W.heap.size ≤ b)
    (hgram : ∀ p ∈ g', p ∈ g k ∨ (OffRow W' w0.heap.size 5 (encG p) (byts p.2)))
    (hap : List.Pairwise (fun p q : Gr => Apart (encG p) (encG q)) (upd g k g' 0 ++ upd g k g' 1))
    (hos : W'.os = W.os ∧ W'.tape = W.tape ∧ W'.output = W.output) : NetIs w0 N (upd r k r') (upd g k g') W' := by
  have keep : ∀ i, i < 2 → ∀ p ∈ g i, OffRow W' w0.heap.size 5 (encG p) (byts p.2) := fun i hi p hp =>
    (h.gram i hi p hp).same fun b e => hblk b (block_lt ((h.gram i hi p hp).own e).2.choose_spec) (h.neGram hi hp e) (h.rowGram hi hk hp e)
  refine ⟨hnet, fun i hi => ?_, fun i hi p hp => ?_, hap, ?_, h.hN, ?_⟩
  · by_cases e : i = k
    · subst e; rw [upd_same, upd_same]; exact hrow
    · rw [upd_other _ _ e, upd_other _ _ e]
      exact (h.row i hi).same fun b e2 => hblk b (block_lt ((h.row i hi).own e2).2.choose_spec) (h.neRow hi e2) (h.neRows hi hk (Ne.symm e) e2)
  · by_cases e : i = k
    · subst e; rw [upd_same] at hp
      rcases hgram p hp with h1 | h1
      · exact keep i hi p h1
      · exact h1
    · rw [upd_other _ _ e] at hp; exact keep i hi p hp
  · intro b e1 e2
    obtain rfl | rfl : k = 0 ∨ k = 1 := by omega
    · rw [upd_same] at e1
      rw [upd_other _ _ (by omega)] at e2
      rcases hr b e1 with h1 | h1
      · exact h.ne b h1 e2
      · have := block_lt ((h.row 1 (by omega)).own e2).2.choose_spec; omega
    · rw [upd_same] at e2
      rw [upd_other _ _ (by omega)] at e1
      rcases hr b e2 with h1 | h1
      · exact h.ne b e1 h1
      · have := block_lt ((h.row 0 (by omega)).own e1).2.choose_spec; omega
  · refine h.bel.trans ⟨hos.1, hos.2.1, hos.2.2, hsz, fun b hb => hblk b (Nat.lt_of_lt_of_le hb h.bel.size) (by have := h.hN; omega) (fun e => ?_)⟩
    have := ((h.row k hk).own e).1
    omega
end

/-! ### way, at, Waits -/
theorem way_ok {w0 : World} {N : Nat} {r : Nat → Value} {g : Nat → List Gr} {W : World} (h : NetIs w0 N r g W) (k : Nat) (hk : k < 2) :
    Calls Try.prog 45 #[.pointer (some ⟨N, 0, none⟩), .int .i64 k] W fun e W' => e = .returned (.tuple #[.pointer (some ⟨N, 1 + k, none⟩), .int .i64 0]) ∧ W = W' := by
  obtain ⟨c0, c1, c2, _⟩ := h.cell
  obtain rfl | rfl : k = 0 ∨ k = 1 := by omega
  all_goals
    go_enter Try.func45, Try.ntmps45
    go_wp2
    go_ret2
    exact ⟨rfl, rfl⟩
theorem way_bad {w0 : World} {N : Nat} {r : Nat → Value} {g : Nat → List Gr} {W : World} (h : NetIs w0 N r g W) (k : Int) (hk : k < 0 ∨ 2 ≤ k) :
    Calls Try.prog 45 #[.pointer (some ⟨N, 0, none⟩), .int .i64 k] W fun e W' => e = .returned (.tuple #[.pointer none, .int .i64 1]) ∧ W = W' := by
  obtain ⟨c0, c1, c2, _⟩ := h.cell
  rcases hk with hk | hk
  · go_enter Try.func45, Try.ntmps45
    go_wp2
    go_ret2
    exact ⟨rfl, rfl⟩
  · have hk' : ¬ k < 0 := by omega
    go_enter Try.func45, Try.ntmps45
    go_wp2
    go_ret2
    exact ⟨rfl, rfl⟩
theorem way_nil (k : Int) (W : World) : Calls Try.prog 45 #[.pointer none, .int .i64 k] W fun e W' => e = .returned (.tuple #[.pointer none, .int .i64 2]) ∧ W = W' := by
  go_enter Try.func45, Try.ntmps45
  go_wp2
  go_ret2
  exact ⟨rfl, rfl⟩
theorem way_zero (N : Nat) (k : Int) (W : World) (c0 : W.cell? ⟨N, 0, none⟩ = some (.bool false)) : Calls Try.prog 45 #[.pointer (some ⟨N, 0, none⟩), .int .i64 k] W fun e W' => e = .returned (.tuple #[.pointer none, .int .i64 2]) ∧ W = W' := by
  go_enter Try.func45, Try.ntmps45
  go_wp2
  go_ret2
  exact ⟨rfl, rfl⟩
end Go.Proofs.Ytbmhgdfkkiepaaa
