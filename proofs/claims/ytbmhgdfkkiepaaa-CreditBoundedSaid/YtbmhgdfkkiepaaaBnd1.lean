/-
  CreditBounded: the two ends in memory, and what stays of them behind each kind of step. No condition.
-/
import Derived.Test.YtbmhgdfkkiepaaaBndLaw
namespace Go.Proofs.Ytbmhgdfkkiepaaa
open Go.RowKit

abbrev ints (l : List Nat) : List Value := l.map fun x : Nat => Value.int .i64 x

/-- The ends x at X, the spender at B, the giver at C; what lay in w0 lies. -/
structure Ends (w0 : World) (X B C most : Nat) (x : Two) (sp ud : Nat) (vw vg : Value) (W : World) : Prop where
  fs : Sp W B most x.g x.s
  fg : Gv W C most x.g2 x.tk x.us
  xs : W.heap[X]? = some (.cells #[.pointer (some ⟨B, 0, none⟩), .pointer (some ⟨C, 0, none⟩), vw, vg, .int .i64 sp, .int .i64 ud] 55 (0, 0))
  way : OffRow W w0.heap.size 3 vw (ints x.way)
  gr : OffRow W w0.heap.size 3 vg (ints x.grants)
  ne : ∀ k, vw.ownBlock = some k → vg.ownBlock ≠ some k
  hB : w0.heap.size ≤ B
  hC : w0.heap.size ≤ C
  hX : w0.heap.size ≤ X
  bel : Below w0.heap.size w0 W

section
variable {w0 : World} {X B C most : Nat} {x : Two} {sp ud : Nat} {vw vg : Value} {W W' : World}
theorem Ends.neBC (h : Ends w0 X B C most x sp ud vw vg W) : B ≠ C ∧ B ≠ X ∧ C ≠ X := by
  refine ⟨?_, ?_, ?_⟩ <;> rintro rfl
  · have a := h.fs; have b := h.fg; unfold Sp at a; unfold Gv at b; rw [a] at b; simp at b
  · have a := h.fs; have b := h.xs; unfold Sp at a; rw [a] at b; simp at b
  · have a := h.fg; have b := h.xs; unfold Gv at a; rw [a] at b; simp at b
theorem Ends.neW (h : Ends w0 X B C most x sp ud vw vg W) {k : Nat} (hk : vw.ownBlock = some k) : k ≠ B ∧ k ≠ C ∧ k ≠ X := by
  obtain ⟨_, cur, hc⟩ := h.way.own hk
  refine ⟨?_, ?_, ?_⟩ <;> rintro rfl
  · have a := h.fs; unfold Sp at a; rw [hc] at a; simp at a
  · have a := h.fg; unfold Gv at a; rw [hc] at a; simp at a
  · have a := h.xs; rw [hc] at a; simp at a
theorem Ends.neG (h : Ends w0 X B C most x sp ud vw vg W) {k : Nat} (hk : vg.ownBlock = some k) : k ≠ B ∧ k ≠ C ∧ k ≠ X := by
  obtain ⟨_, cur, hc⟩ := h.gr.own hk
  refine ⟨?_, ?_, ?_⟩ <;> rintro rfl
  · have a := h.fs; unfold Sp at a; rw [hc] at a; simp at a
  · have a := h.fg; unfold Gv at a; rw [hc] at a; simp at a
  · have a := h.xs; rw [hc] at a; simp at a
/-- Nothing that lay has turned. -/
theorem Ends.same (h : Ends w0 X B C most x sp ud vw vg W) (hb : Below W.heap.size W W') : Ends w0 X B C most x sp ud vw vg W' :=
  ⟨(hb.block _ (block_lt h.fs)).trans h.fs, (hb.block _ (block_lt h.fg)).trans h.fg, (hb.block _ (block_lt h.xs)).trans h.xs,
    h.way.same fun k hk => hb.block k (block_lt (h.way.own hk).2.choose_spec), h.gr.same fun k hk => hb.block k (block_lt (h.gr.own hk).2.choose_spec), h.ne, h.hB, h.hC, h.hX, h.bel.trans (hb.mono h.bel.size)⟩
theorem Ends.alloc (h : Ends w0 X B C most x sp ud vw vg W) (o : Obj) : Ends w0 X B C most x sp ud vw vg (W.alloc o) := h.same ((Below.refl _ _).alloc (Nat.le_refl _) _)
theorem Ends.drewN (h : Ends w0 X B C most x sp ud vw vg W) (n : Nat) : Ends w0 X B C most x sp ud vw vg (W.drewN n) := h.same ⟨rfl, rfl, rfl, Nat.le_refl _, fun _ _ => rfl⟩
theorem Ends.drew (h : Ends w0 X B C most x sp ud vw vg W) : Ends w0 X B C most x sp ud vw vg W.drew := h.drewN 1
theorem Ends.quiet {r : Value} {e : Ending} (h : Ends w0 X B C most x sp ud vw vg W) (hq : QuietU W r e W') : e = .returned r ∧ Ends w0 X B C most x sp ud vw vg W' := by
  obtain ⟨he, n, rfl⟩ := hq; exact ⟨he, h.drewN n⟩
/-- The spender has turned. -/
theorem Ends.spU {g' s' : Nat} (h : Ends w0 X B C most x sp ud vw vg W) (hg : W.grownBy W' (some B)) (hs : Sp W' B most g' s') : Ends w0 X B C most { x with g := g', s := s' } sp ud vw vg W' :=
  ⟨hs, (hg.block _ (block_lt h.fg) (by simpa using h.neBC.1.symm)).trans h.fg, (hg.block _ (block_lt h.xs) (by simpa using h.neBC.2.1.symm)).trans h.xs,
    h.way.grown hg fun k hk e => (h.neW hk).1 (by cases e; rfl), h.gr.grown hg fun k hk e => (h.neG hk).1 (by cases e; rfl), h.ne, h.hB, h.hC, h.hX, h.bel.grown hg h.bel.size fun k e => by cases e; exact h.hB⟩
/-- The giver has turned. -/
theorem Ends.gvU {g' t' u' : Nat} (h : Ends w0 X B C most x sp ud vw vg W) (hg : W.grownBy W' (some C)) (hs : Gv W' C most g' t' u') : Ends w0 X B C most { x with g2 := g', tk := t', us := u' } sp ud vw vg W' :=
  ⟨(hg.block _ (block_lt h.fs) (by simpa using h.neBC.1)).trans h.fs, hs, (hg.block _ (block_lt h.xs) (by simpa using h.neBC.2.2.symm)).trans h.xs,
    h.way.grown hg fun k hk e => (h.neW hk).2.1 (by cases e; rfl), h.gr.grown hg fun k hk e => (h.neG hk).2.1 (by cases e; rfl), h.ne, h.hB, h.hC, h.hX, h.bel.grown hg h.bel.size fun k e => by cases e; exact h.hC⟩
theorem Ends.setX (h : Ends w0 X B C most x sp ud vw vg W) (o : Nat) (v : Value) : Sp (W.setCell ⟨X, o, none⟩ v) B most x.g x.s ∧ Gv (W.setCell ⟨X, o, none⟩ v) C most x.g2 x.tk x.us ∧
    OffRow (W.setCell ⟨X, o, none⟩ v) w0.heap.size 3 vw (ints x.way) ∧ OffRow (W.setCell ⟨X, o, none⟩ v) w0.heap.size 3 vg (ints x.grants) ∧ Below w0.heap.size w0 (W.setCell ⟨X, o, none⟩ v) := by
  have hg : W.grownBy (W.setCell ⟨X, o, none⟩ v) (some X) := grown_set_drewN W 0 X o v
  exact ⟨(hg.block _ (block_lt h.fs) (by simpa using h.neBC.2.1)).trans h.fs, (hg.block _ (block_lt h.fg) (by simpa using h.neBC.2.2)).trans h.fg, h.way.grown hg fun k hk e => (h.neW hk).2.2 (by cases e; rfl), h.gr.grown hg fun k hk e => (h.neG hk).2.2 (by cases e; rfl), h.bel.grown hg h.bel.size fun k e => by cases e; exact h.hX⟩
theorem Ends.spent (h : Ends w0 X B C most x sp ud vw vg W) (n : Nat) : Ends w0 X B C most x n ud vw vg (W.setCell ⟨X, 4, none⟩ (.int .i64 n)) :=
  let ⟨a, b, c, d, e⟩ := h.setX 4 (.int .i64 n)
  ⟨a, b, set_cells h.xs, c, d, h.ne, h.hB, h.hC, h.hX, e⟩
theorem Ends.used (h : Ends w0 X B C most x sp ud vw vg W) (n : Nat) : Ends w0 X B C most x sp n vw vg (W.setCell ⟨X, 5, none⟩ (.int .i64 n)) :=
  let ⟨a, b, c, d, e⟩ := h.setX 5 (.int .i64 n)
  ⟨a, b, set_cells h.xs, c, d, h.ne, h.hB, h.hC, h.hX, e⟩
/-- One more on its way. -/
theorem Ends.push {n : Nat} {v' : Value} (h : Ends w0 X B C most x sp ud vw vg W) (hr : OffRow W' w0.heap.size 3 v' (ints x.way ++ [.int .i64 n])) (hg : W.grownBy W' vw.ownBlock) (hn : ∀ k, v'.ownBlock = some k → vw.ownBlock = some k ∨ W.heap.size ≤ k) :
    Ends w0 X B C most { x with way := x.way ++ [n] } sp ud v' vg (W'.setCell ⟨X, 2, none⟩ v') := by
  have hX : W'.heap[X]? = _ := (hg.block X (block_lt h.xs) (fun e => (h.neW e.symm).2.2 rfl)).trans h.xs
  have hg2 : W'.grownBy (W'.setCell ⟨X, 2, none⟩ v') (some X) := grown_set_drewN W' 0 X 2 v'
  have hr2 : OffRow W' w0.heap.size 3 vg (ints x.grants) := h.gr.grown hg fun k hk e => h.ne k e hk
  refine ⟨(hg2.block B ?_ (by simpa using h.neBC.2.1)).trans ((hg.block B (block_lt h.fs) (fun e => (h.neW e.symm).1 rfl)).trans h.fs), (hg2.block C ?_ (by simpa using h.neBC.2.2)).trans ((hg.block C (block_lt h.fg) (fun e => (h.neW e.symm).2.1 rfl)).trans h.fg),
    set_cells hX, ?_, hr2.grown hg2 fun k hk e => (h.neG hk).2.2 (by cases e; rfl), fun k hk => ?_, h.hB, h.hC, h.hX, (h.bel.grown hg h.bel.size fun k e => (h.way.own e).1).grown hg2 (Nat.le_trans h.bel.size hg.size) fun k e => by cases e; exact h.hX⟩
  · exact Nat.lt_of_lt_of_le (block_lt h.fs) hg.size
  · exact Nat.lt_of_lt_of_le (block_lt h.fg) hg.size
  · simp only [ints, List.map_append, List.map_cons, List.map_nil]
    refine hr.grown hg2 fun k hk e => ?_
    cases e
    obtain ⟨_, cur, hc⟩ := hr.own hk
    rw [hX] at hc; simp at hc
  · rcases hn k hk with e | e
    · exact h.ne k e
    · intro hk2
      have := block_lt (h.gr.own hk2).2.choose_spec
      omega
/-- One more grant on its way. -/
theorem Ends.pushG {n : Nat} {v' : Value} (h : Ends w0 X B C most x sp ud vw vg W) (hr : OffRow W' w0.heap.size 3 v' (ints x.grants ++ [.int .i64 n])) (hg : W.grownBy W' vg.ownBlock) (hn : ∀ k, v'.ownBlock = some k → vg.ownBlock = some k ∨ W.heap.size ≤ k) :
    Ends w0 X B C most { x with grants := x.grants ++ [n] } sp ud vw v' (W'.setCell ⟨X, 3, none⟩ v') := by
  have hX : W'.heap[X]? = _ := (hg.block X (block_lt h.xs) (fun e => (h.neG e.symm).2.2 rfl)).trans h.xs
  have hg2 : W'.grownBy (W'.setCell ⟨X, 3, none⟩ v') (some X) := grown_set_drewN W' 0 X 3 v'
  have hr2 : OffRow W' w0.heap.size 3 vw (ints x.way) := h.way.grown hg fun k hk e => h.ne k hk e
  refine ⟨(hg2.block B ?_ (by simpa using h.neBC.2.1)).trans ((hg.block B (block_lt h.fs) (fun e => (h.neG e.symm).1 rfl)).trans h.fs), (hg2.block C ?_ (by simpa using h.neBC.2.2)).trans ((hg.block C (block_lt h.fg) (fun e => (h.neG e.symm).2.1 rfl)).trans h.fg),
    set_cells hX, hr2.grown hg2 fun k hk e => (h.neW hk).2.2 (by cases e; rfl), ?_, fun k hk hk2 => ?_, h.hB, h.hC, h.hX, (h.bel.grown hg h.bel.size fun k e => (h.gr.own e).1).grown hg2 (Nat.le_trans h.bel.size hg.size) fun k e => by cases e; exact h.hX⟩
  · exact Nat.lt_of_lt_of_le (block_lt h.fs) hg.size
  · exact Nat.lt_of_lt_of_le (block_lt h.fg) hg.size
  · simp only [ints, List.map_append, List.map_cons, List.map_nil]
    refine hr.grown hg2 fun k hk e => ?_
    cases e
    obtain ⟨_, cur, hc⟩ := hr.own hk
    rw [hX] at hc; simp at hc
  · rcases hn k hk2 with e | e
    · exact h.ne k hk e
    · have := block_lt (h.way.own hk).2.choose_spec
      omega
/-- The first on its way has come. -/
theorem Ends.pop {v' : Value} {n : Nat} {ys : List Nat} (h : Ends w0 X B C most x sp ud vw vg W) (hr : OffRow W w0.heap.size 3 v' (ints ys)) (hn : v'.ownBlock = vw.ownBlock) : Ends w0 X B C most { x with way := ys } sp ud v' vg (W.setCell ⟨X, 2, none⟩ v') := by
  let ⟨a, b, c, d, e⟩ := h.setX 2 v'
  have hg : W.grownBy (W.setCell ⟨X, 2, none⟩ v') (some X) := grown_set_drewN W 0 X 2 v'
  exact ⟨a, b, set_cells h.xs, hr.grown hg fun k hk e => (h.neW (hn ▸ hk)).2.2 (by cases e; rfl), d, fun k hk => h.ne k (hn ▸ hk), h.hB, h.hC, h.hX, e⟩
theorem six_cell {w : World} {b : Nat} {v0 v1 v2 v3 v4 v5 : Value} {t : TypeId} (h : w.heap[b]? = some (.cells #[v0, v1, v2, v3, v4, v5] t (0, 0))) : w.cell? ⟨b, 0, none⟩ = some v0 ∧ w.cell? ⟨b, 1, none⟩ = some v1 ∧ w.cell? ⟨b, 2, none⟩ = some v2 ∧ w.cell? ⟨b, 3, none⟩ = some v3 ∧ w.cell? ⟨b, 4, none⟩ = some v4 ∧ w.cell? ⟨b, 5, none⟩ = some v5 ∧
    w.frozen? ⟨b, 2, none⟩ = false ∧ w.frozen? ⟨b, 3, none⟩ = false ∧ w.frozen? ⟨b, 4, none⟩ = false ∧ w.frozen? ⟨b, 5, none⟩ = false := by
  simp [World.cell?, World.frozen?, h]
end

/-- An act has been done. -/
def Done (w0 : World) (X B C most : Nat) (x : Two) (e : Ending) (W : World) : Prop := e = .returned (.bool true) ∧ ∃ vw vg, Ends w0 X B C most x x.s x.us vw vg W
end Go.Proofs.Ytbmhgdfkkiepaaa
