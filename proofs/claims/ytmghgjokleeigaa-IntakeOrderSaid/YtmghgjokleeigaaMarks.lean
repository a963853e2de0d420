/-
  A loop that holds a range over a function: each range leaves a mark (a block for the rounds' deferred calls); so many marks, and how a function leaves them. Over any program.
-/
import Derived.Test.YtmghgjokleeigaaSeq6
import Derived.Deep.LoopGhost
namespace Go.Proofs.Ytmghgjokleeigaa
open Go.RowKit

/-- The marks, the last first. -/
def marks (Ds : List Nat) : List Deferred := Ds.map fun D => { target := .collected D, args := #[] }
def unmark (Ds : List Nat) (W : World) : World := Ds.foldl (fun W D => W.putObj D (.deferred none)) W
/-- They lie. -/
def MarksIn (B : Nat) (Ds : List Nat) (W : World) : Prop := Ds.Nodup ∧ ∀ D ∈ Ds, B ≤ D ∧ W.heap[D]? = some (.deferred (some []))
theorem unmark_other (Ds : List Nat) (W : World) {k : Nat} (h : k ∉ Ds) : (unmark Ds W).heap[k]? = W.heap[k]? := by
  induction Ds generalizing W with
  | nil => rfl
  | cons D Ds ih =>
    have h1 : k ≠ D ∧ k ∉ Ds := by simpa using h
    show (unmark Ds (W.putObj D (.deferred none))).heap[k]? = _
    rw [ih _ h1.2]
    exact World.putObj_heap_other (fun e => h1.1 (by omega))
theorem unmark_below (Ds : List Nat) (W w : World) (hb : Below w.heap.size w W) (h : ∀ D ∈ Ds, w.heap.size ≤ D) : Below w.heap.size w (unmark Ds W) := by
  induction Ds generalizing W with
  | nil => exact hb
  | cons D Ds ih =>
    exact ih _ (hb.grown (grownBy_putObj0 _ _ _) hb.size (fun r e => by cases e; exact h _ (by simp))) (fun D' hD' => h D' (by simp [hD']))
theorem MarksIn.nil (B : Nat) (W : World) : MarksIn B [] W := ⟨List.nodup_nil, fun D h => by simp at h⟩
theorem MarksIn.keep {B : Nat} {Ds : List Nat} {W W' : World} (h : MarksIn B Ds W) (hk : ∀ D : Nat, W.heap[D]? = some (Obj.deferred (some [])) → W'.heap[D]? = some (Obj.deferred (some []))) : MarksIn B Ds W' := ⟨h.1, fun D hD => ⟨(h.2 D hD).1, hk D (h.2 D hD).2⟩⟩
theorem MarksIn.more {B : Nat} {Ds : List Nat} {W : World} (h : MarksIn B Ds W) {D : Nat} (hB : B ≤ D) (hK : W.heap[D]? = some (.deferred (some []))) (hn : D ∉ Ds) : MarksIn B (D :: Ds) W :=
  ⟨List.nodup_cons.2 ⟨hn, h.1⟩, fun D' hD' => by
    rcases List.mem_cons.1 hD' with rfl | h1
    · exact ⟨hB, hK⟩
    · exact h.2 D' h1⟩

theorem leaves_marks {P : Program} {fn : Func} {R : Ending → World → Prop} {tmps : Array Value} {v : Value} (Ds : List Nat) {W : World} (hnd : Ds.Nodup) (hK : ∀ D ∈ Ds, W.heap[D]? = some (.deferred (some [])))
    (hr : (results fn tmps).run P (unmark Ds W) = .ok v (unmark Ds W)) (hR : R (.returned v) (unmark Ds W)) : LeavesInM Fence.wide 0 P fn tmps R (marks Ds) .returning W := by
  induction Ds generalizing W with
  | nil => exact ⟨v, hr, hR⟩
  | cons D Ds ih =>
    have h2 := List.nodup_cons.1 hnd
    refine ⟨by simp, .inl ⟨_, _, rfl, run_takeDeferred (hK D (by simp)), ih h2.2 (fun D' hD' => ?_) hr hR⟩⟩
    refine (World.putObj_heap_other (fun e => h2.1 ?_)).trans (hK D' (by simp [hD']))
    first | (rw [e]; exact hD') | (rw [← e]; exact hD')
theorem leave_marks {P : Program} {fn : Func} {R : Ending → World → Prop} {tmps : Array Value} {v : Value} {e : Exit} (he : e = .normal ∨ e = .ret) (Ds : List Nat) {W : World} (hnd : Ds.Nodup) (hK : ∀ D ∈ Ds, W.heap[D]? = some (.deferred (some [])))
    (hr : (results fn tmps).run P (unmark Ds W) = .ok v (unmark Ds W)) (hR : R (.returned v) (unmark Ds W)) : bodyPostM Fence.wide 0 P fn R e { tmps := tmps, defers := marks Ds } W := by
  rcases he with rfl | rfl <;> exact leaves_marks Ds hnd hK hr hR

/-- A loop whose rounds leave marks. -/
theorem wp_loop_marks {P : Program} {c : Code} {Q : Exit → Act → World → Prop} {t0 : Array Value} {w0 : World} (I : Nat → List Nat → Array Value → World → Prop) (n0 : Nat) (Ds0 : List Nat) (h0 : I n0 Ds0 t0 w0)
    (round : ∀ n Ds t w, I n Ds t w → ∀ K : Act → World → Prop, (∀ n' Ds' t' w', n' < n → I n' Ds' t' w' → K { tmps := t', defers := marks Ds' } w') → c.wp P (Exit.then K Q) { tmps := t, defers := marks Ds } w) :
    (Code.loop c).wp P Q { tmps := t0, defers := marks Ds0 } w0 := by
  refine wp_loop_ghost (fun n a w => ∃ Ds t, a = { tmps := t, defers := marks Ds } ∧ I n Ds t w) n0 ⟨Ds0, t0, rfl, h0⟩ ?_
  rintro n a w ⟨Ds, t, rfl, hI⟩
  exact round n Ds t w hI _ fun n' Ds' t' w' h1 h2 => ⟨n', h1, Ds', t', rfl, h2⟩
end Go.Proofs.Ytmghgjokleeigaa
