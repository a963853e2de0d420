/-
  A range over an iterator that turns what lies in memory, of itself, ahead of each yield. Over any program. No condition.
-/
import Derived.Test.YtmghgjokleeigaaSeq6
namespace Go.Proofs.Ytmghgjokleeigaa
open Go.RowKit Go.Shelf

/-- An iterator's contract, with what it turns: J behind each, Step ahead of a yield, JY at the yield. -/
def Iters3 {α : Type} (P : Program) (g : Nat) (lb : Array Value) (encs : α → Array Value) (S : List α → Prop) (Pre : List α → World → Prop) (Step : List α → α → World → World → Prop) : Prop :=
  ∀ (l : Nat) (J Jx : List α → World → Prop) (JY : List α → α → World → Prop) (W : World),
    (∀ pre, Stb W.heap.size (J pre)) → (∀ pre, Stb W.heap.size (Jx pre)) → (∀ pre W', J pre W' → Pre pre W') →
    (∀ pre x rest W1 W2, S (pre ++ x :: rest) → J pre W1 → Step pre x W1 W2 → KeepBk W.heap.size W1 W2 ∧ JY pre x W2) →
    (∀ pre x rest W1, S (pre ++ x :: rest) → JY pre x W1 → YieldAt Fence.wide 0 P l (encs x) W1 fun e W' =>
      (e = .returned (.bool true) ∧ KeepBk W.heap.size W1 W' ∧ J (pre ++ [x]) W') ∨ (e = .returned (.bool false) ∧ KeepBk W.heap.size W1 W' ∧ Jx (pre ++ [x]) W')) →
    J [] W →
    CallsIn Fence.wide 0 P g (#[.func (.yield l) #[] #[]] ++ lb) W (IterEnd S J Jx)

variable {P : Program}
/-- **THE STATEMENT 'for .. := range g', outside a round.** -/
theorem wp_range3 {α : Type} {g : Operand} {ps : Array Tmp} {assign body : Code} {Q : Exit → Act → World → Prop} {a : Act} {w : World}
    {gf : Nat} {lb : Array Value} (hg : a.eval g = .func (.func gf) #[] lb) (eg : ∀ args w, (callFunc gf args).run P w = .ok (.enter gf args) w)
    {encs : α → Array Value} {S : List α → Prop} {Pre : List α → World → Prop} {Step : List α → α → World → World → Prop} (hseq : Iters3 P gf lb encs S Pre Step) (hps : ∀ x, (encs x).size = ps.size)
    (I : List α → World → Prop) (IY : List α → α → World → Prop) (Ix : Code → List α → World → Prop) (hI : ∀ pre, Stb w.heap.size (I pre)) (hIY : ∀ pre x, Stb w.heap.size (IY pre x)) (hIx : ∀ c pre, Stb w.heap.size (Ix c pre)) (hpre : ∀ pre W, I pre W → Pre pre W) (h0 : I [] w) (a₁ : α → Act)
    (hassign : ∀ (l : Nat) (x : α) (W : World) (K : Act → World → Prop), K (a₁ x) W →
      assign.wpIn (Fence.wide.inRound l) 0 P (Exit.then K (fun _ _ _ => False)) { tmps := (ps.zip (encs x)).foldl (fun t (p, v) => t.setIfInBounds p v) a.tmps, defers := [] } W)
    (hstep : ∀ (pre : List α) (x : α) (rest : List α) (W1 W2 : World), S (pre ++ x :: rest) → I pre W1 → Step pre x W1 W2 → KeepBk w.heap.size W1 W2 ∧ IY pre x W2)
    (hbody : ∀ (l : Nat) (pre : List α) (x : α) (rest : List α) (W : World), S (pre ++ x :: rest) → w.heap.size ≤ l → (∃ r, W.heap[l]? = some (.loop r)) → IY pre x W →
      body.wpIn (Fence.wide.inRound l) 0 P (ownP w.heap.size I Ix (pre ++ [x]) W) (a₁ x) W)
    (hdone : ∀ (D : Nat) (xs : List α) (W : World), w.heap.size ≤ D → S xs → I xs W → W.heap[D]? = some (.deferred (some [])) → Q .normal { a with defers := { target := .collected D, args := #[] } :: a.defers } W)
    (hstop : ∀ (D : Nat) (c : Code) (pre rest : List α) (W : World), w.heap.size ≤ D → S (pre ++ rest) → Ix c pre W → W.heap[D]? = some (.deferred (some [])) → c.wpIn Fence.wide 0 P Q { a with defers := { target := .collected D, args := #[] } :: a.defers } W) :
    (Code.rangeFunc g ps assign body).wpIn Fence.wide 0 P Q a w := by
  refine wpIn_rangeFunc ?_
  intro fn hfn
  rw [wide_round]
  obtain ⟨rec, hrec⟩ : ∃ rec : LoopState → Option Code → Loop, rec = fun st pe => { state := st, pending := pe, fn, tmps := a.tmps, params := ps, assign, body, defers := w.heap.size } := ⟨_, rfl⟩
  obtain ⟨W1, hW1⟩ : ∃ W1, (w.alloc (.deferred (some []))).alloc (.loop (rec .ready none)) = W1 := ⟨_, rfl⟩
  have hL1 : W1.heap[w.heap.size + 1]? = some (.loop (rec .ready none)) := by
    rw [← hW1]; have := World.alloc_heap_new (w.alloc (.deferred (some []))) (.loop (rec .ready none)); rwa [World.size_alloc] at this
  have hK1 : W1.heap[w.heap.size]? = some (.deferred (some [])) := by
    rw [← hW1]; exact (Below.heap_alloc _ _ _ (by simp)).trans (World.alloc_heap_new w _)
  have hI1 : I [] W1 := by rw [← hW1]; exact (hI []).alloc _ ((hI []).alloc _ h0)
  have hsz1 : w.heap.size + 2 = W1.heap.size := by rw [← hW1]; simp
  refine ⟨w.heap.size + 1, [{ target := .collected w.heap.size, args := #[] }], W1, { target := .fn (.func gf) lb, args := #[.func (.yield (w.heap.size + 1)) #[] #[]] }, W1, gf,
    #[.func (.yield (w.heap.size + 1)) #[] #[]] ++ lb, W1, ?_, ?_, ?_, ?_, fun h => wide_none h, ?_⟩
  · rw [← hW1, hrec]; exact run_enterLoop_outer _ _ _ _ _
  · simp only [resolve, hg]
    simp [go_sem]
  · intro f' _; exact wide_fn f'
  · simp [invoke, go_sem, eg]
  · refine (hseq (w.heap.size + 1)
      (fun pre W => I pre W ∧ W.heap[w.heap.size + 1]? = some (.loop (rec .ready none)) ∧ W.heap[w.heap.size]? = some (.deferred (some [])))
      (fun pre W => ∃ c, Ix c pre W ∧ W.heap[w.heap.size + 1]? = some (.loop (rec .done (some c))) ∧ W.heap[w.heap.size]? = some (.deferred (some [])))
      (fun pre x W => IY pre x W ∧ W.heap[w.heap.size + 1]? = some (.loop (rec .ready none)) ∧ W.heap[w.heap.size]? = some (.deferred (some [])))
      W1
      (fun pre => ((hI pre).more (by omega)).and ((Stb.low _ _ _ (by omega)).and (Stb.low _ _ _ (by omega))))
      (fun pre => Stb.ex fun c => ((hIx c pre).more (by omega)).and ((Stb.low _ _ _ (by omega)).and (Stb.low _ _ _ (by omega))))
      (fun pre W hi => hpre pre W hi.1)
      ?_ ?_ ⟨hI1, hL1, hK1⟩).mono ?_
    · rintro pre x rest W W2 hS ⟨hi, hl, hk⟩ hst
      obtain ⟨hk2, hi2⟩ := hstep pre x rest W W2 hS hi hst
      exact ⟨hk2.more (by omega), hi2, hk2.same _ _ (by omega) hl rfl, hk2.same _ _ (Nat.le_refl _) hk rfl⟩
    · rintro pre x rest W hS ⟨hi, hl, hk⟩
      have hlt : w.heap.size + 1 < W.heap.size := (Array.getElem?_eq_some_iff.1 hl).1
      have hy := run_yield (P := P) (args := encs x) hl (by rw [hrec]; exact hps x)
      rw [hrec] at hy
      refine ⟨fn, _, assign, body, hy, roundIn_of_wpIn hfn (hassign _ x W _ ⟨_, run_beginRound hl (by rw [hrec]), ?_⟩)⟩
      have hl2 : (W.putObj (w.heap.size + 1) (.loop { rec .ready none with state := .busy })).heap[w.heap.size + 1]? = some (.loop { rec .ready none with state := .busy }) := World.putObj_heap_same hlt
      have hk2 : (W.putObj (w.heap.size + 1) (.loop { rec .ready none with state := .busy })).heap[w.heap.size]? = some (.deferred (some [])) := (World.putObj_heap_other (by omega)).trans hk
      refine wpIn_mono (hbody _ pre x rest _ hS (by omega) ⟨_, hl2⟩ ((hIY pre x).putObj _ hi (by omega) hl rfl)) ?_
      have fin : ∀ (jump : Option Code) (W3 : World), KeepBk w.heap.size (W.putObj (w.heap.size + 1) (.loop { rec .ready none with state := .busy })) W3 →
          (Instr.endRound (w.heap.size + 1) jump).run P W3 = .ok (.bool jump.isNone) (W3.putObj (w.heap.size + 1) (.loop (rec (if jump.isNone then .ready else .done) jump))) ∧
          W3.heap[w.heap.size + 1]? = some (.loop { rec .ready none with state := .busy }) ∧
          (W3.putObj (w.heap.size + 1) (.loop (rec (if jump.isNone then .ready else .done) jump))).heap[w.heap.size + 1]? = some (.loop (rec (if jump.isNone then .ready else .done) jump)) ∧
          (W3.putObj (w.heap.size + 1) (.loop (rec (if jump.isNone then .ready else .done) jump))).heap[w.heap.size]? = some (.deferred (some [])) := fun jump W3 hk3 => by
        have hl3 := hk3.same _ _ (by omega) hl2 rfl
        have := run_endRound (P := P) jump hl3
        rw [hrec] at this ⊢
        exact ⟨this, by rw [hrec] at hl3; exact hl3, World.putObj_heap_same (Array.getElem?_eq_some_iff.1 hl3).1, (World.putObj_heap_other (by omega)).trans (hk3.same _ _ (Nat.le_refl _) hk2 rfl)⟩
      have kp : ∀ {W3 : World}, KeepBk w.heap.size (W.putObj (w.heap.size + 1) (.loop { rec .ready none with state := .busy })) W3 → ∀ o, KeepBk W1.heap.size W (W3.putObj (w.heap.size + 1) o) := fun hk3 o =>
        ((KeepBk.putObj W1.heap.size W _ _ (by omega)).trans (hk3.more (by omega))).trans (KeepBk.putObj _ _ _ _ (by omega))
      rintro e a3 W3 hp
      cases e with
      | normal =>
        obtain ⟨hk3, hi3⟩ := hp
        obtain ⟨hr, hl3, hl4, hk4⟩ := fin none W3 hk3
        exact ⟨_, _, hr, .inl ⟨rfl, kp hk3 _, (hI _).putObj _ hi3 (by omega) hl3 rfl, hl4, hk4⟩⟩
      | ret =>
        obtain ⟨hk3, hi3⟩ := hp
        obtain ⟨hr, hl3, hl4, hk4⟩ := fin (some .ret) W3 hk3
        exact ⟨_, _, hr, .inr ⟨rfl, kp hk3 _, .ret, (hIx _ _).putObj _ hi3 (by omega) hl3 rfl, hl4, hk4⟩⟩
      | exit id =>
        obtain ⟨hk3, hi3⟩ := hp
        obtain ⟨hr, hl3, hl4, hk4⟩ := fin (some (.exit id)) W3 hk3
        exact ⟨_, _, hr, .inr ⟨rfl, kp hk3 _, .exit id, (hIx _ _).putObj _ hi3 (by omega) hl3 rfl, hl4, hk4⟩⟩
      | goto t =>
        obtain ⟨hk3, hi3⟩ := hp
        obtain ⟨hr, hl3, hl4, hk4⟩ := fin (some (.goto t)) W3 hk3
        exact ⟨_, _, hr, .inr ⟨rfl, kp hk3 _, .goto t, (hIx _ _).putObj _ hi3 (by omega) hl3 rfl, hl4, hk4⟩⟩
      | panic ch => exact hp.elim
      | outgrown => exact hp.elim
    · rintro e W2 ⟨⟨v, rfl⟩, (⟨xs, hS, hi, hl, hk⟩ | ⟨pre, rest, hS, c, hi, hl, hk⟩)⟩
      · exact ⟨none, _, by have := run_endLoop (P := P) hl (by rw [hrec]; simp); rw [hrec] at this; exact this, hdone _ xs _ (Nat.le_refl _) hS ((hI _).putObj _ hi (by omega) hl rfl) ((World.putObj_heap_other (by omega)).trans hk)⟩
      · exact ⟨some c, _, by have := run_endLoop (P := P) hl (by rw [hrec]; simp); rw [hrec] at this; exact this, hstop _ c pre rest _ (Nat.le_refl _) hS ((hIx _ _).putObj _ hi (by omega) hl rfl) ((World.putObj_heap_other (by omega)).trans hk)⟩

end Go.Proofs.Ytmghgjokleeigaa
