/-
  THE LAWS OF A RANGE OVER A FUNCTION, AT THE WIDE FENCE, as this seat's walks use them: an iterator's contract ('Iters') that speaks of whatever the caller keeps in memory; the statement 'for x := range g' over such a contract, outside a round ('wp_range') and within one ('wp_rangeN'). Over any program. No condition.
-/
import Derived.RangeFuncNested
import Derived.RangeFuncBound
import Derived.RangeFuncCalls
import Derived.RangeFuncLeaves
namespace Go.Proofs.Ytmghgjokleeigaa
open Go.RowKit

/-- Cells of these types (the types of the iterators' yields: func(uint32) bool, func([]byte) bool) are written when they are made, and never again. -/
def prot (t : TypeId) : Bool := t == 27 || t == 72
/-- The objects that no body writes: a loop's record, the block for the rounds' deferred calls, a cell that holds a yield. -/
def isBook : Obj → Bool
  | .loop _ => true
  | .deferred _ => true
  | .mapIter .. => true
  | .cells _ e _ => prot e
  | _ => false

/-- J abides new blocks, and a turn of one block of book-keeping at or beyond B. -/
def Stb (B : Nat) (J : World → Prop) : Prop :=
  ∀ A A' row, J A → A.grownBy A' row → (∀ r, row = some r → B ≤ r ∧ ∃ o : Obj, A.heap[r]? = some o ∧ isBook o = true) → J A'

theorem Stb.and {B : Nat} {J J' : World → Prop} (h : Stb B J) (h' : Stb B J') : Stb B (fun W => J W ∧ J' W) :=
  fun A A' row hs hg hr => ⟨h A A' row hs.1 hg hr, h' A A' row hs.2 hg hr⟩
theorem Stb.pure (B : Nat) (p : Prop) : Stb B (fun _ => p) := fun _ _ _ h _ _ => h
theorem Stb.ex {α : Type} {B : Nat} {J : α → World → Prop} (h : ∀ x, Stb B (J x)) : Stb B (fun W => ∃ x, J x W) :=
  fun A A' row hs hg hr => let ⟨x, hx⟩ := hs; ⟨x, h x A A' row hx hg hr⟩
theorem Stb.more {B B' : Nat} {J : World → Prop} (h : Stb B J) (hB : B ≤ B') : Stb B' J :=
  fun A A' row hs hg hr => h A A' row hs hg (fun r e => ⟨Nat.le_trans hB (hr r e).1, (hr r e).2⟩)
theorem Stb.alloc {B : Nat} {J : World → Prop} (h : Stb B J) {W : World} (o : Obj) (hs : J W) : J (W.alloc o) :=
  h W _ none hs (World.grownBy_alloc W o none) (fun r e => by cases e)
theorem grownBy_putObj0 (W : World) (l : Nat) (o : Obj) : W.grownBy (W.putObj l o) (some l) :=
  ⟨rfl, rfl, rfl, by simp, fun k _ hk => World.putObj_heap_other (fun e => hk (by rw [e]))⟩
theorem Stb.putObj {B : Nat} {J : World → Prop} (h : Stb B J) {W : World} {l : Nat} {o : Obj} (o' : Obj) (hs : J W) (hB : B ≤ l) (hl : W.heap[l]? = some o) (ho : isBook o = true) : J (W.putObj l o') :=
  h W _ (some l) hs (grownBy_putObj0 W l o') (fun r e => by cases e; exact ⟨hB, o, hl, ho⟩)

/-- A block that is no book-keeping lies as it lies. -/
theorem Stb.block (B k : Nat) (o : Obj) (ho : isBook o = false) : Stb B (fun W => W.heap[k]? = some o) := by
  intro A A' row hs hg hr
  refine (hg.block k (Array.getElem?_eq_some_iff.1 hs).1 ?_).trans hs
  intro e
  obtain ⟨_, o', ho', hb⟩ := hr k e.symm
  rw [hs] at ho'; cases ho'; rw [ho] at hb; cases hb
/-- Any block below B lies as it lies. -/
theorem Stb.low (B k : Nat) (o : Obj) (hk : k < B) : Stb B (fun W => W.heap[k]? = some o) := by
  intro A A' row hs hg hr
  refine (hg.block k (Array.getElem?_eq_some_iff.1 hs).1 ?_).trans hs
  intro e
  have := (hr k e.symm).1
  omega
theorem Stb.below {n₀ B : Nat} {w₀ : World} (hn : n₀ ≤ w₀.heap.size) (hB : n₀ ≤ B) : Stb B (fun W => Below n₀ w₀ W) :=
  fun _ _ _ hs hg hr => hs.grown hg (Nat.le_trans hn hs.size) (fun k e => Nat.le_trans hB (hr k e).1)
theorem Stb.size {B n₀ : Nat} : Stb B (fun W => n₀ ≤ W.heap.size) := fun _ _ _ hs hg _ => Nat.le_trans hs hg.size
theorem Stb.owns (B base : Nat) (e : TypeId) (he : prot e = false) (size : Nat) (v : Value) (n : Nat) (xs : List Value) : Stb B (fun W => W.ownsRow base e size v n xs) := by
  intro A A' row hs hg hr
  refine hs.kept hg ?_
  rcases hs.2 with ⟨rfl, _⟩ | ⟨g, cap, cur, rfl, _, hgg, _⟩
  · exact .inl rfl
  · refine .inr ?_
    simp only [Value.ownBlock]
    intro e'
    obtain ⟨_, o', ho', hb⟩ := hr g e'.symm
    rw [hgg] at ho'; cases ho'; simp [isBook, he] at hb
/-- What book-keeping lay from block B on, lies. -/
structure KeepBk (B : Nat) (W W' : World) : Prop where
  size : W.heap.size ≤ W'.heap.size
  same : ∀ (k : Nat) (o : Obj), B ≤ k → W.heap[k]? = some o → isBook o = true → W'.heap[k]? = some o
theorem KeepBk.refl (B : Nat) (W : World) : KeepBk B W W := ⟨Nat.le_refl _, fun _ _ _ h _ => h⟩
theorem KeepBk.trans {B : Nat} {W1 W2 W3 : World} (h : KeepBk B W1 W2) (k : KeepBk B W2 W3) : KeepBk B W1 W3 :=
  ⟨Nat.le_trans h.size k.size, fun i o hB hi ho => k.same i o hB (h.same i o hB hi ho) ho⟩
theorem KeepBk.more {B B' : Nat} {W W' : World} (h : KeepBk B W W') (hB : B ≤ B') : KeepBk B' W W' :=
  ⟨h.size, fun i o hi => h.same i o (Nat.le_trans hB hi)⟩
theorem KeepBk.alloc (B : Nat) (W : World) (o : Obj) : KeepBk B W (W.alloc o) :=
  ⟨by simp, fun k o' _ hk _ => (Below.heap_alloc W o k (Array.getElem?_eq_some_iff.1 hk).1).trans hk⟩
theorem KeepBk.drew (B : Nat) (W : World) : KeepBk B W W.drew := ⟨Nat.le_refl _, fun _ _ _ h _ => h⟩
theorem KeepBk.setCell (B : Nat) (W : World) (a : Addr) (v : Value) (h : ∀ o, W.heap[a.block]? = some o → isBook o = false) : KeepBk B W (W.setCell a v) :=
  ⟨by show W.heap.size ≤ (W.heap.modify _ _).size; rw [Array.size_modify]; exact Nat.le_refl _, fun k o _ hk ho => by
    by_cases e : k = a.block
    · subst e
      rw [h o hk] at ho; cases ho
    · exact (Below.heap_setCell W a v k e).trans hk⟩
theorem KeepBk.of_grownBy (B : Nat) {W W' : World} {row : Option Nat} (hg : W.grownBy W' row) (hrow : ∀ (j : Nat) (o : Obj), row = some j → W.heap[j]? = some o → isBook o = false) : KeepBk B W W' :=
  ⟨hg.size, fun k o _ hk ho => by
    refine (hg.block k (Array.getElem?_eq_some_iff.1 hk).1 ?_).trans hk
    intro e
    rw [hrow k o e.symm hk] at ho; cases ho⟩
theorem KeepBk.of_below {B : Nat} {W W' : World} (h : Below W.heap.size W W') : KeepBk B W W' :=
  ⟨h.size, fun k _ _ hk _ => (h.block k (Array.getElem?_eq_some_iff.1 hk).1).trans hk⟩
theorem KeepBk.putObj (B : Nat) (W : World) (l : Nat) (o : Obj) (hl : l < B) : KeepBk B W (W.putObj l o) :=
  ⟨by simp, fun k o' hB hk _ => (World.putObj_heap_other (by omega)).trans hk⟩

theorem KeepBk.row {w w' : World} {B base : Nat} {e : TypeId} {size : Nat} {v : Value} {n : Nat} {xs : List Value} (h : w.ownsRow base e size v n xs) (he : prot e = false) (hg : w.grownBy w' v.ownBlock) : KeepBk B w w' := by
  refine KeepBk.of_grownBy B hg ?_
  intro j o hj ho
  rcases h.2 with ⟨rfl, _⟩ | ⟨g, cap, cur, rfl, _, hgg, _⟩
  · simp [Value.ownBlock] at hj
  · simp [Value.ownBlock] at hj
    subst hj
    rw [hgg] at ho; cases ho; simp [isBook, he]

/-- How an iterator ends: all have come; or a part has, a round having said 'no more'. -/
def IterEnd {α : Type} (S : List α → Prop) (J Jx : List α → World → Prop) (e : Ending) (W' : World) : Prop :=
  (∃ v, e = .returned v) ∧ ((∃ xs, S xs ∧ J xs W') ∨ (∃ pre rest, S (pre ++ rest) ∧ Jx pre W'))
theorem IterEnd.all {α : Type} {S : List α → Prop} {J Jx : List α → World → Prop} {v : Value} {W' : World} (xs : List α) (hS : S xs) (h : J xs W') : IterEnd S J Jx (.returned v) W' := ⟨⟨_, rfl⟩, .inl ⟨xs, hS, h⟩⟩
theorem IterEnd.part {α : Type} {S : List α → Prop} {J Jx : List α → World → Prop} {v : Value} {W' : World} (pre rest : List α) (hS : S (pre ++ rest)) (h : Jx pre W') : IterEnd S J Jx (.returned v) W' := ⟨⟨_, rfl⟩, .inr ⟨pre, rest, hS, h⟩⟩

/-- **AN ITERATOR's CONTRACT.** S: what may come, whole. Pre: what it reads of memory: the caller's J keeps it. -/
def Iters {α : Type} (P : Program) (g : Nat) (lb : Array Value) (encs : α → Array Value) (S : List α → Prop) (Pre : World → Prop) : Prop :=
  ∀ (l : Nat) (J Jx : List α → World → Prop) (W : World),
    (∀ pre, Stb W.heap.size (J pre)) → (∀ pre, Stb W.heap.size (Jx pre)) → (∀ pre W', J pre W' → Pre W') →
    (∀ pre x rest W1, S (pre ++ x :: rest) → J pre W1 → YieldAt Fence.wide 0 P l (encs x) W1 fun e W' =>
      (e = .returned (.bool true) ∧ KeepBk W.heap.size W1 W' ∧ J (pre ++ [x]) W') ∨ (e = .returned (.bool false) ∧ KeepBk W.heap.size W1 W' ∧ Jx (pre ++ [x]) W')) →
    J [] W →
    CallsIn Fence.wide 0 P g (#[.func (.yield l) #[] #[]] ++ lb) W (IterEnd S J Jx)

/-- How the body of a round may be left. -/
def ownP {α : Type} (B : Nat) (I : List α → World → Prop) (Ix : Code → List α → World → Prop) (xs : List α) (W : World) : Exit → Act → World → Prop
  | .normal, _, W' => KeepBk B W W' ∧ I xs W'
  | .ret, _, W' => KeepBk B W W' ∧ Ix .ret xs W'
  | .exit id, _, W' => KeepBk B W W' ∧ Ix (.exit id) xs W'
  | .goto t, _, W' => KeepBk B W W' ∧ Ix (.goto t) xs W'
  | .panic _, _, _ => False
  | .outgrown, _, _ => False

variable {P : Program}

theorem wide_round : Fence.wide.round = none := rfl
theorem wide_fn (f : Nat) : Fence.wide.fn f := trivial
theorem wide_fn_eq (f : Nat) : Fence.wide.fn f = True := rfl
theorem wide_depth : Fence.wide.depth = none := rfl
theorem wide_none {p : Prop} (h : Fence.wide.depth.isSome = true) : p := by simp [Fence.wide] at h

/-- A function that holds one such loop leaves: the mark is come to; no call was deferred. -/
theorem leave_mark {fn : Func} {R : Ending → World → Prop} {tmps : Array Value} {W : World} {D : Nat} {v : Value} {e : Exit} (he : e = .normal ∨ e = .ret) (hK : W.heap[D]? = some (.deferred (some [])))
    (hr : (results fn tmps).run P (W.putObj D (.deferred none)) = .ok v (W.putObj D (.deferred none))) (hR : R (.returned v) (W.putObj D (.deferred none))) :
    bodyPostM Fence.wide 0 P fn R e { tmps := tmps, defers := [{ target := .collected D, args := #[] }] } W := by
  rcases he with rfl | rfl <;> exact ⟨by simp, .inl ⟨_, _, rfl, run_takeDeferred hK, ⟨v, hr, hR⟩⟩⟩

/-- **THE STATEMENT 'for .. := range g', outside a round.** -/
theorem wp_range {α : Type} {g : Operand} {ps : Array Tmp} {assign body : Code} {Q : Exit → Act → World → Prop} {a : Act} {w : World}
    {gf : Nat} {lb : Array Value} (hg : a.eval g = .func (.func gf) #[] lb) (eg : ∀ args w, (callFunc gf args).run P w = .ok (.enter gf args) w)
    {encs : α → Array Value} {S : List α → Prop} {Pre : World → Prop} (hseq : Iters P gf lb encs S Pre) (hps : ∀ x, (encs x).size = ps.size)
    (I : List α → World → Prop) (Ix : Code → List α → World → Prop) (hI : ∀ pre, Stb w.heap.size (I pre)) (hIx : ∀ c pre, Stb w.heap.size (Ix c pre)) (hpre : ∀ pre W, I pre W → Pre W) (h0 : I [] w) (a₁ : α → Act)
    (hassign : ∀ (l : Nat) (x : α) (W : World) (K : Act → World → Prop), K (a₁ x) W →
      assign.wpIn (Fence.wide.inRound l) 0 P (Exit.then K (fun _ _ _ => False)) { tmps := (ps.zip (encs x)).foldl (fun t (p, v) => t.setIfInBounds p v) a.tmps, defers := [] } W)
    (hbody : ∀ (l : Nat) (pre : List α) (x : α) (rest : List α) (W : World), S (pre ++ x :: rest) → w.heap.size ≤ l → (∃ r, W.heap[l]? = some (.loop r)) → I pre W →
      body.wpIn (Fence.wide.inRound l) 0 P (ownP w.heap.size I Ix (pre ++ [x]) W) (a₁ x) W)
    (hdone : ∀ (D : Nat) (xs : List α) (W : World), w.heap.size ≤ D → S xs → I xs W → W.heap[D]? = some (.deferred (some [])) → Q .normal { a with defers := { target := .collected D, args := #[] } :: a.defers } W)
    (hstop : ∀ (D : Nat) (c : Code) (pre rest : List α) (W : World), w.heap.size ≤ D → S (pre ++ rest) → Ix c pre W → W.heap[D]? = some (.deferred (some [])) → c.wpIn Fence.wide 0 P Q { a with defers := { target := .collected D, args := #[] } :: a.defers } W) :
    (Code.rangeFunc g ps assign body).wpIn Fence.wide 0 P Q a w := by
  refine wpIn_rangeFunc ?_
  intro fn hfn
  rw [wide_round]
  obtain ⟨rec, hrec⟩ : ∃ rec : LoopState → Option Code → Loop, rec = fun st pe => { state := st, pending := pe, fn, tmps := a.tmps, params := ps, assign, body, defers := w.heap.size } := ⟨_, rfl⟩
  obtain ⟨W1, hW1⟩ : ∃ W1, (w.alloc (.deferred (some []))).alloc (.loop (rec .ready none)) = W1 := ⟨_, rfl⟩
  have hL1 : W1.heap[w.heap.size + 1]? = some (.loop (rec .ready none)) := by
    rw [← hW1]; have := World.alloc_heap_new (w.alloc (.deferred (some []))) (.loop (rec .ready none)); rwa [World.size_alloc] at this
  have hK1 : W1.heap[w.heap.size]? = some (.deferred (some [])) := by
    rw [← hW1]; exact (Below.heap_alloc _ _ _ (by simp)).trans (World.alloc_heap_new w _)
  have hI1 : I [] W1 := by rw [← hW1]; exact (hI []).alloc _ ((hI []).alloc _ h0)
  have hsz1 : w.heap.size + 2 = W1.heap.size := by rw [← hW1]; simp
  refine ⟨w.heap.size + 1, [{ target := .collected w.heap.size, args := #[] }], W1, { target := .fn (.func gf) lb, args := #[.func (.yield (w.heap.size + 1)) #[] #[]] }, W1, gf,
    #[.func (.yield (w.heap.size + 1)) #[] #[]] ++ lb, W1, ?_, ?_, ?_, ?_, fun h => wide_none h, ?_⟩
  · rw [← hW1, hrec]; exact run_enterLoop_outer _ _ _ _ _
  · simp only [resolve, hg]
    simp [go_sem]
  · intro f' _; exact wide_fn f'
  · simp [invoke, go_sem, eg]
  · refine (hseq (w.heap.size + 1)
      (fun pre W => I pre W ∧ W.heap[w.heap.size + 1]? = some (.loop (rec .ready none)) ∧ W.heap[w.heap.size]? = some (.deferred (some [])))
      (fun pre W => ∃ c, Ix c pre W ∧ W.heap[w.heap.size + 1]? = some (.loop (rec .done (some c))) ∧ W.heap[w.heap.size]? = some (.deferred (some [])))
      W1
      (fun pre => ((hI pre).more (by omega)).and ((Stb.low _ _ _ (by omega)).and (Stb.low _ _ _ (by omega))))
      (fun pre => Stb.ex fun c => ((hIx c pre).more (by omega)).and ((Stb.low _ _ _ (by omega)).and (Stb.low _ _ _ (by omega))))
      (fun pre W hi => hpre pre W hi.1)
      ?_ ⟨hI1, hL1, hK1⟩).mono ?_
    · rintro pre x rest W hS ⟨hi, hl, hk⟩
      have hlt : w.heap.size + 1 < W.heap.size := (Array.getElem?_eq_some_iff.1 hl).1
      have hy := run_yield (P := P) (args := encs x) hl (by rw [hrec]; exact hps x)
      rw [hrec] at hy
      refine ⟨fn, _, assign, body, hy, roundIn_of_wpIn hfn (hassign _ x W _ ⟨_, run_beginRound hl (by rw [hrec]), ?_⟩)⟩
      have hl2 : (W.putObj (w.heap.size + 1) (.loop { rec .ready none with state := .busy })).heap[w.heap.size + 1]? = some (.loop { rec .ready none with state := .busy }) := World.putObj_heap_same hlt
      have hk2 : (W.putObj (w.heap.size + 1) (.loop { rec .ready none with state := .busy })).heap[w.heap.size]? = some (.deferred (some [])) := (World.putObj_heap_other (by omega)).trans hk
      refine wpIn_mono (hbody _ pre x rest _ hS (by omega) ⟨_, hl2⟩ ((hI pre).putObj _ hi (by omega) hl rfl)) ?_
      have fin : ∀ (jump : Option Code) (W3 : World), KeepBk w.heap.size (W.putObj (w.heap.size + 1) (.loop { rec .ready none with state := .busy })) W3 →
          (Instr.endRound (w.heap.size + 1) jump).run P W3 = .ok (.bool jump.isNone) (W3.putObj (w.heap.size + 1) (.loop (rec (if jump.isNone then .ready else .done) jump))) ∧
          W3.heap[w.heap.size + 1]? = some (.loop { rec .ready none with state := .busy }) ∧
          (W3.putObj (w.heap.size + 1) (.loop (rec (if jump.isNone then .ready else .done) jump))).heap[w.heap.size + 1]? = some (.loop (rec (if jump.isNone then .ready else .done) jump)) ∧
          (W3.putObj (w.heap.size + 1) (.loop (rec (if jump.isNone then .ready else .done) jump))).heap[w.heap.size]? = some (.deferred (some [])) := fun jump W3 hk3 => by
        have hl3 := hk3.same _ _ (by omega) hl2 rfl
        have := run_endRound (P := P) jump hl3
        rw [hrec] at this ⊢
        exact ⟨this, by rw [hrec] at hl3; exact hl3, World.putObj_heap_same (Array.getElem?_eq_some_iff.1 hl3).1, (World.putObj_heap_other (by omega)).trans (hk3.same _ _ (Nat.le_refl _) hk2 rfl)⟩
      have kp : ∀ {W3 : World}, KeepBk w.heap.size (W.putObj (w.heap.size + 1) (.loop { rec .ready none with state := .busy })) W3 → ∀ o, KeepBk W1.heap.size W (W3.putObj (w.heap.size + 1) o) := fun hk3 o =>
        ((KeepBk.putObj W1.heap.size W _ _ (by omega)).trans (hk3.more (by omega))).trans (KeepBk.putObj _ _ _ _ (by omega))
      rintro e a3 W3 hp
      cases e with
      | normal =>
        obtain ⟨hk3, hi3⟩ := hp
        obtain ⟨hr, hl3, hl4, hk4⟩ := fin none W3 hk3
        exact ⟨_, _, hr, .inl ⟨rfl, kp hk3 _, (hI _).putObj _ hi3 (by omega) hl3 rfl, hl4, hk4⟩⟩
      | ret =>
        obtain ⟨hk3, hi3⟩ := hp
        obtain ⟨hr, hl3, hl4, hk4⟩ := fin (some .ret) W3 hk3
        exact ⟨_, _, hr, .inr ⟨rfl, kp hk3 _, .ret, (hIx _ _).putObj _ hi3 (by omega) hl3 rfl, hl4, hk4⟩⟩
      | exit id =>
        obtain ⟨hk3, hi3⟩ := hp
        obtain ⟨hr, hl3, hl4, hk4⟩ := fin (some (.exit id)) W3 hk3
        exact ⟨_, _, hr, .inr ⟨rfl, kp hk3 _, .exit id, (hIx _ _).putObj _ hi3 (by omega) hl3 rfl, hl4, hk4⟩⟩
      | goto t =>
        obtain ⟨hk3, hi3⟩ := hp
        obtain ⟨hr, hl3, hl4, hk4⟩ := fin (some (.goto t)) W3 hk3
        exact ⟨_, _, hr, .inr ⟨rfl, kp hk3 _, .goto t, (hIx _ _).putObj _ hi3 (by omega) hl3 rfl, hl4, hk4⟩⟩
      | panic ch => exact hp.elim
      | outgrown => exact hp.elim
    · rintro e W2 ⟨⟨v, rfl⟩, (⟨xs, hS, hi, hl, hk⟩ | ⟨pre, rest, hS, c, hi, hl, hk⟩)⟩
      · exact ⟨none, _, by have := run_endLoop (P := P) hl (by rw [hrec]; simp); rw [hrec] at this; exact this, hdone _ xs _ (Nat.le_refl _) hS ((hI _).putObj _ hi (by omega) hl rfl) ((World.putObj_heap_other (by omega)).trans hk)⟩
      · exact ⟨some c, _, by have := run_endLoop (P := P) hl (by rw [hrec]; simp); rw [hrec] at this; exact this, hstop _ c pre rest _ (Nat.le_refl _) hS ((hIx _ _).putObj _ hi (by omega) hl rfl) ((World.putObj_heap_other (by omega)).trans hk)⟩

/-- **THE STATEMENT WITHIN A ROUND of loop l₀.** -/
theorem wp_rangeN {α : Type} {g : Operand} {ps : Array Tmp} {assign body : Code} {Q : Exit → Act → World → Prop} {a : Act} {w : World} {l₀ : Nat} {r₀ : Loop}
    (hr₀ : w.heap[l₀]? = some (.loop r₀))
    {gf : Nat} {lb : Array Value} (hg : a.eval g = .func (.func gf) #[] lb) (eg : ∀ args w, (callFunc gf args).run P w = .ok (.enter gf args) w)
    {encs : α → Array Value} {S : List α → Prop} {Pre : World → Prop} (hseq : Iters P gf lb encs S Pre) (hps : ∀ x, (encs x).size = ps.size)
    (I : List α → World → Prop) (Ix : Code → List α → World → Prop) (hI : ∀ pre, Stb w.heap.size (I pre)) (hIx : ∀ c pre, Stb w.heap.size (Ix c pre)) (hpre : ∀ pre W, I pre W → Pre W) (h0 : I [] w) (a₁ : α → Act)
    (hassign : ∀ (l : Nat) (x : α) (W : World) (K : Act → World → Prop), K (a₁ x) W →
      assign.wpIn (Fence.wide.inRound l) 0 P (Exit.then K (fun _ _ _ => False)) { tmps := (ps.zip (encs x)).foldl (fun t (p, v) => t.setIfInBounds p v) a.tmps, defers := [] } W)
    (hbody : ∀ (l : Nat) (pre : List α) (x : α) (rest : List α) (W : World), S (pre ++ x :: rest) → w.heap.size ≤ l → (∃ r, W.heap[l]? = some (.loop r)) → I pre W →
      body.wpIn (Fence.wide.inRound l) 0 P (ownP w.heap.size I Ix (pre ++ [x]) W) (a₁ x) W)
    (hdone : ∀ (xs : List α) (W : World), S xs → I xs W → Q .normal a W)
    (hstop : ∀ (c : Code) (pre rest : List α) (W : World), S (pre ++ rest) → Ix c pre W → c.wpIn (Fence.wide.inRound l₀) 0 P Q a W) :
    (Code.rangeFunc g ps assign body).wpIn (Fence.wide.inRound l₀) 0 P Q a w := by
  refine wpIn_rangeFunc ?_
  intro fn hfn
  rw [Fence.inRound_round]
  obtain ⟨rec, hrec⟩ : ∃ rec : LoopState → Option Code → Loop, rec = fun st pe => { state := st, pending := pe, fn, tmps := a.tmps, params := ps, assign, body, defers := r₀.defers } := ⟨_, rfl⟩
  obtain ⟨W1, hW1⟩ : ∃ W1, w.alloc (.loop (rec .ready none)) = W1 := ⟨_, rfl⟩
  have hL1 : W1.heap[w.heap.size]? = some (.loop (rec .ready none)) := by rw [← hW1]; exact World.alloc_heap_new w _
  have hI1 : I [] W1 := by rw [← hW1]; exact (hI []).alloc _ h0
  have hsz1 : w.heap.size + 1 = W1.heap.size := by rw [← hW1]; simp
  refine ⟨w.heap.size, [], W1, { target := .fn (.func gf) lb, args := #[.func (.yield w.heap.size) #[] #[]] }, W1, gf,
    #[.func (.yield w.heap.size) #[] #[]] ++ lb, W1, ?_, ?_, ?_, ?_, fun h => wide_none h, ?_⟩
  · rw [← hW1, hrec]; exact run_enterLoop_inner hr₀ _ _ _ _ _
  · simp only [resolve, hg]
    simp [go_sem]
  · intro f' _; exact wide_fn f'
  · simp [invoke, go_sem, eg]
  · refine CallsIn.mono (F := Fence.wide.inRound l₀) (hseq w.heap.size
      (fun pre W => I pre W ∧ W.heap[w.heap.size]? = some (.loop (rec .ready none)))
      (fun pre W => ∃ c, Ix c pre W ∧ W.heap[w.heap.size]? = some (.loop (rec .done (some c))))
      W1
      (fun pre => ((hI pre).more (by omega)).and (Stb.low _ _ _ (by omega)))
      (fun pre => Stb.ex fun c => ((hIx c pre).more (by omega)).and (Stb.low _ _ _ (by omega)))
      (fun pre W hi => hpre pre W hi.1)
      ?_ ⟨hI1, hL1⟩) ?_
    · rintro pre x rest W hS ⟨hi, hl⟩
      have hlt : w.heap.size < W.heap.size := (Array.getElem?_eq_some_iff.1 hl).1
      have hy := run_yield (P := P) (args := encs x) hl (by rw [hrec]; exact hps x)
      rw [hrec] at hy
      refine ⟨fn, _, assign, body, hy, roundIn_of_wpIn (wide_fn fn) (hassign _ x W _ ⟨_, run_beginRound hl (by rw [hrec]), ?_⟩)⟩
      have hl2 : (W.putObj w.heap.size (.loop { rec .ready none with state := .busy })).heap[w.heap.size]? = some (.loop { rec .ready none with state := .busy }) := World.putObj_heap_same hlt
      refine wpIn_mono (hbody _ pre x rest _ hS (by omega) ⟨_, hl2⟩ ((hI pre).putObj _ hi (by omega) hl rfl)) ?_
      have fin : ∀ (jump : Option Code) (W3 : World), KeepBk w.heap.size (W.putObj w.heap.size (.loop { rec .ready none with state := .busy })) W3 →
          (Instr.endRound w.heap.size jump).run P W3 = .ok (.bool jump.isNone) (W3.putObj w.heap.size (.loop (rec (if jump.isNone then .ready else .done) jump))) ∧
          W3.heap[w.heap.size]? = some (.loop { rec .ready none with state := .busy }) ∧
          (W3.putObj w.heap.size (.loop (rec (if jump.isNone then .ready else .done) jump))).heap[w.heap.size]? = some (.loop (rec (if jump.isNone then .ready else .done) jump)) := fun jump W3 hk3 => by
        have hl3 := hk3.same _ _ (by omega) hl2 rfl
        have := run_endRound (P := P) jump hl3
        rw [hrec] at this ⊢
        exact ⟨this, by rw [hrec] at hl3; exact hl3, World.putObj_heap_same (Array.getElem?_eq_some_iff.1 hl3).1⟩
      have kp : ∀ {W3 : World}, KeepBk w.heap.size (W.putObj w.heap.size (.loop { rec .ready none with state := .busy })) W3 → ∀ o, KeepBk W1.heap.size W (W3.putObj w.heap.size o) := fun hk3 o =>
        ((KeepBk.putObj W1.heap.size W _ _ (by omega)).trans (hk3.more (by omega))).trans (KeepBk.putObj _ _ _ _ (by omega))
      rintro e a3 W3 hp
      cases e with
      | normal =>
        obtain ⟨hk3, hi3⟩ := hp
        obtain ⟨hr, hl3, hl4⟩ := fin none W3 hk3
        exact ⟨_, _, hr, .inl ⟨rfl, kp hk3 _, (hI _).putObj _ hi3 (by omega) hl3 rfl, hl4⟩⟩
      | ret =>
        obtain ⟨hk3, hi3⟩ := hp
        obtain ⟨hr, hl3, hl4⟩ := fin (some .ret) W3 hk3
        exact ⟨_, _, hr, .inr ⟨rfl, kp hk3 _, .ret, (hIx _ _).putObj _ hi3 (by omega) hl3 rfl, hl4⟩⟩
      | exit id =>
        obtain ⟨hk3, hi3⟩ := hp
        obtain ⟨hr, hl3, hl4⟩ := fin (some (.exit id)) W3 hk3
        exact ⟨_, _, hr, .inr ⟨rfl, kp hk3 _, .exit id, (hIx _ _).putObj _ hi3 (by omega) hl3 rfl, hl4⟩⟩
      | goto t =>
        obtain ⟨hk3, hi3⟩ := hp
        obtain ⟨hr, hl3, hl4⟩ := fin (some (.goto t)) W3 hk3
        exact ⟨_, _, hr, .inr ⟨rfl, kp hk3 _, .goto t, (hIx _ _).putObj _ hi3 (by omega) hl3 rfl, hl4⟩⟩
      | panic ch => exact hp.elim
      | outgrown => exact hp.elim
    · rintro e W2 ⟨⟨v, rfl⟩, (⟨xs, hS, hi, hl⟩ | ⟨pre, rest, hS, c, hi, hl⟩)⟩
      · exact ⟨none, _, by have := run_endLoop (P := P) hl (by rw [hrec]; simp); rw [hrec] at this; exact this, hdone xs _ hS ((hI _).putObj _ hi (by omega) hl rfl)⟩
      · exact ⟨some c, _, by have := run_endLoop (P := P) hl (by rw [hrec]; simp); rw [hrec] at this; exact this, hstop c pre rest _ hS ((hIx _ _).putObj _ hi (by omega) hl rfl)⟩

end Go.Proofs.Ytmghgjokleeigaa
