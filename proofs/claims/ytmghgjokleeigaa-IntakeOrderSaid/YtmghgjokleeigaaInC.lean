/-
  Intake: what can be handed on is collected into a row. No condition but the numbers' ranges; at most 64.
-/
import Derived.Test.YtmghgjokleeigaaInR
namespace Go.Proofs.Ytmghgjokleeigaa
open Go.RowKit Go.Shelf Go.Maps
attribute [local go_sem] Oper.semAt_some wide_fn_eq wide_depth

theorem enters85 : Enters 85 := fun _ _ => (enters_of Try.func85 (by kernel_rfl) rfl) _ _
theorem ready75 (I : Nat) (w : World) : Calls Try.prog 75 #[.pointer (some ⟨I, 0, none⟩)] w fun e w' => e = .returned (.func (.func 85) #[] #[.pointer (some ⟨w.heap.size, 0, none⟩)]) ∧ w.alloc (.cells #[.pointer (some ⟨I, 0, none⟩)] 63) = w' := by
  go_enter Try.func75, Try.ntmps75
  go_wp2
  go_ret
  exact ⟨rfl, rfl⟩

theorem stb_keep {B : Nat} {A A' : World} {row : Option Nat} (hg : A.grownBy A' row) (hr : ∀ r, row = some r → B ≤ r ∧ ∃ o : Obj, A.heap[r]? = some o ∧ isBook o = true) {b : Nat} {o : Obj} (h : A.heap[b]? = some o) (ho : isBook o = false) : A'.heap[b]? = some o := by
  refine (hg.block b (block_lt h) ?_).trans h
  intro e
  obtain ⟨_, o', h1, h2⟩ := hr b e.symm
  rw [h] at h1; cases h1; rw [ho] at h2; cases h2
theorem Stb.offRow {B base : Nat} {e : TypeId} (he : prot e = false) (v : Value) (xs : List Value) : Stb B (fun W => OffRow W base e v xs) := fun A A' row h hg hr =>
  h.same fun k hk => by
    obtain ⟨_, cur, hc⟩ := h.own hk
    rw [hc]; exact stb_keep hg hr hc he
theorem Stb.intk {B : Nat} {w0 : World} {I M n fl : Nat} {v : Nat → Option Gr} {c : Nat} (hB : w0.heap.size ≤ B) : Stb B (Intk w0 I M n fl v c) := fun A A' row h hg hr => by
  refine ⟨stb_keep hg hr h.box rfl, ?_, fun id g e => Stb.offRow rfl _ _ A A' row (h.gr id g e) hg hr, h.hI, h.hM, h.bel.grown hg h.bel.size (fun j e => Nat.le_trans hB (hr j e).1)⟩
  obtain ⟨D, ⟨es, clock, h1, h2, h3, h4⟩, h5⟩ := h.map
  exact ⟨D, ⟨es, clock, stb_keep hg hr h1 rfl, h2, h3, h4⟩, h5⟩
/-- All that lay in w, but for the intake's two blocks, lies. -/
structure Still (I M : Nat) (w W : World) : Prop where
  same : ∀ b, b < w.heap.size → b ≠ I → b ≠ M → W.heap[b]? = w.heap[b]?
  size : w.heap.size ≤ W.heap.size
  os : W.os = w.os ∧ W.tape = w.tape ∧ W.output = w.output
theorem Still.refl (I M : Nat) (w : World) : Still I M w w := ⟨fun _ _ _ _ => rfl, Nat.le_refl _, rfl, rfl, rfl⟩
theorem Still.trans {I M : Nat} {w W W' : World} (h : Still I M w W) (k : Still I M W W') : Still I M w W' :=
  ⟨fun b hb h1 h2 => (k.same b (Nat.lt_of_lt_of_le hb h.size) h1 h2).trans (h.same b hb h1 h2), Nat.le_trans h.size k.size, k.os.1.trans h.os.1, k.os.2.1.trans h.os.2.1, k.os.2.2.trans h.os.2.2⟩
theorem Still.of_below {I M : Nat} {w W : World} (h : Below w.heap.size w W) : Still I M w W := ⟨fun b hb _ _ => h.block b hb, h.size, h.os, h.tape, h.output⟩
theorem Still.of_turned {I M : Nat} {w W : World} (h : Turned I M w W) : Still I M w W := ⟨fun b _ h1 h2 => h.1 b h1 h2, Nat.le_of_eq h.2.1.symm, h.2.2⟩
theorem Stb.still {B I M : Nat} {w : World} (hB : w.heap.size ≤ B) : Stb B (Still I M w) := fun A A' row h hg hr =>
  ⟨fun b hb h1 h2 => (hg.block b (Nat.lt_of_lt_of_le hb h.size) (fun e => by have := (hr b e.symm).1; omega)).trans (h.same b hb h1 h2), Nat.le_trans h.size hg.size, hg.os.trans h.os.1, hg.tape.trans h.os.2.1, hg.output.trans h.os.2.2⟩
theorem Intk.ne_gram {w0 : World} {I M n fl : Nat} {v : Nat → Option Gr} {c : Nat} {W : World} (h : Intk w0 I M n fl v c W) {base : Nat} {u : Value} {xs : List Value} {e : TypeId} (he : e ≠ 80) (hu : OffRow W base e u xs) {b : Nat} (hb : u.ownBlock = some b) : b ≠ I ∧ b ≠ M := by
  obtain ⟨_, cur, hc⟩ := hu.own hb
  refine ⟨?_, ?_⟩
  · rintro rfl
    rw [h.box] at hc; injection hc with hc; injection hc with _ hc; exact he hc.symm
  · rintro rfl
    obtain ⟨D, ⟨es, clock, h1, _⟩, _⟩ := h.map
    rw [hc] at h1; cases h1
/-- What has been collected. -/
structure Coll (w : World) (w0 : World) (I M Bs : Nat) (pre : List Gr) (W : World) : Prop where
  row : ∃ s, W.heap[Bs]? = some (.cells #[s] 68 (0, 0)) ∧ OffRow W w.heap.size 62 s (pre.map encG)
  gr : ∀ g ∈ pre, OffRow W w0.heap.size 5 (encG g) (byts g.2)
  st : Still I M w W
theorem Stb.coll {B : Nat} {w w0 : World} {I M Bs : Nat} {pre : List Gr} (hB : w.heap.size ≤ B) : Stb B (Coll w w0 I M Bs pre) := fun A A' row h hg hr => by
  obtain ⟨s, h1, h2⟩ := h.row
  exact ⟨⟨s, stb_keep hg hr h1 rfl, Stb.offRow rfl _ _ A A' row h2 hg hr⟩, fun g hgm => Stb.offRow rfl _ _ A A' row (h.gr g hgm) hg hr, Stb.still hB A A' row h.st hg hr⟩

theorem Intk.sameBut {w0 : World} {I M n fl : Nat} {v : Nat → Option Gr} {c : Nat} {W W' : World} (h : Intk w0 I M n fl v c W) (hk : ∀ (b : Nat) (o : Obj), W.heap[b]? = some o → ((∃ cs f, o = Obj.cells cs 5 f) ∨ b = I ∨ b = M) → W'.heap[b]? = some o) (hb : Below w0.heap.size w0 W') : Intk w0 I M n fl v c W' := by
  refine ⟨hk _ _ h.box (.inr (.inl rfl)), ?_, fun id g e => (h.gr id g e).same fun b e2 => ?_, h.hI, h.hM, hb⟩
  · obtain ⟨D, ⟨es, clock, h1, h2, h3, h4⟩, h5⟩ := h.map
    exact ⟨D, ⟨es, clock, hk _ _ h1 (.inr (.inr rfl)), h2, h3, h4⟩, h5⟩
  · obtain ⟨_, cur, hc⟩ := (h.gr id g e).own e2
    rw [hc]; exact hk _ _ hc (.inl ⟨_, _, rfl⟩)
def CollPost (w w0 : World) (I M n fl : Nat) (v : Nat → Option Gr) (c : Nat) (L : List Gr) (e : Ending) (W : World) : Prop :=
  ∃ s, e = .returned s ∧ OffRow W w.heap.size 62 s (L.map encG) ∧ (∀ g ∈ L, OffRow W w0.heap.size 5 (encG g) (byts g.2)) ∧ Intk w0 I M n (fl + L.length) (restV v fl L.length) (c - L.length) W ∧ Still I M w W
set_option maxRecDepth 100000 in
set_option maxHeartbeats 2000000 in
theorem collect84 (w0 : World) (I M n fl : Nat) (v : Nat → Option Gr) (c Bx : Nat) (L : List Gr) (hL : Runs v fl L) (h64 : L.length ≤ 64) (w : World) (hin : Intk w0 I M n fl v c w) (hb : w.heap[Bx]? = some (.cells #[.pointer (some ⟨I, 0, none⟩)] 63 (0, 0))) :
    Calls Try.prog 84 #[.slice none 0 0, .func (.func 85) #[] #[.pointer (some ⟨Bx, 0, none⟩)]] w (CollPost w w0 I M n fl v c L) := by
  obtain ⟨i0, hi, hz0, hz1, hz2⟩ := info_parts Try.info62
  refine (callsIn_wide (n := 0)).1 (callsIn_of_wp_marks Try.func84 rfl trivial ?_)
  simp only [Try.ntmps84, List.size_toArray, List.length_cons, List.length_nil, Nat.reduceAdd, Nat.reduceSub, Array.replicate_succ, Array.replicate_zero, List.push_toArray, List.append_toArray, List.nil_append, List.cons_append]
  have HL := Lib.hid hL; have Hin := Lib.hid hin; have Hb := Lib.hid hb; have H64 := Lib.hid h64
  clear hL hin hb h64
  gi_wp2
  have hI := block_lt Hin.out.box
  have hM := Hin.out.map.lt
  have hsz := Hin.out.bel.size
  refine wp_range3 (gf := 85) rfl enters85 (ready85 w0 I M n fl v c Bx L HL.out) (fun _ => by rfl)
    (fun pre W => ReadyAt w0 I M n fl v c Bx pre.length W ∧ Coll w w0 I M w.heap.size pre W)
    (fun pre x W => (W.heap[Bx]? = some (.cells #[.pointer (some ⟨I, 0, none⟩)] 63 (0, 0)) ∧ Intk w0 I M n (fl + (pre.length + 1)) (restV v fl (pre.length + 1)) (c - (pre.length + 1)) W) ∧ Coll w w0 I M w.heap.size pre W ∧ OffRow W w0.heap.size 5 (encG x) (byts x.2))
    (fun _ _ _ => False)
    (fun pre => ((Stb.block _ _ _ rfl).and (Stb.intk (by simp; omega))).and (Stb.coll (by simp)))
    (fun pre x => ((Stb.block _ _ _ rfl).and (Stb.intk (by simp; omega))).and ((Stb.coll (by simp)).and (Stb.offRow rfl _ _)))
    (fun c pre => Stb.pure _ _)
    (fun pre W h => h.1)
    ?start
    (fun x => { tmps := #[.slice none 0 0, .func (.func 85) #[] #[.pointer (some ⟨Bx, 0, none⟩)], .pointer (some ⟨w.heap.size, 0, none⟩), undef, .slice none 0 0, encG x, .func (.func 85) #[] #[.pointer (some ⟨Bx, 0, none⟩)], encG x, undef, undef, undef, undef, undef], defers := [] }) ?assign ?step ?body ?done ?stop
  case start =>
    refine ⟨⟨alloc_old _ Hb.out, ?_⟩, ⟨_, alloc_new _ _, OffRow.nil_ _ _ _⟩, fun g hg => (by simp at hg), Still.of_below ((Below.refl _ _).alloc (Nat.le_refl _) _)⟩
    show Intk w0 I M n fl (restV v fl 0) c _
    rw [restV_zero]
    exact Hin.out.alloc _
  case assign =>
    intro l' x W' K hK
    obtain ⟨q, lx, cx, ex⟩ : ∃ q l c, encG x = .slice q l c := ⟨_, _, _, rfl⟩
    simp only [ex] at hK ⊢
    gi_wp2
    exact hK
  case step =>
    rintro pre x rest W1 W2 hS ⟨⟨hbx, hin1⟩, hc⟩ ⟨hin2, ht⟩
    have hlt : pre.length < L.length := by rw [← hS]; simp
    have hx : L[pre.length] = x := by simp [← hS]
    have hvx : restV v fl pre.length (fl + pre.length) = some x := by rw [restV_here, HL.out.at_ _ hlt, hx]
    have ho := hin1.gr _ x hvx
    have hkeep := ht.1
    obtain ⟨s, hs1, hs2⟩ := hc.row
    refine ⟨⟨Nat.le_of_eq ht.2.1.symm, fun k o hk ho _ => (hkeep k (by simp at hk; omega) (by simp at hk; omega)).trans ho⟩, ⟨(hkeep Bx ?_ ?_).trans hbx, hin2⟩, ⟨⟨s, (hkeep _ (by omega) (by omega)).trans hs1, hs2.same fun b e => ?_⟩, fun g hg => (hc.gr g hg).same fun b e => ?_, hc.st.trans (Still.of_turned ht)⟩, ho.same fun b e => ?_⟩
    · rintro rfl; rw [hin1.box] at hbx; cases hbx
    · rintro rfl
      obtain ⟨D, ⟨es, clock, h1, _⟩, _⟩ := hin1.map
      rw [hbx] at h1; cases h1
    · obtain ⟨e1, e2⟩ := hin1.ne_gram (by decide) hs2 e
      exact hkeep b e1 e2
    · obtain ⟨e1, e2⟩ := hin1.ne_gram (by decide) (hc.gr g hg) e
      exact hkeep b e1 e2
    · obtain ⟨e1, e2⟩ := hin1.ne_gram (by decide) ho e
      exact hkeep b e1 e2
  case body =>
    rintro l' pre x rest W hS hl ⟨r, hr⟩ ⟨⟨hbx, hin1⟩, hc, hx⟩
    have hlt : pre.length < L.length := by rw [← hS]; simp
    have hl64 : L.length ≤ 64 := H64.out
    obtain ⟨s, hs1, hs2⟩ := hc.row
    obtain ⟨q, Ls, cp, rfl⟩ := hs2.form'
    obtain ⟨qx, lx, cx, ex⟩ : ∃ q l c, encG x = .slice q l c := ⟨_, _, _, rfl⟩
    simp only [ex]
    have c2 : W.cell? ⟨w.heap.size, 0, none⟩ = some (.slice q Ls cp) := one_cell hs1
    have hszW := hc.st.size
    have Hnew : Hid ((W.alloc (.cells #[.slice qx lx cx] 62)).cell? ⟨W.heap.size, 0, none⟩ = some (.slice qx lx cx)) := Lib.hid (one_cell (alloc_new _ _))
    have Hrow : Hid (OffRow (W.alloc (.cells #[.slice qx lx cx] 62)) w.heap.size 62 (.slice q Ls cp) (pre.map encG)) := Lib.hid (hs2.alloc _)
    have Hs1 := Lib.hid hs1; have Hs2 := Lib.hid hs2; have Hc := Lib.hid hc; have Hx := Lib.hid hx; have Hin1 := Lib.hid hin1; have Hbx := Lib.hid hbx; have HS := Lib.hid hS; have HEx := Lib.hid ex
    have f2 : W.frozen? ⟨w.heap.size, 0, none⟩ = false := one_free hs1
    clear hs1 hs2 hc hx hin1 hbx hS ex hr
    gi_wp2_with (gi_at_builtin; refine wpListIn_append_off _ rfl (.tmp 8) (.tmp 10) 68 rfl w.heap.size 62 i0 (.slice none 0 0) 24 Try.underlying68 hi hz0 hz1 hz2 rfl (.slice q Ls cp) (pre.map encG) rfl Hrow.out ⟨W.heap.size, 0, none⟩ 1 (.slice qx lx cx) rfl Hnew.out rfl (by unfold maxLen; rw [List.length_map]; omega) (by rw [List.length_map]; omega) (by simp only [World.size_alloc]; omega) ?_; intro v' W4 r1 r2 r3; obtain ⟨q', L', c', e'⟩ := r1.form'; subst e'; have hP4 : W4.heap[w.heap.size]? = some (.cells #[.slice q Ls cp] 68 (0, 0)) := ((r2.block _ (by have := block_lt Hs1.out; simp; omega) (by intro e; obtain ⟨_, cur, hcc⟩ := Hs2.out.own e.symm; rw [Hs1.out] at hcc; injection hcc with hcc; injection hcc with _ hcc; exact absurd hcc (by decide))).trans (alloc_old _ Hs1.out)); have d2 := one_cell hP4; have g2 := one_free hP4; have HP4 := Lib.hid hP4; clear hP4)
    have hk : ∀ b, b < W.heap.size → b ≠ w.heap.size → (Value.slice q Ls cp).ownBlock ≠ some b → (W4.setCell ⟨w.heap.size, 0, none⟩ (.slice q' L' c')).heap[b]? = W.heap[b]? := fun b hb h1 h2 =>
      (Below.heap_setCell _ _ _ _ h1).trans ((r2.block b (by simp; omega) (fun e => h2 e.symm)).trans (Below.heap_alloc _ _ b hb))
    have hown : ∀ b, (Value.slice q Ls cp).ownBlock = some b → w.heap.size ≤ b ∧ ∃ cur, W.heap[b]? = some (.cells cur 62 (0, 0)) := fun b e => Hs2.out.own e
    have hsz5 : W.heap.size ≤ (W4.setCell ⟨w.heap.size, 0, none⟩ (.slice q' L' c')).heap.size := by
      have := r2.size
      rw [World.size_alloc] at this
      show _ ≤ (W4.heap.modify _ _).size
      rw [Array.size_modify]; omega
    have hst : Still I M w (W4.setCell ⟨w.heap.size, 0, none⟩ (.slice q' L' c')) :=
      ⟨fun b hb h1 h2 => (hk b (by omega) (by omega) (fun e => by have := (hown b e).1; omega)).trans (Hc.out.st.same b hb h1 h2), by omega,
        r2.os.trans Hc.out.st.os.1, r2.tape.trans Hc.out.st.os.2.1, r2.output.trans Hc.out.st.os.2.2⟩
    have hlow : ∀ b, b < w.heap.size → (W4.setCell ⟨w.heap.size, 0, none⟩ (.slice q' L' c')).heap[b]? = W.heap[b]? := fun b hb => hk b (by omega) (by omega) (fun e => by have := (hown b e).1; omega)
    have h5 : ∀ (b : Nat) (cs : Array Value) (f : Nat × Nat), W.heap[b]? = some (Obj.cells cs 5 f) → (W4.setCell ⟨w.heap.size, 0, none⟩ (.slice q' L' c')).heap[b]? = some (Obj.cells cs 5 f) := fun b cs f e => by
      refine (hk b (block_lt e) ?_ (fun e2 => ?_)).trans e
      · rintro rfl; rw [Hs1.out] at e; cases e
      · obtain ⟨_, cur, hcc⟩ := hown b e2
        rw [e] at hcc; cases hcc
    have hrow5 : ∀ g : Gr, OffRow W w0.heap.size 5 (encG g) (byts g.2) → OffRow (W4.setCell ⟨w.heap.size, 0, none⟩ (.slice q' L' c')) w0.heap.size 5 (encG g) (byts g.2) := fun g hg => hg.same fun b e => by
      obtain ⟨_, cur, hcc⟩ := hg.own e
      rw [hcc]; exact h5 b cur _ hcc
    refine ⟨⟨hsz5, fun k o hB hko hbk => ?_⟩, ⟨?_, ?_⟩, ⟨⟨_, set_cells HP4.out, ?_⟩, fun g hg => ?_, hst⟩⟩
    · refine (hk k (block_lt hko) ?_ (fun e2 => ?_)).trans hko
      · rintro rfl; rw [Hs1.out] at hko; cases hko; cases hbk
      · obtain ⟨_, cur, hcc⟩ := hown k e2
        rw [hko] at hcc; cases hcc; cases hbk
    · exact (hlow Bx (block_lt Hb.out)).trans Hbx.out
    · rw [List.length_append, List.length_singleton]
      refine Hin1.out.sameBut (fun b o e ho => ?_) ?_
      · rcases ho with ⟨cs, f, rfl⟩ | rfl | rfl
        · exact h5 b cs f e
        · exact (hlow b hI).trans e
        · exact (hlow b hM).trans e
      · exact Hin1.out.bel.trans ⟨hst.os.1.trans Hc.out.st.os.1.symm, hst.os.2.1.trans Hc.out.st.os.2.1.symm, hst.os.2.2.trans Hc.out.st.os.2.2.symm, hsz5, fun b hb => hlow b (by omega)⟩
    · rw [List.map_append, List.map_singleton, HEx.out]
      refine r1.same fun b e => Below.heap_setCell _ _ _ _ ?_
      rintro rfl
      obtain ⟨_, cur, hcc⟩ := r1.own e
      rw [HP4.out] at hcc; cases hcc
    · rcases List.mem_append.1 hg with hg | hg
      · exact hrow5 g (Hc.out.gr g hg)
      · rw [List.mem_singleton] at hg; subst hg; exact hrow5 g Hx.out
  case done =>
    rintro D ys W hD hSy ⟨⟨hbx, hin1⟩, hc⟩ hK
    subst hSy
    obtain ⟨s, hs1, hs2⟩ := hc.row
    have c2 : W.cell? ⟨w.heap.size, 0, none⟩ = some s := one_cell hs1
    obtain ⟨q, Ls, cp, rfl⟩ := hs2.form'
    have Hs2 := Lib.hid hs2; have Hc := Lib.hid hc; have Hin1 := Lib.hid hin1
    have HD := Lib.hid hK
    simp only [World.size_alloc] at hD
    clear hs1 hs2 hc hin1 hbx hK
    gi_wp2
    refine leave_mark (.inr rfl) HD.out (results_tmp rfl _ _ _) ⟨_, rfl, ?_, fun g hg => ?_, ?_, ?_⟩
    · exact (Stb.offRow (B := w.heap.size) rfl _ _).putObj _ Hs2.out (by omega) HD.out rfl
    · exact (Stb.offRow (B := w.heap.size) rfl _ _).putObj _ (Hc.out.gr g hg) (by omega) HD.out rfl
    · exact (Stb.intk (B := w.heap.size) (by omega)).putObj _ Hin1.out (by omega) HD.out rfl
    · exact (Stb.still (B := w.heap.size) (Nat.le_refl _)).putObj _ Hc.out.st (by omega) HD.out rfl
  case stop =>
    rintro D c pre rest W _ _ h _
    exact h.elim
end Go.Proofs.Ytmghgjokleeigaa
