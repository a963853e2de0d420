/-
  Send.
-/
import Derived.Test.YtbmhgdfkkiepaaaNet1
import Derived.Deep.RegionHeld3
namespace Go.Proofs.Ytbmhgdfkkiepaaa
open Go.RowKit

section
variable {P : Program} (w : World)
theorem step_append_off {ops : Array Oper} {o : Oper} {a : Act} {K : Act → World → Prop} {Q : Exit → Act → World → Prop} {E : Prop} (hgd : o.guard = none) (s x : Operand) (t : TypeId)
    (ho : o.op = .call { callee := .builtin .append, args := #[s, x], argTypes := #[t, t] })
    (base : Nat) (e : TypeId) (i : TypeInfo) (z : Value) (bytes : Nat) (ht : P.underlying t = some (.slice e)) (hi : P.info? e = some i) (hz : i.zero = some z)
    (hsize : i.size = 1) (hby : i.bytes = bytes) (hzs : z.cells.size = 1) (v : Value) (xs : List Value) (hs : a.eval s = v) (hown : OffRow w base e v xs)
    (ad : Addr) (c : Nat) (u : Value) (hx : a.eval x = .slice (some ad) 1 c) (hu : w.cell? ad = some u) (h1 : u.oneCell' = true)
    (h63 : xs.length + 1 ≤ maxLen) (hbytes : (xs.length + 1) * bytes ≤ 140737488355328) (hbase : base ≤ w.heap.size)
    (h : ∀ v' w', OffRow w' base e v' (xs ++ [u]) → w.grownBy w' v.ownBlock → (∀ k, v'.ownBlock = some k → v.ownBlock = some k ∨ w.heap.size ≤ k) → K (a.put o.dst v') w') :
    if Region.wanted o (yielded ops a.tmps) = true then Oper.wp P o a w K Q else E := by
  have hw : Region.wanted o (yielded ops a.tmps) = true := by simp [Region.wanted, hgd]
  rw [if_pos hw]
  obtain ⟨v', w', hr, h2, h3, h4⟩ := run_append_off (P := P) w base t o.type e i z bytes ht hi hz hsize hby hzs v xs hown ad c u hu h1 h63 hbytes hbase
  unfold Oper.wp execOp
  simp only [ho, resolve, invoke, builtin, Sem.run_bind, Sem.run_pure, Result.andThen_ok, List.map_toArray, List.map_cons, List.map_nil, hs, hx, hr]
  exact h v' w' h2 h3 h4
end

/-- All stays but nets and rows of rows. -/
def Keep5 (W W' : World) : Prop := ∀ (b : Nat) (o : Obj), W.heap[b]? = some o → (∀ c t f, o = Obj.cells c t f → t ≠ 93 ∧ t ≠ 68) → W'.heap[b]? = some o
theorem Keep5.refl (W : World) : Keep5 W W := fun _ _ h _ => h
theorem Keep5.trans {A B C : World} (h : Keep5 A B) (k : Keep5 B C) : Keep5 A C := fun b o e ho => k b o (h b o e ho) ho
theorem Keep5.cells {W W' : World} (h : Keep5 W W') {b : Nat} {c : Array Value} {t : TypeId} {f : Nat × Nat} (e : W.heap[b]? = some (Obj.cells c t f)) (ht : t ≠ 93 ∧ t ≠ 68) : W'.heap[b]? = some (Obj.cells c t f) :=
  h b _ e (fun c' t' f' e' => by cases e'; exact ht)
theorem Keep5.at5 {W W' : World} (h : Keep5 W W') {b : Nat} {c : Array Value} {f : Nat × Nat} (e : W.heap[b]? = some (Obj.cells c 5 f)) : W'.heap[b]? = some (Obj.cells c 5 f) := h.cells e (by decide)
theorem keep5_below {W W' : World} (h : Below W.heap.size W W') : Keep5 W W' := fun b _ e _ => (h.block b (block_lt e)).trans e
theorem block_lt' {w : World} {b : Nat} {o : Obj} (h : w.heap[b]? = some o) : b < w.heap.size := block_lt h

section
variable {w0 : World} {N : Nat} {r : Nat → Value} {g : Nat → List Gr} {W W1 : World}
theorem NetIs.keepSet {k : Nat} (h : NetIs w0 N r g W) (hk : k < 2) (r' : Value)
    (hg : ∀ b, b < W.heap.size → (r k).ownBlock ≠ some b → W1.heap[b]? = W.heap[b]?) : Keep5 W (W1.setCell ⟨N, 1 + k, none⟩ r') := fun b o e ho => by
  have h1 : b ≠ N := by rintro rfl; rw [h.net] at e; cases e; exact (ho _ _ _ rfl).1 rfl
  rw [Below.heap_setCell _ _ _ _ h1, hg b (block_lt e) (fun e2 => by obtain ⟨_, cur, hc⟩ := (h.row k hk).own e2; rw [hc] at e; cases e; exact (ho _ _ _ rfl).2 rfl), e]
theorem NetIs.store {k : Nat} {r' : Value} {g' : List Gr} (h : NetIs w0 N r g W) (hk : k < 2)
    (hg : ∀ b, b < W.heap.size → (r k).ownBlock ≠ some b → W1.heap[b]? = W.heap[b]?) (hsz : W.heap.size ≤ W1.heap.size) (hos : W1.os = W.os ∧ W1.tape = W.tape ∧ W1.output = W.output)
    (hrow : OffRow W1 w0.heap.size 68 r' (g'.map encG)) (hr : ∀ b, r'.ownBlock = some b → (r k).ownBlock = some b ∨ W.heap.size ≤ b)
    (hgram : ∀ p ∈ g', p ∈ g k ∨ (OffRow W1 w0.heap.size 5 (encG p) (byts p.2)))
    (hap : List.Pairwise (fun p q : Gr => Apart (encG p) (encG q)) (upd g k g' 0 ++ upd g k g' 1)) :
    NetIs w0 N (upd r k r') (upd g k g') (W1.setCell ⟨N, 1 + k, none⟩ r') := by
  have hN1 : W1.heap[N]? = some (.cells #[.bool true, r 0, r 1] 93 (0, 0)) := (hg N (block_lt h.net) (fun e => h.neRow hk e rfl)).trans h.net
  have hne : ∀ b, b ≠ N → (W1.setCell ⟨N, 1 + k, none⟩ r').heap[b]? = W1.heap[b]? := fun b hb => Below.heap_setCell _ _ _ _ hb
  refine h.put hk (fun b hb hbN hb2 => (hne b hbN).trans (hg b hb hb2)) (by simpa [World.setCell] using hsz) ?_ (hrow.same fun b e => hne b ?_) hr (fun p hp => ?_) hap hos
  · rw [set_cells hN1]
    obtain rfl | rfl : k = 0 ∨ k = 1 := by omega
    · rfl
    · rfl
  · rintro rfl
    exact absurd (hrow.typed e hN1) (by decide)
  · rcases hgram p hp with h1 | h1
    · exact .inl h1
    · refine .inr (h1.same fun b e => hne b ?_)
      rintro rfl
      exact absurd (h1.typed e hN1) (by decide)
/-- One less. -/
theorem pair_erase {g : Nat → List Gr} (hap : List.Pairwise (fun p q : Gr => Apart (encG p) (encG q)) (g 0 ++ g 1)) {k : Nat} (hk : k < 2) {g' : List Gr} (hs : g'.Sublist (g k)) :
    List.Pairwise (fun p q : Gr => Apart (encG p) (encG q)) (upd g k g' 0 ++ upd g k g' 1) := by
  refine hap.sublist ?_
  obtain rfl | rfl : k = 0 ∨ k = 1 := by omega
  · rw [upd_same, upd_other _ _ (by omega)]; exact hs.append (List.Sublist.refl _)
  · rw [upd_same, upd_other _ _ (by omega)]; exact (List.Sublist.refl _).append hs
/-- One more. -/
theorem pair_more {g : Nat → List Gr} (hap : List.Pairwise (fun p q : Gr => Apart (encG p) (encG q)) (g 0 ++ g 1)) {k : Nat} (hk : k < 2) (p : Gr) (hp : ∀ i, i < 2 → ∀ q ∈ g i, Apart (encG q) (encG p)) :
    List.Pairwise (fun p q : Gr => Apart (encG p) (encG q)) (upd g k (g k ++ [p]) 0 ++ upd g k (g k ++ [p]) 1) := by
  obtain rfl | rfl : k = 0 ∨ k = 1 := by omega
  · rw [upd_same, upd_other _ _ (by omega)]
    rw [List.append_assoc, List.pairwise_append] 
    rw [List.pairwise_append] at hap
    refine ⟨hap.1, List.pairwise_append.2 ⟨List.pairwise_singleton _ _, hap.2.1, fun a ha b hb => ?_⟩, fun a ha b hb => ?_⟩
    · rw [List.mem_singleton] at ha; subst ha; exact (hp 1 (by omega) b hb).symm
    · rcases List.mem_append.1 hb with hb | hb
      · rw [List.mem_singleton] at hb; subst hb; exact hp 0 (by omega) a ha
      · exact hap.2.2 a ha b hb
  · rw [upd_same, upd_other _ _ (by omega), ← List.append_assoc]
    refine List.pairwise_append.2 ⟨hap, List.pairwise_singleton _ _, fun a ha b hb => ?_⟩
    rw [List.mem_singleton] at hb; subst hb
    rcases List.mem_append.1 ha with ha | ha
    · exact hp 0 (by omega) a ha
    · exact hp 1 (by omega) a ha
theorem NetIs.gramOld (h : NetIs w0 N r g W) {i : Nat} (hi : i < 2) {p : Gr} (hp : p ∈ g i) {b : Nat} (e : (encG p).ownBlock = some b) : b < W.heap.size := block_lt ((h.gram i hi p hp).own e).2.choose_spec
theorem NetIs.rowOld (h : NetIs w0 N r g W) {i : Nat} (hi : i < 2) {b : Nat} (e : (r i).ownBlock = some b) : b < W.heap.size := block_lt ((h.row i hi).own e).2.choose_spec

theorem map_erase {α β : Type} (f : α → β) (l : List α) (i : Nat) : (l.eraseIdx i).map f = (l.map f).eraseIdx i := by
  induction l generalizing i with
  | nil => rfl
  | cons a l ih => cases i with
    | zero => rfl
    | succ i => simp [ih]
/-- One is taken out. -/
theorem NetIs.dropped {k i : Nat} {r' : Value} (h : NetIs w0 N r g W) (hk : k < 2) (hD : DeletePost w0.heap.size (r k) ((((g k).map Prod.fst).eraseIdx i).map encS) W (.returned r') W1) :
    NetIs w0 N (upd r k r') (upd g k ((g k).eraseIdx i)) (W1.setCell ⟨N, 1 + k, none⟩ r') ∧ Keep5 W (W1.setCell ⟨N, 1 + k, none⟩ r') := by
  obtain ⟨v', b, e, hb1, hb2, hrow, hg⟩ := hD
  cases e
  have hg' : ∀ b, b < W.heap.size → (r k).ownBlock ≠ some b → W1.heap[b]? = W.heap[b]? := fun c hc hne => hg.block c hc (fun e => hne (by rw [e, hb1]))
  refine ⟨h.store hk hg' hg.size ⟨hg.os, hg.tape, hg.output⟩ ?_ (fun c hc => .inl (by rw [hb1, ← hb2, hc])) (fun p hp => .inl (List.mem_of_mem_eraseIdx hp)) (pair_erase h.apart hk (List.eraseIdx_sublist _ _)), h.keepSet hk _ hg'⟩
  have : ((g k).eraseIdx i).map encG = (((g k).map Prod.fst).eraseIdx i).map encS := by
    rw [map_erase, map_erase, List.map_map]
    rfl
  rw [this]; exact hrow
/-- One is put behind. -/
theorem NetIs.pushed {k : Nat} {v : Value} {xs : List Nat} {q : Sl} {r' : Value} {Wa : World} (h : NetIs w0 N r g W) (hk : k < 2) (hv : v = encS q) (hb : Below W.heap.size W Wa) (hrowv : OffRow Wa W.heap.size 5 v (byts xs))
    (hg : Wa.grownBy W1 (r k).ownBlock) (hrow : OffRow W1 w0.heap.size 68 r' (((g k).map encG) ++ [v])) (hr : ∀ b, r'.ownBlock = some b → (r k).ownBlock = some b ∨ Wa.heap.size ≤ b) :
    NetIs w0 N (upd r k r') (upd g k (g k ++ [(q, xs)])) (W1.setCell ⟨N, 1 + k, none⟩ r') ∧ Keep5 W (W1.setCell ⟨N, 1 + k, none⟩ r') := by
  subst hv
  have hg' : ∀ b, b < W.heap.size → (r k).ownBlock ≠ some b → W1.heap[b]? = W.heap[b]? := fun c hc hne => (hg.block c (Nat.lt_of_lt_of_le hc hb.size) (fun e => hne e.symm)).trans (hb.block c hc)
  refine ⟨h.store hk hg' (Nat.le_trans hb.size hg.size) ⟨hg.os.trans hb.os, hg.tape.trans hb.tape, hg.output.trans hb.output⟩ (by rw [List.map_append]; exact hrow) (fun c hc => ?_) (fun p hp => ?_) (pair_more h.apart hk _ fun i hi p hp b e1 e2 => ?_), h.keepSet hk _ hg'⟩
  · rcases hr c hc with h1 | h1
    · exact .inl h1
    · exact .inr (Nat.le_trans hb.size h1)
  · rcases List.mem_append.1 hp with hp | hp
    · exact .inl hp
    · rw [List.mem_singleton] at hp; subst hp
      refine .inr ((hrowv.mono h.bel.size).grown hg fun b e1 e2 => ?_)
      have h1 := (hrowv.own e1).1
      have h2 := h.rowOld hk e2
      omega
  · have h1 := (hrowv.own e2).1
    have h2 := h.gramOld hi hp e1
    omega
end

theorem new_cell0 (w : World) (v : Value) (t : TypeId) : (w.alloc (.cells #[v] t)).cell? ⟨w.heap.size, 0, none⟩ = some v := by simp only [World.cell?, alloc_new]; rfl
/-- The way's cell. -/
def Way (N k : Nat) (u : Value) (W : World) : Prop := W.cell? ⟨N, 1 + k, none⟩ = some u ∧ W.frozen? ⟨N, 1 + k, none⟩ = false
theorem Way.below {N k : Nat} {u : Value} {W W1 : World} (h : Way N k u W) (hb : Below W.heap.size W W1) : Way N k u W1 := by
  have h1 := World.block_lt_of_cell? W _ h.1
  exact ⟨(hb.cell h1).trans h.1, (hb.frozen h1).trans h.2⟩
theorem NetIs.way {w0 : World} {N k : Nat} {r : Nat → Value} {g : Nat → List Gr} {W : World} (h : NetIs w0 N r g W) (hk : k < 2) : Way N k (r k) W := ⟨h.cellAt hk, h.freeAt hk⟩
theorem keepRow {w0 : World} {N k : Nat} {r : Nat → Value} {g : Nat → List Gr} {W W1 W2 : World} {o : Obj} {v : Value} (hb : Below W.heap.size W W1) (h : NetIs w0 N r g W) (hk : k < 2) (hr : r k = v) (hg : (W1.alloc o).grownBy W2 v.ownBlock) : Way N k v W2 := by
  subst hr
  have h1 : N < W.heap.size := block_lt h.net
  have h2 : N < W1.heap.size := Nat.lt_of_lt_of_le h1 hb.size
  have e : W2.heap[N]? = W.heap[N]? := by
    rw [hg.block N (by simp; omega) (fun e => h.neRow hk e.symm rfl), Below.heap_alloc _ _ _ h2, hb.block N h1]
  exact ⟨(World.cell?_of_block (w := W) (a := ⟨N, 1 + k, none⟩) e).trans (h.cellAt hk), (World.frozen?_of_block (w := W) (a := ⟨N, 1 + k, none⟩) e).trans (h.freeAt hk)⟩

theorem upd_upd {α : Type} (f : Nat → α) (k : Nat) (x y : α) : upd (upd f k x) k y = upd f k y := by
  funext i; unfold upd; split <;> rfl

theorem NetIs.wayGrown {w0 : World} {N k b : Nat} {r : Nat → Value} {g : Nat → List Gr} {W W1 : World} (h : NetIs w0 N r g W) (hk : k < 2) (hb : (r k).ownBlock = some b) (hg : W.grownBy W1 (some b)) : Way N k (r k) W1 := by
  have e : W1.heap[N]? = W.heap[N]? := hg.block N (block_lt h.net) (fun e => h.neRow hk hb (by injection e with e; exact e.symm))
  exact ⟨(World.cell?_of_block (w := W) (a := ⟨N, 1 + k, none⟩) e).trans (h.cellAt hk), (World.frozen?_of_block (w := W) (a := ⟨N, 1 + k, none⟩) e).trans (h.freeAt hk)⟩
/-- Bytes that the net does not turn. -/
def Src (w0 W : World) (v : Value) (xs : List Nat) : Prop := Rd W v (byts xs) ∧ ∀ b, v.ownBlock = some b → xs = [] ∨ b < w0.heap.size ∨ ∃ c f, W.heap[b]? = some (Obj.cells c 5 f)
theorem Src.keep {w0 W W' : World} {v : Value} {xs : List Nat} (h : Src w0 W v xs) (k5 : Keep5 W W') (b1 : Below w0.heap.size w0 W) (b2 : Below w0.heap.size w0 W') : Src w0 W' v xs := by
  have hk : xs ≠ [] → ∀ b, v.ownBlock = some b → ∀ o, W.heap[b]? = some o → W'.heap[b]? = some o := fun hne b e o ho => by
    rcases h.2 b e with h1 | h1 | ⟨c, f, h1⟩
    · exact absurd h1 hne
    · rw [b2.block b h1, ← b1.block b h1, ho]
    · rw [h1] at ho; rw [← ho]; exact k5.at5 h1
  refine ⟨?_, fun b e => ?_⟩
  · rcases h.1 with h1 | ⟨ad, c, rfl, h1⟩
    · exact .inl h1
    · refine .inr ⟨ad, c, rfl, fun j u hu => ?_⟩
      have h2 := h1 j u hu
      have hlt := World.block_lt_of_cell? W _ h2
      have hb : (ad.add j).block = ad.block := by unfold Addr.add; split <;> rfl
      rw [hb] at hlt
      have e := hk (by rintro rfl; simp at hu) ad.block rfl _ (Array.getElem?_eq_getElem hlt)
      exact (World.cell?_of_block (w := W) (w' := W') (a := ad.add j) (by rw [hb, e, Array.getElem?_eq_getElem hlt])).trans h2
  · rcases h.2 b e with h1 | h1 | ⟨c, f, h1⟩
    · exact .inl h1
    · exact .inr (.inl h1)
    · exact .inr (.inr ⟨c, f, k5.at5 h1⟩)
theorem OffRow.src {w0 W : World} {base : Nat} {v : Value} {xs : List Nat} (h : OffRow W base 5 v (byts xs)) : Src w0 W v xs := ⟨h.rd, fun b e => .inr (.inr ⟨_, _, (h.own e).2.choose_spec⟩)⟩

/-! ### Send -/
def SendPost (w0 : World) (N : Nat) (g : Nat → List Gr) (k : Nat) (xs : List Nat) (W : World) (e : Ending) (W' : World) : Prop :=
  e = .returned (.tuple #[.bool (decide (64 ≤ (g k).length)), .int .i64 0]) ∧ Keep5 W W' ∧ ∃ r' q, NetIs w0 N r' (upd g k ((if 64 ≤ (g k).length then (g k).eraseIdx 0 else g k) ++ [(q, xs)])) W'
theorem OffRow.slf {w : World} {base : Nat} {e : TypeId} {v : Value} {xs : List Value} (h : OffRow w base e v xs) : ∃ q : Sl, v = encS q := by obtain ⟨q, c, rfl⟩ := h.form; exact ⟨(_, _, _), rfl⟩
theorem clone_at (v : Value) (xs : List Nat) (w : World) (h : Rd w v (byts xs)) (hx : xs.length ≤ 1048576) : ∀ W, Below w.heap.size w W → Calls Try.prog 47 #[v] W (ClonePost 5 (byts xs) W) := fun W hb => clone8_any v xs W (h.below hb) hx
theorem delete_at {w0 : World} {N : Nat} {r : Nat → Value} {g : Nat → List Gr} {W : World} (h : NetIs w0 N r g W) (k i : Nat) (hk : k < 2) (hi : i < (g k).length) :
    Calls Try.prog 46 #[r k, .int .i64 i, .int .i64 ((i + 1 : Nat) : Int)] W (DeletePost w0.heap.size (r k) ((((g k).map Prod.fst).eraseIdx i).map encS) W) :=
  delete_any w0.heap.size (r k) ((g k).map Prod.fst) W (by rw [List.map_map]; exact h.row k hk) i (by simpa using hi)

set_option maxRecDepth 100000 in
theorem send_ok {w0 : World} {N : Nat} {r : Nat → Value} {g : Nat → List Gr} {W : World} (h : NetIs w0 N r g W) (k : Nat) (hk : k < 2) (hl : (g k).length ≤ 64) (bv : Value) (xs : List Nat) (hb : Src w0 W bv xs) (hx : xs.length ≤ 600)
    (q0 : Option Addr) (L0 c0 : Nat) (hv : bv = .slice q0 L0 c0) (hL0 : L0 = xs.length) : Calls Try.prog 29 #[.pointer (some ⟨N, 0, none⟩), .int .i64 k, bv] W (SendPost w0 N g k xs W) := by
  obtain ⟨i0, hi0, hz0, hz1, hz2⟩ := info_parts Try.info68
  have c1 := h.cellAt hk
  have c2 := h.freeAt hk
  obtain ⟨q, L, c, e1⟩ := (h.row k hk).form'
  rw [e1] at c1
  have hL : L = (g k).length := by have := (h.row k hk).len'' e1; simpa using this
  have A1 : Hid (Calls Try.prog 45 #[.pointer (some ⟨N, 0, none⟩), .int .i64 k] W fun e W' => e = .returned (.tuple #[.pointer (some ⟨N, 1 + k, none⟩), .int .i64 0]) ∧ W = W') := Lib.hid (way_ok h k hk)
  have Hb : Hid (Src w0 W bv xs) := Lib.hid hb
  have HR : Hid (r k = .slice q L c) := Lib.hid e1
  have HL : Hid (L = (g k).length) := Lib.hid hL
  have hN := h.hN
  have hL64 : L ≤ 64 := by omega
  subst hv
  have hL0' : L0 ≤ 600 := by omega
  clear hb e1 hL hl hL0
  by_cases hf : 64 ≤ L
  · have hf' : ¬ L < 64 := by omega
    have D1 : Hid (∀ W', W' = W → Calls Try.prog 46 #[.slice q L c, .int .i64 0, .int .i64 1] W' (DeletePost w0.heap.size (r k) ((((g k).map Prod.fst).eraseIdx 0).map encS) W)) := Lib.hid (by
      rintro W' rfl
      rw [← HR.out]
      exact delete_at h k 0 hk (by have := HL.out; omega))
    go_enter Try.func29, Try.ntmps29
    go_wp2_with (first
      | (go_at_call 45; refine A1.out.mono ?_; rintro e w' ⟨rfl, rfl⟩)
      | (go_at_call 46; refine (D1.out _ rfl).mono ?_; rintro e W1 hD
         obtain ⟨v', b, rfl, hb1, hb2, hrow1, hg1⟩ := id hD
         obtain ⟨q', L', c', rfl⟩ := hrow1.form'
         obtain ⟨a1, a2⟩ := h.wayGrown hk hb1 hg1)
      | fail)
    obtain ⟨hn, k5⟩ := h.dropped hk hD
    have Hbn : Hid (Rd (W1.setCell ⟨N, 1 + k, none⟩ (.slice q' L' c')) (.slice q0 L0 c0) (byts xs)) := Lib.hid (Hb.out.keep k5 h.bel hn.bel).1
    have hLn : L' = (g k).length - 1 := by
      have := hrow1.len'
      rw [List.length_map, List.length_eraseIdx] at this
      have h2 := HL.out
      rw [List.length_map, if_pos (by omega)] at this
      exact this
    obtain ⟨rn, hrn⟩ : ∃ x, x = upd r k (.slice q' L' c') := ⟨_, rfl⟩
    obtain ⟨gn, hgn⟩ : ∃ x, x = upd g k ((g k).eraseIdx 0) := ⟨_, rfl⟩
    generalize W1.setCell ⟨N, 1 + k, none⟩ (.slice q' L' c') = Wn at hn k5 Hbn ⊢
    rw [← hrn, ← hgn] at hn
    have HRn : Hid (rn k = .slice q' L' c') := Lib.hid (by rw [hrn, upd_same])
    have HLn : Hid (L' = (gn k).length) := Lib.hid (by rw [hgn, upd_same, hLn, List.length_eraseIdx, if_pos (by have := HL.out; omega)])
    have hLn' : L' < 64 := by have := HL.out; omega
    have Hgn : Hid (gn = upd g k ((g k).eraseIdx 0)) := Lib.hid hgn
    have d1 := hn.cellAt hk
    have d2 := hn.freeAt hk
    rw [HRn.out] at d1
    clear hD hb1 hb2 hrow1 hg1 a1 a2 hLn hrn hgn
    have C47 : Hid (∀ W1, Below Wn.heap.size Wn W1 → Calls Try.prog 47 #[.slice q0 L0 c0] W1 (ClonePost 5 (byts xs) W1)) := Lib.hid (clone_at _ xs Wn Hbn.out (by omega))
    have HO : Hid (OffRow Wn w0.heap.size 68 (.slice q' L' c') ((gn k).map encG)) := Lib.hid (by rw [← HRn.out]; exact hn.row k hk)
    have hz := hn.bel.size
    have hLm : ((gn k).map encG).length = L' := by rw [List.length_map, HLn.out]
    have HLm := Lib.hid hLm
    clear hLm
    go_region_law
      (first
        | (refine step_append_off (W1.alloc (.cells #[.slice qq lv cv] 68)) rfl _ _ _ rfl w0.heap.size 68 i0 (.slice none 0 0) 24 Try.underlying90 hi0 hz0 hz1 hz2 rfl (.slice q' L' c') ((gn k).map encG) rfl (by have := HO.out.same (w' := W1) (fun b e => hbv.block b (block_lt (HO.out.own e).2.choose_spec)); exact this.alloc _) ⟨W1.heap.size, 0, none⟩ 1 (.slice qq lv cv) rfl (new_cell0 _ _ _) rfl (by have := HLm.out; unfold maxLen; omega) (by have := HLm.out; omega) (by have := hbv.size; simp at this ⊢; omega) ?_
           intro v' W2 hrow hgrow hown'
           obtain ⟨qn, Ln, cn, rfl⟩ := hrow.form'
           obtain ⟨c3, c4⟩ := keepRow hbv hn.drew hk HRn.out hgrow)
        | (go_simp
           go_at_call 47
           refine (C47.out _ (by first | exact Below.refl _ _ | exact (Below.refl _ _).drew)).mono ?_
           rintro e W1 ⟨v, rfl, hv1, hbv⟩
           obtain ⟨qq, lv, cv, rfl⟩ := hv1.form'
           obtain ⟨c3, c4⟩ := Way.below (W := Wn.drew) ⟨d1, d2⟩ hbv
           obtain ⟨c5, c6⟩ := Way.below (W := Wn.drew) ⟨d1, d2⟩ (hbv.alloc hbv.size (.cells #[.slice qq lv cv] 68))))
    all_goals
      go_wp2
      go_ret2
      have hp := hn.drew.pushed (q := (qq, lv, cv)) (xs := xs) hk rfl (hbv.alloc hbv.size (.cells #[.slice qq lv cv] 68)) (hv1.alloc _) (by rw [HRn.out]; exact hgrow) hrow (by rw [HRn.out]; exact hown')
      refine ⟨?_, k5.trans hp.2, upd rn k (.slice qn Ln cn), (qq, lv, cv), ?_⟩
      · have := HL.out
        simp; omega
      · rw [if_pos (by rw [← HL.out]; exact hf)]
        have := hp.1
        rw [Hgn.out, upd_upd, upd_same] at this
        exact this
  · have hf' : L < 64 := by omega
    go_enter Try.func29, Try.ntmps29
    go_wp2_with (go_at_call 45; refine A1.out.mono ?_; rintro e w' ⟨rfl, rfl⟩)
    have C47 : Hid (∀ W1, Below W.heap.size W W1 → Calls Try.prog 47 #[.slice q0 L0 c0] W1 (ClonePost 5 (byts xs) W1)) := Lib.hid (clone_at _ xs W Hb.out.1 (by omega))
    have HO : Hid (OffRow W w0.heap.size 68 (.slice q L c) ((g k).map encG)) := Lib.hid (by rw [← HR.out]; exact h.row k hk)
    have hz := h.bel.size
    have hLm : ((g k).map encG).length = L := by rw [List.length_map, HL.out]
    have HLm := Lib.hid hLm
    clear hLm
    go_region_law
      (first
        | (refine step_append_off (W1.alloc (.cells #[.slice qq lv cv] 68)) rfl _ _ _ rfl w0.heap.size 68 i0 (.slice none 0 0) 24 Try.underlying90 hi0 hz0 hz1 hz2 rfl (.slice q L c) ((g k).map encG) rfl (by have := HO.out.same (w' := W1) (fun b e => hbv.block b (block_lt (HO.out.own e).2.choose_spec)); exact this.alloc _) ⟨W1.heap.size, 0, none⟩ 1 (.slice qq lv cv) rfl (new_cell0 _ _ _) rfl (by have := HLm.out; unfold maxLen; omega) (by have := HLm.out; omega) (by have := hbv.size; simp at this ⊢; omega) ?_
           intro v' W2 hrow hgrow hown'
           obtain ⟨qn, Ln, cn, rfl⟩ := hrow.form'
           obtain ⟨c3, c4⟩ := keepRow hbv h.drew hk HR.out hgrow)
        | (go_simp
           go_at_call 47
           refine (C47.out _ (by first | exact Below.refl _ _ | exact (Below.refl _ _).drew)).mono ?_
           rintro e W1 ⟨v, rfl, hv1, hbv⟩
           obtain ⟨qq, lv, cv, rfl⟩ := hv1.form'
           obtain ⟨c3, c4⟩ := Way.below (W := W.drew) ⟨c1, c2⟩ hbv
           obtain ⟨c5, c6⟩ := Way.below (W := W.drew) ⟨c1, c2⟩ (hbv.alloc hbv.size (.cells #[.slice qq lv cv] 68))))
    all_goals
      go_wp2
      go_ret2
      have hp := h.drew.pushed (q := (qq, lv, cv)) (xs := xs) hk rfl (hbv.alloc hbv.size (.cells #[.slice qq lv cv] 68)) (hv1.alloc _) (by rw [HR.out]; exact hgrow) hrow (by rw [HR.out]; exact hown')
      refine ⟨?_, hp.2, upd r k (.slice qn Ln cn), (qq, lv, cv), ?_⟩
      · have := HL.out
        simp; omega
      · rw [if_neg (by rw [← HL.out]; exact hf)]
        exact hp.1

end Go.Proofs.Ytbmhgdfkkiepaaa
