/-
  SeqAsked: the rows of what was asked and what is missing, in memory; the closure that asks. No condition.
-/
import Derived.Test.YtmghgjokleeigaaOff
import Derived.Test.YtmghgjokleeigaaAskM
namespace Go.Proofs.Ytmghgjokleeigaa
open Go.RowKit Go.Shelf
attribute [local go_sem] Oper.semAt_some wide_fn_eq wide_depth

abbrev uns (l : List Nat) : List Value := l.map fun x : Nat => Value.int .u32 x

structure AskSt (w0 : World) (Ba Bm Bf Bh Bs Bp base fr up had st : Nat) (asked missing : List Nat) (va vm : Value) (W : World) : Prop where
  fa : W.heap[Ba]? = some (.cells #[va] 26 (0, 0))
  fm : W.heap[Bm]? = some (.cells #[vm] 26 (0, 0))
  ff : W.heap[Bf]? = some (.cells #[.int .u32 fr] 22 (0, 0))
  fh : W.heap[Bh]? = some (.cells #[.int .u64 had] 23 (0, 0))
  fs : W.heap[Bs]? = some (.cells #[.int .u8 st] 5 (0, 0))
  fp : W.heap[Bp]? = some (.cells #[.int .u32 fr, .int .u32 up] 25 (0, 0))
  ra : OffRow W base 22 va (uns asked)
  rm : OffRow W base 22 vm (uns missing)
  ap : Apart va vm
  lt : Bf < base
  ne : Ba ≠ Bm
  n0 : w0.heap.size ≤ base ∧ w0.heap.size ≤ Ba ∧ w0.heap.size ≤ Bm
  bel : Below w0.heap.size w0 W
  sz : base ≤ W.heap.size

section
variable {w0 : World} {Ba Bm Bf Bh Bs Bp base fr up had st : Nat} {asked missing : List Nat} {va vm : Value} {W W' : World}
theorem row_not {e t : TypeId} {v : Value} {xs : List Value} {c : Array Value} {f : Nat × Nat} {k : Nat} (h : OffRow W base e v xs) (hc : W.heap[k]? = some (.cells c t f)) (hne : t ≠ e) : v.ownBlock ≠ some k := by
  intro hk
  obtain ⟨_, cur, hk2⟩ := h.own hk
  rw [hc] at hk2
  injection hk2 with h1
  injection h1 with _ h2
  exact hne h2
/-- What is not book-keeping lies as it lies. -/
theorem AskSt.stb (B : Nat) (hB : w0.heap.size ≤ B) : Stb B (fun W => AskSt w0 Ba Bm Bf Bh Bs Bp base fr up had st asked missing va vm W) := by
  intro A A' row h hg hr
  have nb : ∀ {k : Nat} {c : Array Value} {t : TypeId}, A.heap[k]? = some (.cells c t (0, 0)) → prot t = false → A'.heap[k]? = some (.cells c t (0, 0)) := fun {k c t} hk ht =>
    Stb.block B k _ (by simpa [isBook] using ht) A A' row hk hg hr
  have rows : ∀ {v : Value} {xs : List Value}, OffRow A base 22 v xs → OffRow A' base 22 v xs := fun {v xs} h =>
    h.same fun k hk => by
      obtain ⟨_, cur, hc⟩ := h.own hk
      exact (nb hc rfl).trans hc.symm
  refine ⟨nb h.fa rfl, nb h.fm rfl, nb h.ff rfl, nb h.fh rfl, nb h.fs rfl, nb h.fp rfl, rows h.ra, rows h.rm, h.ap, h.lt, h.ne, h.n0, ?_, Nat.le_trans h.sz hg.size⟩
  refine h.bel.trans ⟨hg.os, hg.tape, hg.output, hg.size, fun b hb => ?_⟩
  refine hg.block b (Nat.lt_of_lt_of_le hb h.bel.size) ?_
  intro e
  have := (hr b e.symm).1
  omega
theorem AskSt.same (h : AskSt w0 Ba Bm Bf Bh Bs Bp base fr up had st asked missing va vm W) (hb : Below W.heap.size W W') : AskSt w0 Ba Bm Bf Bh Bs Bp base fr up had st asked missing va vm W' :=
  ⟨(hb.block _ (block_lt h.fa)).trans h.fa, (hb.block _ (block_lt h.fm)).trans h.fm, (hb.block _ (block_lt h.ff)).trans h.ff, (hb.block _ (block_lt h.fh)).trans h.fh, (hb.block _ (block_lt h.fs)).trans h.fs, (hb.block _ (block_lt h.fp)).trans h.fp,
    h.ra.same fun k hk => hb.block k (block_lt (h.ra.own hk).2.choose_spec), h.rm.same fun k hk => hb.block k (block_lt (h.rm.own hk).2.choose_spec), h.ap, h.lt, h.ne, h.n0, h.bel.trans (hb.mono h.bel.size), Nat.le_trans h.sz hb.size⟩
theorem AskSt.alloc (h : AskSt w0 Ba Bm Bf Bh Bs Bp base fr up had st asked missing va vm W) (o : Obj) : AskSt w0 Ba Bm Bf Bh Bs Bp base fr up had st asked missing va vm (W.alloc o) := h.same ((Below.refl _ _).alloc (Nat.le_refl _) _)
theorem AskSt.drewN (h : AskSt w0 Ba Bm Bf Bh Bs Bp base fr up had st asked missing va vm W) (n : Nat) : AskSt w0 Ba Bm Bf Bh Bs Bp base fr up had st asked missing va vm (W.drewN n) := h.same ⟨rfl, rfl, rfl, Nat.le_refl _, fun _ _ => rfl⟩

/-- One more was asked. -/
theorem AskSt.pushA {x : Nat} {v' : Value} (h : AskSt w0 Ba Bm Bf Bh Bs Bp base fr up had st asked missing va vm W) (hr : OffRow W' base 22 v' (uns asked ++ [.int .u32 x])) (hg : W.grownBy W' va.ownBlock) (hn : ∀ k, v'.ownBlock = some k → va.ownBlock = some k ∨ W.heap.size ≤ k) :
    W'.heap[Ba]? = some (.cells #[va] 26 (0, 0)) ∧ AskSt w0 Ba Bm Bf Bh Bs Bp base fr up had st (asked ++ [x]) missing v' vm (W'.setCell ⟨Ba, 0, none⟩ v') ∧ (∀ b, KeepBk b W (W'.setCell ⟨Ba, 0, none⟩ v')) ∧ ∀ k, k < W.heap.size → k < base → k ≠ Ba → (W'.setCell ⟨Ba, 0, none⟩ v').heap[k]? = W.heap[k]? := by
  have keep : ∀ {k : Nat} {c : Array Value} {t : TypeId}, W.heap[k]? = some (.cells c t (0, 0)) → t ≠ 22 → W'.heap[k]? = some (.cells c t (0, 0)) := fun {k c t} hk ht =>
    (hg.block k (block_lt hk) (fun e => row_not h.ra hk ht e.symm)).trans hk
  have set : ∀ {k : Nat} {o : Obj}, W'.heap[k]? = some o → k ≠ Ba → (W'.setCell ⟨Ba, 0, none⟩ v').heap[k]? = some o := fun {k o} hk hne => (setCell_heap_other hne).trans hk
  have hA := keep h.fa (by decide)
  have neB : ∀ {k : Nat} {c : Array Value} {t : TypeId}, W.heap[k]? = some (.cells c t (0, 0)) → t ≠ 26 → k ≠ Ba := fun {k c t} hk ht e => by
    subst e; rw [h.fa] at hk; injection hk with h1; injection h1 with _ h2; exact ht h2.symm
  have hf : W'.heap[Bf]? = some (.cells #[.int .u32 fr] 22 (0, 0)) := (hg.block Bf (block_lt h.ff) (fun e => by have := (h.ra.own e.symm).1; have := h.lt; omega)).trans h.ff
  refine ⟨hA, ⟨set_cells hA, set (keep h.fm (by decide)) h.ne.symm, set hf (neB h.ff (by decide)), set (keep h.fh (by decide)) (neB h.fh (by decide)), set (keep h.fs (by decide)) (neB h.fs (by decide)), set (keep h.fp (by decide)) (neB h.fp (by decide)), ?_, ?_, ?_, h.lt, h.ne, h.n0, ?_, ?_⟩, fun b => ?_, fun k hk1 hk2 hk3 => ?_⟩
  · simp only [uns, List.map_append, List.map_cons, List.map_nil]
    exact hr.same fun k hk => setCell_heap_other (fun e => by subst e; exact row_not hr hA (by decide) hk)
  · refine h.rm.same fun k hk => (setCell_heap_other (fun e => by subst e; exact row_not h.rm h.fa (by decide) hk)).trans (hg.block k (block_lt (h.rm.own hk).2.choose_spec) (fun e => h.ap k e.symm hk))
  · intro k hk1 hk2
    rcases hn k hk1 with e | e
    · exact h.ap k e hk2
    · have := block_lt (h.rm.own hk2).2.choose_spec; omega
  · exact (h.bel.grown hg h.bel.size (fun k e => Nat.le_trans h.n0.1 (h.ra.own e).1)).setCell h.n0.2.1 _
  · simpa [World.setCell] using Nat.le_trans h.sz hg.size
  · refine (KeepBk.of_grownBy b hg ?_).trans (KeepBk.setCell b W' _ _ (book_one hA rfl))
    intro j o hj ho
    obtain ⟨_, cur, hc⟩ := h.ra.own hj
    rw [hc] at ho; cases ho; rfl
  · exact (setCell_heap_other hk3).trans (hg.block k hk1 (fun e => by have := (h.ra.own e.symm).1; omega))
/-- One more is missing. -/
theorem AskSt.pushM {x : Nat} {v' : Value} (h : AskSt w0 Ba Bm Bf Bh Bs Bp base fr up had st asked missing va vm W) (hr : OffRow W' base 22 v' (uns missing ++ [.int .u32 x])) (hg : W.grownBy W' vm.ownBlock) (hn : ∀ k, v'.ownBlock = some k → vm.ownBlock = some k ∨ W.heap.size ≤ k) :
    W'.heap[Bm]? = some (.cells #[vm] 26 (0, 0)) ∧ AskSt w0 Ba Bm Bf Bh Bs Bp base fr up had st asked (missing ++ [x]) va v' (W'.setCell ⟨Bm, 0, none⟩ v') ∧ (∀ b, KeepBk b W (W'.setCell ⟨Bm, 0, none⟩ v')) ∧ ∀ k, k < W.heap.size → k < base → k ≠ Bm → (W'.setCell ⟨Bm, 0, none⟩ v').heap[k]? = W.heap[k]? := by
  have keep : ∀ {k : Nat} {c : Array Value} {t : TypeId}, W.heap[k]? = some (.cells c t (0, 0)) → t ≠ 22 → W'.heap[k]? = some (.cells c t (0, 0)) := fun {k c t} hk ht =>
    (hg.block k (block_lt hk) (fun e => row_not h.rm hk ht e.symm)).trans hk
  have set : ∀ {k : Nat} {o : Obj}, W'.heap[k]? = some o → k ≠ Bm → (W'.setCell ⟨Bm, 0, none⟩ v').heap[k]? = some o := fun {k o} hk hne => (setCell_heap_other hne).trans hk
  have hA := keep h.fm (by decide)
  have neB : ∀ {k : Nat} {c : Array Value} {t : TypeId}, W.heap[k]? = some (.cells c t (0, 0)) → t ≠ 26 → k ≠ Bm := fun {k c t} hk ht e => by
    subst e; rw [h.fm] at hk; injection hk with h1; injection h1 with _ h2; exact ht h2.symm
  have hf : W'.heap[Bf]? = some (.cells #[.int .u32 fr] 22 (0, 0)) := (hg.block Bf (block_lt h.ff) (fun e => by have := (h.rm.own e.symm).1; have := h.lt; omega)).trans h.ff
  refine ⟨hA, ⟨set (keep h.fa (by decide)) h.ne, set_cells hA, set hf (neB h.ff (by decide)), set (keep h.fh (by decide)) (neB h.fh (by decide)), set (keep h.fs (by decide)) (neB h.fs (by decide)), set (keep h.fp (by decide)) (neB h.fp (by decide)), ?_, ?_, ?_, h.lt, h.ne, h.n0, ?_, ?_⟩, fun b => ?_, fun k hk1 hk2 hk3 => ?_⟩
  · refine h.ra.same fun k hk => (setCell_heap_other (fun e => by subst e; exact row_not h.ra h.fm (by decide) hk)).trans (hg.block k (block_lt (h.ra.own hk).2.choose_spec) (fun e => h.ap k hk e.symm))
  · simp only [uns, List.map_append, List.map_cons, List.map_nil]
    exact hr.same fun k hk => setCell_heap_other (fun e => by subst e; exact row_not hr hA (by decide) hk)
  · intro k hk1 hk2
    rcases hn k hk2 with e | e
    · exact h.ap k hk1 e
    · have := block_lt (h.ra.own hk1).2.choose_spec; omega
  · exact (h.bel.grown hg h.bel.size (fun k e => Nat.le_trans h.n0.1 (h.rm.own e).1)).setCell h.n0.2.2 _
  · simpa [World.setCell] using Nat.le_trans h.sz hg.size
  · refine (KeepBk.of_grownBy b hg ?_).trans (KeepBk.setCell b W' _ _ (book_one hA rfl))
    intro j o hj ho
    obtain ⟨_, cur, hc⟩ := h.rm.own hj
    rw [hc] at ho; cases ho; rfl
  · exact (setCell_heap_other hk3).trans (hg.block k hk1 (fun e => by have := (h.rm.own e.symm).1; omega))
end

/-- The closure: it notes what is asked, and tells whether it is had. -/
def AskedPost (w0 : World) (Ba Bm Bf Bh Bs Bp base fr up had st : Nat) (asked missing : List Nat) (vm : Value) (x : Nat) (W : World) (e : Ending) (W' : World) : Prop :=
  e = .returned (.bool (!notHad fr had x)) ∧ (∃ va, AskSt w0 Ba Bm Bf Bh Bs Bp base fr up had st (asked ++ [x]) missing va vm W') ∧ (∀ b, KeepBk b W W') ∧ ∀ k, k < W.heap.size → k < base → k ≠ Ba → W'.heap[k]? = W.heap[k]?
set_option maxRecDepth 100000 in
set_option maxHeartbeats 1000000 in
theorem asked1 (w0 : World) (Ba Bm Bf Bh Bs Bp base fr up had st : Nat) (asked missing : List Nat) (va vm : Value) (x : Nat) (W : World) (h : AskSt w0 Ba Bm Bf Bh Bs Bp base fr up had st asked missing va vm W) (hl : asked.length ≤ 1000) (hx : fr ≤ x) (hx2 : x ≤ 4294967295) (hh : had ≤ 18446744073709551615) :
    Calls Try.prog 13 #[.int .u32 x, .pointer (some ⟨Ba, 0, none⟩), .pointer (some ⟨Bh, 0, none⟩), .pointer (some ⟨Bf, 0, none⟩)] W (AskedPost w0 Ba Bm Bf Bh Bs Bp base fr up had st asked missing vm x W) := by
  obtain ⟨i0, hi, hz0, hz1, hz2⟩ := info_parts Try.info22
  have c1 := one_cell h.fa
  have h1 := h.alloc (.cells #[.int .u32 x] 22)
  have hnew : (W.alloc (.cells #[.int .u32 x] 22)).cell? ⟨W.heap.size, 0, none⟩ = some (.int .u32 x) := one_cell (alloc_new _ _)
  have Hnew := Lib.hid hnew
  have hll : (uns asked).length ≤ 1000 := by rw [List.length_map]; exact hl
  have Hz := Lib.hid h.n0
  have hzz := h.bel.size
  have hbase := h.sz
  obtain ⟨q, L, cp, e1⟩ := h.ra.form'
  subst e1
  have H1 := Lib.hid h1
  clear hnew h1 h hzz
  go_enter Try.func13, Try.ntmps13
  go_wp2_with (at_builtin; refine wpList_append_off _ rfl (.tmp 6) (.tmp 8) 26 rfl base 22 i0 (.int .u32 0) 4 Try.underlying26 hi hz0 hz1 hz2 rfl (.slice q L cp) (uns asked) rfl H1.out.ra ⟨W.heap.size, 0, none⟩ 1 (.int .u32 x) rfl Hnew.out rfl (by unfold maxLen; omega) (by omega) (by simp only [World.size_alloc]; omega) ?_; intro v' W4 r1 r2 r3; obtain ⟨q', L', c', e'⟩ := r1.form'; subst e'; obtain ⟨k1, k2, k3, k4⟩ := H1.out.pushA r1 r2 r3; have d1 := one_cell k1; have d2 := one_free k1; have d3 := one_cell k2.ff; have d4 := one_cell k2.fh)
  go_ret
  refine ⟨ret_bool ?_, ⟨_, k2⟩, fun b => (KeepBk.alloc b W _).trans (k3 b), fun k hk1 hk2 hk3 => (k4 k (by simp; omega) hk2 hk3).trans (Below.heap_alloc _ _ k hk1)⟩
  have e1 := and_one_bit had ((x - fr) % 64) hh
  have e2 : ((had / 2 ^ ((x - fr) % 64) : Nat) : Int) = (had : Int) / 2 ^ ((x - fr) % 64) := by simp
  rw [e2] at e1
  rw [e1]
  unfold notHad
  cases had.testBit ((x - fr) % 64) <;> rfl
end Go.Proofs.Ytmghgjokleeigaa
