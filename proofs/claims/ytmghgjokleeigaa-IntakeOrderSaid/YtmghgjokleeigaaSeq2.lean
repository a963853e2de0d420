/-
  those: an iterator over another one, whose numbers a function picks: its contract, at any iterator and any function, whatever these do to memory. No condition.
-/
import Derived.Test.YtmghgjokleeigaaSeq1
namespace Go.Proofs.Ytmghgjokleeigaa
open Go.RowKit Go.Shelf
attribute [local go_sem] Oper.semAt_some wide_fn_eq wide_depth

/-- A block of one cell. -/
theorem one_cell {w : World} {b : Nat} {v : Value} {t : TypeId} (h : w.heap[b]? = some (.cells #[v] t (0, 0))) : w.cell? ⟨b, 0, none⟩ = some v := by simp [World.cell?, h]
theorem one_free {w : World} {b : Nat} {v : Value} {t : TypeId} (h : w.heap[b]? = some (.cells #[v] t (0, 0))) : w.frozen? ⟨b, 0, none⟩ = false := by simp [World.frozen?, h]
theorem book_one {w : World} {b : Nat} {v : Value} {t : TypeId} (h : w.heap[b]? = some (.cells #[v] t (0, 0))) (ht : prot t = false) : ∀ o, w.heap[b]? = some o → isBook o = false := by
  intro o ho; rw [h] at ho; cases ho; exact ht
theorem block_lt {w : World} {b : Nat} {o : Obj} (h : w.heap[b]? = some o) : b < w.heap.size := (Array.getElem?_eq_some_iff.1 h).1
theorem alloc_new (w : World) (o : Obj) : (w.alloc o).heap[w.heap.size]? = some o := World.alloc_heap_new w o
theorem alloc_old {w : World} {b : Nat} {o : Obj} (o' : Obj) (h : w.heap[b]? = some o) : (w.alloc o').heap[b]? = some o :=
  (Below.heap_alloc w o' b (block_lt h)).trans h

/-- An equation of function-entering, kept from simp. -/
def Enters (f : Nat) : Prop := ∀ (args : Array Value) (w : World), (callFunc f args).run Try.prog w = .ok (.enter f args) w

set_option maxRecDepth 100000 in
set_option maxHeartbeats 1000000 in
theorem those1 (Ba Bs ga sg : Nat) (lba slb : Array Value) (ega : Enters ga) (egs : Enters sg) (S : List Nat → Prop) (Pre : World → Prop)
    (hall : Iters Try.prog ga lba (fun x : Nat => #[.int .u32 x]) S Pre)
    (l : Nat) (J Jx : List Nat → World → Prop) (JYs : List Nat → Nat → World → Prop) (W : World)
    (hJ : ∀ pre, Stb W.heap.size (J pre)) (hJx : ∀ pre, Stb W.heap.size (Jx pre))
    (hpre : ∀ pre W', J pre W' → Pre W' ∧ W'.heap[Ba]? = some (.cells #[.func (.func ga) #[] lba] 28 (0, 0)) ∧ W'.heap[Bs]? = some (.cells #[.func (.func sg) #[] slb] 27 (0, 0)))
    (hso : ∀ pre x rest W1, S (pre ++ x :: rest) → J pre W1 → CallsIn Fence.wide 0 Try.prog sg (#[.int .u32 x] ++ slb) W1 fun e W2 =>
      (e = .returned (.bool false) ∧ KeepBk W.heap.size W1 W2 ∧ J (pre ++ [x]) W2) ∨ (e = .returned (.bool true) ∧ KeepBk W.heap.size W1 W2 ∧ JYs pre x W2))
    (hY : ∀ pre x rest W1, S (pre ++ x :: rest) → JYs pre x W1 → YieldAt Fence.wide 0 Try.prog l #[.int .u32 x] W1 fun e W' =>
      (e = .returned (.bool true) ∧ KeepBk W.heap.size W1 W' ∧ J (pre ++ [x]) W') ∨ (e = .returned (.bool false) ∧ KeepBk W.heap.size W1 W' ∧ Jx (pre ++ [x]) W'))
    (h0 : J [] W) :
    CallsIn Fence.wide 0 Try.prog 80 #[.func (.yield l) #[] #[], .pointer (some ⟨Ba, 0, none⟩), .pointer (some ⟨Bs, 0, none⟩)] W (IterEnd S J Jx) := by
  obtain ⟨_, ha, hs⟩ := hpre _ _ h0
  have hba := fun o => one_cell (alloc_old o ha)
  refine callsIn_of_wp_marks Try.func80 rfl trivial ?_
  simp only [Try.ntmps80, List.size_toArray, List.length_cons, List.length_nil, Nat.reduceAdd, Nat.reduceSub, Array.replicate_succ, Array.replicate_zero, List.push_toArray, List.append_toArray, List.nil_append, List.cons_append]
  have HJ := Lib.hid hJ; have HJx := Lib.hid hJx; have Hpre := Lib.hid hpre; have Hso := Lib.hid hso; have HY := Lib.hid hY
  clear hJ hJx hpre hso hY
  gi_wp2
  have hby := alloc_new W (.cells #[.func (.yield l) #[] #[]] 27)
  refine wp_range (gf := ga) (lb := lba) rfl ega hall (fun _ => by rfl)
    (fun pre W' => J pre W' ∧ W'.heap[W.heap.size]? = some (.cells #[.func (.yield l) #[] #[]] 27 (0, 0)))
    (fun c pre W' => c = .ret ∧ Jx pre W')
    (fun pre => ((HJ.out pre).more (by simp)).and (Stb.low _ _ _ (by simp)))
    (fun c pre => (Stb.pure _ _).and ((HJx.out pre).more (by simp)))
    (fun pre W' h => (Hpre.out pre W' h.1).1)
    ⟨(HJ.out []).alloc _ h0, hby⟩
    (fun x => { tmps := #[.func (.yield l) #[] #[], .pointer (some ⟨Ba, 0, none⟩), .pointer (some ⟨Bs, 0, none⟩), .pointer (some ⟨W.heap.size, 0, none⟩), .int .u32 x, .func (.func ga) #[] lba, .int .u32 x, undef, undef, undef, undef, undef, undef, undef, undef, undef], defers := [] }) ?assign ?body ?done ?stop
  case assign =>
    intro l' x W' K hK
    gi_wp2
    exact hK
  case body =>
    rintro l' pre x rest W' hS hl ⟨r, hr⟩ ⟨hj, hb⟩
    have hs' := one_cell (Hpre.out pre W' hj).2.2
    have hb' := one_cell hb
    have eg : ∀ args w, (callFunc sg args).run Try.prog w = .ok (.enter sg args) w := egs
    rw [World.size_alloc] at hl
    gi_wp2
    refine CallsIn.mono (F := Fence.wide.inRound l') (n := 0) (Hso.out pre x rest W' hS hj) ?_
    rintro e W2 (⟨rfl, hk2, hj2⟩ | ⟨rfl, hk2, hj2⟩)
    · gi_wp2
      exact ⟨hk2.more (by simp), hj2, hk2.same _ _ (Nat.le_refl _) hb rfl⟩
    · obtain ⟨fn, tmps, assign, body, hy, hR⟩ := HY.out pre x rest W2 hS hj2
      have hb2 := hk2.same _ _ (Nat.le_refl _) hb rfl
      have hb2' := one_cell hb2
      gi_wp2
      refine RoundIn.mono (F := Fence.wide.inRound l') (n := 0) hR ?_
      rintro e W3 (⟨rfl, hk3, hj3⟩ | ⟨rfl, hk3, hj3⟩)
      · gi_wp2
        exact ⟨(hk2.trans hk3).more (by simp), hj3, hk3.same _ _ (Nat.le_refl _) hb2 rfl⟩
      · gi_wp2
        exact ⟨(hk2.trans hk3).more (by simp), rfl, hj3⟩
  case done =>
    rintro D ys W' hD hS ⟨hj, hb⟩ hK
    gi_wp2
    rw [World.size_alloc] at hD
    exact leave_mark (.inl rfl) hK (results_none rfl _ _ _) (IterEnd.all ys hS ((HJ.out ys).putObj _ hj (by omega) hK rfl))
  case stop =>
    rintro D c pre rest W' hD hS ⟨rfl, hj⟩ hK
    gi_wp2
    rw [World.size_alloc] at hD
    exact leave_mark (.inr rfl) hK (results_none rfl _ _ _) (IterEnd.part pre rest hS ((HJx.out pre).putObj _ hj (by omega) hK rfl))

end Go.Proofs.Ytmghgjokleeigaa
