/-
  Safe, first: the first so many of what an iterator gives, in a slice of the call's own. The iterator's contract is the premise.
-/
import Derived.Test.YtmghgjokleeigaaSeq3
import Derived.RangeFuncBox
import Derived.Maps.AppendAt
namespace Go.Proofs.Ytmghgjokleeigaa
open Go.RowKit Go.Shelf
attribute [local go_sem] Oper.semAt_some wide_fn_eq wide_depth

theorem Try.info22 : (Try.prog.info? 22).map (fun i => (i.zero, i.size, i.bytes)) = some (some (.int .u32 0), 1, 4) := by kernel_rfl

theorem setCell_heap_other {w : World} {a : Addr} {v : Value} {k : Nat} (h : k ≠ a.block) : (w.setCell a v).heap[k]? = w.heap[k]? := Below.heap_setCell w a v k h

/-- What stands behind 'out = append(out, ..)', out in a box of its own. -/
theorem appended {W w1 : World} {B base b0 : Nat} {t e : TypeId} {v v' : Value} {n n' : Nat} {xs xs' : List Value} {o : Obj}
    (hB : W.heap[B]? = some (.cells #[v] t (0, 0))) (ht : prot t = false) (he : prot e = false) (hte : t ≠ e) (hown : W.ownsRow base e 1 v n xs)
    (hg : (W.alloc o).grownBy w1 v.ownBlock) (hown' : w1.ownsRow base e 1 v' n' xs') (hbB : b0 ≤ B) (hb0 : b0 ≤ base) (hbW : b0 ≤ W.heap.size) :
    w1.heap[B]? = some (.cells #[v] t (0, 0)) ∧ (w1.setCell ⟨B, 0, none⟩ v').heap[B]? = some (.cells #[v'] t (0, 0)) ∧ (w1.setCell ⟨B, 0, none⟩ v').ownsRow base e 1 v' n' xs' ∧
    (∀ k c t' f, W.heap[k]? = some (.cells c t' f) → t' ≠ e → k ≠ B → (w1.setCell ⟨B, 0, none⟩ v').heap[k]? = some (.cells c t' f)) ∧
    (∀ b, KeepBk b W (w1.setCell ⟨B, 0, none⟩ v')) ∧ Below b0 W (w1.setCell ⟨B, 0, none⟩ v') ∧
    (∀ k, k < W.heap.size → k < base → k ≠ B → (w1.setCell ⟨B, 0, none⟩ v').heap[k]? = W.heap[k]?) := by
  have hg2 : W.grownBy w1 v.ownBlock := by
    refine ⟨hg.os, hg.tape, hg.output, Nat.le_trans (by simp) hg.size, fun k hk hne => ?_⟩
    exact (hg.block k (by simp; omega) hne).trans (Below.heap_alloc W o k hk)
  have hrow : ∀ k c t' f, W.heap[k]? = some (.cells c t' f) → t' ≠ e → some k ≠ v.ownBlock := by
    intro k c t' f hk hne
    rcases hown.2 with ⟨rfl, _⟩ | ⟨g, cap, cur, rfl, _, hgg, _⟩
    · simp [Value.ownBlock]
    · simp only [Value.ownBlock]
      intro e'
      cases e'
      rw [hgg] at hk; cases hk; exact hne rfl
  have h1 : w1.heap[B]? = some (.cells #[v] t (0, 0)) := (hg2.block B (block_lt hB) (hrow B _ _ _ hB hte)).trans hB
  have hB' : v'.ownBlock ≠ some B := by
    rcases hown'.2 with ⟨rfl, _⟩ | ⟨g, cap, cur, rfl, _, hgg, _⟩
    · simp [Value.ownBlock]
    · simp only [Value.ownBlock]
      intro e'
      cases e'
      rw [h1] at hgg; cases hgg; exact hte rfl
  refine ⟨h1, one_setCell h1, ownsRow_setCell_other hown' hB' _, ?_, ?_, ?_, ?_⟩
  · intro k c t' f hk hne hkB
    rw [setCell_heap_other hkB]
    exact (hg2.block k (block_lt hk) (hrow k _ _ _ hk hne)).trans hk
  · intro b
    exact (KeepBk.row hown he hg2).trans (KeepBk.setCell b w1 _ _ (book_one h1 ht))
  · refine Below.setCell ((Below.refl b0 W).grown hg2 hbW ?_) hbB _
    intro k hk
    exact Nat.le_trans hb0 (hown.lt k hk).1
  · intro k hk1 hk2 hk3
    rw [setCell_heap_other hk3]
    refine hg2.block k hk1 ?_
    intro e
    have := (hown.lt k e.symm).1
    omega

set_option maxRecDepth 100000 in
theorem safe_any (g : Nat) (lb : Array Value) (w : World) :
    Calls Try.prog 14 #[.func (.func g) #[] lb] w fun e w' => e = .returned (.func (.func g) #[] lb) ∧ w = w' := by
  have hrun : Sem.run Try.prog (binOp BinOp.eql 28 (Value.func (.func g) #[] lb) Value.nilFunc) w = .ok (.bool false) w := by kernel_rfl
  go_enter Try.func14, Try.ntmps14
  go_wp2
  go_ret
  exact ⟨rfl, rfl⟩

theorem take_snoc_lt {L : List Nat} {x most : Nat} (h : L.length < most) : (L ++ [x]).take most = L.take most ++ [x] := by
  rw [List.take_append, List.take_of_length_le (by omega : L.length ≤ most)]
  congr 1
  rw [List.take_of_length_le]
  simp; omega
theorem take_snoc_ge {L : List Nat} {x most : Nat} (h : most ≤ L.length) : (L ++ [x]).take most = L.take most := by
  rw [List.take_append, show most - L.length = 0 from by omega]; simp

theorem owns_slice {W : World} {base : Nat} {e : TypeId} {size : Nat} {v : Value} {n : Nat} {xs : List Value} (h : W.ownsRow base e size v n xs) : ∃ q c, v = .slice q n c := by
  rcases h.2 with ⟨rfl, rfl⟩ | ⟨q, c, cur, rfl, _⟩
  · exact ⟨_, _, rfl⟩
  · exact ⟨_, _, rfl⟩

def FirstPost (L : List Nat) (most : Nat) (w : World) (e : Ending) (W : World) : Prop :=
  ∃ v, e = .returned v ∧ W.ownsRow w.heap.size 22 1 v (L.take most).length ((L.take most).map fun x : Nat => Value.int .u32 x) ∧ Below w.heap.size w W

set_option maxRecDepth 100000 in
set_option maxHeartbeats 2000000 in
theorem first_any (g n : Nat) (lb : Array Value) (L : List Nat) (P' : World → Prop) (w : World) (hit : It g lb L P' n w) (hP : ∀ A, Below w.heap.size w A → P' A) (most : Nat) (hm : most ≤ 1000) :
    Calls Try.prog 22 #[.func (.func g) #[] lb, .int .i64 most] w (FirstPost L most w) := by
  obtain ⟨i0, hi, hz0, hz1, hz2⟩ := info_parts Try.info22
  refine (callsIn_wide (n := 0)).1 (callsIn_of_wp_marks Try.func22 rfl trivial ?_)
  simp only [Try.ntmps22, List.size_toArray, List.length_cons, List.length_nil, Nat.reduceAdd, Nat.reduceSub, Array.replicate_succ, Array.replicate_zero, List.push_toArray, List.append_toArray, List.nil_append, List.cons_append]
  have HP := Lib.hid hP; clear hP
  gi_wp2_with (gi_at_call 14; refine ((callsIn_wide (n := 0)).2 (safe_any _ _ _)).mono ?_; rintro e w' ⟨rfl, rfl⟩)
  refine wp_range (gf := g) (lb := lb) rfl hit.ent hit.it (fun _ => by rfl)
    (fun pre W => W.heap[w.heap.size]? = some (.cells #[.int .i64 most] 3 (0, 0)) ∧ ∃ v, W.heap[w.heap.size + 1]? = some (.cells #[v] 26 (0, 0)) ∧ W.ownsRow w.heap.size 22 1 v (pre.take most).length ((pre.take most).map fun x : Nat => Value.int .u32 x) ∧ Below w.heap.size w W)
    (fun c pre W => c = .exit 0 ∧ most ≤ pre.length ∧ W.heap[w.heap.size]? = some (.cells #[.int .i64 most] 3 (0, 0)) ∧ ∃ v, W.heap[w.heap.size + 1]? = some (.cells #[v] 26 (0, 0)) ∧ W.ownsRow w.heap.size 22 1 v (pre.take most).length ((pre.take most).map fun x : Nat => Value.int .u32 x) ∧ Below w.heap.size w W)
    (fun pre => (Stb.block _ _ _ rfl).and (Stb.ex fun v => (Stb.block _ _ _ rfl).and ((Stb.owns _ _ _ rfl _ _ _ _).and (Stb.below (Nat.le_refl _) (by simp; omega)))))
    (fun c pre => (Stb.pure _ _).and ((Stb.pure _ _).and ((Stb.block _ _ _ rfl).and (Stb.ex fun v => (Stb.block _ _ _ rfl).and ((Stb.owns _ _ _ rfl _ _ _ _).and (Stb.below (Nat.le_refl _) (by simp; omega)))))))
    (fun pre W h => by obtain ⟨_, v, _, _, hb⟩ := h; exact ⟨fun k h1 h2 => hb.block k h2, HP.out W hb⟩)
    ⟨by simp only [alloc_at, World.size_alloc]; rw [if_neg (by omega)]; simp, .slice none 0 0, by simp only [alloc_at, World.size_alloc]; simp, by rw [List.take_nil]; exact World.ownsRow_nil _ _ _ _, ((Below.refl _ _).alloc (Nat.le_refl _) _).alloc (by simp) _⟩
    (fun x => { tmps := #[.func (.func g) #[] lb, .int .i64 most, undef, .pointer (some ⟨w.heap.size, 0, none⟩), .slice none 0 0, .pointer (some ⟨w.heap.size + 1, 0, none⟩), .int .u32 x, .func (.func g) #[] lb, .func (.func g) #[] lb, .int .u32 x, undef, undef, undef, undef, undef, undef, undef, undef, undef], defers := [] }) ?assign ?body ?done ?stop
  case assign =>
    intro l' x W' K hK
    gi_wp2
    exact hK
  case body =>
    rintro l' pre x rest W hS hl ⟨r, hr⟩ ⟨h1, v, h2, hrow, hB⟩
    have hc1 := one_cell h1
    have hsz := hB.size
    by_cases hlt : pre.length < most
    · rw [List.take_of_length_le (by omega : pre.length ≤ most)] at hrow
      obtain ⟨q, c, rfl⟩ := owns_slice hrow
      have hc2 := one_cell h2
      gi_wp2_with (gi_at_builtin; refine wpListIn_append_own _ rfl _ _ 26 rfl w.heap.size 22 i0 (.int .u32 0) 1 4 Try.underlying26 hi hz0 hz1 hz2 rfl (by decide) _ _ _ rfl (hrow.alloc _) ⟨W.heap.size, 0, none⟩ 1 1 [.int .u32 x] rfl rfl (cell_one_new _ _ _) (by simp [Value.oneCell']) (by unfold maxLen; omega) (by omega) (by simp; omega) ?_; intro v' w1 hown' hgrow _; obtain ⟨g', cap', rfl⟩ := ownsRow_succ hown'; obtain ⟨k1, k2, k3, k4, k5, k6, _⟩ := appended (b0 := w.heap.size) h2 rfl rfl (by decide) hrow hgrow hown' (by omega) (Nat.le_refl _) hB.size; have hc1' := one_cell k1; have hf1' := one_free k1)
      refine ⟨k5 _, k4 _ _ _ _ h1 (by decide) (by omega), _, k2, ?_, hB.trans k6⟩
      rw [List.take_of_length_le (by simp; omega)]
      simpa using k3
    · have e1 : (pre.take most).length = most := by rw [List.length_take]; omega
      have hrow' := hrow
      rw [e1] at hrow'
      obtain ⟨q, c, rfl⟩ := owns_slice hrow'
      have hc2 := one_cell h2
      clear hrow'
      have H := Lib.hid hrow
      have E1 := Lib.hid e1
      clear hrow e1
      gi_wp2
      exact ⟨KeepBk.refl _ _, rfl, by simp; omega, h1, _, h2, by rw [take_snoc_ge (by omega)]; exact H.out, hB⟩
  case done =>
    rintro D ys W hD rfl ⟨h1, v, h2, hrow, hB⟩ hK
    have hc2 := one_cell h2
    gi_wp2
    rw [World.size_alloc, World.size_alloc] at hD
    exact leave_mark (.inr rfl) hK (results_tmp rfl _ _ _) ⟨v, rfl, Stb.owns w.heap.size _ _ rfl _ _ _ _ _ _ _ hrow (grownBy_putObj0 _ _ _) (fun r e => by cases e; exact ⟨by omega, _, hK, rfl⟩), Stb.below (n₀ := w.heap.size) (B := w.heap.size) (Nat.le_refl _) (Nat.le_refl _) _ _ _ hB (grownBy_putObj0 _ _ _) (fun r e => by cases e; exact ⟨by omega, _, hK, rfl⟩)⟩
  case stop =>
    rintro D c pre rest W hD hS ⟨rfl, hlen, h1, v, h2, hrow, hB⟩ hK
    have hc2 := one_cell h2
    gi_wp2
    rw [World.size_alloc, World.size_alloc] at hD
    refine leave_mark (.inr rfl) hK (results_tmp rfl _ _ _) ⟨v, rfl, ?_, Stb.below (n₀ := w.heap.size) (B := w.heap.size) (Nat.le_refl _) (Nat.le_refl _) _ _ _ hB (grownBy_putObj0 _ _ _) (fun r e => by cases e; exact ⟨by omega, _, hK, rfl⟩)⟩
    rw [← hS, List.take_append_of_le_length hlen]
    exact Stb.owns w.heap.size _ _ rfl _ _ _ _ _ _ _ hrow (grownBy_putObj0 _ _ _) (fun r e => by cases e; exact ⟨by omega, _, hK, rfl⟩)
end Go.Proofs.Ytmghgjokleeigaa
