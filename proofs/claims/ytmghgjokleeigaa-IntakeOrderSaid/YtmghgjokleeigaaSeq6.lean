/-
  Missing and All as iterators over their lists; Len, Has; and the chapter's example (wakes). No condition but the numbers' ranges.
-/
import Derived.Test.YtmghgjokleeigaaSeq5
import Derived.Test.YtmghgjokleeigaaSl1
namespace Go.Proofs.Ytmghgjokleeigaa
open Go.RowKit Go.Shelf
attribute [local go_sem] Oper.semAt_some wide_fn_eq wide_depth

def NotPost (R : Bool → World → Prop) (e : Ending) (W : World) : Prop := ∃ b, e = .returned (.bool (!b)) ∧ R b W

/-- 'func(n uint32) bool { return !have(n) }', whatever have does. -/
theorem missing1 (Bh sg x : Nat) (slb : Array Value) (egs : Enters sg) (W : World) (hc : W.heap[Bh]? = some (.cells #[.func (.func sg) #[] slb] 27 (0, 0))) (R : Bool → World → Prop)
    (h : CallsIn Fence.wide 0 Try.prog sg (#[.int .u32 x] ++ slb) W fun e W2 => ∃ b, e = .returned (.bool b) ∧ R b W2) :
    CallsIn Fence.wide 0 Try.prog 60 #[.int .u32 x, .pointer (some ⟨Bh, 0, none⟩)] W (NotPost R) := by
  have hc' := one_cell hc
  have eg : ∀ args w, (callFunc sg args).run Try.prog w = .ok (.enter sg args) w := egs
  refine callsIn_of_wp Try.func60 rfl trivial ?_
  simp only [Try.ntmps60, List.size_toArray, List.length_cons, List.length_nil, Nat.reduceAdd, Nat.reduceSub, Array.replicate_succ, Array.replicate_zero, List.push_toArray, List.append_toArray, List.nil_append, List.cons_append]
  have H := Lib.hid h; clear h
  gi_wp2
  refine H.out.mono ?_
  rintro e W2 ⟨b, rfl, hR⟩
  have HR := Lib.hid hR; clear hR
  gi_wp2
  go_ret
  exact ⟨b, rfl, HR.out⟩

theorem missing_asks (Bh sg : Nat) (slb : Array Value) (egs : Enters sg) (p : Nat → Bool) (PreS : World → Prop) (L : List Nat) (hso : Asks sg slb p PreS L) :
    Asks 60 #[.pointer (some ⟨Bh, 0, none⟩)] (fun n => !p n) (fun W => PreS W ∧ W.heap[Bh]? = some (.cells #[.func (.func sg) #[] slb] 27 (0, 0))) L := by
  rintro x W hx ⟨h1, h2⟩
  refine CallsIn.mono (missing1 Bh sg x slb egs W h2 (fun b W2 => b = p x ∧ W.grownBy W2 none) ((hso x W hx h1).mono ?_)) ?_
  · rintro e W2 ⟨rfl, hg⟩; exact ⟨_, rfl, rfl, hg⟩
  · rintro e W2 ⟨b, rfl, rfl, hg⟩; exact ⟨rfl, hg⟩

theorem missing_it (fr to sg : Nat) (slb : Array Value) (egs : Enters sg) (hf : fr ≤ 4294967295) (ht : to ≤ 4294967295) (p : Nat → Bool) (PreS : World → Prop) (hso : Asks sg slb p PreS (List.range' fr (to - fr))) (w : World) :
    Calls Try.prog 15 #[.agg #[.int .u32 fr, .int .u32 to], .func (.func sg) #[] slb] w fun e W => ∃ g lb, e = .returned (.func (.func g) #[] lb) ∧ Below w.heap.size w W ∧ It g lb ((List.range' fr (to - fr)).filter fun n => !p n) PreS w.heap.size W := by
  refine (spanMissing_any fr to sg slb w).mono ?_
  rintro e W ⟨rfl, rfl⟩
  refine ⟨_, _, rfl, (((((Below.refl _ _).alloc (Nat.le_refl _) _).alloc (by simp) _).alloc (by simp; omega) _).alloc (by simp; omega) _).alloc (by simp; omega) _, enters80, ?_⟩
  refine (those_iters (w.heap.size + 3) (w.heap.size + 4) 65 60 #[.pointer (some ⟨w.heap.size + 2, 0, none⟩)] #[.pointer (some ⟨w.heap.size + 1, 0, none⟩)] enters65 enters60 (List.range' fr (to - fr)) _
    (all1 (w.heap.size + 2) fr to hf ht) (fun n => !p n) _ (missing_asks (w.heap.size + 1) sg slb egs p PreS _ hso)).weaken ?_
  rintro A ⟨hl, hP⟩
  simp only [World.size_alloc] at hl
  have e2 : A.heap[w.heap.size + 2]? = some (.cells #[.int .u32 fr, .int .u32 to] 25 (0, 0)) := hl.block (by omega) (by omega) (by simp only [alloc_at, World.size_alloc]; repeat (first | rfl | rw [if_pos trivial] | rw [if_pos (by omega)] | rw [if_neg (by omega)]))
  refine ⟨⟨by simp [World.cell?, e2], by simp [World.cell?, e2]⟩, ⟨hP, hl.block (by omega) (by omega) ?_⟩, hl.block (by omega) (by omega) ?_, hl.block (by omega) (by omega) ?_⟩
  all_goals (simp only [alloc_at, World.size_alloc]; repeat (first | rfl | rw [if_pos trivial] | rw [if_pos (by omega)] | rw [if_neg (by omega)]))

theorem all_it (fr to : Nat) (hf : fr ≤ 4294967295) (ht : to ≤ 4294967295) (w : World) :
    Calls Try.prog 24 #[.agg #[.int .u32 fr, .int .u32 to]] w fun e W => ∃ g lb, e = .returned (.func (.func g) #[] lb) ∧ Below w.heap.size w W ∧ It g lb (List.range' fr (to - fr)) (fun _ => True) w.heap.size W := by
  refine (spanAll_any fr to w).mono ?_
  rintro e W ⟨rfl, rfl⟩
  refine ⟨_, _, rfl, (Below.refl _ _).alloc (Nat.le_refl _) _, enters65, ?_⟩
  refine (all1 w.heap.size fr to hf ht).weaken ?_
  rintro A ⟨hl, _⟩
  simp only [World.size_alloc] at hl
  have e2 : A.heap[w.heap.size]? = some (.cells #[.int .u32 fr, .int .u32 to] 25 (0, 0)) := hl.block (by omega) (by omega) (by simp only [alloc_at]; simp)
  exact ⟨by simp [World.cell?, e2], by simp [World.cell?, e2]⟩

theorem enters61 : Enters 61 := fun _ _ => (enters_of Try.func61 (by kernel_rfl) rfl) _ _
theorem enters62 : Enters 62 := fun _ _ => (enters_of Try.func62 (by kernel_rfl) rfl) _ _

theorem grown_refl (w : World) : w.grownBy w none := ⟨rfl, rfl, rfl, Nat.le_refl _, fun _ _ _ => rfl⟩

theorem wakes1 (x : Nat) (w : World) : Calls Try.prog 61 #[.int .u32 x] w fun e W => e = .returned (.bool (x == 4 || x == 5)) ∧ w = W := by
  go_enter Try.func61, Try.ntmps61
  go_wp2
  · have h : x = 4 := by omega
    subst h
    go_ret
    exact ⟨rfl, rfl⟩
  · go_ret
    exact ⟨ret_bool (by rw [Bool.eq_iff_iff]; simp; omega), rfl⟩

theorem wakes2 (x : Nat) (w : World) : Calls Try.prog 62 #[.int .u32 x] w fun e W => e = .returned (.bool (x == 10 || x == 12)) ∧ w = W := by
  go_enter Try.func62, Try.ntmps62
  go_wp2
  · have h : x = 10 := by omega
    subst h
    go_ret
    exact ⟨rfl, rfl⟩
  · go_ret
    exact ⟨ret_bool (by rw [Bool.eq_iff_iff]; simp; omega), rfl⟩

theorem asks_of {sg : Nat} {slb : Array Value} {p : Nat → Bool} {PreS : World → Prop} {L : List Nat}
    (h : ∀ (x : Nat) (W : World), x ∈ L → PreS W → Calls Try.prog sg (#[.int .u32 x] ++ slb) W fun e W2 => e = .returned (.bool (p x)) ∧ W = W2) : Asks sg slb p PreS L := by
  intro x W hx hp
  refine callsIn_wide.2 ((h x W hx hp).mono ?_)
  rintro e W2 ⟨rfl, rfl⟩
  exact ⟨rfl, grown_refl _⟩

/-- What an owned row of uint32 reads as. -/
theorem rowU_of_owns {W : World} {base : Nat} {v : Value} {xs : List Nat} (h : W.ownsRow base 22 1 v xs.length (xs.map fun x : Nat => Value.int .u32 x)) : RowU .u32 W v xs := by
  rcases h.2 with ⟨rfl, h0⟩ | ⟨g, cap, cur, rfl, hb, hg, hn, hc, hs, ht⟩
  · exact ⟨_, _, by rw [h0], fun hne => absurd (List.eq_nil_of_length_eq_zero h0) hne⟩
  · refine ⟨_, _, rfl, fun _ => ⟨g, 0, rfl, fun i x hx => ?_⟩⟩
    have := h.cells (g := g) rfl i (Value.int .u32 x) (by simp [hx])
    rw [← this]
    have e : (⟨g, 0, none⟩ : Addr).add i = ⟨g, i, none⟩ := by unfold Addr.add; split <;> simp_all
    rw [e, Nat.zero_add]
/-- A new block of uint32 reads as what was laid into it. -/
theorem rowU_new (w : World) (t : TypeId) (xs : List Nat) : RowU .u32 (w.alloc (.cells (xs.map fun x : Nat => Value.int .u32 x).toArray t)) (.slice (some ⟨w.heap.size, 0, none⟩) xs.length xs.length) xs := by
  refine ⟨_, _, rfl, fun _ => ⟨_, _, rfl, fun i x hx => ?_⟩⟩
  have e : (w.alloc (.cells (xs.map fun x : Nat => Value.int .u32 x).toArray t)).heap[w.heap.size]? = some (.cells (xs.map fun x : Nat => Value.int .u32 x).toArray t (0, 0)) := alloc_new w _
  simp only [World.cell?, e]
  simp [hx]

theorem below_leave {n0 D : Nat} {w W : World} {o : Obj} (h : Below n0 w W) (hn : n0 ≤ w.heap.size) (hD : n0 ≤ D) : Below n0 w (W.putObj D o) :=
  h.grown (grownBy_putObj0 _ _ _) (Nat.le_trans hn h.size) (fun k e => by cases e; exact hD)
theorem below_drewN {n0 : Nat} {w W : World} (h : Below n0 w W) (n : Nat) : Below n0 w (W.drewN n) := ⟨h.os, h.tape, h.output, h.size, h.block⟩

theorem below_then {n0 : Nat} {w W W2 : World} (h : Below n0 w W) (hn : n0 ≤ w.heap.size) (h2 : Below W.heap.size W W2) : Below n0 w W2 := h.trans (h2.mono (Nat.le_trans hn h.size))
theorem owns_below {W A : World} {base : Nat} {e : TypeId} {size : Nat} {v : Value} {n : Nat} {xs : List Value} (h : W.ownsRow base e size v n xs) (hb : Below W.heap.size W A) : A.ownsRow base e size v n xs := by
  refine ⟨h.1, ?_⟩
  rcases h.2 with hn | ⟨g, cap, cur, rfl, hbg, hgg, rest⟩
  · exact .inl hn
  · exact .inr ⟨g, cap, cur, rfl, hbg, (hb.block g (block_lt hgg)).trans hgg, rest⟩

/-- An element of an owned row. -/
theorem owns_at {W : World} {base c : Nat} {q : Option Addr} {T : List Nat} (h : W.ownsRow base 22 1 (.slice q T.length c) T.length (T.map fun x : Nat => Value.int .u32 x)) (k : Nat) (hk : k < T.length) :
    ∃ g, q = some ⟨g, 0, none⟩ ∧ W.cell? ⟨g, k, none⟩ = some (.int .u32 T[k]) := by
  obtain ⟨q', c', e, hne⟩ := rowU_of_owns h
  cases e
  rcases h.2 with ⟨hq, h0⟩ | ⟨g, cap, cur, hq, _⟩
  · omega
  · cases hq
    obtain ⟨b, off, e', hc⟩ := hne (by intro h; simp [h] at hk)
    cases e'
    have := hc k T[k] (by simp)
    rw [Nat.zero_add] at this
    exact ⟨_, rfl, this⟩

def TruePost (w : World) (e : Ending) (W : World) : Prop := e = .returned (.bool true) ∧ Below w.heap.size w W

set_option maxRecDepth 100000 in
set_option maxHeartbeats 2000000 in
theorem wakes_any (w : World) : Calls Try.prog 19 #[] w (TruePost w) := by
  obtain ⟨i0, hi, hz0, hz1, hz2⟩ := info_parts Try.info22
  refine (callsIn_wide (n := 0)).1 (callsIn_of_wp_marks Try.func19 rfl trivial ?_)
  simp only [Try.ntmps19, List.size_toArray, List.length_cons, List.length_nil, Nat.reduceAdd, Nat.reduceSub, Array.replicate_succ, Array.replicate_zero, List.push_toArray, List.append_toArray, List.nil_append, List.cons_append]
  gi_wp2_with (first | (gi_at_call 14; refine ((callsIn_wide (n := 0)).2 (safe_any _ _ _)).mono ?_; rintro e w' ⟨rfl, rfl⟩) | (gi_at_call 15; refine ((callsIn_wide (n := 0)).2 (missing_it 3 8 61 #[] enters61 (by omega) (by omega) (fun x => x == 4 || x == 5) (fun _ => True) (asks_of (fun x W _ _ => wakes1 x W)) _)).mono ?_; rintro e w1 ⟨g, lb, rfl, hb1, hit⟩))
  rw [World.size_alloc] at hb1 hit
  have hg0 : w1.heap[w.heap.size]? = some (.cells #[.slice none 0 0] 26 (0, 0)) := (hb1.block _ (by omega)).trans (alloc_new w _)
  have hB1 : Below w.heap.size w w1 := ((Below.refl _ w).alloc (Nat.le_refl _) _).trans (hb1.mono (by omega))
  have hz1' := hB1.size
  have hz1 := hb1.size
  rw [World.size_alloc] at hz1
  refine wp_range (gf := g) (lb := lb) rfl hit.ent hit.it (fun _ => by rfl)
    (fun pre W => (∃ v, W.heap[w.heap.size]? = some (.cells #[v] 26 (0, 0)) ∧ W.ownsRow w1.heap.size 22 1 v pre.length (pre.map fun x : Nat => Value.int .u32 x) ∧ Below w.heap.size w W) ∧ Lies (w.heap.size + 1) w1.heap.size w1 W ∧ w1.heap.size ≤ W.heap.size)
    (fun _ _ _ => False)
    (fun pre => (Stb.ex fun v => (Stb.block _ _ _ rfl).and ((Stb.owns _ _ _ rfl _ _ _ _).and (Stb.below (Nat.le_refl _) (by omega)))).and (Stb.lies (Nat.le_refl _) (Nat.le_refl _)))
    (fun c pre => Stb.pure _ _)
    (fun pre W h => ⟨h.2.1, trivial⟩)
    ⟨⟨_, hg0, World.ownsRow_nil _ _ _ _, hB1⟩, Lies.refl _ _ _, Nat.le_refl _⟩
    (fun x => { tmps := #[.bool false, .pointer (some ⟨w.heap.size, 0, none⟩), .int .u32 x, .agg #[.int .u32 3, .int .u32 8], .func (.func g) #[] lb, .func (.func g) #[] lb, .int .u32 x, undef, undef, undef, undef, undef, undef, undef, undef, undef, undef, undef], defers := [] }) ?assign ?body ?done ?stop
  case assign =>
    intro l' x W' K hK
    gi_wp2
    exact hK
  case body =>
    rintro l' pre x rest W hS hl _ ⟨⟨v, h2, hrow, hB⟩, hL, hz⟩
    have hlen : pre.length ≤ 5 := by
      have := congrArg List.length hS
      have h3 : (List.filter (fun n => !(n == 4 || n == 5)) (List.range' 3 (8 - 3))).length ≤ (List.range' 3 (8 - 3)).length := List.length_filter_le _ _
      simp only [List.length_append, List.length_cons, List.length_range'] at this h3
      omega
    obtain ⟨q, c, rfl⟩ := owns_slice hrow
    have hc2 := one_cell h2
    clear hS
    gi_wp2_with (gi_at_builtin; refine wpListIn_append_own _ rfl _ _ 26 rfl w1.heap.size 22 i0 (.int .u32 0) 1 4 Try.underlying26 hi hz0 (by assumption) hz2 rfl (by decide) _ _ _ rfl (hrow.alloc _) ⟨W.heap.size, 0, none⟩ 1 1 [.int .u32 x] rfl rfl (cell_one_new _ _ _) (by simp [Value.oneCell']) (by unfold maxLen; omega) (by omega) (by simp; omega) ?_; intro v' w2 hown' hgrow _; obtain ⟨g', cap', rfl⟩ := ownsRow_succ hown'; obtain ⟨k1, k2, k3, k4, k5, k6, k7⟩ := appended (b0 := w.heap.size) h2 rfl rfl (by decide) hrow hgrow hown' (by omega) (by omega) (by omega); have hc1' := one_cell k1; have hf1' := one_free k1)
    refine ⟨k5 _, ⟨_, k2, by simpa using k3, hB.trans k6⟩, ?_, by have := k6.size; omega⟩
    intro k hk1 hk2
    exact (k7 k (by omega) (by omega) (by omega)).trans (hL k hk1 hk2)
  case done =>
    rintro D ys W hD rfl ⟨⟨v, h2, hrow, hB⟩, hL, hz⟩ hK
    have hLL : (List.filter (fun n => !(n == 4 || n == 5)) (List.range' 3 (8 - 3))) = [3, 6, 7] := by decide
    rw [hLL] at hrow
    obtain ⟨q, c, rfl⟩ := owns_slice hrow
    have hc2 := one_cell h2
    clear hLL
    gi_wp2_with (first | (gi_at_call 16; refine ((callsIn_wide (n := 0)).2 (equal_any _ _ [3, 6, 7] [3, 6, 7] _ (rowU_of_owns (hrow.alloc _)) (rowU_new _ 22 [3, 6, 7]) (by simp) (by simp))).mono ?_; rintro e w2 ⟨rfl, n2, rfl⟩) | (gi_at_call 27; refine ((callsIn_wide (n := 0)).2 (mask_any 9 (by omega) 62 #[] enters62 (fun x => x == 10 || x == 12) (fun _ => True) (asks_of (fun x W _ _ => wakes2 x W)) _ (fun _ _ => trivial))).mono ?_; rintro e w3 ⟨rfl, hb3⟩))
    have hm : maskOf 9 (List.filter (fun x => x == 10 || x == 12) (behindL 9)) = 5 := by decide
    rw [hm]
    have hD' := block_lt hK
    simp only [World.heap_drewN, World.size_alloc] at hb3
    have hK3 : w3.heap[D]? = some (.deferred (some [])) := (hb3.block D (by omega)).trans (alloc_old _ hK)
    refine leave_mark (.inr rfl) hK3 (results_tmp rfl _ _ _) ⟨rfl, below_leave ?_ (Nat.le_refl _) (by omega)⟩
    exact (hB.trans (below_drewN (((Below.refl _ _).alloc hB.size _)) n2)).trans (hb3.mono (by omega))
  case stop =>
    rintro D c pre rest W _ _ h _
    exact h.elim
end Go.Proofs.Ytmghgjokleeigaa
