/-
  those and Mask, where the function that is asked is a method bound to its receiver; Told of an intake. No condition but the numbers' ranges.
-/
import Derived.Test.YtmghgjokleeigaaIn1
import Derived.Deep.RegionHeld3
namespace Go.Proofs.Ytmghgjokleeigaa
open Go.RowKit Go.Shelf
attribute [local go_sem] Oper.semAt_some wide_fn_eq wide_depth

/-- A bound method that answers, of each number, whether p holds; it writes nothing that lay. -/
def AsksB (sg : Nat) (b0 : Value) (p : Nat → Bool) (PreS : World → Prop) (L : List Nat) : Prop :=
  ∀ (x : Nat) (W : World), x ∈ L → PreS W → CallsIn Fence.wide 0 Try.prog sg #[b0, .int .u32 x] W fun e W2 => e = .returned (.bool (p x)) ∧ W.grownBy W2 none

set_option maxRecDepth 100000 in
set_option maxHeartbeats 1000000 in
theorem those1b (Ba Bs ga sg : Nat) (b0 : Value) (lba : Array Value) (ega : Enters ga) (egs : Enters sg) (S : List Nat → Prop) (Pre : World → Prop)
    (hall : Iters Try.prog ga lba (fun x : Nat => #[.int .u32 x]) S Pre)
    (l : Nat) (J Jx : List Nat → World → Prop) (JYs : List Nat → Nat → World → Prop) (W : World)
    (hJ : ∀ pre, Stb W.heap.size (J pre)) (hJx : ∀ pre, Stb W.heap.size (Jx pre))
    (hpre : ∀ pre W', J pre W' → Pre W' ∧ W'.heap[Ba]? = some (.cells #[.func (.func ga) #[] lba] 28 (0, 0)) ∧ W'.heap[Bs]? = some (.cells #[.func (.func sg) #[b0] #[]] 27 (0, 0)))
    (hso : ∀ (pre : List Nat) (x : Nat) (rest : List Nat) (W1 : World), S (pre ++ x :: rest) → J pre W1 → CallsIn Fence.wide 0 Try.prog sg #[b0, .int .u32 x] W1 fun e W2 =>
      (e = .returned (.bool false) ∧ KeepBk W.heap.size W1 W2 ∧ J (pre ++ [x]) W2) ∨ (e = .returned (.bool true) ∧ KeepBk W.heap.size W1 W2 ∧ JYs pre x W2))
    (hY : ∀ pre x rest W1, S (pre ++ x :: rest) → JYs pre x W1 → YieldAt Fence.wide 0 Try.prog l #[.int .u32 x] W1 fun e W' =>
      (e = .returned (.bool true) ∧ KeepBk W.heap.size W1 W' ∧ J (pre ++ [x]) W') ∨ (e = .returned (.bool false) ∧ KeepBk W.heap.size W1 W' ∧ Jx (pre ++ [x]) W'))
    (h0 : J [] W) :
    CallsIn Fence.wide 0 Try.prog 80 #[.func (.yield l) #[] #[], .pointer (some ⟨Ba, 0, none⟩), .pointer (some ⟨Bs, 0, none⟩)] W (IterEnd S J Jx) := by
  obtain ⟨_, ha, hs⟩ := hpre _ _ h0
  have hba := fun o => one_cell (alloc_old o ha)
  refine callsIn_of_wp_marks Try.func80 rfl trivial ?_
  simp only [Try.ntmps80, List.size_toArray, List.length_cons, List.length_nil, Nat.reduceAdd, Nat.reduceSub, Array.replicate_succ, Array.replicate_zero, List.push_toArray, List.append_toArray, List.nil_append, List.cons_append]
  have HJ := Lib.hid hJ; have HJx := Lib.hid hJx; have Hpre := Lib.hid hpre; have Hso := Lib.hid hso; have HY := Lib.hid hY
  clear hJ hJx hpre hso hY
  gi_wp2
  have hby := alloc_new W (.cells #[.func (.yield l) #[] #[]] 27)
  refine wp_range (gf := ga) (lb := lba) rfl ega hall (fun _ => by rfl)
    (fun pre W' => J pre W' ∧ W'.heap[W.heap.size]? = some (.cells #[.func (.yield l) #[] #[]] 27 (0, 0)))
    (fun c pre W' => c = .ret ∧ Jx pre W')
    (fun pre => ((HJ.out pre).more (by simp)).and (Stb.low _ _ _ (by simp)))
    (fun c pre => (Stb.pure _ _).and ((HJx.out pre).more (by simp)))
    (fun pre W' h => (Hpre.out pre W' h.1).1)
    ⟨(HJ.out []).alloc _ h0, hby⟩
    (fun x => { tmps := #[.func (.yield l) #[] #[], .pointer (some ⟨Ba, 0, none⟩), .pointer (some ⟨Bs, 0, none⟩), .pointer (some ⟨W.heap.size, 0, none⟩), .int .u32 x, .func (.func ga) #[] lba, .int .u32 x, undef, undef, undef, undef, undef, undef, undef, undef, undef], defers := [] }) ?assign ?body ?done ?stop
  case assign =>
    intro l' x W' K hK
    gi_wp2
    exact hK
  case body =>
    rintro l' pre x rest W' hS hl ⟨r, hr⟩ ⟨hj, hb⟩
    have hs' := one_cell (Hpre.out pre W' hj).2.2
    have hb' := one_cell hb
    have eg : ∀ args w, (callFunc sg args).run Try.prog w = .ok (.enter sg args) w := egs
    rw [World.size_alloc] at hl
    gi_wp2
    refine CallsIn.mono (F := Fence.wide.inRound l') (n := 0) (Hso.out pre x rest W' hS hj) ?_
    rintro e W2 (⟨rfl, hk2, hj2⟩ | ⟨rfl, hk2, hj2⟩)
    · gi_wp2
      exact ⟨hk2.more (by simp), hj2, hk2.same _ _ (Nat.le_refl _) hb rfl⟩
    · obtain ⟨fn, tmps, assign, body, hy, hR⟩ := HY.out pre x rest W2 hS hj2
      have hb2 := hk2.same _ _ (Nat.le_refl _) hb rfl
      have hb2' := one_cell hb2
      gi_wp2
      refine RoundIn.mono (F := Fence.wide.inRound l') (n := 0) hR ?_
      rintro e W3 (⟨rfl, hk3, hj3⟩ | ⟨rfl, hk3, hj3⟩)
      · gi_wp2
        exact ⟨(hk2.trans hk3).more (by simp), hj3, hk3.same _ _ (Nat.le_refl _) hb2 rfl⟩
      · gi_wp2
        exact ⟨(hk2.trans hk3).more (by simp), rfl, hj3⟩
  case done =>
    rintro D ys W' hD hS ⟨hj, hb⟩ hK
    gi_wp2
    rw [World.size_alloc] at hD
    exact leave_mark (.inl rfl) hK (results_none rfl _ _ _) (IterEnd.all ys hS ((HJ.out ys).putObj _ hj (by omega) hK rfl))
  case stop =>
    rintro D c pre rest W' hD hS ⟨rfl, hj⟩ hK
    gi_wp2
    rw [World.size_alloc] at hD
    exact leave_mark (.inr rfl) hK (results_none rfl _ _ _) (IterEnd.part pre rest hS ((HJx.out pre).putObj _ hj (by omega) hK rfl))

theorem those_itersb (Ba Bs ga sg : Nat) (b0 : Value) (lba : Array Value) (ega : Enters ga) (egs : Enters sg) (L : List Nat) (Pre : World → Prop)
    (hall : Iters Try.prog ga lba encU (· = L) Pre) (p : Nat → Bool) (PreS : World → Prop) (hso : AsksB sg b0 p PreS L) :
    Iters Try.prog 80 #[.pointer (some ⟨Ba, 0, none⟩), .pointer (some ⟨Bs, 0, none⟩)] encU (· = L.filter p)
      (fun W => Pre W ∧ PreS W ∧ W.heap[Ba]? = some (.cells #[.func (.func ga) #[] lba] 28 (0, 0)) ∧ W.heap[Bs]? = some (.cells #[.func (.func sg) #[b0] #[]] 27 (0, 0))) := by
  intro l J Jx W hJ hJx hpre hY h0
  refine (those1b Ba Bs ga sg b0 lba ega egs (· = L) Pre hall l (fun vis W' => J (vis.filter p) W') (fun vis W' => Jx (vis.filter p) W') (fun vis x W' => J (vis.filter p) W' ∧ p x = true) W
    (fun pre => hJ _) (fun pre => hJx _) (fun pre W' h => ⟨(hpre _ _ h).1, (hpre _ _ h).2.2⟩) ?_ ?_ h0).mono ?_
  · intro pre x rest W1 hS hj
    have hx : x ∈ L := by rw [← hS]; simp
    refine (hso x W1 hx (hpre _ _ hj).2.1).mono ?_
    rintro e W2 ⟨rfl, hg⟩
    cases hp : p x with
    | true => exact .inr ⟨rfl, keep_none hg, (hJ _).grows hj hg, rfl⟩
    | false =>
      refine .inl ⟨rfl, keep_none hg, ?_⟩
      rw [List.filter_append, List.filter_cons, hp]
      simpa using (hJ _).grows hj hg
  · rintro pre x rest W1 hS ⟨hj, hp⟩
    have e1 : (pre ++ [x]).filter p = pre.filter p ++ [x] := by simp [List.filter_append, hp]
    simp only [e1]
    exact hY (pre.filter p) x (rest.filter p) W1 (by rw [← hS]; simp [List.filter_append, List.filter_cons, hp]) hj
  · rintro e W' ⟨⟨v, rfl⟩, (⟨xs, hS, hj⟩ | ⟨pre, rest, hS, hj⟩)⟩
    · exact IterEnd.all _ (by rw [hS]) hj
    · exact IterEnd.part _ (rest.filter p) (by rw [← hS]; simp [List.filter_append]) hj

theorem those_anyb (ga sg : Nat) (b0 : Value) (lba : Array Value) (w : World) :
    Calls Try.prog 59 #[.func (.func ga) #[] lba, .func (.func sg) #[b0] #[]] w fun e w' => e = .returned (.func (.func 80) #[] #[.pointer (some ⟨w.heap.size, 0, none⟩), .pointer (some ⟨w.heap.size + 1, 0, none⟩)]) ∧ (w.alloc (.cells #[.func (.func ga) #[] lba] 28)).alloc (.cells #[.func (.func sg) #[b0] #[]] 27) = w' := by
  go_enter Try.func59, Try.ntmps59
  go_wp2
  go_ret
  exact ⟨rfl, rfl⟩

set_option maxRecDepth 100000 in
set_option maxHeartbeats 2000000 in
theorem mask_anyb (ack : Nat) (ha : ack ≤ 4294967295) (sg : Nat) (b0 : Value) (egs : Enters sg) (p : Nat → Bool) (PreS : World → Prop) (hso : AsksB sg b0 p PreS (behindL ack)) (w : World) (hP : ∀ A, Below w.heap.size w A → PreS A) :
    Calls Try.prog 27 #[.int .u32 ack, .func (.func sg) #[b0] #[]] w (MaskPost ack ((behindL ack).filter p) w) := by
  refine (callsIn_wide (n := 0)).1 (callsIn_of_wp_marks Try.func27 rfl trivial ?_)
  simp only [Try.ntmps27, List.size_toArray, List.length_cons, List.length_nil, Nat.reduceAdd, Nat.reduceSub, Array.replicate_succ, Array.replicate_zero, List.push_toArray, List.append_toArray, List.nil_append, List.cons_append]
  have HP := Lib.hid hP; clear hP
  gi_wp2_with (first | (gi_at_call 66; refine ((callsIn_wide (n := 0)).2 (behind_any _ _)).mono ?_; rintro e w' ⟨rfl, rfl⟩) | (gi_at_call 59; refine ((callsIn_wide (n := 0)).2 (those_anyb _ _ _ _ _)).mono ?_; rintro e w' ⟨rfl, rfl⟩))
  refine wp_range (gf := 80) rfl enters80
    (those_itersb (w.heap.size + 1 + 1 + 1) (w.heap.size + 1 + 1 + 1 + 1) 81 sg b0 #[.pointer (some ⟨w.heap.size + 1 + 1, 0, none⟩)] enters81 egs (behindL ack) _ (behind1 (w.heap.size + 1 + 1) ack ha) p PreS hso) (fun _ => by rfl)
    (fun pre W => W.heap[w.heap.size]? = some (.cells #[.int .u32 ack] 22 (0, 0)) ∧ W.heap[w.heap.size + 1]? = some (.cells #[.int .u32 (maskOf ack pre)] 22 (0, 0)) ∧ W.heap[w.heap.size + 1 + 1]? = some (.cells #[.int .u32 ack] 22 (0, 0)) ∧
      W.heap[w.heap.size + 1 + 1 + 1]? = some (.cells #[.func (.func 81) #[] #[.pointer (some ⟨w.heap.size + 1 + 1, 0, none⟩)]] 28 (0, 0)) ∧ W.heap[w.heap.size + 1 + 1 + 1 + 1]? = some (.cells #[.func (.func sg) #[b0] #[]] 27 (0, 0)) ∧ Below w.heap.size w W)
    (fun _ _ _ => False)
    (fun pre => (Stb.low _ _ _ (by simp only [World.size_alloc]; omega)).and ((Stb.low _ _ _ (by simp only [World.size_alloc]; omega)).and ((Stb.low _ _ _ (by simp only [World.size_alloc]; omega)).and ((Stb.low _ _ _ (by simp only [World.size_alloc]; omega)).and ((Stb.low _ _ _ (by simp only [World.size_alloc]; omega)).and (Stb.below (Nat.le_refl _) (by simp only [World.size_alloc]; omega)))))))
    (fun c pre => Stb.pure _ _)
    (fun pre W h => ⟨one_cell h.2.2.1, HP.out W h.2.2.2.2.2, h.2.2.2.1, h.2.2.2.2.1⟩)
    ?start
    (fun x => { tmps := #[.int .u32 ack, .func (.func sg) #[b0] #[], .pointer (some ⟨w.heap.size, 0, none⟩), undef, .int .u32 0, .pointer (some ⟨w.heap.size + 1, 0, none⟩), .int .u32 x, .int .u32 ack, .func (.func 81) #[] #[.pointer (some ⟨w.heap.size + 1 + 1, 0, none⟩)], .func (.func sg) #[b0] #[],
        .func (.func 80) #[] #[.pointer (some ⟨w.heap.size + 1 + 1 + 1, 0, none⟩), .pointer (some ⟨w.heap.size + 1 + 1 + 1 + 1, 0, none⟩)], .int .u32 x, undef, undef, undef, undef, undef, undef, undef, undef], defers := [] }) ?assign ?body ?done ?stop
  case start =>
    refine ⟨?_, ?_, ?_, ?_, ?_, ?_⟩
    case refine_6 => exact (((((Below.refl _ _).alloc (Nat.le_refl _) _).alloc (by simp) _).alloc (by simp only [World.size_alloc]; omega) _).alloc (by simp only [World.size_alloc]; omega) _).alloc (by simp only [World.size_alloc]; omega) _
    all_goals (simp only [alloc_at, World.size_alloc]; repeat (first | rfl | rw [if_pos trivial] | rw [if_pos (by omega)] | rw [if_neg (by omega)]))
  case assign =>
    intro l' x W' K hK
    gi_wp2
    exact hK
  case body =>
    rintro l' pre x rest W hS hl _ ⟨h1, h2, h3, h4, h5, hB⟩
    have hc1 := one_cell h1
    have hc2 := one_cell h2
    have hf2 := one_free h2
    have hx : x ∈ behindL ack := by
      have : x ∈ (behindL ack).filter p := by rw [← hS]; simp
      exact (List.mem_filter.1 this).1
    obtain ⟨x1, x2, x3⟩ := mem_behindL ha hx
    have hlt : maskOf ack pre < 4294967296 := by
      refine maskOf_lt ack pre (fun y hy => ?_)
      have : y ∈ (behindL ack).filter p := by rw [← hS]; simp [hy]
      exact (mem_behindL ha (List.mem_filter.1 this).1).2.1
    clear hx hS
    gi_wp2
    have e1 := or_step (maskOf ack pre) (x - ack - 1) hlt (by omega)
    rw [e1, ← maskOf_snoc]
    refine ⟨KeepBk.setCell _ _ _ _ (book_one h2 rfl), ?_, one_setCell h2, ?_, ?_, ?_, hB.setCell (by simp) _⟩
    all_goals (rw [setCell_heap_other (by simp only; omega)]; assumption)
  case done =>
    rintro D ys W hD rfl ⟨h1, h2, h3, h4, h5, hB⟩ hK
    have hc2 := one_cell h2
    gi_wp2
    simp only [World.size_alloc] at hD
    exact leave_mark (.inr rfl) hK (results_tmp rfl _ _ _) ⟨rfl, Stb.below (n₀ := w.heap.size) (B := w.heap.size) (Nat.le_refl _) (Nat.le_refl _) _ _ _ hB (grownBy_putObj0 _ _ _) (fun r e => by cases e; exact ⟨by omega, _, hK, rfl⟩)⟩
  case stop =>
    rintro D c pre rest W _ _ h _
    exact h.elim
end Go.Proofs.Ytmghgjokleeigaa
