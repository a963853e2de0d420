/-
  Mask: the mask of what is had, at any function that answers whether a number is. The plain law of masks stands beside it.
-/
import Derived.Test.YtmghgjokleeigaaSeq4
namespace Go.Proofs.Ytmghgjokleeigaa
open Go.RowKit Go.Shelf
attribute [local go_sem] Oper.semAt_some wide_fn_eq wide_depth

/-- The mask of these numbers. -/
def maskOf (ack : Nat) (l : List Nat) : Nat := l.foldl (fun m n => m ||| 2 ^ (n - ack - 1)) 0
theorem maskOf_snoc (ack : Nat) (l : List Nat) (x : Nat) : maskOf ack (l ++ [x]) = maskOf ack l ||| 2 ^ (x - ack - 1) := by simp [maskOf, List.foldl_append]

theorem maskOf_lt_aux (ack : Nat) : ∀ (l : List Nat) (m : Nat), (∀ x ∈ l, x ≤ ack + 32) → m < 2 ^ 32 → l.foldl (fun m n => m ||| 2 ^ (n - ack - 1)) m < 2 ^ 32 := by
  intro l
  induction l with
  | nil => intro m _ h; exact h
  | cons x l ih =>
    intro m hx hm
    refine ih _ (fun y hy => hx y (by simp [hy])) ?_
    refine Nat.or_lt_two_pow hm ?_
    have := hx x (by simp)
    exact Nat.pow_lt_pow_right (by omega) (by omega)
theorem maskOf_lt (ack : Nat) (l : List Nat) (h : ∀ x ∈ l, x ≤ ack + 32) : maskOf ack l < 4294967296 := maskOf_lt_aux ack l 0 h (by omega)

theorem or_step (m j : Nat) (hm : m < 4294967296) (hj : j < 32) : bits BinOp.or IntKind.u32 (m : Int) ((2 : Int) ^ j % 4294967296) = ((m ||| 2 ^ j : Nat) : Int) := by
  have h1 : 2 ^ j < 4294967296 := by
    have := Nat.pow_lt_pow_right (a := 2) (by omega) hj
    omega
  have e := Go.u32_or_nat m (2 ^ j) hm h1
  have e2 : (2 : Int) ^ j = ((2 ^ j : Nat) : Int) := by simp
  rw [e2]
  generalize 2 ^ j = q at h1 e ⊢
  rw [show (q : Int) % 4294967296 = (q : Int) from by omega]; exact e

def MaskPost (ack : Nat) (l : List Nat) (w : World) (e : Ending) (W : World) : Prop := e = .returned (.int .u32 (maskOf ack l)) ∧ Below w.heap.size w W

set_option maxRecDepth 100000 in
set_option maxHeartbeats 2000000 in
theorem mask_any (ack : Nat) (ha : ack ≤ 4294967295) (sg : Nat) (slb : Array Value) (egs : Enters sg) (p : Nat → Bool) (PreS : World → Prop) (hso : Asks sg slb p PreS (behindL ack)) (w : World) (hP : ∀ A, Below w.heap.size w A → PreS A) :
    Calls Try.prog 27 #[.int .u32 ack, .func (.func sg) #[] slb] w (MaskPost ack ((behindL ack).filter p) w) := by
  refine (callsIn_wide (n := 0)).1 (callsIn_of_wp_marks Try.func27 rfl trivial ?_)
  simp only [Try.ntmps27, List.size_toArray, List.length_cons, List.length_nil, Nat.reduceAdd, Nat.reduceSub, Array.replicate_succ, Array.replicate_zero, List.push_toArray, List.append_toArray, List.nil_append, List.cons_append]
  have HP := Lib.hid hP; clear hP
  gi_wp2_with (first | (gi_at_call 66; refine ((callsIn_wide (n := 0)).2 (behind_any _ _)).mono ?_; rintro e w' ⟨rfl, rfl⟩) | (gi_at_call 59; refine ((callsIn_wide (n := 0)).2 (those_any _ _ _ _ _)).mono ?_; rintro e w' ⟨rfl, rfl⟩))
  refine wp_range (gf := 80) rfl enters80
    (those_iters (w.heap.size + 1 + 1 + 1) (w.heap.size + 1 + 1 + 1 + 1) 81 sg #[.pointer (some ⟨w.heap.size + 1 + 1, 0, none⟩)] slb enters81 egs (behindL ack) _ (behind1 (w.heap.size + 1 + 1) ack ha) p PreS hso) (fun _ => by rfl)
    (fun pre W => W.heap[w.heap.size]? = some (.cells #[.int .u32 ack] 22 (0, 0)) ∧ W.heap[w.heap.size + 1]? = some (.cells #[.int .u32 (maskOf ack pre)] 22 (0, 0)) ∧ W.heap[w.heap.size + 1 + 1]? = some (.cells #[.int .u32 ack] 22 (0, 0)) ∧
      W.heap[w.heap.size + 1 + 1 + 1]? = some (.cells #[.func (.func 81) #[] #[.pointer (some ⟨w.heap.size + 1 + 1, 0, none⟩)]] 28 (0, 0)) ∧ W.heap[w.heap.size + 1 + 1 + 1 + 1]? = some (.cells #[.func (.func sg) #[] slb] 27 (0, 0)) ∧ Below w.heap.size w W)
    (fun _ _ _ => False)
    (fun pre => (Stb.low _ _ _ (by simp only [World.size_alloc]; omega)).and ((Stb.low _ _ _ (by simp only [World.size_alloc]; omega)).and ((Stb.low _ _ _ (by simp only [World.size_alloc]; omega)).and ((Stb.low _ _ _ (by simp only [World.size_alloc]; omega)).and ((Stb.low _ _ _ (by simp only [World.size_alloc]; omega)).and (Stb.below (Nat.le_refl _) (by simp only [World.size_alloc]; omega)))))))
    (fun c pre => Stb.pure _ _)
    (fun pre W h => ⟨one_cell h.2.2.1, HP.out W h.2.2.2.2.2, h.2.2.2.1, h.2.2.2.2.1⟩)
    ?start
    (fun x => { tmps := #[.int .u32 ack, .func (.func sg) #[] slb, .pointer (some ⟨w.heap.size, 0, none⟩), undef, .int .u32 0, .pointer (some ⟨w.heap.size + 1, 0, none⟩), .int .u32 x, .int .u32 ack, .func (.func 81) #[] #[.pointer (some ⟨w.heap.size + 1 + 1, 0, none⟩)], .func (.func sg) #[] slb,
        .func (.func 80) #[] #[.pointer (some ⟨w.heap.size + 1 + 1 + 1, 0, none⟩), .pointer (some ⟨w.heap.size + 1 + 1 + 1 + 1, 0, none⟩)], .int .u32 x, undef, undef, undef, undef, undef, undef, undef, undef], defers := [] }) ?assign ?body ?done ?stop
  case start =>
    refine ⟨?_, ?_, ?_, ?_, ?_, ?_⟩
    case refine_6 => exact (((((Below.refl _ _).alloc (Nat.le_refl _) _).alloc (by simp) _).alloc (by simp only [World.size_alloc]; omega) _).alloc (by simp only [World.size_alloc]; omega) _).alloc (by simp only [World.size_alloc]; omega) _
    all_goals (simp only [alloc_at, World.size_alloc]; repeat (first | rfl | rw [if_pos trivial] | rw [if_pos (by omega)] | rw [if_neg (by omega)]))
  case assign =>
    intro l' x W' K hK
    gi_wp2
    exact hK
  case body =>
    rintro l' pre x rest W hS hl _ ⟨h1, h2, h3, h4, h5, hB⟩
    have hc1 := one_cell h1
    have hc2 := one_cell h2
    have hf2 := one_free h2
    have hx : x ∈ behindL ack := by
      have : x ∈ (behindL ack).filter p := by rw [← hS]; simp
      exact (List.mem_filter.1 this).1
    obtain ⟨x1, x2, x3⟩ := mem_behindL ha hx
    have hlt : maskOf ack pre < 4294967296 := by
      refine maskOf_lt ack pre (fun y hy => ?_)
      have : y ∈ (behindL ack).filter p := by rw [← hS]; simp [hy]
      exact (mem_behindL ha (List.mem_filter.1 this).1).2.1
    clear hx hS
    gi_wp2
    have e1 := or_step (maskOf ack pre) (x - ack - 1) hlt (by omega)
    rw [e1, ← maskOf_snoc]
    refine ⟨KeepBk.setCell _ _ _ _ (book_one h2 rfl), ?_, one_setCell h2, ?_, ?_, ?_, hB.setCell (by simp) _⟩
    all_goals (rw [setCell_heap_other (by simp only; omega)]; assumption)
  case done =>
    rintro D ys W hD rfl ⟨h1, h2, h3, h4, h5, hB⟩ hK
    have hc2 := one_cell h2
    gi_wp2
    simp only [World.size_alloc] at hD
    exact leave_mark (.inr rfl) hK (results_tmp rfl _ _ _) ⟨rfl, Stb.below (n₀ := w.heap.size) (B := w.heap.size) (Nat.le_refl _) (Nat.le_refl _) _ _ _ hB (grownBy_putObj0 _ _ _) (fun r e => by cases e; exact ⟨by omega, _, hK, rfl⟩)⟩
  case stop =>
    rintro D c pre rest W _ _ h _
    exact h.elim
end Go.Proofs.Ytmghgjokleeigaa
