/-
  Intake: Bytes. At most 64 payloads of at most 256 bytes.
-/
import Derived.Test.YtmghgjokleeigaaInV
namespace Go.Proofs.Ytmghgjokleeigaa
open Go.RowKit Go.Shelf Go.Maps
attribute [local go_sem] Oper.semAt_some wide_fn_eq wide_depth

def lenV (v : Nat → Option Gr) (j : Nat) : Nat := ((v j).map fun g => g.2.length).getD 0
def sumV (v : Nat → Option Gr) (ids : List Nat) : Nat := (ids.map (lenV v)).sum
def sumP (pre : List Kg) : Nat := (pre.map fun x => x.2.2.length).sum
theorem sumP_snoc (pre : List Kg) (x : Kg) : sumP (pre ++ [x]) = sumP pre + x.2.2.length := by simp [sumP]
theorem allK_sum {v : Nat → Option Gr} {ids : List Nat} {xs : List Kg} (h : AllK v ids xs) (hi : Ids v ids) : sumP xs = sumV v ids := by
  have hp : (xs.map Prod.fst).Perm ids := (List.perm_ext_iff_of_nodup h.1 hi.nd).2 h.2.1
  have h1 : xs.map (fun x => x.2.2.length) = (xs.map Prod.fst).map (lenV v) := by
    rw [List.map_map]
    refine List.map_congr_left fun x hx => ?_
    simp [lenV, h.2.2 x hx]
  unfold sumP sumV
  rw [h1]
  exact (hp.map _).sum_nat
theorem allK_len {v : Nat → Option Gr} {ids : List Nat} {xs : List Kg} (h : AllK v ids xs) (hi : Ids v ids) : xs.length = ids.length := by
  have hp : (xs.map Prod.fst).Perm ids := (List.perm_ext_iff_of_nodup h.1 hi.nd).2 h.2.1
  have := hp.length_eq
  rwa [List.length_map] at this
theorem sumP_le {pre : List Kg} (h : ∀ x ∈ pre, x.2.2.length ≤ 256) : sumP pre ≤ 256 * pre.length := by
  induction pre with
  | nil => simp [sumP]
  | cons a l ih =>
    have := ih (fun x hx => h x (by simp [hx]))
    have := h a (by simp)
    simp only [sumP, List.map_cons, List.sum_cons, List.length_cons] at *
    omega

set_option maxRecDepth 100000 in
theorem bytes42 {w0 : World} {I M n fl : Nat} {v : Nat → Option Gr} {c : Nat} {W : World} (h : Intk w0 I M n fl v c W) (ids : List Nat) (hi : Ids v ids) (hl : ids.length ≤ 64) (h256 : ∀ id g, v id = some g → g.2.length ≤ 256) :
    Calls Try.prog 42 #[.pointer (some ⟨I, 0, none⟩)] W fun e W' => e = .returned (.int .i64 (sumV v ids)) ∧ Below W.heap.size W W' := by
  have c1 := h.c1
  have N := Lib.hid (none70 h)
  have hM := h.map.lt
  have c3 := (h.alloc (.cells #[.int .i64 0] 3)).c1
  have H := Lib.hid h; have HI := Lib.hid hi; have HL := Lib.hid hl; have H256 := Lib.hid h256
  clear h hi hl h256
  refine (callsIn_wide (n := 0)).1 (callsIn_of_wp_marks Try.func42 rfl trivial ?_)
  simp only [Try.ntmps42, List.size_toArray, List.length_cons, List.length_nil, Nat.reduceAdd, Nat.reduceSub, Array.replicate_succ, Array.replicate_zero, List.push_toArray, List.append_toArray, List.nil_append, List.cons_append]
  gi_wp2_with (first
    | (gi_at_call 70; refine ((callsIn_wide (n := 0)).2 N.out).mono ?_; rintro e w' ⟨rfl, rfl⟩)
    | (gi_at_call 72; refine ((callsIn_wide (n := 0)).2 (values72 M _)).mono ?_; rintro e w' ⟨rfl, rfl⟩))
  refine wp_range (gf := 83) rfl enters83 (values83 M n c (W.heap.size + 1) v ids HI.out W H.out.map) (fun _ => by rfl)
    (fun pre W' => W'.heap[W.heap.size]? = some (.cells #[.int .i64 (sumP pre : Nat)] 3 (0, 0)) ∧ W'.heap[W.heap.size + 1]? = some (.cells #[.map (some M)] 78 (0, 0)) ∧ Below W.heap.size W W')
    (fun _ _ _ => False)
    (fun pre => (Stb.block _ _ _ rfl).and ((Stb.block _ _ _ rfl).and (Stb.below (Nat.le_refl _) (by simp only [World.size_alloc]; omega))))
    (fun c pre => Stb.pure _ _)
    (fun pre W' h => ⟨h.2.1, h.2.2.block M hM⟩)
    ?start
    (fun x => { tmps := #[.pointer (some ⟨I, 0, none⟩), undef, .int .i64 0, .pointer (some ⟨W.heap.size, 0, none⟩), encG x.2, .pointer (some ⟨I, 0, none⟩), .bool false, .pointer (some ⟨I, 0, none⟩), .pointer (some ⟨I, 0, none⟩), .pointer (some ⟨I, 1, none⟩), .map (some M), .func (.func 83) #[] #[.pointer (some ⟨W.heap.size + 1, 0, none⟩)], encG x.2, undef, undef, undef, undef, undef], defers := [] }) ?assign ?body ?done ?stop
  case start =>
    refine ⟨?_, ?_, ?_⟩
    case refine_3 => exact ((Below.refl _ _).alloc (Nat.le_refl _) _).alloc (by simp) _
    all_goals (simp only [alloc_at, World.size_alloc]; repeat (first | rfl | rw [if_pos trivial] | rw [if_pos (by omega)] | rw [if_neg (by omega)]))
  case assign =>
    intro l' x W' K hK
    obtain ⟨q, lx, cx, ex⟩ : ∃ q l c, encG x.2 = .slice q l c := ⟨_, _, _, rfl⟩
    simp only [ex] at hK ⊢
    gi_wp2
    exact hK
  case body =>
    rintro l' pre x rest W' hS hl _ ⟨h1, h2, hB⟩
    have hx : v x.1 = some x.2 := hS.2.2 x (by simp)
    obtain ⟨q, lx, cx, ex⟩ : ∃ q l c, encG x.2 = .slice q l c := ⟨_, _, _, rfl⟩
    have hlx : lx = x.2.2.length := by have := (H.out.gr x.1 x.2 hx).len'' ex; simpa using this
    have hpre : pre.length ≤ 64 := by have := allK_len hS HI.out; have := HL.out; simp at *; omega
    have hs := sumP_le (pre := pre) fun y hy => H256.out y.1 y.2 (hS.2.2 y (by simp [hy]))
    have hx256 := H256.out x.1 x.2 hx
    obtain ⟨sp, hsp⟩ : ∃ sp, sp = sumP pre := ⟨_, rfl⟩
    rw [← hsp] at h1 hs
    rw [← hlx] at hx256
    have hs2 : sp ≤ 20000 := by omega
    have c2 := one_cell h1
    have f2 := one_free h1
    have H1 := Lib.hid h1; have H2 := Lib.hid h2; have HB := Lib.hid hB; have HSP := Lib.hid hsp; have HLX := Lib.hid hlx
    simp only [ex]
    clear hS hx ex hlx h1 h2 hB hsp hs hpre
    gi_wp2
    refine ⟨KeepBk.setCell _ _ _ _ (book_one H1.out rfl), ?_, ?_, HB.out.setCell (Nat.le_refl _) _⟩
    · rw [set_cells H1.out, sumP_snoc, ← HSP.out, ← HLX.out]; rfl
    · rw [Below.heap_setCell _ _ _ _ (by simp)]; exact H2.out
  case done =>
    rintro D ys W' hD hS ⟨h1, h2, hB⟩ hK
    have hsum := allK_sum hS HI.out
    rw [hsum] at h1
    have c2 := one_cell h1
    have HK := Lib.hid hK; have HB := Lib.hid hB
    clear h1 h2 hB hS hsum hK
    gi_wp2
    simp only [World.size_alloc] at hD
    exact leave_mark (.inr rfl) HK.out (results_tmp rfl _ _ _) ⟨rfl, (Stb.below (n₀ := W.heap.size) (B := W.heap.size) (Nat.le_refl _) (Nat.le_refl _)).putObj _ HB.out (by omega) HK.out rfl⟩
  case stop =>
    rintro D c pre rest W _ _ h _
    exact h.elim
end Go.Proofs.Ytmghgjokleeigaa
