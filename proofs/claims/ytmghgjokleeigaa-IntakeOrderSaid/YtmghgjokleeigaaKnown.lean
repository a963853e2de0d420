/-
  Spans' Len and Has; no space, an empty space; SeqKnown's walk. No condition.
-/
import Derived.Test.YtmghgjokleeigaaGives
import Derived.Test.YtmghgjokleeigaaMasks
namespace Go.Proofs.Ytmghgjokleeigaa
open Go.RowKit Go.Shelf

def LenPost (f t : Nat) (w : World) (e : Ending) (W : World) : Prop := e = .returned (.int .i64 ((t - f : Nat) : Int)) ∧ Below w.heap.size w W
theorem below_alloc1 (w : World) (o : Obj) : Below w.heap.size w (w.alloc o) := (Below.refl _ _).alloc (Nat.le_refl _) _
theorem len_any (f t : Nat) (hf : f ≤ 4294967295) (ht : t ≤ 4294967295) (w : World) : Calls Try.prog 17 #[.agg #[.int .u32 f, .int .u32 t]] w (LenPost f t w) := by
  obtain ⟨c0, c1, f0, f1⟩ := two_cell (alloc_new w (.cells #[.int .u32 f, .int .u32 t] 25))
  go_enter Try.func17, Try.ntmps17
  go_wp2_with fail
  all_goals go_ret
  all_goals exact ⟨ret_int (by omega), below_alloc1 _ _⟩
def HasPost (f t x : Nat) (w : World) (e : Ending) (W : World) : Prop := e = .returned (.bool (decide (f ≤ x ∧ x < t))) ∧ Below w.heap.size w W
theorem has_any (f t x : Nat) (w : World) : Calls Try.prog 18 #[.agg #[.int .u32 f, .int .u32 t], .int .u32 x] w (HasPost f t x w) := by
  obtain ⟨c0, c1, f0, f1⟩ := two_cell (alloc_new w (.cells #[.int .u32 f, .int .u32 t] 25))
  by_cases h : f ≤ x
  · have h' : decide (f ≤ x) = true := decide_eq_true h
    go_enter Try.func18, Try.ntmps18
    go_wp2_with fail
    go_ret
    exact ⟨ret_bool (by simp [h]), below_alloc1 _ _⟩
  · have h' : decide (f ≤ x) = false := decide_eq_false h
    go_enter Try.func18, Try.ntmps18
    go_wp2_with fail
    go_ret
    exact ⟨ret_bool (by simp [h]), below_alloc1 _ _⟩

theorem none_nil (w : World) : Calls Try.prog 69 #[.pointer none] w fun e W => e = .returned (.bool true) ∧ w = W := by
  go_enter Try.func69, Try.ntmps69
  go_wp2
  go_ret
  exact ⟨rfl, rfl⟩
theorem none_zero (B used : Nat) (w : World) (h : Spc w B used 0) : Calls Try.prog 69 #[.pointer (some ⟨B, 0, none⟩)] w fun e W => e = .returned (.bool true) ∧ w = W := by
  obtain ⟨c0, c1, f0, f1⟩ := two_cell h
  go_enter Try.func69, Try.ntmps69
  go_wp2
  go_ret
  exact ⟨rfl, rfl⟩
theorem next_nil (w : World) : Calls Try.prog 35 #[.pointer none] w fun e W => e = .returned (.tuple #[.int .u32 0, .int .i64 2]) ∧ w = W := by
  go_enter Try.func35, Try.ntmps35
  go_wp2_with (go_at_call 69; refine (none_nil _).mono ?_; rintro e w' ⟨rfl, rfl⟩)
  go_ret2
  exact ⟨rfl, rfl⟩
theorem next_zero (B used : Nat) (w : World) (h : Spc w B used 0) : Calls Try.prog 35 #[.pointer (some ⟨B, 0, none⟩)] w fun e W => e = .returned (.tuple #[.int .u32 0, .int .i64 2]) ∧ w = W := by
  go_enter Try.func35, Try.ntmps35
  go_wp2_with (go_at_call 69; refine (none_zero B used _ h).mono ?_; rintro e w' ⟨rfl, rfl⟩)
  go_ret2
  exact ⟨rfl, rfl⟩
theorem used_nil (w : World) : Calls Try.prog 37 #[.pointer none] w fun e W => e = .returned (.int .u32 0) ∧ w = W := by
  go_enter Try.func37, Try.ntmps37
  go_wp2_with (go_at_call 69; refine (none_nil _).mono ?_; rintro e w' ⟨rfl, rfl⟩)
  go_ret
  exact ⟨rfl, rfl⟩
theorem left_zero (B used : Nat) (w : World) (h : Spc w B used 0) : Calls Try.prog 38 #[.pointer (some ⟨B, 0, none⟩)] w fun e W => e = .returned (.int .u32 0) ∧ w = W := by
  go_enter Try.func38, Try.ntmps38
  go_wp2_with (go_at_call 69; refine (none_zero B used _ h).mono ?_; rintro e w' ⟨rfl, rfl⟩)
  go_ret
  exact ⟨rfl, rfl⟩
theorem enters50 : Enters 50 := fun _ _ => (enters_of Try.func50 (by kernel_rfl) rfl) _ _
theorem yes50 (x : Nat) (w : World) : Calls Try.prog 50 #[.int .u32 x] w fun e W => e = .returned (.bool true) ∧ w = W := by
  go_enter Try.func50, Try.ntmps50
  go_wp2
  go_ret
  exact ⟨rfl, rfl⟩
theorem mask50 (ack m : Nat) (ha : ack ≤ 4294967295) (hm : maskOf ack (behindL ack) = m) (w : World) : Calls Try.prog 27 #[.int .u32 ack, .func (.func 50) #[] #[]] w fun e W => e = .returned (.int .u32 m) ∧ Below w.heap.size w W := by
  refine (mask_any ack ha 50 #[] enters50 (fun _ => true) (fun _ => True) (asks_of (fun x W _ _ => yes50 x W)) w (fun _ _ => trivial)).mono ?_
  rintro e W ⟨rfl, hb⟩
  rw [show List.filter (fun _ => true) (behindL ack) = behindL ack from List.filter_eq_self.2 (fun _ _ => rfl), hm]
  exact ⟨rfl, hb⟩

set_option maxRecDepth 100000 in
set_option maxHeartbeats 2000000 in
theorem known_walk (w : World) : Calls Try.prog 10 #[] w (TruePost w) := by
  go_enter Try.func10, Try.ntmps10
  go_wp2_with fail
  refine (next_nil _).mono ?_; rintro e w' ⟨rfl, rfl⟩
  go_wp2_with fail
  have hS : Spc (w.alloc (.cells #[.int .u32 0, .int .u32 0] 77)) w.heap.size 0 0 := alloc_new _ _
  have hb := below_alloc1 w (.cells #[.int .u32 0, .int .u32 0] 77)
  generalize w.alloc (.cells #[.int .u32 0, .int .u32 0] 77) = w1 at hS hb ⊢
  refine (next_zero _ 0 _ hS).mono ?_; rintro e w' ⟨rfl, rfl⟩
  go_wp2_with fail
  refine (new_bad 0 (.inl (by omega)) _).mono ?_; rintro e w' ⟨rfl, rfl⟩
  go_wp2_with fail
  refine (new_bad 2147483649 (.inr (by omega)) _).mono ?_; rintro e w' ⟨rfl, rfl⟩
  go_wp2_with fail
  refine (new_good 2147483648 (by omega) (by omega) _).mono ?_; rintro e w' ⟨rfl, rfl⟩
  have hL : Spc (w1.alloc (.cells #[.int .u32 0, .int .u32 2147483648] 77)) w1.heap.size 0 2147483648 := alloc_new _ _
  replace hS := alloc_old (.cells #[.int .u32 0, .int .u32 2147483648] 77) hS
  replace hb := hb.alloc hb.size (.cells #[.int .u32 0, .int .u32 2147483648] 77)
  generalize w1.alloc (.cells #[.int .u32 0, .int .u32 2147483648] 77) = w2 at hS hL hb ⊢
  generalize w1.heap.size = C at hL ⊢
  go_wp2_with fail
  refine (used_nil _).mono ?_; rintro e w' ⟨rfl, rfl⟩
  go_wp2_with fail
  refine (left_zero _ 0 _ hS).mono ?_; rintro e w' ⟨rfl, rfl⟩
  go_wp2_with fail
  refine (left_any _ 0 2147483648 (by omega) (by omega) (by omega) _ hL).mono ?_; rintro e w' ⟨rfl, n1, rfl⟩
  replace hb := below_drewN hb n1
  generalize w2.drewN n1 = w3 at hb ⊢
  clear hS hL
  go_wp2_with fail
  refine (len_any 9 9 (by omega) (by omega) _).mono ?_; rintro e w4 ⟨rfl, hb2⟩
  replace hb := below_then hb (Nat.le_refl _) hb2; clear hb2
  go_wp2_with fail
  refine (len_any 9 3 (by omega) (by omega) _).mono ?_; rintro e w5 ⟨rfl, hb2⟩
  replace hb := below_then hb (Nat.le_refl _) hb2; clear hb2
  go_wp2_with fail
  refine (all_it 9 3 (by omega) (by omega) _).mono ?_; rintro e w6 ⟨g, lb, rfl, hb2, hit⟩
  replace hb := below_then hb (Nat.le_refl _) hb2; clear hb2
  go_wp2_with fail
  refine (first_any g _ lb _ _ w6 hit (fun _ _ => trivial) 5 (by omega)).mono ?_; rintro e w7 ⟨v, rfl, hrow, hb2⟩
  rw [show List.take 5 (List.range' 9 (3 - 9)) = [] by decide] at hrow
  obtain ⟨q, c, rfl⟩ := owns_slice hrow
  replace hb := below_then hb (Nat.le_refl _) hb2; clear hb2 hit hrow
  go_wp2_with fail
  refine (len_any 0 4294967295 (by omega) (by omega) _).mono ?_; rintro e w8 ⟨rfl, hb2⟩
  replace hb := below_then hb (Nat.le_refl _) hb2; clear hb2
  go_wp2_with fail
  refine (has_any 5 4294967295 4294967295 _).mono ?_; rintro e w9 ⟨rfl, hb2⟩
  replace hb := below_then hb (Nat.le_refl _) hb2; clear hb2
  go_wp2_with fail
  refine (mask50 4294967295 0 (by omega) (by decide +kernel) _).mono ?_; rintro e w10 ⟨rfl, hb2⟩
  replace hb := below_then hb (Nat.le_refl _) hb2; clear hb2
  go_wp2_with fail
  refine (mask50 4294967294 1 (by omega) (by decide +kernel) _).mono ?_; rintro e w11 ⟨rfl, hb2⟩
  replace hb := below_then hb (Nat.le_refl _) hb2; clear hb2
  go_wp2_with fail
  refine (mask50 0 4294967295 (by omega) (by decide +kernel) _).mono ?_; rintro e w12 ⟨rfl, hb2⟩
  replace hb := below_then hb (Nat.le_refl _) hb2; clear hb2
  go_wp2_with fail
  refine (told_it 4294967293 4294967295 (by omega) (by omega) _).mono ?_; rintro e w13 ⟨g, lb, rfl, hb2, hit⟩
  replace hb := below_then hb (Nat.le_refl _) hb2; clear hb2
  go_wp2_with fail
  refine (first_any g _ lb _ _ w13 hit (fun _ _ => trivial) 9 (by omega)).mono ?_; rintro e w14 ⟨v, rfl, hrow, hb2⟩
  rw [show List.take 9 (toldL 4294967293 4294967295) = [4294967294, 4294967295] by decide +kernel] at hrow
  obtain ⟨q, c, rfl⟩ := owns_slice hrow
  replace hb := below_then hb (Nat.le_refl _) hb2; clear hb2 hit
  go_wp2_with fail
  refine (equal_any _ _ [4294967294, 4294967295] [4294967294, 4294967295] _ (rowU_of_owns (hrow.alloc _)) (rowU_new _ 22 [4294967294, 4294967295]) (by simp) (by simp)).mono ?_; rintro e w' ⟨rfl, n2, rfl⟩
  replace hb := below_drewN (hb.alloc hb.size (.cells #[.int .u32 4294967294, .int .u32 4294967295] 22)) n2
  clear hrow
  go_wp2_with fail
  refine (told_it 7 2147483648 (by omega) (by omega) _).mono ?_; rintro e w16 ⟨g, lb, rfl, hb2, hit⟩
  replace hb := below_then hb (Nat.le_refl _) hb2; clear hb2
  go_wp2_with fail
  refine (first_any g _ lb _ _ w16 hit (fun _ _ => trivial) 9 (by omega)).mono ?_; rintro e w17 ⟨v, rfl, hrow, hb2⟩
  rw [show List.take 9 (toldL 7 2147483648) = [39] by decide +kernel] at hrow
  obtain ⟨q, c, rfl⟩ := owns_slice hrow
  replace hb := below_then hb (Nat.le_refl _) hb2; clear hb2 hit
  go_wp2_with fail
  refine (equal_any _ _ [39] [39] _ (rowU_of_owns (hrow.alloc _)) (rowU_new _ 22 [39]) (by simp) (by simp)).mono ?_; rintro e w' ⟨rfl, n3, rfl⟩
  replace hb := below_drewN (hb.alloc hb.size (.cells #[.int .u32 39] 22)) n3
  clear hrow
  go_wp2_with fail
  refine (all_it 4294967294 4294967295 (by omega) (by omega) _).mono ?_; rintro e w19 ⟨g, lb, rfl, hb2, hit⟩
  replace hb := below_then hb (Nat.le_refl _) hb2; clear hb2
  go_wp2_with fail
  refine (first_any g _ lb _ _ w19 hit (fun _ _ => trivial) 9 (by omega)).mono ?_; rintro e w20 ⟨v, rfl, hrow, hb2⟩
  rw [show List.take 9 (List.range' 4294967294 (4294967295 - 4294967294)) = [4294967294] by decide +kernel] at hrow
  obtain ⟨q, c, rfl⟩ := owns_slice hrow
  replace hb := below_then hb (Nat.le_refl _) hb2; clear hb2 hit
  go_wp2_with fail
  refine (equal_any _ _ [4294967294] [4294967294] _ (rowU_of_owns (hrow.alloc _)) (rowU_new _ 22 [4294967294]) (by simp) (by simp)).mono ?_; rintro e w' ⟨rfl, n4, rfl⟩
  replace hb := below_drewN (hb.alloc hb.size (.cells #[.int .u32 4294967294] 22)) n4
  clear hrow
  go_wp2_with fail
  refine (wakes_any _).mono ?_; rintro e w22 ⟨rfl, hb2⟩
  replace hb := below_then hb (Nat.le_refl _) hb2; clear hb2
  go_wp2_with fail
  go_ret
  exact ⟨rfl, hb⟩
end Go.Proofs.Ytmghgjokleeigaa
