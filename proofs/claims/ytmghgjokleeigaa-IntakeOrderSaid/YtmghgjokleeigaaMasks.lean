/-
  SeqMasks, for every ack and mask: there and back. No condition.
-/
import Derived.Test.YtmghgjokleeigaaSeq6
import Derived.Test.YtmghgjokleeigaaMasksLaw
import Derived.ProofKit
import Derived.OpenShut
namespace Go.Proofs.Ytmghgjokleeigaa
open Go.RowKit Go.Shelf
attribute [local go_sem] Oper.semAt_some wide_fn_eq wide_depth

theorem enters29 : Enters 29 := fun _ _ => (enters_of Try.func29 (by kernel_rfl) rfl) _ _
theorem enters31 : Enters 31 := fun _ _ => (enters_of Try.func31 (by kernel_rfl) rfl) _ _
theorem enters32 : Enters 32 := fun _ _ => (enters_of Try.func32 (by kernel_rfl) rfl) _ _
theorem yes_any (x : Nat) (w : World) : Calls Try.prog 31 #[.int .u32 x] w fun e W => e = .returned (.bool true) ∧ w = W := by
  go_enter Try.func31, Try.ntmps31
  go_wp2
  go_ret
  exact ⟨rfl, rfl⟩
theorem no_any (x : Nat) (w : World) : Calls Try.prog 32 #[.int .u32 x] w fun e W => e = .returned (.bool false) ∧ w = W := by
  go_enter Try.func32, Try.ntmps32
  go_wp2
  go_ret
  exact ⟨rfl, rfl⟩
theorem told_has (B x : Nat) (v : Value) (xs : List Nat) (w : World) (hB : w.heap[B]? = some (.cells #[v] 26 (0, 0))) (hv : RowU .u32 w v xs) (hx : xs.length ≤ 1099511627776) :
    Calls Try.prog 29 #[.int .u32 x, .pointer (some ⟨B, 0, none⟩)] w fun e W => e = .returned (.bool (decide (x ∈ xs))) ∧ w = W := by
  have hc := one_cell hB
  obtain ⟨q, c, rfl, hv'⟩ := hv
  have Hv : Hid (RowU .u32 w (.slice q xs.length c) xs) := Lib.hid ⟨q, c, rfl, hv'⟩
  clear hv'
  go_enter Try.func29, Try.ntmps29
  go_wp2_with (go_at_call 21; refine (contains_any _ _ _ _ Hv.out hx).mono ?_; rintro e w' ⟨rfl, rfl⟩)
  go_ret
  exact ⟨rfl, rfl⟩

theorem want_bits (ack mask : Nat) (hm : mask ≤ 4294967295) (h : 4294967295 - ack < 32) : bits BinOp.and IntKind.u32 (mask : Int) (((2 : Int) ^ (4294967295 - ack) - 1) % 4294967296) = (wantOf ack mask : Int) := by
  unfold wantOf
  rw [if_pos h]
  have h1 : 2 ^ (4294967295 - ack) ≤ 2 ^ 31 := Nat.pow_le_pow_right (i := 4294967295 - ack) (j := 31) (by omega) (by omega)
  have h0 : 0 < 2 ^ (4294967295 - ack) := Nat.pow_pos (by omega)
  have e2 : (2 : Int) ^ (4294967295 - ack) = ((2 ^ (4294967295 - ack) : Nat) : Int) := by simp
  rw [e2]
  generalize 2 ^ (4294967295 - ack) = z at h1 h0 ⊢
  have e := Go.u32_and_nat mask (z - 1) (by omega) (by omega)
  rw [← e]
  congr 1
  omega


set_option maxRecDepth 100000 in
set_option maxHeartbeats 400000 in
theorem masks_walk (ack mask : Nat) (ha : ack ≤ 4294967295) (hm : mask ≤ 4294967295) (w : World) :
    Calls Try.prog 5 #[.int .u32 ack, .int .u32 mask] w (TruePost w) := by
  go_enter Try.func5, Try.ntmps5
  go_wp2_with fail
  refine (told_it ack mask ha hm _).mono ?_
  rintro e w1 ⟨g, lb, rfl, hb1, hit⟩
  go_wp2_with fail
  refine (first_any g _ lb (toldL ack mask) (fun _ => True) w1 hit (fun _ _ => trivial) 40 (by omega)).mono ?_
  rintro e w2 ⟨v, rfl, hrow, hb2⟩
  rw [toldL_take _ _ _ (by omega)] at hrow
  have F1 := toldL_len ack mask
  have F2 := Lib.hid (back_is ack mask ha hm)
  have F3 := Lib.hid (toldL_sorted ack mask)
  have F4 := Lib.hid (fun x => (mem_toldL ack mask x).1)
  clear hit
  generalize toldL ack mask = T at hrow F1 F2 F3 F4
  obtain ⟨q, c, rfl⟩ := owns_slice hrow
  have Hrow := Lib.hid hrow; clear hrow
  go_wp2_with fail
  have hB3 := alloc_new w2 (.cells #[.slice q T.length c] 26)
  have hrow3 := Hrow.out.alloc (.cells #[.slice q T.length c] 26)
  have hb3 : Below w.heap.size w (w2.alloc (.cells #[.slice q T.length c] 26)) := (hb1.trans (hb2.mono hb1.size)).alloc (Nat.le_trans hb1.size hb2.size) _
  obtain ⟨B, hBB⟩ : ∃ B, B = w2.heap.size := ⟨_, rfl⟩
  rw [← hBB] at hB3 ⊢
  generalize w2.alloc (.cells #[.slice q T.length c] 26) = w3 at hB3 hrow3 hb3 ⊢
  clear Hrow hBB hb1 hb2
  refine (mask_any ack ha 29 #[.pointer (some ⟨B, 0, none⟩)] enters29 (fun n => decide (n ∈ T)) (fun A => A.heap[B]? = some (.cells #[.slice q T.length c] 26 (0, 0)) ∧ A.ownsRow w1.heap.size 22 1 (.slice q T.length c) T.length (T.map fun x : Nat => Value.int .u32 x))
    (asks_of (fun x W _ h => told_has B x _ T W h.1 (rowU_of_owns h.2) (by omega))) w3 (fun A hA => ⟨(hA.block B (block_lt hB3)).trans hB3, owns_below hrow3 hA⟩)).mono ?_
  rintro e w4 ⟨rfl, hb4⟩
  rw [F2.out]
  have hB4 := (hb4.block B (block_lt hB3)).trans hB3
  have hrow4 := owns_below hrow3 hb4
  have hb5 := hb3.trans (hb4.mono hb3.size)
  clear hB3 hrow3 hb3 hb4 F2
  have G1 := wantOf_lt ack mask hm
  have G2 := Lib.hid (all_and ack mask ha hm)
  have hc4 := one_cell hB4
  have Hrow := Lib.hid hrow4; clear hrow4
  by_cases h32 : 4294967295 - ack < 32
  · have hb : bits BinOp.and IntKind.u32 (mask : Int) (((2 : Int) ^ (4294967295 - ack) - 1) % 4294967296) = (wantOf ack mask : Int) := want_bits ack mask hm h32
    generalize wantOf ack mask = V at hb G1 G2 ⊢
    go_wp2_with fail
    refine (sorted_any _ T _ (rowU_of_owns Hrow.out) (by omega) F3.out).mono ?_
    rintro e w5 ⟨rfl, n5, rfl⟩
    have hc5 : (w4.drewN n5).cell? ⟨B, 0, none⟩ = some (.slice q T.length c) := hc4
    have Hrow5 : Hid ((w4.drewN n5).ownsRow w1.heap.size 22 1 (.slice q T.length c) T.length (T.map fun x : Nat => Value.int .u32 x)) := Hrow.out
    have hb6 := below_drewN hb5 n5
    clear hc4 Hrow hB4 hb5
    generalize w4.drewN n5 = w5 at hc5 Hrow5 hb6 ⊢
    go_wp2_with fail
    go_loop [10, 45] (fun _ i => ∃ k : Nat, k ≤ T.length ∧ i = .int .i64 k) (fun _ i => T.length - (intOf i).toNat)
    case atStart => exact ⟨0, by omega, rfl⟩
    case round =>
      obtain ⟨k, hk, rfl⟩ := hrel
      by_cases hlt : k < T.length
      · obtain ⟨g', rfl, hcell⟩ := owns_at Hrow5.out k hlt
        obtain ⟨⟨x1, x2, x3⟩, hbit⟩ := F4.out T[k] (List.getElem_mem hlt)
        generalize T[k] = x at hcell x1 x2 x3 hbit
        have hb0 : bits BinOp.and IntKind.u32 ((mask : Int) / 2 ^ (x - ack - 1)) 1 = 1 := eq_of_beq ((bit_told mask (x - ack - 1) hm).trans hbit)
        clear hbit
        go_wp2_with fail
        exact ⟨⟨k + 1, by omega, by go_num⟩, by simp [intOf]; omega⟩
      · go_wp2_with fail
        refine (mask_any ack ha 31 #[] enters31 (fun _ => true) (fun _ => True) (asks_of (fun x W _ _ => yes_any x W)) w5 (fun _ _ => trivial)).mono ?_
        rintro e w6 ⟨rfl, hb7⟩
        rw [show List.filter (fun _ => true) (behindL ack) = behindL ack from List.filter_eq_self.2 (fun _ _ => rfl)]
        go_wp2_with fail
        refine (mask_any ack ha 32 #[] enters32 (fun _ => false) (fun _ => True) (asks_of (fun x W _ _ => no_any x W)) w6 (fun _ _ => trivial)).mono ?_
        rintro e w7 ⟨rfl, hb8⟩
        rw [show List.filter (fun _ => false) (behindL ack) = [] from List.filter_eq_nil_iff.2 (fun _ _ => by simp)]
        have e0 : maskOf ack [] = 0 := rfl
        rw [e0]
        have hand : bits BinOp.and IntKind.u32 (maskOf ack (behindL ack) : Int) (V : Int) = (V : Int) := (Go.u32_and_nat _ _ (maskOf_lt ack _ (fun x hx => ((mem_behindL_iff ack x).1 hx).2.1)) (by omega)).trans (by rw [G2.out])
        clear e0
        generalize maskOf ack (behindL ack) = A at hand ⊢
        go_wp2_with fail
        refine (wakes_any w7).mono ?_
        rintro e w8 ⟨rfl, hb9⟩
        go_wp2_with fail
        go_ret
        exact ⟨rfl, below_then (below_then (below_then hb6 (Nat.le_refl _) hb7) (Nat.le_refl _) hb8) (Nat.le_refl _) hb9⟩
  · have hw : wantOf ack mask = mask := by unfold wantOf; rw [if_neg h32]
    rw [hw] at G1 G2 ⊢
    clear hw
    go_wp2_with fail
    refine (sorted_any _ T _ (rowU_of_owns Hrow.out) (by omega) F3.out).mono ?_
    rintro e w5 ⟨rfl, n5, rfl⟩
    have hc5 : (w4.drewN n5).cell? ⟨B, 0, none⟩ = some (.slice q T.length c) := hc4
    have Hrow5 : Hid ((w4.drewN n5).ownsRow w1.heap.size 22 1 (.slice q T.length c) T.length (T.map fun x : Nat => Value.int .u32 x)) := Hrow.out
    have hb6 := below_drewN hb5 n5
    clear hc4 Hrow hB4 hb5
    generalize w4.drewN n5 = w5 at hc5 Hrow5 hb6 ⊢
    go_wp2_with fail
    go_loop [10, 45] (fun _ i => ∃ k : Nat, k ≤ T.length ∧ i = .int .i64 k) (fun _ i => T.length - (intOf i).toNat)
    case atStart => exact ⟨0, by omega, rfl⟩
    case round =>
      obtain ⟨k, hk, rfl⟩ := hrel
      by_cases hlt : k < T.length
      · obtain ⟨g', rfl, hcell⟩ := owns_at Hrow5.out k hlt
        obtain ⟨⟨x1, x2, x3⟩, hbit⟩ := F4.out T[k] (List.getElem_mem hlt)
        generalize T[k] = x at hcell x1 x2 x3 hbit
        have hb0 : bits BinOp.and IntKind.u32 ((mask : Int) / 2 ^ (x - ack - 1)) 1 = 1 := eq_of_beq ((bit_told mask (x - ack - 1) hm).trans hbit)
        clear hbit
        go_wp2_with fail
        exact ⟨⟨k + 1, by omega, by go_num⟩, by simp [intOf]; omega⟩
      · go_wp2_with fail
        refine (mask_any ack ha 31 #[] enters31 (fun _ => true) (fun _ => True) (asks_of (fun x W _ _ => yes_any x W)) w5 (fun _ _ => trivial)).mono ?_
        rintro e w6 ⟨rfl, hb7⟩
        rw [show List.filter (fun _ => true) (behindL ack) = behindL ack from List.filter_eq_self.2 (fun _ _ => rfl)]
        go_wp2_with fail
        refine (mask_any ack ha 32 #[] enters32 (fun _ => false) (fun _ => True) (asks_of (fun x W _ _ => no_any x W)) w6 (fun _ _ => trivial)).mono ?_
        rintro e w7 ⟨rfl, hb8⟩
        rw [show List.filter (fun _ => false) (behindL ack) = [] from List.filter_eq_nil_iff.2 (fun _ _ => by simp)]
        have e0 : maskOf ack [] = 0 := rfl
        rw [e0]
        have hand : bits BinOp.and IntKind.u32 (maskOf ack (behindL ack) : Int) (mask : Int) = (mask : Int) := (Go.u32_and_nat _ _ (maskOf_lt ack _ (fun x hx => ((mem_behindL_iff ack x).1 hx).2.1)) (by omega)).trans (by rw [G2.out])
        clear e0
        generalize maskOf ack (behindL ack) = A at hand ⊢
        go_wp2_with fail
        refine (wakes_any w7).mono ?_
        rintro e w8 ⟨rfl, hb9⟩
        go_wp2_with fail
        go_ret
        exact ⟨rfl, below_then (below_then (below_then hb6 (Nat.le_refl _) hb7) (Nat.le_refl _) hb8) (Nat.le_refl _) hb9⟩
end Go.Proofs.Ytmghgjokleeigaa
