/-
  THE ITERATORS OF PACKAGE seq: contracts of behind, All, those and what they capture. No condition but the numbers' ranges.
-/
import Derived.Test.YtmghgjokleeigaaRows
import Derived.Test.YtmghgjokleeigaaIter
import Derived.Shelf.Abstract
import Derived.Shelf.RegionOpen
import Derived.WalkKit
import Derived.OwnWalkIn
import Derived.TacticsInMore
import Derived.LoopNIn
import Derived.LoopIn
import Derived.Lib.Hide
namespace Go.Proofs.Ytmghgjokleeigaa
open Go.RowKit Go.Shelf
attribute [local go_sem] Oper.semAt_some wide_fn_eq wide_depth

/-- The numbers behind an ack that a mask can tell of. -/
def behindL (ack : Nat) : List Nat := List.range' (ack + 1) (min 32 (4294967295 - ack))

theorem range'_part (s k N : Nat) (h : k < N) : List.range' s k ++ (s + k) :: List.range' (s + k + 1) (N - (k + 1)) = List.range' s N := by
  rw [← List.range'_succ, show N - (k + 1) + 1 = N - k from by omega, List.range'_append_1, show k + (N - k) = N from by omega]

set_option maxHeartbeats 1000000 in
theorem behind1 (B ack : Nat) (ha : ack ≤ 4294967295) :
    Iters Try.prog 81 #[.pointer (some ⟨B, 0, none⟩)] (fun x : Nat => #[.int .u32 x]) (· = behindL ack) (fun W => W.cell? ⟨B, 0, none⟩ = some (.int .u32 ack)) := by
  intro l J Jx W hJ hJx hpre hY h0
  refine callsIn_of_wp Try.func81 rfl trivial ?_
  simp only [Try.ntmps81, List.size_toArray, List.length_cons, List.length_nil, Nat.reduceAdd, Nat.reduceSub, Array.replicate_succ, Array.replicate_zero, List.push_toArray, List.append_toArray, List.nil_append, List.cons_append]
  gi_wp2
  gi_loopw [5] (fun c wr => ∃ k : Nat, k ≤ min 32 (4294967295 - ack) ∧ c = .int .u32 k ∧ J (List.range' (ack + 1) k) wr) (fun c _ => 33 - (intOf c).toNat)
  case atStart => exact ⟨0, by omega, rfl, h0⟩
  case round =>
    obtain ⟨k, hk, rfl, hj⟩ := hrel
    have hc := hpre _ _ hj
    by_cases h32 : k = 32
    · subst h32
      gi_wp2
      go_end0
      exact IterEnd.all _ rfl (by unfold behindL; rw [show min 32 (4294967295 - ack) = 32 from by omega]; exact hj)
    · have hk32 : k < 32 := by omega
      by_cases hlt : ack + 1 + k ≤ 4294967295
      · obtain ⟨fn, tmps, assign, body, hy, hR⟩ := hY _ _ _ _ (range'_part (ack + 1) k _ (by omega)) hj
        clear hJ hJx hpre hY h0
        push_cast at hy
        gi_wp2
        refine hR.mono ?_
        rintro e W' (⟨rfl, _, hj'⟩ | ⟨rfl, _, hj'⟩)
        · gi_wp2
          go_roundw
          case rel => exact ⟨k + 1, by omega, by go_num, by rw [List.range'_1_concat]; exact hj'⟩
          case measure => simp [intOf]; omega
        · gi_wp2
          refine bodyPost_ret (results_none rfl _ _ _) rfl ?_
          exact IterEnd.part _ _ (by rw [List.append_assoc]; exact range'_part (ack + 1) k (min 32 (4294967295 - ack)) (by omega)) hj'
      · have hm : (ack + 1 + k) % 4294967296 ≤ ack := by omega
        clear hJ hJx hpre hY h0
        gi_wp2
        refine bodyPost_ret (results_none rfl _ _ _) rfl ?_
        exact IterEnd.all _ rfl (by unfold behindL; rw [show min 32 (4294967295 - ack) = k from by omega]; exact hj)

set_option maxHeartbeats 1000000 in
theorem all1 (B fr to : Nat) (hf : fr ≤ 4294967295) (ht : to ≤ 4294967295) :
    Iters Try.prog 65 #[.pointer (some ⟨B, 0, none⟩)] (fun x : Nat => #[.int .u32 x]) (· = List.range' fr (to - fr))
      (fun W => W.cell? ⟨B, 0, none⟩ = some (.int .u32 fr) ∧ W.cell? ⟨B, 1, none⟩ = some (.int .u32 to)) := by
  intro l J Jx W hJ hJx hpre hY h0
  have hc0 := hpre _ _ h0
  obtain ⟨hc1, hc2⟩ := hc0
  refine callsIn_of_wp Try.func65 rfl trivial ?_
  simp only [Try.ntmps65, List.size_toArray, List.length_cons, List.length_nil, Nat.reduceAdd, Nat.reduceSub, Array.replicate_succ, Array.replicate_zero, List.push_toArray, List.append_toArray, List.nil_append, List.cons_append]
  gi_wp2
  gi_loopw [3] (fun c wr => ∃ k : Nat, k ≤ to - fr ∧ c = .int .u32 ((fr + k : Nat) : Int) ∧ J (List.range' fr k) wr) (fun c _ => 1 + to - (intOf c).toNat)
  case atStart => exact ⟨0, by omega, rfl, h0⟩
  case round =>
    clear hc1 hc2
    obtain ⟨k, hk, rfl, hj⟩ := hrel
    obtain ⟨hc1, hc2⟩ := hpre _ _ hj
    by_cases hlt : k < to - fr
    · obtain ⟨fn, tmps, assign, body, hy, hR⟩ := hY _ _ _ _ (range'_part fr k _ hlt) hj
      push_cast at hy
      have hlt2 : fr + k < to := by omega
      clear hJ hJx hpre hY h0
      gi_wp2
      refine hR.mono ?_
      rintro e W' (⟨rfl, _, hj'⟩ | ⟨rfl, _, hj'⟩)
      · gi_wp2
        go_roundw
        case rel => exact ⟨k + 1, by omega, by go_num, by rw [List.range'_1_concat]; exact hj'⟩
        case measure => simp [intOf]; omega
      · gi_wp2
        refine bodyPost_ret (results_none rfl _ _ _) rfl ?_
        exact IterEnd.part _ _ (by rw [List.append_assoc]; exact range'_part fr k (to - fr) hlt) hj'
    · have hge : ¬ (fr + k < to) := by omega
      clear hJ hJx hpre hY h0
      gi_wp2
      go_end0
      exact IterEnd.all _ rfl (by rw [show to - fr = k from by omega]; exact hj)
end Go.Proofs.Ytmghgjokleeigaa
