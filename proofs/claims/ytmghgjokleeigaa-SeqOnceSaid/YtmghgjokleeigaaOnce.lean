/-
  SeqOnce, for every limit and however often it is asked. No condition.
-/
import Derived.Test.YtmghgjokleeigaaSpace
import Derived.Test.YtmghgjokleeigaaSeq6
namespace Go.Proofs.Ytmghgjokleeigaa
open Go.RowKit Go.Shelf

set_option maxRecDepth 100000 in
set_option maxHeartbeats 400000 in
theorem once_walk (limit many : Nat) (hl : limit ≤ 255) (hm : many ≤ 255) (w : World) :
    Calls Try.prog 8 #[.int .u8 limit, .int .u8 many] w (TruePost w) := by
  go_enter Try.func8, Try.ntmps8
  go_wp2_with fail
  generalize hz : (1 + (limit : Int) % 40) = z
  obtain ⟨N, rfl⟩ : ∃ N : Nat, z = N := ⟨z.toNat, by omega⟩
  have hN1 : 1 ≤ N := by omega
  have hN2 : N ≤ 40 := by omega
  clear hz hl
  refine (new_good N hN1 (by omega) w).mono ?_
  rintro e w' ⟨rfl, rfl⟩
  have hS0 : Spc (w.alloc (.cells #[.int .u32 0, .int .u32 N] 77)) w.heap.size 0 N := alloc_new w _
  have hB0 : Below w.heap.size w (w.alloc (.cells #[.int .u32 0, .int .u32 N] 77)) := (Below.refl _ _).alloc (Nat.le_refl _) _
  obtain ⟨B, hBB⟩ : ∃ B, B = w.heap.size := ⟨_, rfl⟩
  have HBB := Lib.hid hBB
  rw [← hBB] at hS0 ⊢
  clear hBB
  generalize w.alloc (.cells #[.int .u32 0, .int .u32 N] 77) = w1 at hS0 hB0 ⊢
  go_wp2_with fail
  go_loopw [25] (fun i wr => ∃ k : Nat, k ≤ many ∧ i = .int .i64 k ∧ Spc wr B (min k N) N ∧ Below w.heap.size w wr) (fun i _ => many - (intOf i).toNat)
  case atStart => exact ⟨0, by omega, rfl, by rw [Nat.zero_min]; exact hS0, hB0⟩
  case round =>
    clear hS0 hB0
    obtain ⟨k, hk, rfl, hS, hB⟩ := hrel
    by_cases hlt : k < many
    · by_cases hkN : k < N
      · rw [Nat.min_eq_left (by omega)] at hS
        go_wp2_with fail
        refine (next_any B k N (by omega) (by omega) (by omega) _ hS).mono ?_
        intro e w2 hp
        unfold NextPost at hp
        rw [if_pos hkN] at hp
        obtain ⟨rfl, hS2, hg2⟩ := hp
        go_wp2_with fail
        refine (used_any B (k + 1) N (by omega) w2 hS2).mono ?_
        rintro e w' ⟨rfl, rfl⟩
        push_cast
        go_wp2_with fail
        refine (left_any B (k + 1) N (by omega) (by omega) (by omega) w2 hS2).mono ?_
        rintro e w' ⟨rfl, n3, rfl⟩
        push_cast
        have e3 : (((N : Int) - ((k : Int) + 1)) != ((N : Int) - (k : Int) - 1)) = false := by rw [bne_eq_false_iff_eq]; omega
        go_wp2_with fail
        refine ⟨⟨k + 1, by omega, by go_num, by rw [Nat.min_eq_left (by omega)]; exact hS2, below_drewN (hB.grown hg2 hB.size (fun j e => by cases e; rw [HBB.out]; omega)) n3⟩, by simp [intOf]; omega⟩
      · rw [Nat.min_eq_right (by omega)] at hS
        go_wp2_with fail
        refine (next_any B N N (by omega) (by omega) (by omega) _ hS).mono ?_
        intro e w2 hp
        unfold NextPost at hp
        rw [if_neg (by omega)] at hp
        obtain ⟨rfl, hS2, hg2⟩ := hp
        go_wp2_with fail
        refine (used_any B N N (by omega) w2 hS2).mono ?_
        rintro e w' ⟨rfl, rfl⟩
        go_wp2_with fail
        refine (left_any B N N (by omega) (by omega) (by omega) w2 hS2).mono ?_
        rintro e w' ⟨rfl, n3, rfl⟩
        rw [show (N : Int) - N = 0 from by omega]
        go_wp2_with fail
        refine ⟨⟨k + 1, by omega, by go_num, by rw [Nat.min_eq_right (by omega)]; exact hS2, below_drewN (hB.grown hg2 hB.size (fun j e => by cases e; rw [HBB.out]; omega)) n3⟩, by simp [intOf]; omega⟩
    · go_wp2_with fail
      refine (wakes_any wr).mono ?_
      rintro e w3 ⟨rfl, hb3⟩
      go_wp2_with fail
      go_ret
      exact ⟨rfl, below_then hB (Nat.le_refl _) hb3⟩
end Go.Proofs.Ytmghgjokleeigaa
