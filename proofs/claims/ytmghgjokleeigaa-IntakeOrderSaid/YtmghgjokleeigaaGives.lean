/-
  SeqGives, for every limit and however many are asked for. No condition.
-/
import Derived.Test.YtmghgjokleeigaaSpace
import Derived.Test.YtmghgjokleeigaaSeq6
namespace Go.Proofs.Ytmghgjokleeigaa
open Go.RowKit Go.Shelf

theorem quiet_same {f : Nat} {args : Array Value} {w : World} {n : Nat} {v : Value} (h : Calls Try.prog f args (w.drewN n) fun e W => e = .returned v ∧ w.drewN n = W) : Calls Try.prog f args (w.drewN n) fun e w'' => e = .returned v ∧ ∃ m, w'' = w.drewN m :=
  Calls.quiet_of_same (h.mono (fun _ _ h => ⟨h.1, h.2.symm⟩))
theorem quiet_u {f : Nat} {args : Array Value} {w : World} {n : Nat} {v : Value} (h : Calls Try.prog f args (w.drewN n) (QuietU (w.drewN n) v)) : Calls Try.prog f args (w.drewN n) fun e w'' => e = .returned v ∧ ∃ m, w'' = w.drewN m :=
  h.mono (fun _ _ h => ⟨h.1, let ⟨m, hm⟩ := h.2; ⟨n + m, by rw [← hm, World.drewN_drewN]⟩⟩)

set_option maxRecDepth 100000 in
set_option maxHeartbeats 400000 in
theorem gives_bad (limit many : Nat) (hl : limit < 1 ∨ 2147483648 < limit) (w : World) :
    Calls Try.prog 6 #[.int .u32 limit, .int .u8 many] w (TruePost w) := by
  go_enter Try.func6, Try.ntmps6
  have HL := Lib.hid hl; clear hl
  go_wp2_with fail
  refine (new_bad limit HL.out _).mono ?_
  rintro e w' ⟨rfl, rfl⟩
  go_wp2_with fail
  refine (rnew_bad limit HL.out _).mono ?_
  rintro e w' ⟨rfl, rfl⟩
  go_wp2_with fail
  refine (wakes_any w).mono ?_
  rintro e w3 ⟨rfl, hb3⟩
  go_wp2_with fail
  go_ret
  exact ⟨rfl, hb3⟩

set_option maxRecDepth 100000 in
set_option maxHeartbeats 1000000 in
theorem gives_good (limit many : Nat) (h1 : 1 ≤ limit) (h2 : limit ≤ 2147483648) (hm : many ≤ 255) (w : World) :
    Calls Try.prog 6 #[.int .u32 limit, .int .u8 many] w (TruePost w) := by
  go_enter Try.func6, Try.ntmps6
  go_wp2_with fail
  refine (new_good limit h1 h2 w).mono ?_
  rintro e w' ⟨rfl, rfl⟩
  go_wp2_with fail
  refine (rnew_good limit h1 h2 _).mono ?_
  rintro e w' ⟨rfl, rfl⟩
  have hS0 : Spc ((w.alloc (.cells #[.int .u32 0, .int .u32 limit] 77)).alloc (.cells #[.int .u32 0, .int .u32 limit] 60)) w.heap.size 0 limit := alloc_old _ (alloc_new w _)
  have hR0 : RSpc ((w.alloc (.cells #[.int .u32 0, .int .u32 limit] 77)).alloc (.cells #[.int .u32 0, .int .u32 limit] 60)) (w.heap.size + 1) 0 limit := by have := alloc_new (w.alloc (.cells #[.int .u32 0, .int .u32 limit] 77)) (.cells #[.int .u32 0, .int .u32 limit] 60); rwa [World.size_alloc] at this
  have hB0 : Below w.heap.size w ((w.alloc (.cells #[.int .u32 0, .int .u32 limit] 77)).alloc (.cells #[.int .u32 0, .int .u32 limit] 60)) := ((Below.refl _ _).alloc (Nat.le_refl _) _).alloc (by simp) _
  simp only [World.size_alloc]
  obtain ⟨B, hBB⟩ : ∃ B, B = w.heap.size := ⟨_, rfl⟩
  have HBB := Lib.hid hBB
  rw [← hBB] at hS0 hR0 ⊢
  clear hBB
  generalize (w.alloc (.cells #[.int .u32 0, .int .u32 limit] 77)).alloc (.cells #[.int .u32 0, .int .u32 limit] 60) = w1 at hS0 hR0 hB0 ⊢
  go_wp2_with fail
  go_loopw [35] (fun i wr => ∃ k : Nat, k ≤ many % 101 ∧ i = .int .u8 k ∧ ∃ u, u ≤ limit ∧ Spc wr B u limit ∧ RSpc wr (B + 1) u limit ∧ Below w.heap.size w wr) (fun i _ => many - (intOf i).toNat)
  case atStart => exact ⟨0, by omega, rfl, 0, by omega, hS0, hR0, hB0⟩
  case round =>
    clear hS0 hR0 hB0
    obtain ⟨k, hk, rfl, u, hu, hS, hR, hB⟩ := hrel
    by_cases hlt : k < many % 101
    · by_cases hul : u < limit
      · go_wp2_with fail
        refine (next_any B u limit (by omega) hu h2 _ hS).mono ?_
        intro e w2 hp
        unfold NextPost at hp
        rw [if_pos hul] at hp
        obtain ⟨rfl, hS2, hg2⟩ := hp
        have hR2 : RSpc w2 (B + 1) u limit := (hg2.block _ (block_lt hR) (by simp)).trans hR
        have hB2 : Below w.heap.size w w2 := hB.grown hg2 hB.size (fun j e => by cases e; rw [HBB.out]; omega)
        clear hS hR hB hg2
        go_wp2_with fail
        refine (rnext_any (B + 1) u limit hu h2 _ hR2).mono ?_
        intro e w3 hp
        unfold RNextPost at hp
        rw [if_pos hul] at hp
        obtain ⟨rfl, hR3, hg3⟩ := hp
        have hS3 : Spc w3 B (u + 1) limit := (hg3.block _ (block_lt hS2) (by simp)).trans hS2
        have hB3 : Below w.heap.size w w3 := hB2.grown hg3 hB2.size (fun j e => by cases e; rw [HBB.out]; omega)
        clear hS2 hR2 hB2 hg3
        obtain ⟨c0, c1, f0, f1⟩ := two_cell hR3
        have a0 : (0 : Int) ≤ (u : Int) + 1 := by omega
        have e1 : IntKind.u32.wrap ((limit : Int) - ((u : Int) + 1)) = (limit : Int) - ((u : Int) + 1) := by rw [IntKind.wrap_u32]; omega
        go_wp2_with fail
        go_quiet ((first | (go_at_call 37; exact quiet_same (used_any B (u + 1) limit (by omega) _ hS3)) | (go_at_call 38; exact quiet_u (left_any B (u + 1) limit (by omega) (by omega) h2 _ hS3))))
        clear e1
        go_wp2_with fail
        refine ⟨⟨k + 1, by omega, by go_num, u + 1, by omega, hS3, hR3, below_drewN hB3 nq⟩, by simp [intOf]; omega⟩
      · obtain rfl : u = limit := by omega
        go_wp2_with fail
        refine (next_any B u u (by omega) hu h2 _ hS).mono ?_
        intro e w2 hp
        unfold NextPost at hp
        rw [if_neg hul] at hp
        obtain ⟨rfl, hS2, hg2⟩ := hp
        have hR2 : RSpc w2 (B + 1) u u := (hg2.block _ (block_lt hR) (by simp)).trans hR
        have hB2 : Below w.heap.size w w2 := hB.grown hg2 hB.size (fun j e => by cases e; rw [HBB.out]; omega)
        clear hS hR hB hg2
        go_wp2_with fail
        refine (rnext_any (B + 1) u u hu h2 _ hR2).mono ?_
        intro e w3 hp
        unfold RNextPost at hp
        rw [if_neg hul] at hp
        obtain ⟨rfl, hR3, hg3⟩ := hp
        have hS3 : Spc w3 B u u := (hg3.block _ (block_lt hS2) (by simp)).trans hS2
        have hB3 : Below w.heap.size w w3 := hB2.grown hg3 hB2.size (fun j e => by cases e; rw [HBB.out]; omega)
        clear hS2 hR2 hB2 hg3
        obtain ⟨c0, c1, f0, f1⟩ := two_cell hR3
        have e1 : IntKind.u32.wrap 0 = 0 := rfl
        have e2 : (u : Int) - u = 0 := by omega
        go_wp2_with fail
        go_quiet ((first | (go_at_call 37; exact quiet_same (used_any B u u (by omega) _ hS3)) | (go_at_call 38; exact quiet_u (left_any B u u (by omega) (by omega) h2 _ hS3))))
        clear e1
        go_wp2_with fail
        refine ⟨⟨k + 1, by omega, by go_num, u, by omega, hS3, hR3, below_drewN hB3 nq⟩, by simp [intOf]; omega⟩
    · go_wp2_with fail
      refine (wakes_any wr).mono ?_
      rintro e w3 ⟨rfl, hb3⟩
      go_wp2_with fail
      go_ret
      exact ⟨rfl, below_then hB (Nat.le_refl _) hb3⟩

theorem gives_walk (limit many : Nat) (hl : limit ≤ 4294967295) (hm : many ≤ 255) (w : World) : Calls Try.prog 6 #[.int .u32 limit, .int .u8 many] w (TruePost w) := by
  by_cases h : limit < 1 ∨ 2147483648 < limit
  · exact gives_bad limit many h w
  · exact gives_good limit many (by omega) (by omega) hm w
end Go.Proofs.Ytmghgjokleeigaa
