/-
  Flip: the walk.
-/
import Derived.Test.YtbmhgdfkkiepaaaNet5
import Derived.IntWalk
namespace Go.Proofs.Ytbmhgdfkkiepaaa
open Go.RowKit

theorem xor_u8 (a : Nat) (ha : a ≤ 255) (R : Nat) (hR : R < 8) : bits .xor .u8 (a : Int) (2 ^ R % 256 : Int) = ((a ^^^ 2 ^ R : Nat) : Int) := by
  have h0 : ∀ x : Fin 256, ∀ r : Fin 8, bits .xor .u8 ((x : Nat) : Int) (2 ^ (r : Nat) % 256 : Int) = (((x : Nat) ^^^ 2 ^ (r : Nat) : Nat) : Int) := by decide +kernel
  exact h0 ⟨a, by omega⟩ ⟨R, hR⟩
theorem xor_lt (a : Nat) (ha : a ≤ 255) (R : Nat) (hR : R < 8) : a ^^^ 2 ^ R ≤ 255 := by
  have : a ^^^ 2 ^ R < 2 ^ 8 := Nat.xor_lt_two_pow (by omega) (Nat.pow_lt_pow_right (by omega) hR)
  omega

set_option maxRecDepth 100000 in
theorem flip_ok {w0 : World} {N : Nat} {r : Nat → Value} {g : Nat → List Gr} {W : World} (h : NetIs w0 N r g W) (k i bit : Nat) (hk : k < 2) (hl : (g k).length ≤ 64) (p : Gr) (hi0 : (g k)[i]? = some p) (hx : p.2.length ≤ 600)
    (hb : bit < 1048576) (x : Nat) (hD0' : p.2[bit / 8]? = some x) (hy : x ≤ 255) :
    Calls Try.prog 30 #[.pointer (some ⟨N, 0, none⟩), .int .i64 k, .int .i64 i, .int .i64 bit] W fun e W' => e = .returned (.int .i64 0) ∧ KeepF W W' ∧ NetIs w0 N r (upd g k (setGr (g k) i (bit / 8) (x ^^^ 2 ^ (bit % 8)))) W' := by
  obtain ⟨hi, hpi⟩ := List.getElem?_eq_some_iff.1 hi0
  subst hpi
  obtain ⟨hD, hxx⟩ := List.getElem?_eq_some_iff.1 hD0'
  have c1 := h.cellAt hk
  have c2 := h.freeAt hk
  obtain ⟨b, o, c, e1, c3⟩ := h.open_ hk hi
  rw [e1] at c1
  obtain ⟨L, hL⟩ : ∃ L, L = (g k).length := ⟨_, rfl⟩
  have A1 : Hid (Calls Try.prog 48 #[.pointer (some ⟨N, 0, none⟩), .int .i64 k, .int .i64 i] W fun e W' => e = .returned (.tuple #[.pointer (some ⟨N, 1 + k, none⟩), .int .i64 0]) ∧ W = W') := Lib.hid (at_ok h k i hk hi (by omega))
  obtain ⟨D, hDD⟩ : ∃ D, D = bit / 8 := ⟨_, rfl⟩
  obtain ⟨R, hRR⟩ : ∃ R, R = bit % 8 := ⟨_, rfl⟩
  have hgr := h.gram k hk _ (List.getElem_mem hi)
  obtain ⟨b2, o2, m, e2, c4⟩ := hgr.at_ (k := bit / 8) (by simpa using hD)
  rw [List.length_map] at e2
  have H : Hid (∀ y : Nat, KeepF W (W.drew.setCell ⟨b2, o2 + bit / 8, none⟩ (.int .u8 y)) ∧ NetIs w0 N r (upd g k (setGr (g k) i (bit / 8) y)) (W.drew.setCell ⟨b2, o2 + bit / 8, none⟩ (.int .u8 y))) := Lib.hid fun y => ⟨keepF_set _ (hgr.own (k := b2) (by rw [e2]; rfl)).2.choose_spec, h.drew.flip hk hi e2 hD y⟩
  have f4 : W.frozen? ⟨b2, o2 + bit / 8, none⟩ = false := by
    obtain ⟨_, cur, hc⟩ := hgr.own (k := b2) (by rw [e2]; rfl)
    simp [World.frozen?, hc]
  obtain ⟨M, hM⟩ : ∃ M, M = (g k)[i].2.length := ⟨_, rfl⟩
  have c5 : W.cell? ⟨b2, o2 + D, none⟩ = some (.int .u8 x) := by rw [hDD, c4]; simp [hxx]
  rw [e2, ← hM] at c3
  rw [← hM] at hx
  have hDm : D < M := by omega
  rw [← hDD] at f4 H ⊢
  clear hD0' hi0 hxx c4 hD
  rw [← hRR]
  rw [← hL] at c1
  have hiL : i < L := by omega
  have hL64 : L ≤ 64 := by omega
  have hi0' : (0 : Int) ≤ (i : Int) := by omega
  have hiL' : (i : Int) < (L : Int) := by omega
  have hR8 : R < 8 := by omega
  have hD0 : (0 : Int) ≤ (D : Int) := by omega
  have hDM : (D : Int) < (M : Int) := by omega
  have hb0 : ¬ (bit : Int) < 0 := by omega
  have q1 : (bit : Int).tdiv 8 = (D : Int) := by rw [hDD]; rfl
  have q2 : (bit : Int) / 8 = (D : Int) := by omega
  have q3 : (bit : Int).tmod 8 = (R : Int) := by rw [hRR]; rfl
  have q4 : (bit : Int) % 8 = (R : Int) := by omega
  have q5 : IntKind.i64.wrap ((bit : Int) / 8) = (D : Int) := by rw [q2]; exact IntWalk.i64_in _ (by omega)
  have q6 : IntKind.i64.wrap ((bit : Int).tdiv 8) = (D : Int) := by rw [q1]; exact IntWalk.i64_in _ (by omega)
  have q7 : IntKind.i64.wrap (D : Int) = (D : Int) := IntWalk.i64_in _ (by omega)
  have Hz := Lib.hid hy
  clear hl hi e1 e2 hL hgr hM hDD hRR hx hy h
  go_enter Try.func30, Try.ntmps30
  go_wp2_with (go_at_call 48; refine A1.out.mono ?_; rintro e w' ⟨rfl, rfl⟩)
  go_region
  all_goals
    go_wp2
    go_ret
    refine ⟨rfl, ?_⟩
    rw [xor_u8 x Hz.out R hR8]
    exact H.out _
theorem flip_high {w0 : World} {N : Nat} {r : Nat → Value} {g : Nat → List Gr} {W : World} (h : NetIs w0 N r g W) (k i bit : Nat) (hk : k < 2) (hl : (g k).length ≤ 64) (p : Gr) (hi0 : (g k)[i]? = some p) (hx : p.2.length ≤ 600)
    (hb : bit < 1048576) (hD : p.2.length ≤ bit / 8) :
    Calls Try.prog 30 #[.pointer (some ⟨N, 0, none⟩), .int .i64 k, .int .i64 i, .int .i64 bit] W fun e W' => e = .returned (.int .i64 1) ∧ W = W' := by
  obtain ⟨hi, hpi⟩ := List.getElem?_eq_some_iff.1 hi0
  subst hpi
  have c1 := h.cellAt hk
  obtain ⟨b, o, c, e1, c3⟩ := h.open_ hk hi
  rw [e1] at c1
  obtain ⟨L, hL⟩ : ∃ L, L = (g k).length := ⟨_, rfl⟩
  have A1 : Hid (Calls Try.prog 48 #[.pointer (some ⟨N, 0, none⟩), .int .i64 k, .int .i64 i] W fun e W' => e = .returned (.tuple #[.pointer (some ⟨N, 1 + k, none⟩), .int .i64 0]) ∧ W = W') := Lib.hid (at_ok h k i hk hi (by omega))
  obtain ⟨D, hDD⟩ : ∃ D, D = bit / 8 := ⟨_, rfl⟩
  obtain ⟨q0, M, m, e2⟩ := (h.gram k hk _ (List.getElem_mem hi)).form'
  have hM : M = (g k)[i].2.length := by have := (h.gram k hk _ (List.getElem_mem hi)).len'' e2; simpa using this
  rw [e2] at c3
  rw [← hL] at c1
  have hDM : M ≤ D := by omega
  have hM6 : M ≤ 600 := by omega
  have hiL : i < L := by omega
  have hL64 : L ≤ 64 := by omega
  have hi0' : (0 : Int) ≤ (i : Int) := by omega
  have hiL' : (i : Int) < (L : Int) := by omega
  have hDM' : ¬ (D : Int) < (M : Int) := by omega
  have hb0 : ¬ (bit : Int) < 0 := by omega
  have q1 : (bit : Int).tdiv 8 = (D : Int) := by rw [hDD]; rfl
  have q2 : (bit : Int) / 8 = (D : Int) := by omega
  have q5 : IntKind.i64.wrap ((bit : Int) / 8) = (D : Int) := by rw [q2]; exact IntWalk.i64_in _ (by omega)
  have q6 : IntKind.i64.wrap ((bit : Int).tdiv 8) = (D : Int) := by rw [q1]; exact IntWalk.i64_in _ (by omega)
  have q7 : IntKind.i64.wrap (D : Int) = (D : Int) := IntWalk.i64_in _ (by omega)
  clear hl hi0 hi hD e1 e2 hL hM hDD hx h
  go_enter Try.func30, Try.ntmps30
  go_wp2_with (go_at_call 48; refine A1.out.mono ?_; rintro e w' ⟨rfl, rfl⟩)
  go_ret
  exact ⟨rfl, rfl⟩
theorem flip_low {w0 : World} {N : Nat} {r : Nat → Value} {g : Nat → List Gr} {W : World} (h : NetIs w0 N r g W) (k i : Nat) (bit : Int) (hk : k < 2) (hl : (g k).length ≤ 64) (hi : i < (g k).length) (hb : bit < 0) :
    Calls Try.prog 30 #[.pointer (some ⟨N, 0, none⟩), .int .i64 k, .int .i64 i, .int .i64 bit] W fun e W' => e = .returned (.int .i64 1) ∧ W = W' := by
  have A1 : Hid (Calls Try.prog 48 #[.pointer (some ⟨N, 0, none⟩), .int .i64 k, .int .i64 i] W fun e W' => e = .returned (.tuple #[.pointer (some ⟨N, 1 + k, none⟩), .int .i64 0]) ∧ W = W') := Lib.hid (at_ok h k i hk hi (by omega))
  clear hl hi h
  go_enter Try.func30, Try.ntmps30
  go_wp2_with (go_at_call 48; refine A1.out.mono ?_; rintro e w' ⟨rfl, rfl⟩)
  go_ret
  exact ⟨rfl, rfl⟩
theorem flip_err (p : Value) (k i bit : Int) (q : Value) (hq : ∃ a, q = .pointer a) (c : Int) (hc : c = 1 ∨ c = 2 ∨ c = 6) (W : World) (A : Calls Try.prog 48 #[p, .int .i64 k, .int .i64 i] W fun e W' => e = .returned (.tuple #[q, .int .i64 c]) ∧ W = W') :
    Calls Try.prog 30 #[p, .int .i64 k, .int .i64 i, .int .i64 bit] W fun e W' => e = .returned (.int .i64 c) ∧ W = W' := by
  have A1 := Lib.hid A
  clear A
  obtain ⟨a, rfl⟩ := hq
  rcases hc with rfl | rfl | rfl
  all_goals
    go_enter Try.func30, Try.ntmps30
    go_wp2_with (go_at_call 48; refine A1.out.mono ?_; rintro e w' ⟨rfl, rfl⟩)
    go_ret
    exact ⟨rfl, rfl⟩

/-! ### New -/
def noG : Nat → List Gr := fun _ => []
def nilR : Nat → Value := fun _ => .slice none 0 0
theorem new_any (w : World) : Calls Try.prog 28 #[] w fun e W => ∃ N, e = .returned (.pointer (some ⟨N, 0, none⟩)) ∧ NetIs w N nilR noG W ∧ Keep5 w W := by
  go_enter Try.func28, Try.ntmps28
  go_wp2
  go_ret
  refine ⟨_, rfl, ⟨alloc_new w _, fun k _ => OffRow.nil_ _ _ _, fun k _ p hp => by simp [noG] at hp, by simp [noG], fun k e => by simp [nilR, Value.ownBlock] at e, Nat.le_refl _, (Below.refl _ _).alloc (Nat.le_refl _) _⟩, keep5_below ((Below.refl _ _).alloc (Nat.le_refl _) _)⟩
end Go.Proofs.Ytbmhgdfkkiepaaa
