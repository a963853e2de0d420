/-
  Send's errors; Deliver.
-/
import Derived.Test.YtbmhgdfkkiepaaaNet2
namespace Go.Proofs.Ytbmhgdfkkiepaaa
open Go.RowKit

theorem OffRow.keep5 {W W' : World} {base : Nat} {v : Value} {xs : List Value} (h : OffRow W base 5 v xs) (k : Keep5 W W') : OffRow W' base 5 v xs := by
  refine h.same fun b e => ?_
  obtain ⟨_, cur, hc⟩ := h.own e
  rw [hc]; exact k.at5 hc
theorem send_err (p : Value) (k c : Int) (q : Option Addr) (l cp : Nat) (hc : c = 1 ∨ c = 2) (W : World) (A : Calls Try.prog 45 #[p, .int .i64 k] W fun e W' => e = .returned (.tuple #[.pointer none, .int .i64 c]) ∧ W = W') :
    Calls Try.prog 29 #[p, .int .i64 k, .slice q l cp] W fun e W' => e = .returned (.tuple #[.bool false, .int .i64 c]) ∧ W = W' := by
  have A1 := Lib.hid A
  clear A
  rcases hc with rfl | rfl
  all_goals
    go_enter Try.func29, Try.ntmps29
    go_wp2_with (go_at_call 45; refine A1.out.mono ?_; rintro e w' ⟨rfl, rfl⟩)
    go_ret2
    exact ⟨rfl, rfl⟩
theorem send_long (N k : Nat) (q : Option Addr) (l cp : Nat) (hl : 600 < l) (W : World) (A : Calls Try.prog 45 #[.pointer (some ⟨N, 0, none⟩), .int .i64 k] W fun e W' => e = .returned (.tuple #[.pointer (some ⟨N, 1 + k, none⟩), .int .i64 0]) ∧ W = W') :
    Calls Try.prog 29 #[.pointer (some ⟨N, 0, none⟩), .int .i64 k, .slice q l cp] W fun e W' => e = .returned (.tuple #[.bool false, .int .i64 3]) ∧ W = W' := by
  have A1 := Lib.hid A
  clear A
  go_enter Try.func29, Try.ntmps29
  go_wp2_with (go_at_call 45; refine A1.out.mono ?_; rintro e w' ⟨rfl, rfl⟩)
  go_ret2
  exact ⟨rfl, rfl⟩

/-! ### Deliver -/
theorem NetIs.open_ {w0 : World} {N : Nat} {r : Nat → Value} {g : Nat → List Gr} {W : World} (h : NetIs w0 N r g W) {k i : Nat} (hk : k < 2) (hi : i < (g k).length) :
    ∃ b o c, r k = .slice (some ⟨b, o, none⟩) (g k).length c ∧ W.cell? ⟨b, o + i, none⟩ = some (encG (g k)[i]) := by
  obtain ⟨b, o, c, e1, e2⟩ := (h.row k hk).at_ (k := i) (by simpa using hi)
  refine ⟨b, o, c, by simpa using e1, by simpa using e2⟩
def DeliverPost (w0 : World) (N : Nat) (g : Nat → List Gr) (k : Nat) (p : Gr) (i : Nat) (W : World) (e : Ending) (W' : World) : Prop :=
  e = .returned (.tuple #[encG p, .int .i64 0]) ∧ Keep5 W W' ∧ ∃ r', NetIs w0 N r' (upd g k ((g k).eraseIdx i)) W'
set_option maxRecDepth 100000 in
theorem deliver_ok {w0 : World} {N : Nat} {r : Nat → Value} {g : Nat → List Gr} {W : World} (h : NetIs w0 N r g W) (k i : Nat) (hk : k < 2) (hl : (g k).length ≤ 64) (hi : i < (g k).length) :
    Calls Try.prog 33 #[.pointer (some ⟨N, 0, none⟩), .int .i64 k, .int .i64 i] W (DeliverPost w0 N g k (g k)[i] i W) := by
  have c1 := h.cellAt hk
  have c2 := h.freeAt hk
  obtain ⟨b, o, c, e1, c3⟩ := h.open_ hk hi
  rw [e1] at c1
  obtain ⟨L, hL⟩ : ∃ L, L = (g k).length := ⟨_, rfl⟩
  have A1 : Hid (Calls Try.prog 48 #[.pointer (some ⟨N, 0, none⟩), .int .i64 k, .int .i64 i] W fun e W' => e = .returned (.tuple #[.pointer (some ⟨N, 1 + k, none⟩), .int .i64 0]) ∧ W = W') := Lib.hid (at_ok h k i hk hi (by omega))
  have D1 : Hid (∀ W', W' = W → Calls Try.prog 46 #[.slice (some ⟨b, o, none⟩) L c, .int .i64 i, .int .i64 ((i : Int) + 1)] W' (DeletePost w0.heap.size (r k) ((((g k).map Prod.fst).eraseIdx i).map encS) W)) := Lib.hid (by
    rintro W' rfl
    rw [hL, ← e1]
    exact delete_at h k i hk hi)
  obtain ⟨qv, lv, cv, ev⟩ : ∃ qv lv cv, encG (g k)[i] = .slice qv lv cv := ⟨_, _, _, rfl⟩
  have Hp : Hid (DeliverPost w0 N g k (g k)[i] i W = fun e W' => e = .returned (.tuple #[.slice qv lv cv, .int .i64 0]) ∧ Keep5 W W' ∧ ∃ r', NetIs w0 N r' (upd g k ((g k).eraseIdx i)) W') := Lib.hid (by unfold DeliverPost; rw [ev])
  rw [Hp.out]
  rw [ev] at c3
  rw [← hL] at c1
  have hiL : i < L := by omega
  have hL64 : L ≤ 64 := by omega
  clear hl hi e1 ev hL Hp
  go_enter Try.func33, Try.ntmps33
  go_wp2_with (first
      | (go_at_call 48; refine A1.out.mono ?_; rintro e w' ⟨rfl, rfl⟩)
      | (go_at_call 46; refine (D1.out _ rfl).mono ?_; rintro e W1 hD
         obtain ⟨v', b', rfl, hb1, hb2, hrow1, hg1⟩ := id hD
         obtain ⟨q', L', c', rfl⟩ := hrow1.form'
         obtain ⟨a1, a2⟩ := h.wayGrown hk hb1 hg1))
  go_ret2
  obtain ⟨hn, k5⟩ := h.dropped hk hD
  exact ⟨rfl, k5, _, hn⟩
theorem deliver_err (p : Value) (k i : Int) (q : Value) (hq : ∃ a, q = .pointer a) (c : Int) (hc : c = 1 ∨ c = 2 ∨ c = 6) (W : World) (A : Calls Try.prog 48 #[p, .int .i64 k, .int .i64 i] W fun e W' => e = .returned (.tuple #[q, .int .i64 c]) ∧ W = W') :
    Calls Try.prog 33 #[p, .int .i64 k, .int .i64 i] W fun e W' => e = .returned (.tuple #[.slice none 0 0, .int .i64 c]) ∧ W = W' := by
  have A1 := Lib.hid A
  clear A
  obtain ⟨a, rfl⟩ := hq
  rcases hc with rfl | rfl | rfl
  all_goals
    go_enter Try.func33, Try.ntmps33
    go_wp2_with (go_at_call 48; refine A1.out.mono ?_; rintro e w' ⟨rfl, rfl⟩)
    go_ret2
    exact ⟨rfl, rfl⟩
end Go.Proofs.Ytbmhgdfkkiepaaa
