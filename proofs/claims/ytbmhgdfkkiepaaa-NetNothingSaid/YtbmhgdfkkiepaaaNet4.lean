/-
  Double.
-/
import Derived.Test.YtbmhgdfkkiepaaaNet3
namespace Go.Proofs.Ytbmhgdfkkiepaaa
open Go.RowKit

def DoublePost (w0 : World) (N : Nat) (g : Nat → List Gr) (k : Nat) (xs : List Nat) (W : World) (e : Ending) (W' : World) : Prop :=
  e = .returned (.int .i64 0) ∧ Keep5 W W' ∧ ∃ r' q, NetIs w0 N r' (upd g k (g k ++ [(q, xs)])) W'
/-- The cell of a row reads as it did. -/
theorem NetIs.cellRow {w0 : World} {N : Nat} {r : Nat → Value} {g : Nat → List Gr} {W W1 : World} (hb : Below W.heap.size W W1) {a : Addr} {u : Value} (h : W.cell? a = some u) : W1.cell? a = some u := cell_below hb a u h
set_option maxRecDepth 100000 in
theorem double_ok {w0 : World} {N : Nat} {r : Nat → Value} {g : Nat → List Gr} {W : World} (h : NetIs w0 N r g W) (k i : Nat) (hk : k < 2) (hl : (g k).length < 64) (hi : i < (g k).length) (hx : (g k)[i].2.length ≤ 600) :
    Calls Try.prog 32 #[.pointer (some ⟨N, 0, none⟩), .int .i64 k, .int .i64 i] W (DoublePost w0 N g k (g k)[i].2 W) := by
  obtain ⟨i0, hi0, hz0, hz1, hz2⟩ := info_parts Try.info68
  have c1 := h.cellAt hk
  have c2 := h.freeAt hk
  obtain ⟨b, o, c, e1, c3⟩ := h.open_ hk hi
  rw [e1] at c1
  obtain ⟨L, hL⟩ : ∃ L, L = (g k).length := ⟨_, rfl⟩
  have A1 : Hid (Calls Try.prog 48 #[.pointer (some ⟨N, 0, none⟩), .int .i64 k, .int .i64 i] W fun e W' => e = .returned (.tuple #[.pointer (some ⟨N, 1 + k, none⟩), .int .i64 0]) ∧ W = W') := Lib.hid (at_ok h k i hk hi (by omega))
  obtain ⟨xs, hxs⟩ : ∃ xs, xs = (g k)[i].2 := ⟨_, rfl⟩
  have hrd : Rd W (encG (g k)[i]) (byts xs) := by rw [hxs]; exact (h.gram k hk _ (List.getElem_mem hi)).rd
  obtain ⟨q0, L0, c0, ev⟩ : ∃ qv lv cv, encG (g k)[i] = .slice qv lv cv := ⟨_, _, _, rfl⟩
  rw [ev] at c3 hrd
  rw [← hL] at c1 e1
  rw [← hxs] at hx ⊢
  have C47 : Hid (∀ W1, Below W.heap.size W W1 → Calls Try.prog 47 #[.slice q0 L0 c0] W1 (ClonePost 5 (byts xs) W1)) := Lib.hid (clone_at _ xs W hrd (by omega))
  have HR : Hid (r k = .slice (some ⟨b, o, none⟩) L c) := Lib.hid e1
  have HO : Hid (OffRow W w0.heap.size 68 (.slice (some ⟨b, o, none⟩) L c) ((g k).map encG)) := Lib.hid (by rw [← HR.out]; exact h.row k hk)
  have hz := h.bel.size
  have HLm : Hid (((g k).map encG).length = L) := Lib.hid (by rw [List.length_map, hL])
  have hiL : i < L := by omega
  have hL64 : L < 64 := by omega
  have hi0' : (0 : Int) ≤ (i : Int) := by omega
  have hiL' : (i : Int) < (L : Int) := by omega
  clear hl hi e1 ev hL hxs hrd hx
  go_enter Try.func32, Try.ntmps32
  go_wp2_with (go_at_call 48; refine A1.out.mono ?_; rintro e w' ⟨rfl, rfl⟩)
  go_region_law
    (first
      | (refine step_append_off (W1.alloc (.cells #[.slice qq lv cv] 68)) rfl _ _ _ rfl w0.heap.size 68 i0 (.slice none 0 0) 24 Try.underlying90 hi0 hz0 hz1 hz2 rfl (.slice (some ⟨b, o, none⟩) L c) ((g k).map encG) rfl (by have := HO.out.same (w' := W1) (fun b e => hbv.block b (block_lt (HO.out.own e).2.choose_spec)); exact this.alloc _) ⟨W1.heap.size, 0, none⟩ 1 (.slice qq lv cv) rfl (new_cell0 _ _ _) rfl (by have := HLm.out; unfold maxLen; omega) (by have := HLm.out; omega) (by have := hbv.size; simp at this ⊢; omega) ?_
         intro v' W2 hrow hgrow hown'
         obtain ⟨qn, Ln, cn, rfl⟩ := hrow.form'
         obtain ⟨c3, c4⟩ := keepRow hbv h.drew hk HR.out hgrow)
      | (go_simp
         go_at_call 47
         refine (C47.out _ (by first | exact Below.refl _ _ | exact (Below.refl _ _).drew)).mono ?_
         rintro e W1 ⟨v, rfl, hv1, hbv⟩
         obtain ⟨qq, lv, cv, rfl⟩ := hv1.form'
         obtain ⟨c3, c4⟩ := Way.below (W := W.drew) ⟨c1, c2⟩ hbv
         obtain ⟨c5, c6⟩ := Way.below (W := W.drew) ⟨c1, c2⟩ (hbv.alloc hbv.size (.cells #[.slice qq lv cv] 68))))
  all_goals
    go_wp2
    go_ret
    have hp := h.drew.pushed (q := (qq, lv, cv)) (xs := xs) hk rfl (hbv.alloc hbv.size (.cells #[.slice qq lv cv] 68)) (hv1.alloc _) (by rw [HR.out]; exact hgrow) hrow (by rw [HR.out]; exact hown')
    exact ⟨rfl, hp.2, upd r k (.slice qn Ln cn), (qq, lv, cv), hp.1⟩
theorem double_full {w0 : World} {N : Nat} {r : Nat → Value} {g : Nat → List Gr} {W : World} (h : NetIs w0 N r g W) (k i : Nat) (hk : k < 2) (hl : 64 ≤ (g k).length) (hl2 : (g k).length ≤ 1048576) (hi : i < (g k).length) :
    Calls Try.prog 32 #[.pointer (some ⟨N, 0, none⟩), .int .i64 k, .int .i64 i] W fun e W' => e = .returned (.int .i64 7) ∧ W = W' := by
  have c1 := h.cellAt hk
  obtain ⟨q, L, c, e1⟩ := (h.row k hk).form'
  rw [e1] at c1
  have hL : L = (g k).length := by have := (h.row k hk).len'' e1; simpa using this
  have A1 : Hid (Calls Try.prog 48 #[.pointer (some ⟨N, 0, none⟩), .int .i64 k, .int .i64 i] W fun e W' => e = .returned (.tuple #[.pointer (some ⟨N, 1 + k, none⟩), .int .i64 0]) ∧ W = W') := Lib.hid (at_ok h k i hk hi (by omega))
  have hL64 : 64 ≤ L := by omega
  clear hl hi e1 hL hl2 h
  go_enter Try.func32, Try.ntmps32
  go_wp2_with (go_at_call 48; refine A1.out.mono ?_; rintro e w' ⟨rfl, rfl⟩)
  go_ret
  exact ⟨rfl, rfl⟩
theorem double_err (p : Value) (k i : Int) (q : Value) (hq : ∃ a, q = .pointer a) (c : Int) (hc : c = 1 ∨ c = 2 ∨ c = 6) (W : World) (A : Calls Try.prog 48 #[p, .int .i64 k, .int .i64 i] W fun e W' => e = .returned (.tuple #[q, .int .i64 c]) ∧ W = W') :
    Calls Try.prog 32 #[p, .int .i64 k, .int .i64 i] W fun e W' => e = .returned (.int .i64 c) ∧ W = W' := by
  have A1 := Lib.hid A
  clear A
  obtain ⟨a, rfl⟩ := hq
  rcases hc with rfl | rfl | rfl
  all_goals
    go_enter Try.func32, Try.ntmps32
    go_wp2_with (go_at_call 48; refine A1.out.mono ?_; rintro e w' ⟨rfl, rfl⟩)
    go_ret
    exact ⟨rfl, rfl⟩
end Go.Proofs.Ytbmhgdfkkiepaaa
