/-
  CreditBounded: each act of the ends, a way at a time. Up to 200 acts.
-/
import Derived.Test.YtbmhgdfkkiepaaaBnd1
import Derived.Deep.RegionHeld3
import Derived.Deep.RegionWith
import Derived.Deep.DeepMust
import Derived.Deep.CutBlock
import Derived.Deep.DeepCutAuto
namespace Go.Proofs.Ytbmhgdfkkiepaaa
open Go.RowKit
theorem OffRow.form' {w : World} {base : Nat} {e : TypeId} {v : Value} {xs : List Value} (h : OffRow w base e v xs) : ∃ q L c, v = .slice q L c := by obtain ⟨q, c, rfl⟩ := h.form; exact ⟨_, _, _, rfl⟩
theorem Ends.afterW {w0 : World} {X B C most : Nat} {x : Two} {sp ud : Nat} {vw vg : Value} {W W' : World} (h : Ends w0 X B C most x sp ud vw vg W) (hg : W.grownBy W' vw.ownBlock) :
    W'.heap[X]? = some (.cells #[.pointer (some ⟨B, 0, none⟩), .pointer (some ⟨C, 0, none⟩), vw, vg, .int .i64 sp, .int .i64 ud] 55 (0, 0)) :=
  (hg.block X (block_lt h.xs) (fun e => (h.neW e.symm).2.2 rfl)).trans h.xs
theorem Ends.afterG {w0 : World} {X B C most : Nat} {x : Two} {sp ud : Nat} {vw vg : Value} {W W' : World} (h : Ends w0 X B C most x sp ud vw vg W) (hg : W.grownBy W' vg.ownBlock) :
    W'.heap[X]? = some (.cells #[.pointer (some ⟨B, 0, none⟩), .pointer (some ⟨C, 0, none⟩), vw, vg, .int .i64 sp, .int .i64 ud] 55 (0, 0)) :=
  (hg.block X (block_lt h.xs) (fun e => (h.neG e.symm).2.2 rfl)).trans h.xs
theorem size_setCell (w : World) (a : Addr) (v : Value) : (w.setCell a v).heap.size = w.heap.size := by simp [World.setCell]
theorem one_cell {w : World} {b : Nat} {v : Value} {t : TypeId} (h : w.heap[b]? = some (.cells #[v] t (0, 0))) : w.cell? ⟨b, 0, none⟩ = some v := by simp [World.cell?, h]

theorem Try.info3 : (Try.prog.info? 3).map (fun i => (i.zero, i.size, i.bytes)) = some (some (.int .i64 0), 1, 8) := by kernel_rfl

set_option maxRecDepth 100000 in
set_option maxHeartbeats 1000000 in
theorem does_busy (w0 : World) (X B C most k what n : Nat) (x : Two) (vw vg : Value) (W : World) (hm : 1 ≤ most) (hm2 : most ≤ 256) (hk : k ≤ 200) (hw : what = 0 ∨ what = 1 ∨ what = 2) (hn : n ≤ 255) (good : Good most k x) (h : Ends w0 X B C most x x.s x.us vw vg W) (hb : x.g - x.s < n) :
    Calls Try.prog 27 #[.pointer (some ⟨X, 0, none⟩), .agg #[.int .u8 what, .int .u8 n]] W (Done w0 X B C most x) := by
  obtain ⟨b1, b2, b3, b4, b5⟩ := good.bounds
  have b6 := good.sg
  have hs := good.sl
  clear good
  have c0 := fun o => (six_cell (h.alloc o).xs).1
  have ho := Lib.hid (fun o => h.alloc o)
  clear h
  rcases hw with rfl | rfl | rfl
  all_goals
    go_enter Try.func27, Try.ntmps27
    go_wp2_with fail
    refine (left_any B most x.g x.s (by omega) (by omega) (by omega) _ (ho.out _).fs).mono ?_
    rintro e W1 hq
    obtain ⟨rfl, h1⟩ := (ho.out _).quiet hq
    clear hq c0 ho
    obtain ⟨c0, c1, c2, c3, c4, c5, _⟩ := six_cell h1.xs
    have H1 := Lib.hid h1; clear h1
    go_wp2_with fail
    refine (spend_busy B most x.g x.s (by omega) (by omega) (by omega) n (by omega) (by omega) (by omega) _ H1.out.fs).mono ?_
    rintro e W2 hq
    obtain ⟨rfl, h2⟩ := H1.out.quiet hq
    clear hq c0 c1 c2 c3 c4 c5 H1
    obtain ⟨c0, c1, c2, c3, c4, c5, _⟩ := six_cell h2.xs
    have H2 := Lib.hid h2; clear h2
    go_wp2_with fail
    refine (left_any B most x.g x.s (by omega) (by omega) (by omega) _ H2.out.fs).mono ?_
    rintro e W3 hq
    obtain ⟨rfl, h3⟩ := H2.out.quiet hq
    clear hq c0 c1 c2 c3 c4 c5 H2
    go_wp2_with fail
    go_ret
    exact ⟨rfl, _, _, h3⟩

set_option maxRecDepth 100000 in
set_option maxHeartbeats 2000000 in
theorem does_spend (w0 : World) (X B C most k what n : Nat) (x : Two) (vw vg : Value) (W : World) (hm : 1 ≤ most) (hm2 : most ≤ 256) (hk : k ≤ 200) (hw : what = 0 ∨ what = 1 ∨ what = 2) (hn : n ≤ 255) (good : Good most k x) (h : Ends w0 X B C most x x.s x.us vw vg W) (hb : x.s + n ≤ x.g) :
    Calls Try.prog 27 #[.pointer (some ⟨X, 0, none⟩), .agg #[.int .u8 what, .int .u8 n]] W (Done w0 X B C most { x with s := x.s + n, way := x.way ++ [n] }) := by
  obtain ⟨i0, hi, hz0, hz1, hz2⟩ := info_parts Try.info3
  obtain ⟨b1, b2, b3, b4, b5⟩ := good.bounds
  have b6 := good.sg
  have hs := good.sl
  have hwl : (ints x.way).length ≤ 200 := by rw [List.length_map]; have := good.wl; omega
  clear good
  have c0 := fun o => (six_cell (h.alloc o).xs).1
  have ho := Lib.hid (fun o => h.alloc o)
  clear h
  rcases hw with rfl | rfl | rfl
  all_goals
    go_enter Try.func27, Try.ntmps27
    go_wp2_with fail
    refine (left_any B most x.g x.s (by omega) (by omega) (by omega) _ (ho.out _).fs).mono ?_
    rintro e W1 hq
    obtain ⟨rfl, h1⟩ := (ho.out _).quiet hq
    clear hq c0 ho
    obtain ⟨c0, c1, c2, c3, c4, c5, _⟩ := six_cell h1.xs
    have H1 := Lib.hid h1; clear h1
    go_wp2_with fail
    refine (spend_ok B most x.g x.s (by omega) (by omega) (by omega) n (by omega) _ H1.out.fs).mono ?_
    rintro e W2 ⟨rfl, hS, hG⟩
    have h2 := H1.out.spU hG hS
    clear c0 c1 c2 c3 c4 c5 H1 hS hG
    obtain ⟨c0, c1, c2, c3, c4, c5, f2, f3, f4, f5⟩ := six_cell h2.xs
    have H2 : Ends w0 X B C most { x with g := x.g, s := x.s + n } (x.s + n) x.us vw vg (W2.setCell ⟨X, 4, none⟩ (.int .i64 ((x.s : Int) + n))) := by have := h2.spent (x.s + n); push_cast at this; exact this
    obtain ⟨q, L, cp, e1⟩ := h2.way.form'
    subst e1
    have hown := H2.way.alloc (.cells #[.int .i64 n] 3)
    have hz := H2.bel.size
    simp only at hown hz
    have hnew : ((W2.setCell ⟨X, 4, none⟩ (.int .i64 ((x.s : Int) + n))).alloc (.cells #[.int .i64 n] 3)).cell? ⟨W2.heap.size, 0, none⟩ = some (.int .i64 n) := by
      have := one_cell (alloc_new (W2.setCell ⟨X, 4, none⟩ (.int .i64 ((x.s : Int) + n))) (.cells #[.int .i64 n] 3))
      rwa [size_setCell] at this
    have Hnew := Lib.hid hnew
    have Hz := Lib.hid hz
    have Hown := Lib.hid hown
    clear hnew hz hown
    have H3 := Lib.hid H2
    have hd : decide ((n : Int) ≤ (x.g : Int) - x.s) = true := by simp; omega
    clear H2 h2
    go_wp2_with (at_builtin; go_must (refine wpList_append_off _ rfl (.tmp 50) (.tmp 52) 53 rfl w0.heap.size 3 i0 (.int .i64 0) 8 Try.underlying53 hi hz0 hz1 hz2 rfl (.slice q L cp) (ints x.way) rfl Hown.out ⟨W2.heap.size, 0, none⟩ 1 (.int .i64 n) rfl Hnew.out rfl (by unfold maxLen; omega) (by omega) (by have := Hz.out; simp only [World.size_alloc]; omega) ?_; intro v' W4 r1 r2 r3; obtain ⟨q', L', c', e'⟩ := r1.form'; subst e'; have hX4 := (H3.out.alloc (.cells #[.int .i64 n] 3)).afterW r2; have d2 := (six_cell hX4).2.2.1; have g2 := (six_cell hX4).2.2.2.2.2.2.1))
    go_ret
    exact ⟨rfl, _, _, (H3.out.alloc (.cells #[.int .i64 n] 3)).push r1 r2 r3⟩
end Go.Proofs.Ytbmhgdfkkiepaaa
