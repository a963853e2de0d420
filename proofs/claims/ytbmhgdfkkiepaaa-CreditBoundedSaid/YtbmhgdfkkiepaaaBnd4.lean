/-
  CreditBounded: what has come is used; grants are given and taken; no act. Up to 200 acts.
-/
import Derived.Test.YtbmhgdfkkiepaaaBnd3
namespace Go.Proofs.Ytbmhgdfkkiepaaa
open Go.RowKit

set_option maxRecDepth 100000 in
set_option maxHeartbeats 2000000 in
theorem does_use (w0 : World) (X B C most k what n m : Nat) (x : Two) (vw vg : Value) (W : World) (hm : 1 ≤ most) (hm2 : most ≤ 256) (hk : k ≤ 200) (hw : what = 5 ∨ what = 6) (hn : n ≤ 255) (good : Good most k x) (h : Ends w0 X B C most x x.s x.us vw vg W) (hmn : m = min n (x.tk - x.us)) :
    Calls Try.prog 27 #[.pointer (some ⟨X, 0, none⟩), .agg #[.int .u8 what, .int .u8 n]] W (Done w0 X B C most { x with us := x.us + m }) := by
  have hb := good.bounds
  have hb2 := good.sl
  have hb3 := good.gu
  have hb4 := good.ut
  have hb5 := good.st
  clear good
  have c1 := fun o => (six_cell (h.alloc o).xs).2.1
  have ho := Lib.hid (fun o => h.alloc o)
  clear h
  rcases hw with rfl | rfl
  all_goals
    go_enter Try.func27, Try.ntmps27
    go_wp2_with fail
    refine (held_any C most x.g2 x.tk x.us (by omega) (by omega) (by omega) _ (ho.out _).fg).mono ?_
    rintro e W1 hq
    obtain ⟨rfl, h1⟩ := (ho.out _).quiet hq
    clear hq c1 ho
    obtain ⟨c0, c1, c2, c3, c4, c5, _⟩ := six_cell h1.xs
    have H1 := Lib.hid h1; clear h1
    go_upto_region 24 with fail
    have e0 : (if (x.tk : Int) - (x.us : Int) < (n : Int) then (x.tk : Int) - (x.us : Int) else (n : Int)) = (m : Int) := by split <;> omega
    simp only [e0]
    obtain ⟨hd, hhd⟩ : ∃ hd, hd = x.tk - (x.us + m) := ⟨_, rfl⟩
    have hd1 : hd ≤ 256 := by omega
    have hmt : x.us + m ≤ x.tk := by omega
    have hm255 : m ≤ 255 := by omega
    have A1 : Hid (∀ W, Ends w0 X B C most x x.s x.us vw vg W → Calls Try.prog 21 #[.pointer (some ⟨C, 0, none⟩), .int .i64 m] W (fun e W' => e = .returned (.int .i64 0) ∧ Ends w0 X B C most { x with us := x.us + m } x.s x.us vw vg W')) := Lib.hid (by
      intro W E
      refine (use_ok C most x.g2 x.tk x.us (by omega) (by omega) (by omega) m (by omega) W E.fg).mono ?_
      rintro e W' ⟨he, hg, hgr⟩
      exact ⟨he, E.gvU hgr hg⟩)
    have A2 : Hid (∀ W, Ends w0 X B C most { x with us := x.us + m } x.s x.us vw vg W → Calls Try.prog 26 #[.pointer (some ⟨C, 0, none⟩)] W (fun e W' => e = .returned (.int .i64 hd) ∧ Ends w0 X B C most { x with us := x.us + m } x.s x.us vw vg W')) := Lib.hid (by
      intro W E
      refine (held_any C most x.g2 x.tk (x.us + m) (by omega) (by omega) (by omega) W E.fg).mono ?_
      rintro e W' hq
      obtain ⟨he, hE⟩ := E.quiet hq
      exact ⟨he.trans (ret_int (by omega)), hE⟩)
    have A3 : Hid (∀ W, Ends w0 X B C most { x with us := x.us + m } x.s x.us vw vg W → Calls Try.prog 21 #[.pointer (some ⟨C, 0, none⟩), .int .i64 ((hd : Int) + 1)] W (fun e W' => e = .returned (.int .i64 1) ∧ Ends w0 X B C most { x with us := x.us + m } x.s x.us vw vg W')) := Lib.hid (by
      intro W E
      refine (use_more C most x.g2 x.tk (x.us + m) (by omega) (by omega) (by omega) ((hd : Int) + 1) (by omega) (by omega) (by omega) W E.fg).mono ?_
      rintro e W' hq
      exact E.quiet hq)
    have z1 : IntKind.i64.wrap ((hd : Int) + 1) = (hd : Int) + 1 := IntWalk.i64_in _ (by omega)
    have Hm := Lib.hid hmn
    clear hmn hhd hmt e0
    go_region_held3 (fun w' => w'.cell? ⟨X, 1, none⟩ = some (.pointer (some ⟨C, 0, none⟩))) (first | exact d3 | exact d2 | exact d1 | go_keep) (first
      | (go_at_call 21; refine (A3.out _ j2).mono ?_; rintro e v3 ⟨rfl, j3⟩; have d3 := (six_cell j3.xs).2.1)
      | (go_at_call 26; refine (A2.out _ j1).mono ?_; rintro e v2 ⟨rfl, j2⟩; have d2 := (six_cell j2.xs).2.1)
      | (go_at_call 21; refine (A1.out _ H1.out.drew).mono ?_; rintro e v1 ⟨rfl, j1⟩; have d1 := (six_cell j1.xs).2.1))
    clear z1
    have J3 := Lib.hid j3
    obtain ⟨-, -, -, -, -, c6, -, -, -, g5⟩ := six_cell j3.xs
    clear j1 j2 j3 d1 d2 d3 c0 c1 c2 c3 c4 c5 A1 A2 A3
    go_wp2_with fail
    go_ret
    exact ⟨rfl, _, _, by have := J3.out.used (x.us + m); push_cast at this; exact this⟩

set_option maxRecDepth 100000 in
set_option maxHeartbeats 2000000 in
theorem does_grant_not (w0 : World) (X B C most k n : Nat) (x : Two) (vw vg : Value) (W : World) (hm : 1 ≤ most) (hm2 : most ≤ 256) (hk : k ≤ 200) (hn : n ≤ 255) (good : Good most k x) (h : Ends w0 X B C most x x.s x.us vw vg W) (hd : x.us + most - x.g2 < max (most / 2) 1) :
    Calls Try.prog 27 #[.pointer (some ⟨X, 0, none⟩), .agg #[.int .u8 7, .int .u8 n]] W (Done w0 X B C most x) := by
  have hb := good.bounds
  have hb2 := good.sl
  have hb3 := good.gu
  have hb4 := good.ut
  clear good
  have c1 := fun o => (six_cell (h.alloc o).xs).2.1
  have ho := Lib.hid (fun o => h.alloc o)
  clear h
  have Hd := Lib.hid hd
  clear hd
  go_enter Try.func27, Try.ntmps27
  go_wp2_with fail
  refine (grant_not C most x.g2 x.tk x.us (by omega) (by omega) (by omega) (by omega) Hd.out _ (ho.out _).fg).mono ?_
  rintro e W1 hq
  obtain ⟨rfl, h1⟩ := (ho.out _).quiet hq
  clear hq c1 ho
  have H1 := Lib.hid h1; clear h1
  go_wp2_with fail
  go_ret
  exact ⟨rfl, _, _, H1.out⟩

set_option maxRecDepth 100000 in
set_option maxHeartbeats 2000000 in
theorem does_grant (w0 : World) (X B C most k n : Nat) (x : Two) (vw vg : Value) (W : World) (hm : 1 ≤ most) (hm2 : most ≤ 256) (hk : k ≤ 200) (hn : n ≤ 255) (good : Good most k x) (h : Ends w0 X B C most x x.s x.us vw vg W) (hd : max (most / 2) 1 ≤ x.us + most - x.g2) :
    Calls Try.prog 27 #[.pointer (some ⟨X, 0, none⟩), .agg #[.int .u8 7, .int .u8 n]] W (Done w0 X B C most { x with g2 := x.us + most, grants := x.grants ++ [x.us + most] }) := by
  obtain ⟨i0, hi, hz0, hz1, hz2⟩ := info_parts Try.info3
  have hb := good.bounds
  have hb2 := good.sl
  have hb3 := good.gu
  have hb4 := good.ut
  have hgl : (ints x.grants).length ≤ 200 := by rw [List.length_map]; have := good.gl; omega
  clear good
  have c1 := fun o => (six_cell (h.alloc o).xs).2.1
  have ho := Lib.hid (fun o => h.alloc o)
  clear h
  have Hd := Lib.hid hd
  clear hd
  obtain ⟨T, hT⟩ : ∃ T, T = x.us + most := ⟨_, rfl⟩
  have hT2 : T ≤ 100000 := by omega
  have HT := Lib.hid hT
  go_enter Try.func27, Try.ntmps27
  go_wp2_with fail
  have gd : ∀ w, Gv w C most x.g2 x.tk x.us → Calls Try.prog 23 #[.pointer (some ⟨C, 0, none⟩)] w (fun e W' => e = .returned (.tuple #[.int .u64 T, .bool true]) ∧ Gv W' C most T x.tk x.us ∧ w.grownBy W' (some C)) := by
    intro w hG
    have := grant_u C most x.g2 x.tk x.us (by omega) (by omega) (by omega) (by omega) w hG
    rw [show grantR most x.g2 x.us = ((T, true), T) by unfold grantR; rw [if_neg (by have := Hd.out; omega), hT]] at this
    exact this
  clear hT
  refine (gd _ (ho.out _).fg).mono ?_
  rintro e W1 ⟨rfl, hG, hgr⟩
  have h1 := (ho.out _).gvU hgr hG
  clear gd c1 ho hG hgr
  obtain ⟨c0, c1, c2, c3, c4, c5, f2, f3, f4, f5⟩ := six_cell h1.xs
  obtain ⟨q, L, cp, e1⟩ := h1.gr.form'
  subst e1
  have Hown := Lib.hid (h1.gr.alloc (.cells #[.int .i64 T] 3))
  have Hnew : Hid ((W1.alloc (.cells #[.int .i64 T] 3)).cell? ⟨W1.heap.size, 0, none⟩ = some (.int .i64 T)) := Lib.hid (one_cell (alloc_new _ _))
  have Hz := Lib.hid h1.bel.size
  have H1 := Lib.hid h1; clear h1
  go_wp2_with (at_builtin; go_must (refine wpList_append_off _ rfl (.tmp 157) (.tmp 160) 53 rfl w0.heap.size 3 i0 (.int .i64 0) 8 Try.underlying53 hi hz0 hz1 hz2 rfl (.slice q L cp) (ints x.grants) rfl Hown.out ⟨W1.heap.size, 0, none⟩ 1 (.int .i64 T) rfl Hnew.out rfl (by unfold maxLen; omega) (by omega) (by have := Hz.out; simp only [World.size_alloc]; omega) ?_; intro v' W4 r1 r2 r3; obtain ⟨q', L', c', e'⟩ := r1.form'; subst e'; have hX4 := (H1.out.alloc (.cells #[.int .i64 T] 3)).afterG r2; have d2 := (six_cell hX4).2.2.2.1; have g2 := (six_cell hX4).2.2.2.2.2.2.2.1))
  go_ret
  rw [← HT.out]
  exact ⟨rfl, _, _, (H1.out.alloc (.cells #[.int .i64 T] 3)).pushG r1 r2 r3⟩

set_option maxRecDepth 100000 in
set_option maxHeartbeats 2000000 in
theorem does_other (w0 : World) (X B C most what n : Nat) (x : Two) (vw vg : Value) (W : World) (hw : 9 ≤ what) (hw2 : what ≤ 255) (hn : n ≤ 255) (h : Ends w0 X B C most x x.s x.us vw vg W) :
    Calls Try.prog 27 #[.pointer (some ⟨X, 0, none⟩), .agg #[.int .u8 what, .int .u8 n]] W (Done w0 X B C most x) := by
  have ho := Lib.hid (fun o => h.alloc o)
  clear h
  have t : ∀ i : Int, i < 9 → ((what : Int) == i) = false := fun i hi => by rw [beq_eq_false_iff_ne]; omega
  have t0 := t 0 (by omega); have t1 := t 1 (by omega); have t2 := t 2 (by omega); have t3 := t 3 (by omega); have t4 := t 4 (by omega); have t5 := t 5 (by omega); have t6 := t 6 (by omega); have t7 := t 7 (by omega); have t8 := t 8 (by omega)
  clear t hw
  go_enter Try.func27, Try.ntmps27
  go_wp2_with fail
  go_ret
  exact ⟨rfl, _, _, ho.out _⟩
end Go.Proofs.Ytbmhgdfkkiepaaa
