/-
  Intake: New, none, has, Floor, Waits, at an intake, at none, at a zero one. No condition but the numbers' ranges.
-/
import Derived.Test.YtmghgjokleeigaaInM
import Derived.WalkSpells
namespace Go.Proofs.Ytmghgjokleeigaa
open Go.RowKit Go.Maps

theorem new39 (w : World) : Calls Try.prog 39 #[] w fun e W => ∃ I M, e = .returned (.pointer (some ⟨I, 0, none⟩)) ∧ Intk w I M 0 0 (fun _ => none) 0 W ∧ Below w.heap.size w W := by
  have hmm := @run_makeMap Try.prog
  go_enter Try.func39, Try.ntmps39
  go_wp2
  go_ret
  have hb : Below w.heap.size w ((w.alloc (.map #[] 0)).alloc (.cells #[.int .u32 0, .map (some w.heap.size)] 80)) := ((Below.refl _ _).alloc (Nat.le_refl _) _).alloc (by simp) _
  refine ⟨w.heap.size + 1, w.heap.size, rfl, ⟨?_, ?_, fun _ _ e => (by cases e), by omega, Nat.le_refl _, hb⟩, hb⟩
  · have := alloc_new (w.alloc (.map #[] 0)) (.cells #[.int .u32 0, .map (some w.heap.size)] 80)
    rwa [World.size_alloc] at this
  · exact (MapV.made w).same ((Below.heap_alloc _ _ _ (by simp)))

section
variable {w0 : World} {I M n fl : Nat} {v : Nat → Option Gr} {c : Nat} {W : World}
theorem none70 (h : Intk w0 I M n fl v c W) : Calls Try.prog 70 #[.pointer (some ⟨I, 0, none⟩)] W fun e W' => e = .returned (.bool false) ∧ W = W' := by
  have qT : ∀ (w : World) (r : Option Nat), (binOp .eql 78 (.map r) (.map none)).run Try.prog w = .ok (.bool r.isNone) w := fun w r => run_eql_map_nil w _ _ _ r Try.underlying78
  have c1 := h.c1
  clear h
  go_enter Try.func70, Try.ntmps70
  go_wp2
  go_ret
  exact ⟨rfl, rfl⟩
theorem none70_nil (W : World) : Calls Try.prog 70 #[.pointer none] W fun e W' => e = .returned (.bool true) ∧ W = W' := by
  go_enter Try.func70, Try.ntmps70
  go_wp2
  go_ret
  exact ⟨rfl, rfl⟩
theorem none70_zero (W : World) (Z : Nat) (c1 : W.cell? ⟨Z, 1, none⟩ = some (.map none)) : Calls Try.prog 70 #[.pointer (some ⟨Z, 0, none⟩)] W fun e W' => e = .returned (.bool true) ∧ W = W' := by
  have qT : ∀ (w : World) (r : Option Nat), (binOp .eql 78 (.map r) (.map none)).run Try.prog w = .ok (.bool r.isNone) w := fun w r => run_eql_map_nil w _ _ _ r Try.underlying78
  go_enter Try.func70, Try.ntmps70
  go_wp2
  go_ret
  exact ⟨rfl, rfl⟩
theorem has71 (h : Intk w0 I M n fl v c W) (id : Nat) (hid : id ≤ 4294967295) : Calls Try.prog 71 #[.pointer (some ⟨I, 0, none⟩), .int .u32 id] W fun e W' => e = .returned (.bool (v id).isSome) ∧ W = W' := by
  have c1 := h.c1
  have hl := h.map.look_ok id hid
  clear h
  go_enter Try.func71, Try.ntmps71
  go_wp2
  go_ret
  exact ⟨rfl, rfl⟩
theorem floor48 (h : Intk w0 I M n fl v c W) : Calls Try.prog 48 #[.pointer (some ⟨I, 0, none⟩)] W fun e W' => e = .returned (.int .u32 fl) ∧ W = W' := by
  have c0 := h.c0
  have N := Lib.hid (none70 h)
  clear h
  go_enter Try.func48, Try.ntmps48
  go_wp2_with (go_at_call 70; refine N.out.mono ?_; rintro e w' ⟨rfl, rfl⟩)
  go_ret
  exact ⟨rfl, rfl⟩
theorem waits41 (h : Intk w0 I M n fl v c W) : Calls Try.prog 41 #[.pointer (some ⟨I, 0, none⟩)] W fun e W' => e = .returned (.int .i64 c) ∧ W = W' := by
  have c1 := h.c1
  have hl := fun ty => h.map.len ty
  have N := Lib.hid (none70 h)
  clear h
  go_enter Try.func41, Try.ntmps41
  go_wp2_with (go_at_call 70; refine N.out.mono ?_; rintro e w' ⟨rfl, rfl⟩)
  go_ret
  exact ⟨rfl, rfl⟩
end
/-- No intake. -/
def NoIn (p : Value) (W : World) : Prop := p = .pointer none ∨ ∃ Z, p = .pointer (some ⟨Z, 0, none⟩) ∧ W.cell? ⟨Z, 1, none⟩ = some (.map none)
theorem none70_no {p : Value} {W : World} (h : NoIn p W) : Calls Try.prog 70 #[p] W fun e W' => e = .returned (.bool true) ∧ W = W' := by
  rcases h with rfl | ⟨Z, rfl, hc⟩
  · exact none70_nil W
  · exact none70_zero W Z hc
theorem floor48_no {p : Value} {W : World} (h : NoIn p W) : Calls Try.prog 48 #[p] W fun e W' => e = .returned (.int .u32 0) ∧ W = W' := by
  have N := Lib.hid (none70_no h)
  clear h
  go_enter Try.func48, Try.ntmps48
  go_wp2_with (go_at_call 70; refine N.out.mono ?_; rintro e w' ⟨rfl, rfl⟩)
  go_ret
  exact ⟨rfl, rfl⟩
theorem waits41_no {p : Value} {W : World} (h : NoIn p W) : Calls Try.prog 41 #[p] W fun e W' => e = .returned (.int .i64 0) ∧ W = W' := by
  have N := Lib.hid (none70_no h)
  clear h
  go_enter Try.func41, Try.ntmps41
  go_wp2_with (go_at_call 70; refine N.out.mono ?_; rintro e w' ⟨rfl, rfl⟩)
  go_ret
  exact ⟨rfl, rfl⟩
theorem told40_no {p : Value} {W : World} (h : NoIn p W) : Calls Try.prog 40 #[p] W fun e W' => e = .returned (.tuple #[.int .u32 0, .int .u32 0]) ∧ W = W' := by
  have N := Lib.hid (none70_no h)
  clear h
  go_enter Try.func40, Try.ntmps40
  go_wp2_with (go_at_call 70; refine N.out.mono ?_; rintro e w' ⟨rfl, rfl⟩)
  go_ret2
  exact ⟨rfl, rfl⟩
theorem bytes42_no {p : Value} {W : World} (h : NoIn p W) : Calls Try.prog 42 #[p] W fun e W' => e = .returned (.int .i64 0) ∧ W = W' := by
  have N := Lib.hid (none70_no h)
  clear h
  go_enter Try.func42, Try.ntmps42
  go_wp2_with (go_at_call 70; refine N.out.mono ?_; rintro e w' ⟨rfl, rfl⟩)
  go_ret
  exact ⟨rfl, rfl⟩
theorem copy51_no {p : Value} {W : World} (h : NoIn p W) : Calls Try.prog 51 #[p] W fun e W' => e = .returned (.pointer none) ∧ W = W' := by
  have N := Lib.hid (none70_no h)
  clear h
  go_enter Try.func51, Try.ntmps51
  go_wp2_with (go_at_call 70; refine N.out.mono ?_; rintro e w' ⟨rfl, rfl⟩)
  go_ret
  exact ⟨rfl, rfl⟩
theorem take43_no {p : Value} {W : World} (h : NoIn p W) (id : Int) (q : Option Addr) (l cp : Nat) : Calls Try.prog 43 #[p, .int .u32 id, .slice q l cp] W fun e W' => e = .returned (.tuple #[.slice none 0 0, .int .i64 0, .int .i64 2]) ∧ W = W' := by
  have N := Lib.hid (none70_no h)
  clear h
  go_enter Try.func43, Try.ntmps43
  go_wp2_with (go_at_call 70; refine N.out.mono ?_; rintro e w' ⟨rfl, rfl⟩)
  go_ret3
  exact ⟨rfl, rfl⟩
end Go.Proofs.Ytmghgjokleeigaa
