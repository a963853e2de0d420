/-
  Told, Copy of an intake. No condition but the numbers' ranges.
-/
import Derived.Test.YtmghgjokleeigaaInA
import Derived.Shelf.SlMaps.Clone
namespace Go.Proofs.Ytmghgjokleeigaa
open Go.RowKit Go.Shelf Go.Maps

theorem below_drew (W : World) : Below W.heap.size W W.drew := ⟨rfl, rfl, rfl, Nat.le_refl _, fun _ _ => rfl⟩
theorem Below.grown0 {W W' : World} (h : Below W.heap.size W W') : W.grownBy W' none := ⟨h.os, h.tape, h.output, h.size, fun k hk _ => h.block k hk⟩
section
variable {w0 : World} {I M n fl : Nat} {v : Nat → Option Gr} {c : Nat} {W : World}
theorem has_asks (h : Intk w0 I M n fl v c W) (L : List Nat) (hL : ∀ x ∈ L, x ≤ 4294967295) : AsksB 71 (.pointer (some ⟨I, 0, none⟩)) (fun x => (v x).isSome) (fun A => Below W.heap.size W A) L := by
  intro x A hx hb
  refine (callsIn_wide (n := 0)).2 ((has71 (h.same hb) x (hL x hx)).mono ?_)
  rintro e W' ⟨rfl, rfl⟩
  exact ⟨rfl, Below.grown0 (Below.refl _ _)⟩
theorem enters71 : Enters 71 := fun _ _ => (enters_of Try.func71 (by kernel_rfl) rfl) _ _
def maskV (fl : Nat) (v : Nat → Option Gr) : Nat := maskOf fl ((behindL fl).filter fun x => (v x).isSome)
theorem maskV_lt (fl : Nat) (hf : fl ≤ 4294967295) (v : Nat → Option Gr) : maskV fl v < 4294967296 := maskOf_lt fl _ fun x hx => (mem_behindL hf (List.mem_filter.1 hx).1).2.1
theorem told40 (h : Intk w0 I M n fl v c W) (hf : fl ≤ 4294967295) : Calls Try.prog 40 #[.pointer (some ⟨I, 0, none⟩)] W fun e W' => e = .returned (.tuple #[.int .u32 fl, .int .u32 (maskV fl v)]) ∧ Below W.heap.size W W' := by
  have c0 := h.c0
  have N := Lib.hid (none70 h)
  have A : Hid (∀ W1, Below W.heap.size W W1 → Calls Try.prog 27 #[.int .u32 fl, .func (.func 71) #[.pointer (some ⟨I, 0, none⟩)] #[]] W1 fun e W2 => e = .returned (.int .u32 (maskV fl v)) ∧ W2.cell? ⟨I, 0, none⟩ = some (.int .u32 fl) ∧ Below W.heap.size W W2) := Lib.hid fun W1 hb =>
    (mask_anyb fl hf 71 (.pointer (some ⟨I, 0, none⟩)) enters71 (fun x => (v x).isSome) (fun A => Below W1.heap.size W1 A) (has_asks (h.same hb) _ (fun x hx => (mem_behindL hf hx).2.2)) W1 (fun _ h => h)).mono (by
      rintro e W2 ⟨rfl, hb2⟩
      have hb3 := hb.trans (hb2.mono hb.size)
      exact ⟨rfl, (h.same hb3).c0, hb3⟩)
  have b0 := below_drew W
  clear h
  go_enter Try.func40, Try.ntmps40
  go_wp2_with (go_at_call 70; refine N.out.mono ?_; rintro e w' ⟨rfl, rfl⟩)
  go_region_held3 (fun w' => w'.cell? ⟨I, 0, none⟩ = some (.int .u32 fl) ∧ Below W.heap.size W w') (first | exact ⟨c0, b0⟩ | exact ⟨c2, b2⟩) ((go_at_call 27; refine (A.out _ ?_).mono ?_; exact b0; rintro e W2 ⟨rfl, c2, b2⟩))
  all_goals
    go_wp2
    go_ret2
    exact ⟨rfl, b2⟩
end
def ren77 : Ren := ⟨fun f => if f = 5 then 77 else if f = 7 then 88 else f, fun t => if t = 23 then 78 else if t = 25 then 22 else if t = 3 then 62 else t, fun g => g⟩
theorem lay77 : SlLaysW.n5 Try.prog ren77 where
  mixed := by kernel_rfl
  f5 := ⟨"maps.Clone[map[uint32][]byte,uint32,[]byte]", by decide, by kernel_rfl⟩
  f7 := by kernel_rfl
  t4 := by kernel_rfl
  a4 := fun _ => by kernel_rfl
  z4 := fun _ => by kernel_rfl
  v4 := fun _ => by kernel_rfl
  t20 := by kernel_rfl
  a20 := fun _ => by kernel_rfl
  z20 := fun _ => by kernel_rfl
  v20 := fun _ => by kernel_rfl
  t23 := by kernel_rfl
  a23 := fun _ => by kernel_rfl
  z23 := fun _ => by kernel_rfl
  v23 := fun _ => by kernel_rfl
theorem clone77 {M n c : Nat} {v : Nat → Option Gr} {W : World} (h : MapV M n v c W) : Calls Try.prog 77 #[.map (some M)] W fun e W' => e = .returned (.map (some W.heap.size)) ∧ MapV W.heap.size n v c W' ∧ Below W.heap.size W W' := by
  obtain ⟨D, h1, h2, h3⟩ := h
  refine (AnyW.maps_Clone_owns lay77 22 HR M n D W h1).mono ?_
  rintro e W' ⟨rfl, a, _, hb⟩
  exact ⟨rfl, ⟨D, a, h2, h3⟩, hb⟩
section
variable {w0 : World} {I M n fl : Nat} {v : Nat → Option Gr} {c : Nat} {W : World}
/-- A copy. -/
def CopyPost (w0 : World) (n fl : Nat) (v : Nat → Option Gr) (c : Nat) (W : World) (e : Ending) (W' : World) : Prop :=
  ∃ J L, e = .returned (.pointer (some ⟨J, 0, none⟩)) ∧ Intk w0 J L n fl v c W' ∧ Below W.heap.size W W' ∧ W.heap.size ≤ J ∧ W.heap.size ≤ L
theorem copy51 (h : Intk w0 I M n fl v c W) : Calls Try.prog 51 #[.pointer (some ⟨I, 0, none⟩)] W (CopyPost w0 n fl v c W) := by
  have c0 := h.c0
  have c1 := h.c1
  have N := Lib.hid (none70 h)
  have A : Hid (∀ W1, Below W.heap.size W W1 → Calls Try.prog 77 #[.map (some M)] W1 fun e W2 => ∃ L, e = .returned (.map (some L)) ∧ (W2.cell? ⟨I, 0, none⟩ = some (.int .u32 fl) ∧ W2.cell? ⟨I, 1, none⟩ = some (.map (some M))) ∧ MapV L n v c W2 ∧ Below W.heap.size W W2 ∧ W.heap.size ≤ L) := Lib.hid fun W1 hb =>
    (clone77 (h.same hb).map).mono (by
      rintro e W2 ⟨rfl, hm, hb2⟩
      have hb3 := hb.trans (hb2.mono hb.size)
      exact ⟨_, rfl, ⟨(h.same hb3).c0, (h.same hb3).c1⟩, hm, hb3, hb.size⟩)
  have b0 := below_drew W
  have H := Lib.hid h
  clear h
  go_enter Try.func51, Try.ntmps51
  go_wp2_with (go_at_call 70; refine N.out.mono ?_; rintro e w' ⟨rfl, rfl⟩)
  go_region_held3 (fun w' => (w'.cell? ⟨I, 0, none⟩ = some (.int .u32 fl) ∧ w'.cell? ⟨I, 1, none⟩ = some (.map (some M)))) (first | exact ⟨c0, c1⟩ | exact c2 | exact ⟨cell_below ((Below.refl _ _).alloc (Nat.le_refl _) _) _ _ c2.1, cell_below ((Below.refl _ _).alloc (Nat.le_refl _) _) _ _ c2.2⟩) ((go_at_call 77; refine (A.out _ ?_).mono ?_; exact b0; rintro e W2 ⟨L, rfl, c2, hm, b2, hL⟩))
  all_goals
    go_wp2
    go_ret
    have hb := b2.alloc b2.size (.cells #[.int .u32 fl, .map (some L)] 80)
    refine ⟨_, L, rfl, ⟨alloc_new _ _, hm.same (Below.heap_alloc _ _ _ hm.lt), fun id g e => ?_, ?_, ?_, H.out.bel.trans (hb.mono H.out.bel.size)⟩, hb, b2.size, hL⟩
    · exact (H.out.gr id g e).same fun b e2 => hb.block b (block_lt ((H.out.gr id g e).own e2).2.choose_spec)
    · exact Nat.le_trans H.out.bel.size b2.size
    · exact Nat.le_trans H.out.bel.size hL
end
end Go.Proofs.Ytmghgjokleeigaa
