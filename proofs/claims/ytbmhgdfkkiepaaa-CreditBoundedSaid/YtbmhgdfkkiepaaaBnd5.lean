/-
  CreditBounded: a grant comes. Up to 200 acts.
-/
import Derived.Test.YtbmhgdfkkiepaaaBnd4
namespace Go.Proofs.Ytbmhgdfkkiepaaa
open Go.RowKit

set_option maxRecDepth 100000 in
set_option maxHeartbeats 2000000 in
theorem does_granted_none (w0 : World) (X B C most n : Nat) (x : Two) (vw vg : Value) (W : World) (hn : n ≤ 255) (h : Ends w0 X B C most x x.s x.us vw vg W) (hg : x.grants = []) :
    Calls Try.prog 27 #[.pointer (some ⟨X, 0, none⟩), .agg #[.int .u8 8, .int .u8 n]] W (Done w0 X B C most x) := by
  obtain ⟨q, L, cp, e1⟩ := h.gr.form'
  subst e1
  have hL : L = 0 := by
    rcases h.gr with ⟨e, _⟩ | ⟨_, _, _, _, e, _⟩
    · cases e; rfl
    · cases e; simp [hg]
  subst hL
  clear hg
  have c3 := fun o => (six_cell (h.alloc o).xs).2.2.2.1
  have ho := Lib.hid (fun o => h.alloc o)
  clear h
  go_enter Try.func27, Try.ntmps27
  go_wp2_with fail
  go_quiet (fail)
  go_wp2_with fail
  go_ret
  exact ⟨rfl, _, _, (ho.out _).drewN _⟩

set_option maxRecDepth 100000 in
set_option maxHeartbeats 2000000 in
theorem does_granted (w0 : World) (X B C most k n : Nat) (x : Two) (vw vg : Value) (W : World) (hm : 1 ≤ most) (hm2 : most ≤ 256) (hk : k ≤ 200) (hn : n ≤ 255) (good : Good most k x) (h : Ends w0 X B C most x x.s x.us vw vg W) (t : Nat) (hl : 0 < x.grants.length) (ht : x.grants[n % x.grants.length]? = some t) :
    Calls Try.prog 27 #[.pointer (some ⟨X, 0, none⟩), .agg #[.int .u8 8, .int .u8 n]] W (Done w0 X B C most { x with g := max x.g t }) := by
  have hb := good.bounds
  have hb2 := good.sl
  have hgl := good.gl
  have htm := good.granted (List.mem_of_getElem? ht)
  have hg2 := (htm.2).bounds
  have hb4 := good.sg
  simp only at hg2
  clear good
  have hlt : n % x.grants.length < (ints x.grants).length := by rw [List.length_map]; exact Nat.mod_lt _ hl
  obtain ⟨b, o, cp, e1, hc⟩ := h.gr.at_ hlt
  have ev : (ints x.grants)[n % x.grants.length] = .int .i64 t := by
    have := (List.getElem?_eq_some_iff.1 ht).2
    simp [this]
  rw [ev] at hc
  obtain ⟨L, hL⟩ : ∃ L, L = x.grants.length := ⟨_, rfl⟩
  have e2 : vg = .slice (some ⟨b, o, none⟩) L cp := by rw [e1, hL]; simp
  clear e1
  subst e2
  rw [← hL] at hc hl hgl
  have hcp := h.gr.le
  unfold maxLen at hcp
  have c0 := fun o => (six_cell (h.alloc o).xs).1
  have c3 := fun o => (six_cell (h.alloc o).xs).2.2.2.1
  have hc' : ∀ ob : Obj, (W.alloc ob).cell? ⟨b, o + n % L, none⟩ = some (.int .i64 t) := fun ob => by
    rw [World.cell?_alloc_lt W ob _ (World.block_lt_of_cell? W _ hc)]; exact hc
  have ho := Lib.hid (fun o => h.alloc o)
  have Ht := Lib.hid htm.2
  have hts := htm.1
  clear h hc htm hlt ev ht
  have HL := Lib.hid hL
  clear hL
  obtain ⟨I, hI⟩ : ∃ I, I = n % L := ⟨_, rfl⟩
  rw [← hI] at hc'
  have z1 : (n : Int).tmod (L : Int) = (I : Int) := by rw [hI, Int.tmod_eq_emod_of_nonneg (by omega)]; simp
  have z1' : (n : Int) % (L : Int) = (I : Int) := by rw [hI]; simp
  have z2 : (0 : Int) ≤ (I : Int) := by omega
  have z3 : (I : Int) < (L : Int) := by have := Nat.mod_lt n hl; omega
  have z4 : (I : Int).toNat = I := by simp
  have z5 : IntKind.u64.wrap (t : Int) = (t : Int) := by simp [IntKind.wrap, IntKind.bits, IntKind.signed]; omega
  have z6 : ((L : Int) == 0) = false := by rw [beq_eq_false_iff_ne]; omega
  have z8 : ¬ L = 0 := by omega
  have z7 : (0 : Int) < (L : Int) := by omega
  have HI := Lib.hid hI
  clear hI
  go_enter Try.func27, Try.ntmps27
  go_upto_region 32 with fail
  have A1 : Hid (∀ W, Ends w0 X B C most x x.s x.us vw (.slice (some ⟨b, o, none⟩) L cp) W → W.cell? ⟨b, o + I, none⟩ = some (.int .i64 t) → Calls Try.prog 17 #[.pointer (some ⟨B, 0, none⟩), .int .u64 t] W (fun e W' => e = .returned (.int .i64 0) ∧ Ends w0 X B C most { x with g := max x.g t } x.s x.us vw (.slice (some ⟨b, o, none⟩) L cp) W' ∧ W'.cell? ⟨b, o + I, none⟩ = some (.int .i64 t))) := Lib.hid (by
    intro W E hE
    refine (granted_ok B most x.g x.s (by omega) (by omega) (by omega) (by omega) t (by omega) (by omega) W E.fs).mono ?_
    rintro e W' ⟨he, hg, hgr⟩
    exact ⟨he, E.spU hgr hg, hgr.cell hE (by have := (E.neG (k := b) rfl).1; simpa using this)⟩)
  have E0 := Lib.hid (ho.out (.cells #[.int .u8 8, .int .u8 n] 57))
  have d0 := c0 (.cells #[.int .u8 8, .int .u8 n] 57)
  have d3 := c3 (.cells #[.int .u8 8, .int .u8 n] 57)
  have d4 := hc' (.cells #[.int .u8 8, .int .u8 n] 57)
  generalize W.alloc (.cells #[.int .u8 8, .int .u8 n] 57) = W1 at E0 d0 d3 d4 ⊢
  clear c0 c3 hc' ho
  go_region_held3 (fun w' => w'.cell? ⟨X, 0, none⟩ = some (.pointer (some ⟨B, 0, none⟩)) ∧ w'.cell? ⟨X, 3, none⟩ = some (.slice (some ⟨b, o, none⟩) L cp) ∧ w'.cell? ⟨b, o + I, none⟩ = some (.int .i64 t)) (first | exact ⟨e0, e3, e4⟩ | go_keep) (first
      | (go_at_call 17; refine (A1.out _ E0.out.drew d4).mono ?_; rintro e v1 ⟨rfl, j1, e4⟩; have e0 := (six_cell j1.xs).1; have e3 := (six_cell j1.xs).2.2.2.1))
  have J1 := Lib.hid j1
  clear j1 e0 e3 e4 d0 d3 d4 A1 E0 z1 z1' z2 z3 z4 z5 z6 z7
  go_wp2_with fail
  go_ret
  exact ⟨rfl, _, _, J1.out⟩
end Go.Proofs.Ytbmhgdfkkiepaaa
