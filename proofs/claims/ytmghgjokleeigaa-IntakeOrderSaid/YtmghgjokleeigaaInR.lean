/-
  Intake: what can be handed on, and how it is collected. No condition but the numbers' ranges.
-/
import Derived.Test.YtmghgjokleeigaaIn2
import Derived.Test.YtmghgjokleeigaaInB
import Derived.Test.YtmghgjokleeigaaIter3
import Derived.StillTailTactics
import Derived.Deep.QuietTactic
import Derived.BigQuiet
namespace Go.Proofs.Ytmghgjokleeigaa
open Go.RowKit Go.Shelf Go.Maps
attribute [local go_sem] Oper.semAt_some wide_fn_eq wide_depth

/-- What is left when the first i have been handed on. -/
def restV (v : Nat → Option Gr) (fl i : Nat) : Nat → Option Gr := fun id => if fl ≤ id ∧ id < fl + i then none else v id
theorem restV_zero (v : Nat → Option Gr) (fl : Nat) : restV v fl 0 = v := by funext id; unfold restV; rw [if_neg (by omega)]
theorem restV_here (v : Nat → Option Gr) (fl i : Nat) : restV v fl i (fl + i) = v (fl + i) := by unfold restV; rw [if_neg (by omega)]
theorem restV_succ (v : Nat → Option Gr) (fl i : Nat) : restV v fl (i + 1) = upd (restV v fl i) (fl + i) none := by
  funext id
  unfold restV upd
  by_cases e : id = fl + i
  · rw [if_pos (by omega), if_pos e]
  · rw [if_neg e]
    by_cases h : fl ≤ id ∧ id < fl + i
    · show _ = if _ then _ else _
      rw [if_pos (by omega), if_pos h]
    · show _ = if _ then _ else _
      rw [if_neg (by omega), if_neg h]
/-- These can be handed on, and no more. -/
structure Runs (v : Nat → Option Gr) (fl : Nat) (L : List Gr) : Prop where
  at_ : ∀ i (h : i < L.length), v (fl + i) = some L[i]
  stop : v (fl + L.length) = none
  top : fl + L.length < 4294967295
/-- Nothing but the intake's own two blocks has turned. -/
def Turned (I M : Nat) (W1 W2 : World) : Prop := (∀ b, b ≠ I → b ≠ M → W2.heap[b]? = W1.heap[b]?) ∧ W2.heap.size = W1.heap.size ∧ W2.os = W1.os ∧ W2.tape = W1.tape ∧ W2.output = W1.output
def ReadyAt (w0 : World) (I M n fl : Nat) (v : Nat → Option Gr) (c Bx i : Nat) (W : World) : Prop :=
  W.heap[Bx]? = some (.cells #[.pointer (some ⟨I, 0, none⟩)] 63 (0, 0)) ∧ Intk w0 I M n (fl + i) (restV v fl i) (c - i) W
theorem turned_os {W W' : World} {M : Nat} (h : W.mapTurned W' M) : W'.os = W.os ∧ W'.tape = W.tape ∧ W'.output = W.output := by
  have g := h.grown
  exact ⟨g.os, g.tape, g.output⟩
/-- One is taken out, and the floor goes up. -/
theorem Intk.step {w0 : World} {I M n fl c : Nat} {v : Nat → Option Gr} {W W2 : World} (h : Intk w0 I M n fl v c W) (hm : MapV M n (upd v fl none) (c - 1) W2) (ht : W.mapTurned W2 M) :
    Intk w0 I M n (fl + 1) (upd v fl none) (c - 1) (W2.setCell ⟨I, 0, none⟩ (.int .u32 ((fl : Int) + 1))) ∧ Turned I M W (W2.setCell ⟨I, 0, none⟩ (.int .u32 ((fl : Int) + 1))) := by
  have hne := h.ne
  have hbox : W2.heap[I]? = some (.cells #[.int .u32 fl, .map (some M)] 80 (0, 0)) := (turned_block ht I hne).trans h.box
  have hk : ∀ b, b ≠ I → b ≠ M → (W2.setCell ⟨I, 0, none⟩ (.int .u32 ((fl : Int) + 1))).heap[b]? = W.heap[b]? := fun b h1 h2 => (Below.heap_setCell _ _ _ _ h1).trans (turned_block ht b h2)
  have hsz : (W2.setCell ⟨I, 0, none⟩ (.int .u32 ((fl : Int) + 1))).heap.size = W.heap.size := by
    show (W2.heap.modify _ _).size = _
    rw [Array.size_modify, turned_size ht]
  obtain ⟨o1, o2, o3⟩ := turned_os ht
  refine ⟨⟨?_, hm.same (Below.heap_setCell _ _ _ _ (Ne.symm hne)), fun id g e => ?_, h.hI, h.hM, ?_⟩, hk, hsz, o1, o2, o3⟩
  · rw [set_cells hbox]; rfl
  · have e' : v id = some g := by
      by_cases e2 : id = fl
      · subst e2; rw [upd_same] at e; cases e
      · rwa [upd_other _ _ e2] at e
    refine (h.gr id g e').same fun b e2 => hk b ?_ ?_
    · rintro rfl
      obtain ⟨_, cur, hc⟩ := (h.gr id g e').own e2
      rw [h.box] at hc; cases hc
    · rintro rfl
      obtain ⟨_, cur, hc⟩ := (h.gr id g e').own e2
      obtain ⟨D, ⟨es, clock, h1, _⟩, _⟩ := h.map
      rw [hc] at h1; cases h1
  · exact h.bel.trans ⟨o1, o2, o3, Nat.le_of_eq hsz.symm, fun b hb => hk b (by have := h.hI; omega) (by have := h.hM; omega)⟩

theorem quietA {f : Nat} {args : Array Value} {w : World} {n : Nat} {v : Value} (h : Calls Try.prog f args (w.drewN n) fun e W => e = .returned v ∧ w.drewN n = W) : Calls Try.prog f args (w.drewN n) fun e w'' => e = .returned v ∧ ∃ m, w'' = w.drewN m :=
  Calls.quiet_of_same (h.mono (fun _ _ h => ⟨h.1, h.2.symm⟩))
set_option maxRecDepth 100000 in
set_option maxHeartbeats 2000000 in
theorem ready85 (w0 : World) (I M n fl : Nat) (v : Nat → Option Gr) (c Bx : Nat) (L : List Gr) (hL : Runs v fl L) :
    Iters3 Try.prog 85 #[.pointer (some ⟨Bx, 0, none⟩)] (fun g : Gr => #[encG g]) (· = L) (fun pre W => ReadyAt w0 I M n fl v c Bx pre.length W)
      (fun pre _ W1 W2 => Intk w0 I M n (fl + (pre.length + 1)) (restV v fl (pre.length + 1)) (c - (pre.length + 1)) W2 ∧ Turned I M W1 W2) := by
  intro l J Jx JY W hJ hJx hpre hstep hY h0
  refine callsIn_of_wp Try.func85 rfl trivial ?_
  simp only [Try.ntmps85, List.size_toArray, List.length_cons, List.length_nil, Nat.reduceAdd, Nat.reduceSub, Array.replicate_succ, Array.replicate_zero, List.push_toArray, List.append_toArray, List.nil_append, List.cons_append]
  gi_wp2
  gi_loopw [] (fun wr => ∃ pre : List Gr, pre = L.take pre.length ∧ J pre wr) (fun wr => match wr.cell? ⟨I, 0, none⟩ with | some (.int _ x) => L.length + fl + 1 - x.toNat | _ => 0)
  case atStart => exact ⟨[], by simp, h0⟩
  case round =>
    obtain ⟨pre, hp, hj⟩ := hrel
    have hle : pre.length ≤ L.length := by have := congrArg List.length hp; rw [List.length_take] at this; omega
    obtain ⟨hbx, hin⟩ := hpre _ _ hj
    by_cases hlt : pre.length < L.length
    · have hv : restV v fl pre.length (fl + pre.length) = some L[pre.length] := by rw [restV_here]; exact hL.at_ _ hlt
      have hsucc := restV_succ v fl pre.length
      obtain ⟨x, hx⟩ : ∃ x, x = L[pre.length] := ⟨_, rfl⟩
      obtain ⟨V, hV⟩ : ∃ V, V = restV v fl pre.length := ⟨_, rfl⟩
      obtain ⟨F, hF⟩ : ∃ F, F = fl + pre.length := ⟨_, rfl⟩
      obtain ⟨C, hC⟩ : ∃ C, C = c - pre.length := ⟨_, rfl⟩
      rw [← hV, ← hF, ← hC] at hin
      rw [← hV, ← hF, ← hx] at hv
      rw [← hV, ← hF] at hsucc
      have hFt : F < 4294967295 := by have := hL.top; omega
      obtain ⟨qx, lx, cx, ex⟩ : ∃ q l c, encG x = .slice q l c := ⟨_, _, _, rfl⟩
      have HIN := Lib.hid hin
      have HBX := Lib.hid hbx
      have A0 : Hid (∀ k, Calls Try.prog 71 #[.pointer (some ⟨I, 0, none⟩), .int .u32 F] (wr.drewN k) fun e W' => e = .returned (.bool true) ∧ wr.drewN k = W') := Lib.hid fun k => by
        have := has71 (HIN.out.same (W' := wr.drewN k) ⟨rfl, rfl, rfl, Nat.le_refl _, fun _ _ => rfl⟩) F (by omega)
        rw [hv] at this
        exact this
      have cb : wr.cell? ⟨Bx, 0, none⟩ = some (.pointer (some ⟨I, 0, none⟩)) := one_cell hbx
      have c0 := hin.c0
      have c1 := hin.c1
      have Hp := Lib.hid hp; have Hpre := Lib.hid hpre; have Hstep := Lib.hid hstep; have HY := Lib.hid hY; have HJ := Lib.hid hJ; have HJx := Lib.hid hJx
      have HV := Lib.hid hV; have HF := Lib.hid hF; have HC := Lib.hid hC; have HX := Lib.hid hx; have HS := Lib.hid hsucc; have HV2 := Lib.hid hv
      have HL := Lib.hid hL
      have Hj := Lib.hid hj
      have HC0 := Lib.hid c0
      clear hp hpre hstep hY hJ hJx h0 hV hF hC hx hsucc hin hbx hv hL hj
      gi_wp2_with fail
      refine wpIn_wide.2 ?_
      go_quiet ((go_at_call 71; exact quietA (A0.out _)))
      have HIN1 := Lib.hid (HIN.out.drewN nq)
      have HB1 : Hid ((wr.drewN nq).heap[Bx]? = some (.cells #[.pointer (some ⟨I, 0, none⟩)] 63 (0, 0))) := HBX
      have Hj1 := Lib.hid ((HJ.out pre).grows (W2 := wr.drewN nq) Hj.out ⟨rfl, rfl, rfl, Nat.le_refl _, fun _ _ _ => rfl⟩)
      clear HIN HBX Hj A0 cb c0 c1
      generalize wr.drewN nq = wr1 at HIN1 HB1 Hj1 ⊢
      gi_wp2_with fail
      have cb := one_cell HB1.out
      have c0 := HIN1.out.c0
      have c1 := HIN1.out.c1
      have hlk : ∀ k, (Instr.lookup 78 (.map (some M)) (.int .u32 F) false).run Try.prog (wr1.drewN k) = .ok (.slice qx lx cx) (wr1.drewN k) := fun k => by
        have := (HIN1.out.drewN k).map.look F (by omega)
        rw [HV2.out] at this
        rw [this, ← ex]; rfl
      refine wpIn_wide.2 ?_
      go_quiet (fail)
      have HIN2 := Lib.hid ((HIN1.out.drewN nq).drew)
      have HB2 : Hid ((wr1.drewN nq).drew.heap[Bx]? = some (.cells #[.pointer (some ⟨I, 0, none⟩)] 63 (0, 0))) := HB1
      have Hj2 := Lib.hid ((HJ.out pre).grows (W2 := (wr1.drewN nq).drew) Hj1.out ⟨rfl, rfl, rfl, Nat.le_refl _, fun _ _ _ => rfl⟩)
      clear HIN1 HB1 Hj1 cb c0 c1 hlk
      generalize wr1.drewN nq = wr2 at HIN2 HB2 Hj2 ⊢
      gi_wp2_with fail
      refine wpIn_wide.2 ?_
      refine wp_region_still_tail 8 (by kernel_rfl) (by kernel_rfl) ?_
      change wpStill _ _ (World.drew wr2) (fun a' => wpList _ _ _ _ a' (World.drew wr2)) _ _
      generalize wr2.drew = wq2 at HIN2 HB2 Hj2 ⊢
      have cb := one_cell HB2.out
      have c0 := HIN2.out.c0
      have c1 := HIN2.out.c1
      obtain ⟨W3, hdel, hm3, ht3⟩ := HIN2.out.map.drop F (by omega) (by rw [HV2.out]; rfl) 0
      obtain ⟨hin3, htu3⟩ := HIN2.out.step hm3 ht3
      have HIN3 := Lib.hid hin3
      have HT3 := Lib.hid htu3
      have hbk := turned_block ht3
      have hne := HIN2.out.ne
      have d0 : W3.cell? ⟨I, 0, none⟩ = some (.int .u32 F) := (World.cell?_of_block (w := wq2) (a := ⟨I, 0, none⟩) (hbk I hne)).trans c0
      have fz : W3.frozen? ⟨I, 0, none⟩ = false := (World.frozen?_of_block (w := wq2) (a := ⟨I, 0, none⟩) (hbk I hne)).trans HIN2.out.f0
      have db : W3.cell? ⟨Bx, 0, none⟩ = some (.pointer (some ⟨I, 0, none⟩)) := by
        refine (World.cell?_of_block (w := wq2) (a := ⟨Bx, 0, none⟩) (hbk Bx ?_)).trans cb
        rintro rfl
        obtain ⟨D, ⟨es, clock, h1, _⟩, _⟩ := HIN2.out.map
        have := HB2.out
        rw [h1] at this; cases this
      clear hm3 ht3 hin3 htu3 hbk hne
      simp only [List.take_succ_cons, List.take_zero, List.drop_succ_cons, List.drop_zero]
      repeat still_step
      refine wpStill_nil ?_
      go_wp2_with fail
      have hS : pre ++ x :: L.drop (pre.length + 1) = L := by
        have h1 := List.take_append_drop pre.length L
        rw [List.drop_eq_getElem_cons hlt, ← Hp.out, ← HX.out] at h1
        exact h1
      have hin4 := HIN3.out
      rw [← HS.out, show F + 1 = fl + (pre.length + 1) by rw [HF.out]; omega, show C - 1 = c - (pre.length + 1) by rw [HC.out]; omega] at hin4
      obtain ⟨kb, hjy⟩ := Hstep.out pre x _ wq2 _ hS Hj2.out ⟨hin4, HT3.out⟩
      obtain ⟨fn, tmps, assign, body, hy, hR⟩ := HY.out pre x _ _ hS hjy
      have HHS := Lib.hid hS
      rw [ex] at hy
      clear hS hin4 kb hjy HIN3 HT3 HB2 HIN2
      gi_wp2_with fail
      refine hR.mono ?_
      rintro e W5 (⟨rfl, hk5, hj5⟩ | ⟨rfl, hk5, hj5⟩)
      · have c5 := (Hpre.out _ _ hj5).2.c0
        rw [List.length_append, List.length_singleton] at c5
        have H5 := Lib.hid hj5
        have HC5 := Lib.hid c5
        clear hj5 c5
        gi_wp2
        go_roundw
        case rel =>
          refine ⟨pre ++ [x], ?_, H5.out⟩
          rw [List.length_append, List.length_singleton, List.take_succ_eq_append_getElem hlt, ← Hp.out, ← HX.out]
        case measure =>
          rw [HC5.out, HC0.out]
          have := HF.out
          simp
          omega
      · gi_wp2
        refine bodyPost_ret (results_none rfl _ _ _) rfl ?_
        exact IterEnd.part (pre ++ [x]) _ (by rw [List.append_assoc]; exact HHS.out) hj5
    · obtain rfl : pre = L := by rw [hp]; exact List.take_of_length_le (by omega)
      have hv : restV v fl pre.length (fl + pre.length) = none := by rw [restV_here]; exact hL.stop
      obtain ⟨V, hV⟩ : ∃ V, V = restV v fl pre.length := ⟨_, rfl⟩
      obtain ⟨F, hF⟩ : ∃ F, F = fl + pre.length := ⟨_, rfl⟩
      rw [← hV, ← hF] at hin
      rw [← hV, ← hF] at hv
      have hFt : F < 4294967295 := by have := hL.top; omega
      have HIN := Lib.hid hin
      have A0 : Hid (∀ k, Calls Try.prog 71 #[.pointer (some ⟨I, 0, none⟩), .int .u32 F] (wr.drewN k) fun e W' => e = .returned (.bool false) ∧ wr.drewN k = W') := Lib.hid fun k => by
        have := has71 (HIN.out.same (W' := wr.drewN k) ⟨rfl, rfl, rfl, Nat.le_refl _, fun _ _ => rfl⟩) F (by omega)
        rw [hv] at this
        exact this
      have cb : wr.cell? ⟨Bx, 0, none⟩ = some (.pointer (some ⟨I, 0, none⟩)) := one_cell hbx
      have c0 := hin.c0
      have HJ := Lib.hid hJ
      have Hj := Lib.hid hj
      clear hpre hstep hY hJ hJx h0 hV hF hin hbx hv hL hj hp hle hlt
      gi_wp2_with fail
      refine wpIn_wide.2 ?_
      go_quiet ((go_at_call 71; exact quietA (A0.out _)))
      gi_wp2
      go_end0
      exact IterEnd.all pre rfl ((HJ.out pre).grows Hj.out ⟨rfl, rfl, rfl, Nat.le_refl _, fun _ _ _ => rfl⟩)
end Go.Proofs.Ytmghgjokleeigaa
