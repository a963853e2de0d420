/-
  All: what a range over what waits is given.
-/
import Derived.Test.YtbmhgdfkkiepaaaNet7
import Derived.Test.YtbmhgdfkkiepaaaIter
import Derived.Shelf.Abstract
import Derived.Shelf.RegionOpen
import Derived.WalkKit
import Derived.OwnWalkIn
import Derived.TacticsInMore
import Derived.LoopNIn
import Derived.LoopIn
import Derived.Lib.Hide
namespace Go.Proofs.Ytbmhgdfkkiepaaa
open Go.RowKit Go.Shelf
attribute [local go_sem] Oper.semAt_some wide_fn_eq wide_depth

/-- What comes: its place, where its copy lies, its bytes. -/
abbrev Yd := Nat × Sl × List Nat
def encY (x : Yd) : Array Value := #[.int .i64 x.1, encS x.2.1]
def tagY (x : Yd) : Nat × List Nat := (x.1, x.2.2)
def zips (l : List (List Nat)) : List (Nat × List Nat) := (List.range l.length).zip l
def AllS (l : List (List Nat)) (xs : List Yd) : Prop := xs.map tagY = zips l
def RY (B : Nat) (x : Yd) (W : World) : Prop := OffRow W B 5 (encS x.2.1) (byts x.2.2)
theorem zips_len (l : List (List Nat)) : (zips l).length = l.length := by simp [zips]
theorem zips_get (l : List (List Nat)) (i : Nat) (h : i < l.length) : (zips l)[i]'(by rw [zips_len]; exact h) = (i, l[i]) := by simp [zips]
theorem allS_split (l : List (List Nat)) (pre : List Yd) (i : Nat) (hp : pre.map tagY = (zips l).take i) (hi : i < l.length) (s : Sl) :
    AllS l (pre ++ (i, s, l[i]) :: ((zips l).drop (i + 1)).map fun z => (z.1, (none, 0, 0), z.2)) := by
  unfold AllS
  rw [List.map_append, hp, List.map_cons, List.map_map]
  have h1 : (List.map (tagY ∘ fun z : Nat × List Nat => (z.1, ((none, 0, 0) : Sl), z.2)) ((zips l).drop (i + 1))) = (zips l).drop (i + 1) := by
    conv => rhs; rw [← List.map_id ((zips l).drop (i + 1))]
    rfl
  rw [h1, show tagY (i, s, l[i]) = (zips l)[i]'(by rw [zips_len]; exact hi) from (zips_get l i hi).symm, List.getElem_cons_drop, List.take_append_drop]
theorem allS_next (l : List (List Nat)) (pre : List Yd) (i : Nat) (hp : pre.map tagY = (zips l).take i) (hi : i < l.length) (s : Sl) : (pre ++ [(i, s, l[i])]).map tagY = (zips l).take (i + 1) := by
  have h2 : i < (zips l).length := by rw [zips_len]; exact hi
  rw [List.map_append, hp, List.take_succ_eq_append_getElem h2, zips_get l i hi]
  rfl

/-! ### A net abides -/
theorem Below.grown_ {W W' : World} (h : Below W.heap.size W W') : W.grownBy W' none := ⟨h.os, h.tape, h.output, h.size, fun k hk _ => h.block k hk⟩
/-- A net whose blocks all lie below B. -/
structure NetLow (w0 : World) (N : Nat) (r : Nat → Value) (g : Nat → List Gr) (B : Nat) (W : World) : Prop where
  is : NetIs w0 N r g W
  size : B ≤ W.heap.size
  low0 : w0.heap.size ≤ B
  lowN : N < B
  lowR : ∀ k, k < 2 → ∀ b, (r k).ownBlock = some b → b < B
  lowG : ∀ k, k < 2 → ∀ p ∈ g k, ∀ b, (encG p).ownBlock = some b → b < B
theorem NetIs.low {w0 : World} {N : Nat} {r : Nat → Value} {g : Nat → List Gr} {W : World} (h : NetIs w0 N r g W) : NetLow w0 N r g W.heap.size W :=
  ⟨h, Nat.le_refl _, h.bel.size, block_lt h.net, fun k hk b e => h.rowOld hk e, fun k hk p hp b e => h.gramOld hk hp e⟩
theorem NetLow.keep {w0 : World} {N : Nat} {r : Nat → Value} {g : Nat → List Gr} {B : Nat} {W W' : World} (h : NetLow w0 N r g B W) (hk : ∀ k, k < B → W'.heap[k]? = W.heap[k]?) (hs : W.heap.size ≤ W'.heap.size)
    (hos : W'.os = W.os ∧ W'.tape = W.tape ∧ W'.output = W.output) : NetLow w0 N r g B W' :=
  ⟨⟨(hk N h.lowN).trans h.is.net, fun k h2 => (h.is.row k h2).same fun b e => hk b (h.lowR k h2 b e), fun k h2 p hp => (h.is.gram k h2 p hp).same fun b e => hk b (h.lowG k h2 p hp b e), h.is.apart, h.is.ne, h.is.hN,
    h.is.bel.trans ⟨hos.1, hos.2.1, hos.2.2, hs, fun b hb => hk b (Nat.lt_of_lt_of_le hb h.low0)⟩⟩, Nat.le_trans h.size hs, h.low0, h.lowN, h.lowR, h.lowG⟩
theorem NetLow.stb {w0 : World} {N : Nat} {r : Nat → Value} {g : Nat → List Gr} (B : Nat) : Stb B (NetLow w0 N r g B) := fun A A' row h hg hr =>
  h.keep (fun k hk => hg.block k (Nat.lt_of_lt_of_le hk h.size) (fun e => by have := (hr k e.symm).1; omega)) hg.size ⟨hg.os, hg.tape, hg.output⟩
theorem RY_stb (B B' : Nat) (x : Yd) : Stb B (RY B' x) := by
  intro A A' row h hg hr
  refine OffRow.grown h hg fun b e e2 => ?_
  obtain ⟨_, o, ho, hb⟩ := hr b e2
  obtain ⟨_, cur, hc⟩ := OffRow.own h e
  rw [hc] at ho; cases ho; simp [isBook, prot] at hb

theorem OffRow.addr {W : World} {base n c : Nat} {e : TypeId} {q : Option Addr} {vs : List Value} (h : OffRow W base e (.slice q n c) vs) (hz : 0 < vs.length) : ∃ p r, q = some ⟨p, r, none⟩ := by
  obtain ⟨g, o, c', e, hc⟩ := h.at_ (k := 0) hz
  cases e
  exact ⟨_, _, rfl⟩
theorem OffRow.cellG {W : World} {base p r n c : Nat} {e : TypeId} {vs : List Value} (h : OffRow W base e (.slice (some ⟨p, r, none⟩) n c) vs) (k : Nat) (hk : k < vs.length) : W.cell? ⟨p, r + k, none⟩ = some vs[k] := by
  obtain ⟨g, o, c', e, hc⟩ := h.at_ (k := k) hk
  cases e
  exact hc
/-- What All reads. -/
def PreY (w0 : World) (N : Nat) (r : Nat → Value) (g : Nat → List Gr) (k B1 B2 : Nat) (W : World) : Prop :=
  W.cell? ⟨B1, 0, none⟩ = some (.pointer (some ⟨N, 0, none⟩)) ∧ W.cell? ⟨B2, 0, none⟩ = some (.int .i64 k) ∧ NetIs w0 N r g W
/-- The copy of the row of what waits stays. -/
theorem OffRow.bk {B : Nat} {v : Value} {vs : List Value} {W W' : World} (h : OffRow W B 68 v vs) (hk : KeepBk B W W') : OffRow W' B 68 v vs := h.same fun b e => by
  obtain ⟨h1, cur, hc⟩ := h.own e
  rw [hc]; exact hk.same _ _ h1 hc rfl

set_option maxRecDepth 100000 in
set_option maxHeartbeats 1000000 in
theorem all50 (w0 : World) (N : Nat) (r : Nat → Value) (g : Nat → List Gr) (k B1 B2 : Nat) (hk : k < 2) (hl : (g k).length ≤ 64) (hx : ∀ p ∈ g k, p.2.length ≤ 600) :
    Iters Try.prog 50 #[.pointer (some ⟨B1, 0, none⟩), .pointer (some ⟨B2, 0, none⟩)] encY (AllS ((g k).map Prod.snd)) (PreY w0 N r g k B1 B2) RY := by
  intro l J Jx W hJ hJx hpre hY h0
  obtain ⟨b1, b2, hn⟩ := hpre _ _ h0
  have W45 := Lib.hid (way_ok hn k hk)
  have c1 := hn.cellAt hk
  obtain ⟨q, L, c, e1⟩ := (hn.row k hk).form'
  have hL : L = (g k).length := by have := (hn.row k hk).len'' e1; simpa using this
  rw [e1] at c1
  have C51 := Lib.hid (cloneR_any (.slice q L c) ((g k).map encG) W (by rw [← e1]; exact (hn.row k hk).rd) (by simp; omega) (by intro u hu; obtain ⟨p, _, rfl⟩ := List.mem_map.1 hu; rfl))
  refine callsIn_of_wp Try.func50 rfl trivial ?_
  simp only [Try.ntmps50, List.size_toArray, List.length_cons, List.length_nil, Nat.reduceAdd, Nat.reduceSub, Array.replicate_succ, Array.replicate_zero, List.push_toArray, List.append_toArray, List.nil_append, List.cons_append]
  have hys : ((g k).map Prod.snd).length = L := by rw [List.length_map, hL]
  obtain ⟨ys, hyy⟩ : ∃ ys, ys = (g k).map Prod.snd := ⟨_, rfl⟩
  rw [← hyy] at hys hY ⊢
  have Hys := Lib.hid hys
  have Hyy := Lib.hid hyy
  have hL64 : L ≤ 64 := by omega
  have HL := Lib.hid hL
  clear hys hyy hL e1
  gi_wp2_with (first
    | (gi_at_call 45; refine ((callsIn_wide (n := 0)).2 W45.out).mono ?_; rintro e w' ⟨rfl, rfl⟩)
    | (gi_at_call 51; refine ((callsIn_wide (n := 0)).2 C51.out).mono ?_; rintro e W1 ⟨v, rfl, hrow, hb1⟩; obtain ⟨q1, L1, c1', rfl⟩ := hrow.form'))
  obtain rfl : L1 = L := by have := hrow.len'; rw [List.length_map] at this; rw [this, HL.out]
  have hj1 : J [] W1 := hJ [] _ _ none h0 (Below.grown_ hb1) (fun r e => by cases e)
  have hk1 : KeepBk W.heap.size W W1 := KeepBk.of_below hb1
  gi_loopw [21] (fun c wr => ∃ (i : Nat) (pre : List Yd), i ≤ L1 ∧ c = .int .i64 i ∧ pre.map tagY = (zips ys).take i ∧ J pre wr ∧ OffRow wr W.heap.size 68 (.slice q1 L1 c1') ((g k).map encG) ∧ W.heap.size ≤ wr.heap.size) (fun c _ => L1 - (intOf c).toNat)
  case atStart => exact ⟨0, [], by omega, rfl, rfl, hj1, hrow, hb1.size⟩
  case round =>
    clear hj1 hk1 hrow hb1 c1 b1 b2 hn h0 W45 C51
    obtain ⟨i, pre, hi, rfl, hpr, hj, hrow, hsz⟩ := hrel
    by_cases hlt : i < L1
    · obtain ⟨gb, go, rfl⟩ := hrow.addr (by rw [List.length_map, ← HL.out]; omega)
      have hc := hrow.cellG i (by rw [List.length_map, ← HL.out]; exact hlt)
      have hin : i < (g k).length := by rw [← HL.out]; exact hlt
      rw [List.getElem_map] at hc
      obtain ⟨_, _, hn⟩ := hpre _ _ hj
      have hgr := hn.gram k hk _ (List.getElem_mem hin)
      have C47 := Lib.hid (clone8_any (encG (g k)[i]) (g k)[i].2 wr hgr.rd (by have := hx _ (List.getElem_mem hin); omega))
      have hyi : i < ys.length := by rw [Hys.out]; exact hlt
      have hye : ys[i] = (g k)[i].2 := by simp only [Hyy.out, List.getElem_map]
      obtain ⟨qd, ld, cd, ed⟩ : ∃ qd ld cd, encG (g k)[i] = .slice qd ld cd := ⟨_, _, _, rfl⟩
      rw [ed] at hc C47
      rw [← hye] at C47
      have Hrow := Lib.hid hrow
      clear hgr hn ed hin hye hrow
      gi_wp2_with (first
        | (gi_at_call 47; refine ((callsIn_wide (n := 0)).2 C47.out).mono ?_; rintro e W2 ⟨v, rfl, hv, hb2⟩; obtain ⟨qv, lv, cv, rfl⟩ := hv.form'
           have hj2 : J pre W2 := hJ pre _ _ none hj (Below.grown_ hb2) (fun r e => by cases e)
           obtain ⟨fn, tmps, assign, body, hy, hR⟩ := hY pre (i, (qv, lv, cv), ys[i]) _ W2 (allS_split ys pre i hpr hyi (qv, lv, cv)) hj2 (OffRow.mono hv hsz)
           simp only [encY, encS] at hy))
      refine hR.mono ?_
      rintro e W3 (⟨rfl, hk3, hj3⟩ | ⟨rfl, hk3, hj3⟩)
      · gi_wp2
        go_roundw
        case rel => exact ⟨i + 1, _, by omega, by go_num, allS_next ys pre i hpr hyi _, hj3, (Hrow.out.bk (KeepBk.of_below hb2)).bk hk3, Nat.le_trans hsz (Nat.le_trans hb2.size hk3.size)⟩
        case measure => simp [intOf]; omega
      · gi_wp2
        refine bodyPost_ret (results_none rfl _ _ _) rfl ?_
        exact IterEnd.part _ _ (by rw [List.append_assoc]; exact allS_split ys pre i hpr hyi _) hj3
    · obtain rfl : i = L1 := by omega
      gi_wp2
      go_end0
      exact IterEnd.all pre (by unfold AllS; rw [hpr, List.take_of_length_le (by rw [zips_len, Hys.out]; omega)]) hj
set_option maxHeartbeats 1000000 in
theorem all50_nil (B1 B2 : Nat) (k : Int) : Iters Try.prog 50 #[.pointer (some ⟨B1, 0, none⟩), .pointer (some ⟨B2, 0, none⟩)] encY (AllS []) (fun W => W.cell? ⟨B1, 0, none⟩ = some (.pointer none) ∧ W.cell? ⟨B2, 0, none⟩ = some (.int .i64 k)) RY := by
  intro l J Jx W hJ hJx hpre hY h0
  obtain ⟨b1, b2⟩ := hpre _ _ h0
  have W45 := Lib.hid (way_nil k W)
  refine callsIn_of_wp Try.func50 rfl trivial ?_
  simp only [Try.ntmps50, List.size_toArray, List.length_cons, List.length_nil, Nat.reduceAdd, Nat.reduceSub, Array.replicate_succ, Array.replicate_zero, List.push_toArray, List.append_toArray, List.nil_append, List.cons_append]
  gi_wp2_with (gi_at_call 45; refine ((callsIn_wide (n := 0)).2 W45.out).mono ?_; rintro e w' ⟨rfl, rfl⟩)
  refine bodyPost_ret (results_none rfl _ _ _) rfl ?_
  exact IterEnd.all [] rfl h0
theorem enters50 : ∀ args w, (callFunc 50 args).run Try.prog w = .ok (.enter 50 args) w := fun _ _ => (enters_of Try.func50 (by kernel_rfl) rfl) _ _
/-- All makes two boxes. -/
theorem all36 (p : Value) (hp : ∃ a, p = .pointer a) (k : Int) (W : World) : Calls Try.prog 36 #[p, .int .i64 k] W fun e W' =>
    e = .returned (.func (.func 50) #[] #[.pointer (some ⟨W.heap.size, 0, none⟩), .pointer (some ⟨W.heap.size + 1, 0, none⟩)]) ∧ W' = (W.alloc (.cells #[p] 70)).alloc (.cells #[.int .i64 k] 3) := by
  obtain ⟨a, rfl⟩ := hp
  go_enter Try.func36, Try.ntmps36
  go_wp2
  go_ret
  exact ⟨rfl, rfl⟩
theorem safe35 (g : Nat) (lb : Array Value) (w : World) : Calls Try.prog 35 #[.func (.func g) #[] lb] w fun e w' => e = .returned (.func (.func g) #[] lb) ∧ w = w' := by
  have hrun : Sem.run Try.prog (binOp BinOp.eql 86 (Value.func (.func g) #[] lb) Value.nilFunc) w = .ok (.bool false) w := by kernel_rfl
  go_enter Try.func35, Try.ntmps35
  go_wp2
  go_ret
  exact ⟨rfl, rfl⟩
/-- Two such loops leave two marks. -/
theorem leave_mark2 {P : Program} {fn : Func} {R : Ending → World → Prop} {tmps : Array Value} {W : World} {D D2 : Nat} {v : Value} {e : Exit} (he : e = .normal ∨ e = .ret) (hK : W.heap[D]? = some (.deferred (some []))) (hK2 : W.heap[D2]? = some (.deferred (some []))) (hD : D2 ≠ D)
    (hr : (results fn tmps).run P ((W.putObj D (.deferred none)).putObj D2 (.deferred none)) = .ok v ((W.putObj D (.deferred none)).putObj D2 (.deferred none))) (hR : R (.returned v) ((W.putObj D (.deferred none)).putObj D2 (.deferred none))) :
    bodyPostM Fence.wide 0 P fn R e { tmps := tmps, defers := [{ target := .collected D, args := #[] }, { target := .collected D2, args := #[] }] } W := by
  have hK3 : (W.putObj D (.deferred none)).heap[D2]? = some (.deferred (some [])) := (World.putObj_heap_other (by omega)).trans hK2
  rcases he with rfl | rfl <;> exact ⟨by simp, .inl ⟨_, _, rfl, run_takeDeferred hK, ⟨by simp, .inl ⟨_, _, rfl, run_takeDeferred hK3, ⟨v, hr, hR⟩⟩⟩⟩⟩
end Go.Proofs.Ytbmhgdfkkiepaaa
