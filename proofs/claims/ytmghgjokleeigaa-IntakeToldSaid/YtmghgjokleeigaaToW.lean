/-
  IntakeTold: the walk.
-/
import Derived.Test.YtmghgjokleeigaaToS
import Derived.Shelf.RegionOpen
namespace Go.Proofs.Ytmghgjokleeigaa
open Go.RowKit Go.Shelf Go.Maps
attribute [local go_sem] Oper.semAt_some wide_fn_eq wide_depth

theorem told_leave {w : World} {I M T n fl : Nat} {q : Qv} {Ds : List Nat} {W W5 : World} {tmps : Array Value} {e : Exit} (h : ToldS w I M T n fl q Ds W) (hw : Below W.heap.size W W5) (he : e = .normal ∨ e = .ret)
    (hr : tmps.getD 2 undef = .bool true) : bodyPostM Fence.wide 0 Try.prog Try.f7 (TruePost w) e { tmps := tmps, defers := marks Ds } W5 := by
  have hm := h.mks
  refine leave_marks he Ds hm.1 (fun D hD => (hw.block D (block_lt (hm.2 D hD).2)).trans (hm.2 D hD).2) (v := .bool true) ?_ ⟨rfl, ?_⟩
  · rw [results_tmp (t := 2) rfl, hr]
  · exact unmark_below Ds W5 w (h.kp.bel.trans (hw.mono h.kp.bel.size)) (fun D hD => (hm.2 D hD).1)
theorem ToldS.below {w : World} {I M T n fl : Nat} {q : Qv} {Ds : List Nat} {W W' : World} (h : ToldS w I M T n fl q Ds W) (hb : Below W.heap.size W W') : ToldS w I M T n fl q Ds W' := by
  obtain ⟨ks, h1, h2⟩ := h.tk
  exact ⟨h.kp.same hb, h.wn, h.pay, h.sixty, ⟨ks, h1.same (hb.block _ h1.lt), h2⟩, h.mks.keep fun D e => (hb.block D (block_lt e)).trans e, h.lo, h.ne⟩
/-- What Take has done. -/
structure Took (w : World) (I M n fl : Nat) (q : Qv) (N : Nat) (W W' : World) (fate l : Nat) (n' fl' : Nat) (q' : Qv) : Prop where
  kp : Kept w I M n' fl' q' (fun _ => True) W'
  wn : Win q' fl'
  st : Still I M W W'
  n1 : n' ≤ n + 1
  f1 : 1 ≤ fate ∧ fate ≤ 3
  no : fate ≠ 1 → l = 0 ∧ fl' = fl ∧ q' = q
  yes : fate = 1 → ∀ j, (j < fl' ∨ q' j ≠ none) ↔ (j < fl ∨ q j ≠ none) ∨ j = N
  sub : ∀ j xs, q' j = some xs → q j = some xs ∨ (j = N ∧ xs = payloadL N)
  top : fl' ≤ fl ∨ (q (fl' - 1) ≠ none ∨ fl' - 1 = N)
def TookPost (w : World) (I M n fl : Nat) (q : Qv) (N : Nat) (W : World) (e : Ending) (W' : World) : Prop :=
  ∃ (p : Option Addr) (l cp fate n' fl' : Nat) (q' : Qv), e = .returned (.tuple #[.slice p l cp, .int .i64 (fate : Nat), .int .i64 0]) ∧ l ≤ 16 ∧ Took w I M n fl q N W W' fate l n' fl' q'
theorem took_any {w : World} {I M n fl : Nat} {q : Qv} {W : World} (h : Kept w I M n fl q (fun _ => True) W) (hw : Win q fl) (N : Nat) (hN : N < 60) (p : Option Addr) (l cp : Nat) {base : Nat} (ho : OffRow W base 5 (.slice p l cp) (byts (payloadL N))) (hfl : fl ≤ 60) (hn : n ≤ 1000) :
    Calls Try.prog 43 #[.pointer (some ⟨I, 0, none⟩), .int .u32 N, .slice p l cp] W (TookPost w I M n fl q N W) := by
  have hl : l = 2 + N % 7 := by have := ho.len'; rw [List.length_map, payloadL_len] at this; exact this
  by_cases ha : N < fl ∨ q N ≠ none
  · refine (kept_again h N (by omega) p l cp (by omega) ha (by omega)).mono ?_
    rintro e W' ⟨rfl, rfl⟩
    exact ⟨none, 0, 0, 2, n, fl, q, rfl, by omega, ⟨h, hw, Still.refl _ _ _, by omega, by omega, fun _ => ⟨rfl, rfl, rfl⟩, fun e => absurd e (by omega), fun j xs e => .inl e, .inl (Nat.le_refl _)⟩⟩
  · have ha1 : ¬ N < fl := fun e => ha (.inl e)
    have ha2 : q N = none := by cases e : q N with | none => rfl | some _ => exact absurd (.inr (by rw [e]; simp)) ha
    by_cases hf : fl + 16 ≤ N
    · refine (kept_far h hw N (by omega) p l cp (by omega) (by omega) hf).mono ?_
      rintro e W' ⟨rfl, rfl⟩
      exact ⟨none, 0, 0, 3, n, fl, q, rfl, by omega, ⟨h, hw, Still.refl _ _ _, by omega, by omega, fun _ => ⟨rfl, rfl, rfl⟩, fun e => absurd e (by omega), fun j xs e => .inl e, .inl (Nat.le_refl _)⟩⟩
    · refine (kept_take h hw N (by omega) p l cp (by omega) ha2 (by omega) (by omega) (by omega) (by omega) (payloadL N) ho.rd (by rw [payloadL_len, hl])).mono ?_
      rintro e W' ⟨p', l', cp', G, rfl, rfl, hr, _, _, hk, hw', hst, h16⟩
      have hup : ∀ j xs, restQ (upd q N (some (payloadL N))) fl G.length j = some xs → q j = some xs ∨ (j = N ∧ xs = payloadL N) := fun j xs e => by
        unfold restQ at e
        by_cases hc : fl ≤ j ∧ j < fl + G.length
        · rw [if_pos hc] at e; cases e
        · rw [if_neg hc] at e
          by_cases e2 : j = N
          · subst e2; rw [upd_same] at e; cases e; exact .inr ⟨rfl, rfl⟩
          · rw [upd_other _ _ e2] at e; exact .inl e
      have hat : ∀ j, fl ≤ j → j < fl + G.length → q j ≠ none ∨ j = N := fun j h1 h2 => by
        have := hr.at_ (j - fl) (by rw [List.length_map]; omega)
        rw [show fl + (j - fl) = j by omega] at this
        by_cases e2 : j = N
        · exact .inr e2
        · rw [upd_other _ _ e2] at this; exact .inl (by rw [this]; simp)
      refine ⟨p', G.length, cp', 1, n + 1, fl + G.length, _, rfl, h16, ⟨hk.mono (fun _ _ => trivial) (Nat.le_refl _), hw', hst, by omega, by omega, fun e => absurd rfl e, fun _ j => ?_, hup, ?_⟩⟩
      · unfold restQ
        by_cases hc : fl ≤ j ∧ j < fl + G.length
        · refine ⟨fun _ => ?_, fun _ => .inl hc.2⟩
          rcases hat j hc.1 hc.2 with h1 | h1
          · exact .inl (.inr h1)
          · exact .inr h1
        · rw [if_neg hc]
          by_cases e2 : j = N
          · subst e2
            rw [upd_same]
            exact ⟨fun _ => .inr rfl, fun _ => .inr (by simp)⟩
          · rw [upd_other _ _ e2]
            refine ⟨fun h => ?_, fun h => ?_⟩
            · rcases h with h | h
              · exact .inl (.inl (by omega))
              · exact .inl (.inr h)
            · rcases h with (h | h) | h
              · exact .inl (by omega)
              · exact .inr h
              · exact absurd h e2
      · by_cases hz : G.length = 0
        · exact .inl (by omega)
        · rcases hat (fl + G.length - 1) (by omega) (by omega) with h1 | h1
          · exact .inr (.inl h1)
          · exact .inr (.inr h1)
theorem range_part {pre rest : List Nat} {x n : Nat} (h : pre ++ x :: rest = List.range' 0 (n - 0)) (hn : n ≤ 60) : x < 60 ∧ x ∉ pre ∧ pre.length < 60 := by
  have hx : x ∈ List.range' 0 (n - 0) := by rw [← h]; simp
  rw [List.mem_range'_1] at hx
  have hnd : (List.range' 0 (n - 0)).Nodup := List.nodup_range' ..
  rw [← h, List.nodup_append] at hnd
  have hl := congrArg List.length h
  simp at hl
  exact ⟨by omega, fun hm => hnd.2.2 x hm x (by simp) rfl, by omega⟩
theorem ids_part {q : Qv} {fl : Nat} {pre rest : List Nat} {x : Nat} (h : pre ++ x :: rest = idsQ q fl) (hw : Win q fl) (h60 : ∀ j, q j ≠ none → j < 60) : x < 60 ∧ x ∉ List.range' 0 (fl - 0) ++ pre ∧ pre.length < 15 := by
  have hx : x ∈ idsQ q fl := by rw [← h]; simp
  have hx2 := (mem_idsQ hw x).1 hx
  have hnd := nodup_idsQ q fl
  rw [← h, List.nodup_append] at hnd
  have hl := len_idsQ q fl
  rw [← h] at hl
  simp at hl
  refine ⟨h60 x hx2, fun hm => ?_, by omega⟩
  rcases List.mem_append.1 hm with hm | hm
  · rw [List.mem_range'_1] at hm
    have := hw.lo x hx2
    omega
  · exact hnd.2.2 x hm x (by simp) rfl
def sumN (l : List Nat) : Nat := (l.map fun m => 2 + m % 7).sum
theorem sumN_snoc (l : List Nat) (x : Nat) : sumN (l ++ [x]) = sumN l + (2 + x % 7) := by simp [sumN]
theorem sumN_le (l : List Nat) : sumN l ≤ 8 * l.length := by
  induction l with
  | nil => simp [sumN]
  | cons a l ih => simp only [sumN, List.map_cons, List.sum_cons, List.length_cons] at *; omega
/-- The book of what was taken stays. -/
theorem Took.base {w : World} {I M T n fl : Nat} {q : Qv} {Ds : List Nat} {N : Nat} {W W' : World} {fate l n' fl' : Nat} {q' : Qv} (h : ToldS w I M T n fl q Ds W) (ht : Took w I M n fl q N W W' fate l n' fl' q') (hN : N < 60) :
    (∃ ks : List Nat, MapU T n ks W' ∧ ∀ j, j ∈ ks ↔ j < fl ∨ q j ≠ none) ∧ MarksIn w.heap.size Ds W' ∧ (∀ j xs, q' j = some xs → xs = payloadL j) ∧ (∀ j, q' j ≠ none → j < 60) ∧ T ≠ I := by
  obtain ⟨ks, h1, h2⟩ := h.tk
  obtain ⟨⟨cs, hI⟩, es, kk, hM⟩ := h.kp.boxes
  obtain ⟨es', kk', hT⟩ := h1.obj
  have hTI : T ≠ I := by rintro rfl; rw [hI] at hT; cases hT
  refine ⟨⟨ks, h1.same (ht.st.same T h1.lt hTI h.ne), h2⟩, h.mks.keep fun D e => (ht.st.same D (block_lt e) ?_ ?_).trans e, fun j xs e => ?_, fun j e => ?_, hTI⟩
  · rintro rfl; rw [hI] at e; cases e
  · rintro rfl; rw [hM] at e; cases e
  · rcases ht.sub j xs e with h3 | ⟨rfl, h3⟩
    · exact h.pay j xs h3
    · exact h3
  · cases e2 : q' j with
    | none => exact absurd e2 e
    | some xs =>
      rcases ht.sub j xs e2 with h3 | ⟨rfl, h3⟩
      · exact h.sixty j (by rw [h3]; simp)
      · exact hN
theorem told_no {w : World} {I M T n fl : Nat} {q : Qv} {Ds : List Nat} {N : Nat} {W W' W2 : World} {fate l n' fl' : Nat} {q' : Qv} (h : ToldS w I M T n fl q Ds W) (ht : Took w I M n fl q N W W' fate l n' fl' q') (hN : N < 60) (hf : fate ≠ 1) (hb : Below W'.heap.size W' W2) : ToldS w I M T (n + 1) fl' q' Ds W2 := by
  obtain ⟨⟨ks, h1, h2⟩, h3, h4, h5, _⟩ := ht.base h hN
  obtain ⟨_, e1, e2⟩ := ht.no hf
  have : ToldS w I M T (n + 1) fl' q' Ds W' := ⟨ht.kp.mono (fun _ h => h) ht.n1, ht.wn, h4, h5, ⟨ks, h1.more (by omega), by rw [e1, e2]; exact h2⟩, h3, h.lo, h.ne⟩
  exact this.below hb
theorem told_yes {w : World} {I M T n fl : Nat} {q : Qv} {Ds : List Nat} {N : Nat} {W W' W2 W3 : World} {fate l n' fl' : Nat} {q' : Qv} {ks : List Nat} (h : ToldS w I M T n fl q Ds W) (ht : Took w I M n fl q N W W' fate l n' fl' q') (hN : N < 60) (hf : fate = 1) (hb : Below W'.heap.size W' W2)
    (hks : ∀ j, j ∈ ks ↔ j < fl ∨ q j ≠ none) (hm : MapU T (n + 1) (addN ks N) W3) (htu : W2.mapTurned W3 T) : ToldS w I M T (n + 1) fl' q' Ds W3 := by
  obtain ⟨_, h3, h4, h5, hTI⟩ := ht.base h hN
  have hk := turned_block htu
  have hsz := turned_size htu
  obtain ⟨o1, o2, o3⟩ := turned_os htu
  have k2 := ht.kp.same hb
  obtain ⟨es0, k0, hT0⟩ : ∃ es k, W2.heap[T]? = some (.map es k) := by obtain ⟨es, c, _, _, hh, _⟩ := htu; exact ⟨es, c, hh⟩
  refine ⟨(k2.keep (fun b o e ho => (hk b ?_).trans e) (k2.bel.trans ⟨o1, o2, o3, Nat.le_of_eq hsz.symm, fun b hb => hk b (by have := h.lo; omega)⟩)).mono (fun _ h => h) ht.n1, ht.wn, h4, h5, ⟨_, hm, fun j => ?_⟩, ?_, h.lo, h.ne⟩
  · rcases ho with rfl | rfl | ⟨_, cs, f, rfl⟩
    · exact Ne.symm hTI
    · exact Ne.symm h.ne
    · rintro rfl; rw [hT0] at e; cases e
  · rw [mem_addN, hks]; exact (ht.yes hf j).symm
  · refine (h3.keep fun D e => (hb.block D (block_lt e)).trans e).keep fun D e => (hk D ?_).trans e
    rintro rfl; rw [hT0] at e; cases e
theorem round2 {wc W12 W W' w' : World} {fl' D s11 sp r7 : Nat} {pre : List Nat} {x : Nat} {es0 : Array MapEntry} {k0 : Nat}
    (h1 : W.heap[wc.heap.size + 1]? = some (.cells #[.map (some wc.heap.size)] 65 (0, 0))) (h2 : W.heap[wc.heap.size + 1 + 1]? = some (.cells #[.int .i64 (sumN pre : Nat)] 3 (0, 0)))
    (h3 : Lies s11 W12.heap.size W12 W ∧ W12.heap.size ≤ W.heap.size) (h4 : W.heap[D]? = some (.deferred (some [])))
    (hm : MapU wc.heap.size (fl' + pre.length + 1) (List.range' 0 (fl' - 0) ++ pre ++ [x]) W') (ht : W.mapTurned W' wc.heap.size) (hk : ∀ b : Nat, b ≠ wc.heap.size → W'.heap[b]? = W.heap[b]?) (hB : Below wc.heap.size wc W)
    (ho : W.heap[wc.heap.size]? = some (.map es0 k0)) (hsp : sumN pre ≤ 8 * pre.length) (hpl : pre.length < 15) (hz : wc.heap.size + 3 ≤ s11) (hspd : sp = sumN pre) (hr7 : r7 = x % 7) (hb : Below W'.drew.heap.size W'.drew w') :
    ownP W12.heap.size (fun pre W => Below wc.heap.size wc W ∧ MapU wc.heap.size (fl' + pre.length) (List.range' 0 (fl' - 0) ++ pre) W ∧ W.heap[wc.heap.size + 1]? = some (.cells #[.map (some wc.heap.size)] 65 (0, 0)) ∧ W.heap[wc.heap.size + 1 + 1]? = some (.cells #[.int .i64 (sumN pre : Nat)] 3 (0, 0)) ∧ (Lies s11 W12.heap.size W12 W ∧ W12.heap.size ≤ W.heap.size) ∧ W.heap[D]? = some (.deferred (some [])))
      (fun _ _ _ => False) (pre ++ [x]) W .normal { tmps := #[], defers := [] } (w'.setCell ⟨wc.heap.size + 1 + 1, 0, none⟩ (.int .i64 (IntKind.i64.wrap ((sp : Int) + (2 + (x : Int) % 7))))) := by
  have hs : W'.heap.size = W.heap.size := turned_size ht
  have hb' : Below W'.heap.size W' w' := ⟨hb.os, hb.tape, hb.output, hb.size, hb.block⟩
  have hw : ∀ k, k ≠ wc.heap.size → k ≠ wc.heap.size + 1 + 1 → k < W.heap.size → (w'.setCell ⟨wc.heap.size + 1 + 1, 0, none⟩ (.int .i64 (IntKind.i64.wrap ((sp : Int) + (2 + (x : Int) % 7))))).heap[k]? = W.heap[k]? := fun k e1 e2 hlt => by
    rw [setCell_heap_other (by simpa using e2), hb'.block k (by omega), hk k e1]
  have hz2 := block_lt h2
  have hfz : (w'.setCell ⟨wc.heap.size + 1 + 1, 0, none⟩ (.int .i64 (IntKind.i64.wrap ((sp : Int) + (2 + (x : Int) % 7))))).heap.size = w'.heap.size := by simp
  have hws := hb'.size
  have hS2 : (Below wc.heap.size wc (w'.setCell ⟨wc.heap.size + 1 + 1, 0, none⟩ (.int .i64 (IntKind.i64.wrap ((sp : Int) + (2 + (x : Int) % 7)))))) :=
    ((hB.grown ht.grown hB.size (fun j e => by cases e; exact Nat.le_refl _)).trans (hb'.mono (by have := hB.size; omega))).setCell (by simp only; omega) _
  refine ⟨⟨by omega, fun k o hBk hko hbk => ?_⟩, hS2, ?_, ?_, ?_, ⟨fun k h5 h6 => ?_, by omega⟩, ?_⟩
  · refine (hw k (fun e => ?_) (fun e => ?_) (block_lt hko)).trans hko
    · subst e; rw [ho] at hko; cases hko; cases hbk
    · subst e; rw [h2] at hko; cases hko; cases hbk
  · rw [List.length_append, List.length_singleton, ← List.append_assoc, ← Nat.add_assoc]
    refine hm.same ?_
    rw [setCell_heap_other (by simp only; omega)]
    exact hb'.block _ hm.lt
  · rw [hw _ (by omega) (by omega) (by omega)]; exact h1
  · have e : w'.heap[wc.heap.size + 1 + 1]? = some (.cells #[.int .i64 (sumN pre : Nat)] 3 (0, 0)) := by rw [hb'.block _ (by omega), hk _ (by omega)]; exact h2
    rw [one_setCell e, sumN_snoc]
    congr 4
    have : IntKind.i64.wrap ((sp : Int) + (2 + (x : Int) % 7)) = ((sp + (2 + x % 7) : Nat) : Int) := by
      unfold IntKind.wrap
      simp [IntKind.bits, IntKind.signed]
      omega
    rw [this, hspd]
  · rw [hw k (by omega) (by omega) (by have := h3.2; omega)]; exact h3.1 k h5 h6
  · rw [hw D (fun e => by subst e; rw [ho] at h4; cases h4) (fun e => by subst e; rw [h2] at h4; cases h4) (block_lt h4)]; exact h4
theorem sumN_eq {q : Qv} {fl : Nat} (hw : Win q fl) (hp : ∀ j xs, q j = some xs → xs = payloadL j) : sumN (idsQ q fl) = sumQ q fl := by
  unfold sumN sumQ
  congr 1
  refine List.map_congr_left fun j hj => ?_
  cases e : q j with
  | none => exact absurd e ((mem_idsQ hw j).1 hj)
  | some xs => rw [hp j xs e]; simp [payloadL_len]
theorem told_len {q : Qv} {fl : Nat} {ks : List Nat} (hw : Win q fl) (hn : ks.Nodup) (hks : ∀ j, j ∈ ks ↔ j < fl ∨ q j ≠ none) : ks.length = fl + (idsQ q fl).length ∧ ∀ j, j ∈ List.range' 0 (fl - 0) ++ idsQ q fl ↔ j ∈ ks := by
  have hm : ∀ j, j ∈ List.range' 0 (fl - 0) ++ idsQ q fl ↔ j ∈ ks := fun j => by
    rw [List.mem_append, hks, mem_idsQ hw, List.mem_range'_1]
    refine or_congr ⟨fun h => ?_, fun h => ?_⟩ Iff.rfl <;> omega
  refine ⟨?_, hm⟩
  have hnd : (List.range' 0 (fl - 0) ++ idsQ q fl).Nodup := by
    rw [List.nodup_append]
    refine ⟨List.nodup_range' .., nodup_idsQ _ _, fun a ha b hb e => ?_⟩
    subst e
    rw [List.mem_range'_1] at ha
    have := hw.lo a ((mem_idsQ hw a).1 hb)
    omega
  rw [← nodup_len hnd hn hm, List.length_append, List.length_range', Nat.sub_zero]
theorem wrapdiff (f l : Nat) (hf : f ≤ 60) (hl : l ≤ 15) : (IntKind.i64.wrap ((f : Int) + (l : Int) - IntKind.i64.wrap (f : Int)) != (l : Int)) = false := by
  have h1 : IntKind.i64.wrap (f : Int) = f := by
    unfold IntKind.wrap
    simp [IntKind.bits, IntKind.signed]
    omega
  have h2 : IntKind.i64.wrap ((f : Int) + (l : Int) - (f : Int)) = l := by
    unfold IntKind.wrap
    simp [IntKind.bits, IntKind.signed]
    omega
  rw [h1, h2]
  simp
/-- A part that ends: its walk does not see what stands behind. -/
theorem wp_blind {P : Program} {c : Code} {K : Act → World → Prop} {Q : Exit → Act → World → Prop} {a : Act} {w : World} (h : c.wp P (Exit.then K fun _ _ _ => False) a w) : c.wp P (Exit.then K Q) a w :=
  Code.wp_mono (fun e a w h => by cases e <;> first | exact h | exact h.elim) h
set_option maxRecDepth 100000 in
set_option maxHeartbeats 8000000 in
theorem intold_walk (a : Option Addr) (len cap : Nat) (hlen : len ≤ 9223372036854775807) (w : World) (x : Nat → Nat)
    (hx : ∀ i, i < len → (∃ b o, a = some ⟨b, o, none⟩ ∧ b < w.heap.size ∧ w.cell? ⟨b, o + i, none⟩ = some (.int .u8 (x i))) ∧ x i ≤ 255) : Calls Try.prog 7 #[.slice a len cap] w (TruePost w) := by
  have Hx := Lib.hid hx
  clear hx
  have hmm := @run_makeMap Try.prog
  refine (callsIn_wide (n := 0)).1 (callsIn_of_wp_marks Try.func7 rfl trivial ?_)
  refine wpIn_wide.2 ?_
  simp only [Try.ntmps7, List.size_toArray, List.length_cons, List.length_nil, Nat.reduceAdd, Nat.reduceSub, Array.replicate_succ, Array.replicate_zero, List.push_toArray, List.append_toArray, List.nil_append, List.cons_append]
  go_wp2_with fail
  refine (kept_new _).mono ?_
  rintro e w1 ⟨I, M, rfl, h1, b1⟩
  go_wp2_with fail
  have h0 : ToldS w I M w1.heap.size 0 0 (fun _ => none) [] (w1.alloc (.map #[] 0)) :=
    ⟨(h1.al _).mono (fun _ _ => trivial) (Nat.le_refl _), win_none 0, fun _ _ e => (by cases e), fun _ e => absurd rfl e, ⟨[], MapU.made w1, fun j => by simp⟩, MarksIn.nil _ _, b1.size, by have := h1.lt; omega⟩
  generalize w1.alloc (.map #[] 0) = w2 at h0 ⊢
  generalize w1.heap.size = T at h0 ⊢
  clear h1 b1
  refine wp_loop_marks (ToldI a len cap w I M T) len [] ⟨0, 0, 0, _, by omega, by omega, by omega, by omega, by omega, h0, rfl, rfl, rfl, rfl, rfl, rfl, rfl, rfl⟩ ?_
  clear h0
  rintro num Ds t wr ⟨k, n, fl, q, hnum, hk, hk60, hnk, hfl, hS, hfr⟩ K hK
  obtain ⟨u, rfl⟩ := hfr.lit
  clear hfr
  by_cases hlt : k < len
  · obtain ⟨⟨b, o, rfl, hb, a0⟩, hx5⟩ := Hx.out k hlt
    generalize x k = X at a0 hx5
    replace a0 := (hS.kp.bel.cell (p := ⟨b, o + k, none⟩) hb).trans a0
    have HS := Lib.hid hS
    have HK := Lib.hid hK
    have Hnum := Lib.hid hnum
    clear hS hK hnum
    by_cases h60 : k = 60
    · subst h60
      clear Hx hmm
      go_wp2_with fail
      refine (wakes45 _).mono ?_
      rintro e W5 ⟨rfl, hw⟩
      go_wp2
      exact told_leave HS.out hw (.inr rfl) rfl
    · have h60' : ((k : Int) == 60) = false := by rw [beq_eq_false_iff_ne]; omega
      obtain ⟨N, hN⟩ : ∃ N, N = X % 60 := ⟨_, rfl⟩
      have hN60 : N < 60 := by omega
      have hm1 : (X : Int) % 60 = (N : Int) := by omega
      have hm2 : (X : Int).tmod 60 = (N : Int) := by rw [hN]; rfl
      clear hN Hx hb
      go_wp2_with fail
      refine (kept_told HS.out.kp (by omega)).mono ?_
      rintro e W3 ⟨rfl, b3⟩
      have HS3 := Lib.hid (HS.out.below b3)
      clear b3 HS a0
      go_wp2_with fail
      refine (kept_waits HS3.out.kp).mono ?_
      rintro e W' ⟨rfl, rfl⟩
      go_wp2_with fail
      refine (kept_bytes HS3.out.kp HS3.out.wn (by omega)).mono ?_
      rintro e W4 ⟨rfl, b4⟩
      have HS4 := Lib.hid (HS3.out.below b4)
      clear b4 HS3
      go_wp2_with fail
      refine (payload44 N (by omega) _).mono ?_
      rintro e W5 ⟨v5, rfl, o5, b5⟩
      obtain ⟨p5, l5, c5, rfl⟩ := o5.form'
      have HS5 := Lib.hid (HS4.out.below b5)
      have O5 := Lib.hid o5
      clear b5 HS4 o5
      go_wp2_with fail
      refine (took_any HS5.out.kp HS5.out.wn N hN60 p5 l5 c5 O5.out hfl (by omega)).mono ?_
      rintro e W6 ⟨p6, l6, c6, fate, n', fl', q', rfl, h16, ht⟩
      have hf1 := ht.f1.1
      have hf3 := ht.f1.2
      have HT := Lib.hid ht
      have hfl' : fl' ≤ 60 := by
        rcases ht.top with h | h | h
        · omega
        · have := HS5.out.sixty _ h; omega
        · omega
      clear O5 ht
      go_wp2_with fail
      refine (kept_told HT.out.kp (by omega)).mono ?_
      rintro e W7 ⟨rfl, b7⟩
      have B7 := Lib.hid b7
      clear b7
      go_upto_region 14 with fail
      have hl6 : fate = 1 ∨ (l6 : Int) ≤ 0 := by
        by_cases h : fate = 1
        · exact .inl h
        · right; have := (HT.out.no h).1; omega
      go_cut [97] from 69 to 97 (fun v wx => v = .bool false ∧ Below W6.heap.size W6 wx)
      case first =>
        by_cases hf : fate = 1
        · have e0 : ((fate : Int) != 1) = false := by rw [hf]; rfl
          clear hl6
          go_wp2_with fail
          go_meet
          exact ⟨rfl, B7.out⟩
        · have e0 : ((fate : Int) != 1) = true := by simp; omega
          obtain rfl : l6 = 0 := by rcases hl6 with h | h; exact absurd h hf; omega
          obtain ⟨_, hfl2, hq2⟩ := HT.out.no hf
          have e2 : ((fl : Int) != (fl' : Int)) = false := by rw [hfl2]; simp
          have e3 : (((maskQ q fl : Nat) : Int) != ((maskQ q' fl' : Nat) : Int)) = false := by rw [hfl2, hq2]; simp
          have e4 : ((((idsQ q' fl').length : Nat) : Int) != (((idsQ q fl).length : Nat) : Int)) = false := by rw [hfl2, hq2]; simp
          have e5 : (((sumQ q' fl' : Nat) : Int) != ((sumQ q fl : Nat) : Int)) = false := by rw [hfl2, hq2]; simp
          have K7 := Lib.hid (HT.out.kp.same B7.out)
          clear hl6 hfl2 hq2
          go_wp2_with fail
          refine (kept_waits K7.out).mono ?_
          rintro e W' ⟨rfl, rfl⟩
          go_wp2_with fail
          refine (kept_bytes K7.out HT.out.wn (by omega)).mono ?_
          rintro e W8 ⟨rfl, b8⟩
          have B8 := Lib.hid (B7.out.trans (b8.mono B7.out.size))
          clear b8
          go_wp2_with fail
          go_meet
          exact ⟨rfl, B8.out⟩
      case rest =>
        clear hl6
        obtain ⟨rfl, hb8⟩ := hcut
        have HB8 := Lib.hid hb8
        clear hb8 B7
        go_upto_if 99 with fail
        go_cut [] from 100 to 101 (fun wx => ToldS w I M T (n + 1) fl' q' Ds wx)
        case first =>
          by_cases hf : fate = 1
          · have e0 : ((fate : Int) == 1) = true := by rw [hf]; rfl
            obtain ⟨⟨ks, h1, h2⟩, _⟩ := HT.out.base HS5.out hN60
            obtain ⟨W9, hupd, hm9, ht9⟩ := (h1.same (HB8.out.block _ h1.lt)).put (by omega) N (by omega)
            have H9 := Lib.hid (told_yes HS5.out HT.out hN60 hf HB8.out h2 hm9 ht9)
            clear h1 h2 hm9 ht9 hf
            go_wp2_with fail
            go_meet
            exact H9.out
          · have e0 : ((fate : Int) == 1) = false := by simp; omega
            have H9 := Lib.hid (told_no HS5.out HT.out hN60 hf HB8.out)
            clear hf
            go_wp2_with fail
            go_meet
            exact H9.out
        case rest =>
          have HS9 := Lib.hid hcut
          clear hcut HT HS5 HB8
          go_wp2_with fail
          refine (spanAll_any 0 fl' _).mono ?_
          rintro e w' ⟨rfl, rfl⟩
          go_wp2_with fail
          refine (safe_any _ _ _).mono ?_
          rintro e w' ⟨rfl, rfl⟩
          go_wp2_with fail
          have J0 : Below wc.heap.size wc ((((wc.alloc (.map #[] 0)).alloc (.cells #[.map (some wc.heap.size)] 65)).alloc (.cells #[.int .i64 0] 3)).alloc (.cells #[.int .u32 0, .int .u32 fl'] 25)) :=
            ((((Below.refl _ _).alloc (Nat.le_refl _) _).alloc (by simp) _).alloc (by simp only [World.size_alloc]; omega) _).alloc (by simp only [World.size_alloc]; omega) _
          have J1 : MapU wc.heap.size 0 [] ((((wc.alloc (.map #[] 0)).alloc (.cells #[.map (some wc.heap.size)] 65)).alloc (.cells #[.int .i64 0] 3)).alloc (.cells #[.int .u32 0, .int .u32 fl'] 25)) := (MapU.made wc).same (by
            simp only [alloc_at, World.size_alloc]; repeat (first | rfl | rw [if_pos (by omega)] | rw [if_neg (by omega)]))
          have J2 : ((((wc.alloc (.map #[] 0)).alloc (.cells #[.map (some wc.heap.size)] 65)).alloc (.cells #[.int .i64 0] 3)).alloc (.cells #[.int .u32 0, .int .u32 fl'] 25)).heap[wc.heap.size + 1]? = some (.cells #[.map (some wc.heap.size)] 65 (0, 0)) := by
            simp only [alloc_at, World.size_alloc]; repeat (first | rfl | rw [if_pos (by omega)] | rw [if_neg (by omega)])
          have J3 : ((((wc.alloc (.map #[] 0)).alloc (.cells #[.map (some wc.heap.size)] 65)).alloc (.cells #[.int .i64 0] 3)).alloc (.cells #[.int .u32 0, .int .u32 fl'] 25)).heap[wc.heap.size + 1 + 1]? = some (.cells #[.int .i64 0] 3 (0, 0)) := by
            simp only [alloc_at, World.size_alloc]; repeat (first | rfl | rw [if_pos (by omega)] | rw [if_neg (by omega)])
          have J4 : ((((wc.alloc (.map #[] 0)).alloc (.cells #[.map (some wc.heap.size)] 65)).alloc (.cells #[.int .i64 0] 3)).alloc (.cells #[.int .u32 0, .int .u32 fl'] 25)).heap[wc.heap.size + 1 + 1 + 1]? = some (.cells #[.int .u32 0, .int .u32 fl'] 25 (0, 0)) := by
            simp only [alloc_at, World.size_alloc]; repeat (first | rfl | rw [if_pos (by omega)] | rw [if_neg (by omega)])
          generalize (((wc.alloc (.map #[] 0)).alloc (.cells #[.map (some wc.heap.size)] 65)).alloc (.cells #[.int .i64 0] 3)).alloc (.cells #[.int .u32 0, .int .u32 fl'] 25) = W10 at J0 J1 J2 J3 J4 ⊢
          have hz10 := J0.size
          refine (wpIn_wide (n := 0)).1 ?_
          refine wp_range (gf := 65) rfl enters65 (all1 (wc.heap.size + 1 + 1 + 1) 0 fl' (by omega) (by omega)) (fun _ => by rfl)
            (fun pre W => Below wc.heap.size wc W ∧ MapU wc.heap.size pre.length pre W ∧ W.heap[wc.heap.size + 1]? = some (.cells #[.map (some wc.heap.size)] 65 (0, 0)) ∧ W.heap[wc.heap.size + 1 + 1]? = some (.cells #[.int .i64 0] 3 (0, 0)) ∧ W.heap[wc.heap.size + 1 + 1 + 1]? = some (.cells #[.int .u32 0, .int .u32 fl'] 25 (0, 0)))
            (fun c pre W => False)
            (fun _ => (Stb.below (Nat.le_refl _) hz10).and (Stb.mapU.and ((Stb.block _ _ _ rfl).and ((Stb.block _ _ _ rfl).and (Stb.block _ _ _ rfl)))))
            (fun c pre => Stb.pure _ _) ?pre ⟨J0, J1, J2, J3, J4⟩ ?a3 ?assign ?body ?done ?stop
          case pre =>
            rintro pre W ⟨_, _, _, _, h⟩
            exact ⟨by simp [World.cell?, h], by simp [World.cell?, h]⟩
          case assign =>
            intro l' x W' K hK
            gi_wp2
            exact hK
          case stop =>
            rintro D c pre rest W hD hS hF
            exact hF.elim
          case body =>
            rintro l' pre x rest W hS hl ⟨_, hr⟩ ⟨hB, hU, h1, h2, h3⟩
            obtain ⟨hx60, hnot, hpl⟩ := range_part hS hfl'
            obtain ⟨W', hupd, hm', ht'⟩ := hU.put (by omega) x (by omega)
            rw [addN, if_neg hnot] at hm'
            have c1 := one_cell h1
            have HB := Lib.hid hB; have H1 := Lib.hid h1; have H2 := Lib.hid h2; have H3 := Lib.hid h3; have HM := Lib.hid hm'; have HT := Lib.hid ht'
            obtain ⟨es0, k0, hobj⟩ := hU.obj
            have HO := Lib.hid hobj
            clear hB h1 h2 h3 hm' ht' hU hr hS hnot hobj J0 J1 J2 J3 J4
            gi_wp2
            have hk := turned_block HT.out
            refine ⟨⟨Nat.le_of_eq (turned_size HT.out).symm, fun k' o hB hko hbk => (hk k' ?_).trans hko⟩, HB.out.grown HT.out.grown HB.out.size (fun j e => by cases e; exact Nat.le_refl _), by rw [List.length_append, List.length_singleton]; exact HM.out, (hk _ (by omega)).trans H1.out, (hk _ (by omega)).trans H2.out, (hk _ (by omega)).trans H3.out⟩
            rintro rfl
            rw [HO.out] at hko; cases hko; cases hbk
          case done =>
            rintro D xs W11 hD rfl ⟨hB, hU, h1, h2, h3⟩ hK
            rw [List.length_range', Nat.sub_zero] at hU
            have hS11 := HS9.out.below hB
            have hD9 : wc.heap.size ≤ D := by omega
            have hM11 : MarksIn w.heap.size (D :: Ds) W11 := hS11.mks.more (Nat.le_trans HS9.out.kp.bel.size hD9) hK (fun hm => by have := block_lt (HS9.out.mks.2 D hm).2; omega)
            have HB := Lib.hid hB; have HU := Lib.hid hU; have H1 := Lib.hid h1; have H2 := Lib.hid h2; have HM11 := Lib.hid hM11; have HKD := Lib.hid hK; have hD11 := block_lt hK
            have hml := maskQ_lt q' fl' (by omega)
            clear hB hU h1 h2 h3 hK J0 J1 J2 J3 J4 hS11 hM11
            go_wp2_with fail
            refine (told_it fl' (maskQ q' fl') (by omega) hml _).mono ?_
            rintro e W12 ⟨gt, lbt, rfl, b12, hit⟩
            rw [toldL_ids HS9.out.wn (by omega)] at hit
            have HIT := Lib.hid hit
            have HB12 := Lib.hid b12
            clear hit b12
            go_wp2_with fail
            refine (safe_any _ _ _).mono ?_
            rintro e w' ⟨rfl, rfl⟩
            go_wp2_with fail
            have hz12 := HB12.out.size
            have hz11 := HB.out.size
            have hlt11 := block_lt H2.out
            have K0 := HB12.out.block _ hlt11
            have K1 := HB12.out.block _ (block_lt H1.out)
            have K2 := HB12.out.block _ HU.out.lt
            have K3 := (HB12.out.block _ hD11).trans HKD.out
            have hD12 : D < W12.heap.size := by omega
            refine (wpIn_wide (n := 0)).1 ?_
            refine wp_range (gf := gt) rfl HIT.out.ent HIT.out.it (fun _ => by rfl)
              (fun pre W => Below wc.heap.size wc W ∧ MapU wc.heap.size (fl' + pre.length) (List.range' 0 (fl' - 0) ++ pre) W ∧ W.heap[wc.heap.size + 1]? = some (.cells #[.map (some wc.heap.size)] 65 (0, 0)) ∧ W.heap[wc.heap.size + 1 + 1]? = some (.cells #[.int .i64 (sumN pre : Nat)] 3 (0, 0)) ∧ (Lies W11.heap.size W12.heap.size W12 W ∧ W12.heap.size ≤ W.heap.size) ∧ W.heap[D]? = some (.deferred (some [])))
              (fun c pre W => False)
              (fun _ => (Stb.below (Nat.le_refl _) (by omega)).and (Stb.mapU.and ((Stb.block _ _ _ rfl).and ((Stb.block _ _ _ rfl).and ((Stb.lies (Nat.le_refl _) (Nat.le_refl _)).and (Stb.low _ _ _ hD12))))))
              (fun c pre => Stb.pure _ _) ?pre2 ⟨HB.out.trans (HB12.out.mono hz11), by rw [List.append_nil]; exact (HU.out.same K2).more (Nat.le_add_right _ _), K1.trans H1.out, K0.trans H2.out, ⟨Lies.refl _ _ _, Nat.le_refl _⟩, K3⟩ ?a4 ?assign2 ?body2 ?done2 ?stop2
            case pre2 =>
              rintro pre W ⟨_, _, _, _, ⟨h, _⟩, _⟩
              exact ⟨h, trivial⟩
            case assign2 =>
              intro l' x W' K hK
              gi_wp2
              exact hK
            case stop2 =>
              rintro D c pre rest W hD hS hF
              exact hF.elim
            case body2 =>
              rintro l' pre x rest W hS hl ⟨_, hr⟩ ⟨hB, hU, h1, h2, h3, h4⟩
              obtain ⟨hx60, hnot, hpl⟩ := ids_part hS HS9.out.wn HS9.out.sixty
              obtain ⟨W', hupd, hm', ht'⟩ := hU.put (by omega) x (by omega)
              have hsp := sumN_le pre
              rw [addN, if_neg hnot] at hm'
              have c1 := one_cell h1
              have hk := turned_block ht'
              have c2 : W'.cell? ⟨wc.heap.size + 1 + 1, 0, none⟩ = some (.int .i64 (sumN pre : Nat)) := one_cell ((hk _ (by omega)).trans h2)
              have f2 : W'.frozen? ⟨wc.heap.size + 1 + 1, 0, none⟩ = false := one_free ((hk _ (by omega)).trans h2)
              have HB := Lib.hid hB; have H1 := Lib.hid h1; have H2 := Lib.hid h2; have H3 := Lib.hid h3; have H4 := Lib.hid h4; have HM := Lib.hid hm'; have HT := Lib.hid ht'; have HKK := Lib.hid hk
              obtain ⟨es0, k0, hobj⟩ := hU.obj
              have HO := Lib.hid hobj
              obtain ⟨sp, hspd⟩ : ∃ sp, sp = sumN pre := ⟨_, rfl⟩
              rw [← hspd] at c2 hsp
              have HSP := Lib.hid hspd
              have hz12' : wc.heap.size + 3 ≤ W11.heap.size := by omega
              clear hB h1 h2 h3 h4 hm' ht' hU hr hS hnot hobj hk hspd K0 K1 K2 K3
              obtain ⟨r7, hr7⟩ : ∃ r, r = x % 7 := ⟨_, rfl⟩
              have hr7b : r7 ≤ 6 := by omega
              have PL : ∀ A : World, A.cell? ⟨wc.heap.size + 1 + 1, 0, none⟩ = some (.int .i64 (sp : Nat)) → A.frozen? ⟨wc.heap.size + 1 + 1, 0, none⟩ = false → Calls Try.prog 44 #[.int .u32 x] A fun e B => ∃ p c, e = .returned (.slice p (2 + r7) c) ∧ Below A.heap.size A B ∧ B.cell? ⟨wc.heap.size + 1 + 1, 0, none⟩ = some (.int .i64 (sp : Nat)) ∧ B.frozen? ⟨wc.heap.size + 1 + 1, 0, none⟩ = false := by
                intro A hc hf
                refine (payload44 x (by omega) A).mono ?_
                rintro e B ⟨v, rfl, ho, hb⟩
                obtain ⟨p, l, c, rfl⟩ := ho.form'
                have hl : l = 2 + r7 := by have := ho.len'; rw [List.length_map, payloadL_len] at this; rw [hr7]; exact this
                subst hl
                exact ⟨p, c, rfl, hb, cell_below hb _ _ hc, (hb.frozen (World.block_lt_of_cell? A _ hc)).trans hf⟩
              have hmx : Try.prog.follows .mixedOrders = true := by kernel_rfl
              gi_wp2_with fail
              gi_region_with_o (gi_at_call 44; refine (CallsIn.inRound l' ((callsIn_wide (n := 0)).2 (PL _ (by simpa using c2) (by simpa using f2)))).mono ?_; rintro e w' ⟨p, c, rfl, hb, hc, hf⟩)
              all_goals exact round2 H1.out H2.out H3.out H4.out HM.out HT.out HKK.out HB.out HO.out (by rw [← HSP.out]; exact hsp) hpl hz12' HSP.out hr7 hb
            case done2 =>
              rintro D2 xs W13 hD2 rfl ⟨hB, hU, h1, h2, ⟨h3, h3z⟩, h4⟩ hK2
              have hS13 := HS9.out.below hB
              have hM13 : MarksIn w.heap.size (D2 :: D :: Ds) W13 := by
                have a1 := HM11.out
                refine (hS13.mks.more (a1.2 D (by simp)).1 h4 (List.nodup_cons.1 a1.1).1).more (Nat.le_trans (a1.2 D (by simp)).1 (by omega)) hK2 (fun hm => ?_)
                have := block_lt (a1.2 D2 hm).2
                omega
              obtain ⟨ks, hT, hTm⟩ := hS13.tk
              obtain ⟨hTl, hTe⟩ := told_len HS9.out.wn hT.1 hTm
              have hsq := sumN_eq HS9.out.wn HS9.out.pay
              rw [hsq] at h2
              obtain ⟨Ls, hLs⟩ : ∃ Ls, Ls = fl' + (idsQ q' fl').length := ⟨_, rfl⟩
              have hlu : (List.range' 0 (fl' - 0) ++ idsQ q' fl').length = Ls := by rw [List.length_append, List.length_range', Nat.sub_zero, hLs]
              have hl15 := len_idsQ q' fl'
              have hUl : ∀ (ty : TypeId) (A : World), Below W13.heap.size W13 A → (Builtin.len_ #[65] ty #[.map (some wc.heap.size)]).run Try.prog A = .ok (.int .i64 (Ls : Nat)) A := fun ty A hA => by
                have := (hU.same (hA.block _ hU.lt)).len ty
                rw [hlu] at this
                exact this
              have hTl2 : ∀ (ty : TypeId) (A : World), Below W13.heap.size W13 A → (Builtin.len_ #[65] ty #[.map (some T)]).run Try.prog A = .ok (.int .i64 (Ls : Nat)) A := fun ty A hA => by
                have := (hT.same (hA.block _ hT.lt)).len ty
                rw [hTl, ← hLs] at this
                exact this
              have c1 := one_cell h1
              have c2 := one_cell h2
              have B0 : Below W13.heap.size W13 W13.drew := ⟨rfl, rfl, rfl, Nat.le_refl _, fun _ _ => rfl⟩
              have l1 := fun ty => hUl ty _ B0
              have l2 := fun ty => hTl2 ty _ B0
              have HS13 := Lib.hid hS13; have HM13 := Lib.hid hM13; have HT13 := Lib.hid hT; have HTe := Lib.hid hTe; have HU13 := Lib.hid hU; have H1' := Lib.hid h1; have H2' := Lib.hid h2
              have HUl := Lib.hid hUl; have HTl := Lib.hid hTl2
              clear hS13 hM13 hT hTe hU h1 h2 h3 h3z h4 hK2 hB hUl hTl2 hTm hTl hsq hlu K0 K1 K2 K3
              go_upto_region 26 with fail
              go_cut [142] from 122 to 142 (fun v wx => v = .bool false ∧ Below W13.heap.size W13 wx)
              case first =>
                have PB : ∀ A : World, Below W13.heap.size W13 A → Calls Try.prog 42 #[.pointer (some ⟨I, 0, none⟩)] A fun e B => e = .returned (.int .i64 (sumQ q' fl' : Nat)) ∧ Below W13.heap.size W13 B := by
                  intro A hA
                  refine (kept_bytes (HS13.out.kp.same hA) HS13.out.wn (by omega)).mono ?_
                  rintro e B ⟨rfl, hb⟩
                  exact ⟨rfl, hA.trans (hb.mono hA.size)⟩
                have PW : ∀ A : World, Below W13.heap.size W13 A → Calls Try.prog 41 #[.pointer (some ⟨I, 0, none⟩)] A fun e B => e = .returned (.int .i64 ((idsQ q' fl').length : Nat)) ∧ A = B := by
                  intro A hA
                  exact kept_waits (HS13.out.kp.same hA)
                refine wp_blind ?_
                go_region_with (first | (go_at_call 42; refine (PB _ (by assumption)).mono ?_; rintro e w' ⟨rfl, b8⟩; have l3 := fun ty => HUl.out ty _ b8; have d1 := (b8.cell (World.block_lt_of_cell? _ _ c1)).trans c1; have d2 := (b8.cell (World.block_lt_of_cell? _ _ c2)).trans c2) | (go_at_call 41; refine (PW _ (by assumption)).mono ?_; rintro e w' ⟨rfl, rfl⟩))
                all_goals go_wp2
                all_goals go_meet
                all_goals exact ⟨by rw [wrapdiff fl' _ hfl' hl15], by assumption⟩
              case rest =>
                obtain ⟨rfl, hb9⟩ := hcut
                clear l1 l2 B0 c1 c2 HUl HTl
                have HSc := Lib.hid (HS13.out.below hb9)
                have HMc := Lib.hid (HM13.out.keep fun D' e => (hb9.block D' (block_lt e)).trans e)
                have HTc := Lib.hid (HT13.out.same (hb9.block _ HT13.out.lt))
                have HUc := Lib.hid (HU13.out.same (hb9.block _ HU13.out.lt))
                have HCc := Lib.hid ((hb9.block _ (block_lt H1'.out)).trans H1'.out)
                clear HS13 HM13 HT13 HU13 H1' H2' hb9
                obtain ⟨_, Dm, o1, o2, o3⟩ := HTc.out
                have HOwn := Lib.hid o1; have Hsay := Lib.hid o3
                clear o1 o2 o3
                go_wp2_with (first | (at_range; refine wpList_range_own _ rfl _ 65 rfl 22 3 law22 Try.underlying65 (plainElem Try.prog 3) T (n + 1) Dm rfl HOwn.out ?_; intro w1 hrg0 hg0 hs0) | fail)
                have Hb0 := Lib.hid ((Below.refl _ wc).grown hg0 (Nat.le_refl _) (fun j e => by cases e))
                have Hr0 := Lib.hid hrg0
                clear hrg0 hg0 hs0
                go_frame
                go_loopw [2] (fun v2 wr => v2 = .bool false ∧ ∃ (left : Lit → Bool) (cnt : Nat), wr.ranges Try.prog 22 (plainElem Try.prog 3) T wc.heap.size (n + 1) Dm left cnt ∧ Below wc.heap.size wc wr) (fun _ wr => wr.rangeLeft T wc.heap.size)
                case atStart => exact ⟨rfl, _, _, Hr0.out, Hb0.out⟩
                case round =>
                  obtain ⟨rfl, left, cnt, hrg, hbw⟩ := hrel
                  have Hrg := Lib.hid hrg; have Hbw := Lib.hid hbw
                  clear hrg hbw Hr0 Hb0
                  go_wp2_with (at_next; refine wpList_next_ranges_ii _ rfl _ rfl 22 3 .u32 .i64 law22 Try.underlying22 Try.underlying3 T wc.heap.size (n + 1) Dm left cnt rfl Hrg.out ?_ ?_)
                  · intro hc0 hl0
                    clear hl0
                    go_wp2_with fail
                    have hs := HSc.out.below Hbw.out
                    have hnum := Hnum.out
                    exact HK.out (len - (k + 1)) (D2 :: D :: Ds) _ _ (by omega) ⟨k + 1, n + 1, fl', q', rfl, by omega, by omega, by omega, hfl', ⟨hs.kp, hs.wn, hs.pay, hs.sixty, hs.tk, HMc.out.keep fun D' e => (Hbw.out.block D' (block_lt e)).trans e, hs.lo, hs.ne⟩, rfl, rfl, rfl, rfl, rfl, rfl, rfl, rfl⟩
                  · intro x cv w2 cnt2 hwx hwc hlk hat hrg2 hlt2 hgr2 hsz2 hen
                    obtain ⟨j, rfl, hj⟩ : ∃ j : Nat, x = (j : Int) ∧ j ≤ 4294967295 := by
                      have hb : 0 ≤ x ∧ x ≤ 4294967295 := by simpa [Lit.wf, IntKind.min, IntKind.max, IntKind.signed, IntKind.bits] using hwx
                      exact ⟨x.toNat, by omega, by omega⟩
                    have hhas := has_true_of_atKey hat
                    rw [(Hsay.out j hj).1] at hhas
                    have hjk := (HTe.out j).2 (of_decide_eq_true hhas)
                    have Hb2 := Lib.hid (Hbw.out.grown hgr2 Hbw.out.size (fun r e => by cases e; exact Nat.le_refl _))
                    have hlook := (HUc.out.same (Hb2.out.block _ HUc.out.lt)).look j hj
                    rw [if_pos hjk] at hlook
                    have d1 := one_cell ((Hb2.out.block _ (block_lt HCc.out)).trans HCc.out)
                    have Hrg2 := Lib.hid hrg2; have Hlt2 := Lib.hid hlt2
                    have Hleft := Lib.hid (Hrg.out.left_eq)
                    clear hrg2 hlt2 hlk hat hgr2 hsz2 hwx hwc hhas hjk
                    go_wp2_with fail
                    go_roundw
                    case rel => exact ⟨rfl, _, _, Hrg2.out, Hb2.out⟩
                    case measure =>
                      rw [Hrg2.out.left_eq, Hleft.out]
                      exact Hlt2.out
  · obtain rfl : k = len := by omega
    have HS := Lib.hid hS
    clear hmm hS Hx hK hnum
    go_wp2_with fail
    refine (wakes45 _).mono ?_
    rintro e W5 ⟨rfl, hw⟩
    go_wp2
    exact told_leave HS.out hw (.inr rfl) rfl
end Go.Proofs.Ytmghgjokleeigaa
