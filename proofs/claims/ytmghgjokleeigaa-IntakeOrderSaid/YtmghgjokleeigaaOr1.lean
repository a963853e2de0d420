/-
  IntakeOrder: the state, and what its closure does with one number.
-/
import Derived.Test.YtmghgjokleeigaaToM
import Derived.Test.YtmghgjokleeigaaMarks
import Derived.Deep.CutBlock
import Derived.Deep.DeepCutAuto
namespace Go.Proofs.Ytmghgjokleeigaa
open Go.RowKit Go.Shelf Go.Maps
attribute [local go_sem] Oper.semAt_some wide_fn_eq wide_depth

/-- What Take has done with payload N. -/
structure Took2 (w : World) (I M n fl : Nat) (q : Qv) (N : Nat) (W W' : World) (fate : Nat) (G : List Gr) (p : Option Addr) (cp n' : Nat) (q' : Qv) : Prop where
  kp : Kept w I M n' (fl + G.length) q' (fun _ => True) W'
  wn : Win q' (fl + G.length)
  st : Still I M W W'
  n1 : n' ≤ n + 1
  no : fate ≠ 1 → G = [] ∧ q' = q
  yes : fate = 1 → ∀ j, (j < fl + G.length ∨ q' j ≠ none) ↔ (j < fl ∨ q j ≠ none) ∨ j = N
  sub : ∀ j xs, q' j = some xs → q j = some xs ∨ (j = N ∧ xs = payloadL N)
  row : OffRow W' W.heap.size 62 (.slice p G.length cp) (G.map encG)
  g16 : G.length ≤ 16
  gs : ∀ i (h : i < G.length), OffRow W' w.heap.size 5 (encG G[i]) (byts G[i].2) ∧ (q (fl + i) = some G[i].2 ∨ (fl + i = N ∧ G[i].2 = payloadL N))
  cond : (fate = 1 ∧ ¬ (N < fl ∨ q N ≠ none) ∧ N < fl + 16) ∨ (fate = 2 ∧ (N < fl ∨ q N ≠ none)) ∨ (fate = 3 ∧ ¬ (N < fl ∨ q N ≠ none) ∧ fl + 16 ≤ N)
def Took2Post (w : World) (I M n fl : Nat) (q : Qv) (N : Nat) (W : World) (e : Ending) (W' : World) : Prop :=
  ∃ (p : Option Addr) (cp fate n' : Nat) (G : List Gr) (q' : Qv), e = .returned (.tuple #[.slice p G.length cp, .int .i64 (fate : Nat), .int .i64 0]) ∧ Took2 w I M n fl q N W W' fate G p cp n' q'
theorem take2 {w : World} {I M n fl : Nat} {q : Qv} {W : World} (h : Kept w I M n fl q (fun _ => True) W) (hw : Win q fl) (N : Nat) (hN : N ≤ 1000) (p : Option Addr) (l cp : Nat) (hl : l ≤ 256) (ho : (N < fl ∨ q N ≠ none) ∨ (Rd W (.slice p l cp) (byts (payloadL N)) ∧ (payloadL N).length = l)) (hfl : fl ≤ 1000) (hn : n ≤ 1000) :
    Calls Try.prog 43 #[.pointer (some ⟨I, 0, none⟩), .int .u32 N, .slice p l cp] W (Took2Post w I M n fl q N W) := by
  by_cases ha : N < fl ∨ q N ≠ none
  · refine (kept_again h N (by omega) p l cp hl ha (by omega)).mono ?_
    rintro e W' ⟨rfl, rfl⟩
    exact ⟨none, 0, 2, n, [], q, rfl, ⟨h, hw, Still.refl _ _ _, by omega, fun _ => ⟨rfl, rfl⟩, fun e => absurd e (by omega), fun j xs e => .inl e, OffRow.nil_ _ _ _, by simp, fun i h => absurd h (by simp), .inr (.inl ⟨rfl, ha⟩)⟩⟩
  · have ha1 : ¬ N < fl := fun e => ha (.inl e)
    have ha2 : q N = none := by cases e : q N with | none => rfl | some _ => exact absurd (.inr (by rw [e]; simp)) ha
    by_cases hf : fl + 16 ≤ N
    · refine (kept_far h hw N (by omega) p l cp hl (by omega) hf).mono ?_
      rintro e W' ⟨rfl, rfl⟩
      exact ⟨none, 0, 3, n, [], q, rfl, ⟨h, hw, Still.refl _ _ _, by omega, fun _ => ⟨rfl, rfl⟩, fun e => absurd e (by omega), fun j xs e => .inl e, OffRow.nil_ _ _ _, by simp, fun i h => absurd h (by simp), .inr (.inr ⟨rfl, ha, hf⟩)⟩⟩
    · obtain ⟨hrd, hpl⟩ : Rd W (.slice p l cp) (byts (payloadL N)) ∧ (payloadL N).length = l := by rcases ho with h | h; exact absurd h ha; exact h
      refine (kept_take h hw N (by omega) p l cp hl ha2 (by omega) (by omega) (by omega) (by omega) (payloadL N) hrd hpl).mono ?_
      rintro e W' ⟨p', l', cp', G, rfl, rfl, hr, hrow, hgs, hk, hw', hst, h16⟩
      have hup : ∀ j xs, restQ (upd q N (some (payloadL N))) fl G.length j = some xs → q j = some xs ∨ (j = N ∧ xs = payloadL N) := fun j xs e => by
        unfold restQ at e
        by_cases hc : fl ≤ j ∧ j < fl + G.length
        · rw [if_pos hc] at e; cases e
        · rw [if_neg hc] at e
          by_cases e2 : j = N
          · subst e2; rw [upd_same] at e; cases e; exact .inr ⟨rfl, rfl⟩
          · rw [upd_other _ _ e2] at e; exact .inl e
      have hget : ∀ i (h : i < G.length), q (fl + i) = some G[i].2 ∨ (fl + i = N ∧ G[i].2 = payloadL N) := fun i hi => by
        have := hr.at_ i (by rw [List.length_map]; exact hi)
        rw [List.getElem_map] at this
        by_cases e2 : fl + i = N
        · rw [e2, upd_same] at this; exact .inr ⟨e2, (Option.some.inj this).symm⟩
        · rw [upd_other _ _ e2] at this; exact .inl this
      have hat : ∀ j, fl ≤ j → j < fl + G.length → q j ≠ none ∨ j = N := fun j h1 h2 => by
        have := hget (j - fl) (by omega)
        rw [show fl + (j - fl) = j by omega] at this
        rcases this with h | h
        · exact .inl (by rw [h]; simp)
        · exact .inr h.1
      refine ⟨p', cp', 1, n + 1, G, _, rfl, ⟨hk.mono (fun _ _ => trivial) (Nat.le_refl _), hw', hst, by omega, fun e => absurd rfl e, fun _ j => ?_, hup, hrow, h16, fun i hi => ⟨hgs _ (List.getElem_mem hi), hget i hi⟩, .inl ⟨rfl, ha, by omega⟩⟩⟩
      unfold restQ
      by_cases hc : fl ≤ j ∧ j < fl + G.length
      · refine ⟨fun _ => ?_, fun _ => .inl hc.2⟩
        rcases hat j hc.1 hc.2 with h1 | h1
        · exact .inl (.inr h1)
        · exact .inr h1
      · rw [if_neg hc]
        by_cases e2 : j = N
        · subst e2
          rw [upd_same]
          exact ⟨fun _ => .inr rfl, fun _ => .inr (by simp)⟩
        · rw [upd_other _ _ e2]
          refine ⟨fun h => ?_, fun h => ?_⟩
          · rcases h with h | h
            · exact .inl (.inl (by omega))
            · exact .inl (.inr h)
          · rcases h with (h | h) | h
            · exact .inl (by omega)
            · exact .inr h
            · exact absurd h e2

/-- The state: the intake, what was taken, the next; with the cells of the variables. nx: the next. -/
structure OrdS (w : World) (I M T C3 C4 C5 n fl nx : Nat) (q : Qv) (W : World) : Prop where
  kp : Kept w I M n fl q (fun _ => True) W
  wn : Win q fl
  pay : ∀ j xs, q j = some xs → xs = payloadL j
  f40 : fl ≤ 40
  forty : ∀ j, q j ≠ none → j < 40
  tk : ∃ ks : List Nat, MapU T n ks W ∧ ∀ j, j ∈ ks ↔ j < fl ∨ q j ≠ none
  b3 : W.heap[C3]? = some (.cells #[.pointer (some ⟨I, 0, none⟩)] 63 (0, 0))
  b4 : W.heap[C4]? = some (.cells #[.int .u32 (nx : Nat)] 22 (0, 0))
  b5 : W.heap[C5]? = some (.cells #[.map (some T)] 65 (0, 0))
  loT : w.heap.size ≤ T
  lo4 : w.heap.size ≤ C4
  ne : T ≠ M
section
variable {w : World} {I M T C3 C4 C5 n fl nx : Nat} {q : Qv} {W W' : World}
theorem OrdS.same (h : OrdS w I M T C3 C4 C5 n fl nx q W) (hb : Below W.heap.size W W') : OrdS w I M T C3 C4 C5 n fl nx q W' := by
  obtain ⟨ks, h1, h2⟩ := h.tk
  exact ⟨h.kp.same hb, h.wn, h.pay, h.f40, h.forty, ⟨ks, h1.same (hb.block _ h1.lt), h2⟩, (hb.block _ (block_lt h.b3)).trans h.b3, (hb.block _ (block_lt h.b4)).trans h.b4, (hb.block _ (block_lt h.b5)).trans h.b5, h.loT, h.lo4, h.ne⟩
/-- One cell turns. -/
theorem OrdS.set (h : OrdS w I M T C3 C4 C5 n fl nx q W) (m : Nat) {z : Int} (hz : z = (m : Nat)) : OrdS w I M T C3 C4 C5 n fl m q (W.setCell ⟨C4, 0, none⟩ (.int .u32 z)) := by
  subst hz
  have ho : ∀ (b : Nat) (o : Obj), W.heap[b]? = some o → (∀ cs f, o ≠ .cells cs 22 f) → (W.setCell ⟨C4, 0, none⟩ (.int .u32 (m : Nat))).heap[b]? = some o := fun b o e hn => by
    rw [setCell_heap_other (by rintro rfl; rw [h.b4] at e; cases e; exact hn _ _ rfl)]; exact e
  obtain ⟨ks, h1, h2⟩ := h.tk
  obtain ⟨⟨cs, hI⟩, es, kk, hM⟩ := h.kp.boxes
  obtain ⟨es', kk', hT⟩ := h1.obj
  refine ⟨h.kp.keep (fun b o e hb => ?_) (h.kp.bel.setCell h.lo4 _), h.wn, h.pay, h.f40, h.forty, ⟨ks, h1.same ((ho _ _ hT (fun _ _ => by simp)).trans hT.symm), h2⟩, ho _ _ h.b3 (fun _ _ => by simp), one_setCell h.b4, ho _ _ h.b5 (fun _ _ => by simp), h.loT, h.lo4, h.ne⟩
  rcases hb with rfl | rfl | ⟨_, cs, f, rfl⟩
  · rw [hI] at e; cases e; exact ho _ _ hI (fun _ _ => by simp)
  · rw [hM] at e; cases e; exact ho _ _ hM (fun _ _ => by simp)
  · exact ho _ _ e (fun _ _ => by simp)
/-- What else lies. -/
def Oth (I M T C4 : Nat) (W W' : World) : Prop := W.heap.size ≤ W'.heap.size ∧ ∀ b, b < W.heap.size → b ≠ I → b ≠ M → b ≠ T → b ≠ C4 → W'.heap[b]? = W.heap[b]?
theorem Oth.refl (I M T C4 : Nat) (W : World) : Oth I M T C4 W W := ⟨Nat.le_refl _, fun _ _ _ _ _ _ => rfl⟩
theorem Oth.trans {W'' : World} (h : Oth I M T C4 W W') (k : Oth I M T C4 W' W'') : Oth I M T C4 W W'' := ⟨Nat.le_trans h.1 k.1, fun b hb h1 h2 h3 h4 => (k.2 b (Nat.lt_of_lt_of_le hb h.1) h1 h2 h3 h4).trans (h.2 b hb h1 h2 h3 h4)⟩
theorem Oth.of_below (h : Below W.heap.size W W') : Oth I M T C4 W W' := ⟨h.size, fun b hb _ _ _ _ => h.block b hb⟩
theorem Oth.of_still (h : Still I M W W') : Oth I M T C4 W W' := ⟨h.size, fun b hb h1 h2 _ _ => h.same b hb h1 h2⟩
theorem Oth.of_turned (h : W.mapTurned W' T) : Oth I M T C4 W W' := ⟨Nat.le_of_eq (turned_size h).symm, fun b _ _ _ h3 _ => turned_block h b h3⟩
theorem Oth.set (W : World) (v : Value) : Oth I M T C4 W (W.setCell ⟨C4, 0, none⟩ v) := ⟨by simp, fun b _ _ _ _ h4 => setCell_heap_other h4⟩
end
theorem payload_le (n : Nat) (hn : n ≤ 255) : ∀ x ∈ payloadL n, x ≤ 255 := fun x hx => by
  unfold payloadL at hx
  rcases List.mem_append.1 hx with h | h
  · simp at h; omega
  · rw [List.mem_replicate] at h; omega
/-- The rows that Take gives. -/
structure Rws (w W0 : World) (p : Option Addr) (cp : Nat) (G : List Gr) (W : World) : Prop where
  row : OffRow W W0.heap.size 62 (.slice p G.length cp) (G.map encG)
  gs : ∀ i (h : i < G.length), OffRow W w.heap.size 5 (encG G[i]) (byts G[i].2)
theorem Rws.below {w W0 : World} {p : Option Addr} {cp : Nat} {G : List Gr} {W W' : World} (h : Rws w W0 p cp G W) (hb : Below W.heap.size W W') : Rws w W0 p cp G W' := ⟨h.row.below hb, fun i hi => (h.gs i hi).below hb⟩
theorem Rws.set {w W0 : World} {p : Option Addr} {cp : Nat} {G : List Gr} {W : World} {C : Nat} {v u : Value} (h : Rws w W0 p cp G W) (h4 : W.heap[C]? = some (.cells #[v] 22 (0, 0))) : Rws w W0 p cp G (W.setCell ⟨C, 0, none⟩ u) := by
  have key : ∀ {base : Nat} {e : TypeId} {v : Value} {xs : List Value}, OffRow W base e v xs → e ≠ 22 → OffRow (W.setCell ⟨C, 0, none⟩ u) base e v xs := fun hr he => hr.same fun b e2 => by
    obtain ⟨_, cur, hc⟩ := hr.own e2
    refine setCell_heap_other ?_
    rintro rfl
    rw [h4] at hc
    cases hc
    exact he rfl
  exact ⟨key h.row (by decide), fun i hi => key (h.gs i hi) (by decide)⟩
theorem Rws.turned {w W0 : World} {p : Option Addr} {cp : Nat} {G : List Gr} {W W' : World} {T : Nat} (h : Rws w W0 p cp G W) (ht : W.mapTurned W' T) : Rws w W0 p cp G W' := by
  obtain ⟨es0, k0, hT0⟩ : ∃ es k, W.heap[T]? = some (.map es k) := by obtain ⟨es, c, _, _, hh, _⟩ := ht; exact ⟨es, c, hh⟩
  have key : ∀ {base : Nat} {e : TypeId} {v : Value} {xs : List Value}, OffRow W base e v xs → OffRow W' base e v xs := fun hr => hr.same fun b e2 => by
    obtain ⟨_, cur, hc⟩ := hr.own e2
    refine turned_block ht b ?_
    rintro rfl
    rw [hT0] at hc
    cases hc
  exact ⟨key h.row, fun i hi => key (h.gs i hi)⟩
/-- What the closure does. -/
def OnPost (w : World) (I M T C3 C4 C5 n fl : Nat) (q : Qv) (N : Nat) (W : World) (e : Ending) (W' : World) : Prop :=
  e = .returned (.bool true) ∧ ∃ (n' fl' : Nat) (q' : Qv), OrdS w I M T C3 C4 C5 n' fl' fl' q' W' ∧ n' ≤ n + 1 ∧ fl ≤ fl' ∧ (∀ j, j < fl ∨ q j ≠ none → j < fl' ∨ q' j ≠ none) ∧ (N < fl + 16 → N < fl' ∨ q' N ≠ none) ∧ Oth I M T C4 W W'
theorem ord_mid {w : World} {I M T C3 C4 C5 n fl : Nat} {q : Qv} {N : Nat} {W W6 : World} {fate : Nat} {G : List Gr} {p : Option Addr} {cp n' : Nat} {q' : Qv} (h : OrdS w I M T C3 C4 C5 n fl fl q W) (ht : Took2 w I M n fl q N W W6 fate G p cp n' q') (hN : N < 40) :
    (∀ j xs, q' j = some xs → xs = payloadL j) ∧ fl + G.length ≤ 40 ∧ (∀ j, q' j ≠ none → j < 40) ∧ (∃ ks : List Nat, MapU T n ks W6 ∧ ∀ j, j ∈ ks ↔ j < fl ∨ q j ≠ none) ∧
    W6.heap[C3]? = some (.cells #[.pointer (some ⟨I, 0, none⟩)] 63 (0, 0)) ∧ W6.heap[C4]? = some (.cells #[.int .u32 (fl : Nat)] 22 (0, 0)) ∧ W6.heap[C5]? = some (.cells #[.map (some T)] 65 (0, 0)) ∧ T ≠ I ∧ (∀ i (h : i < G.length), G[i].2 = payloadL (fl + i)) := by
  obtain ⟨ks, h1, h2⟩ := h.tk
  obtain ⟨⟨cs, hI⟩, es, kk, hM⟩ := h.kp.boxes
  obtain ⟨es', kk', hT⟩ := h1.obj
  have hTI : T ≠ I := by rintro rfl; rw [hI] at hT; cases hT
  have hb : ∀ (b : Nat) (o : Obj), W.heap[b]? = some o → (∀ cs f, o ≠ .cells cs 80 f) → (∀ es k, o ≠ .map es k) → W6.heap[b]? = some o := fun b o e h1 h2 => by
    refine (ht.st.same b (block_lt e) ?_ ?_).trans e
    · rintro rfl; rw [hI] at e; cases e; exact h1 _ _ rfl
    · rintro rfl; rw [hM] at e; cases e; exact h2 _ _ rfl
  refine ⟨fun j xs e => ?_, ?_, fun j e => ?_, ⟨ks, h1.same (ht.st.same T h1.lt hTI h.ne), h2⟩, hb _ _ h.b3 (fun _ _ => by simp) (fun _ _ => by simp), hb _ _ h.b4 (fun _ _ => by simp) (fun _ _ => by simp), hb _ _ h.b5 (fun _ _ => by simp) (fun _ _ => by simp), hTI, fun i hi => ?_⟩
  · rcases ht.sub j xs e with h3 | ⟨rfl, h3⟩
    · exact h.pay j xs h3
    · exact h3
  · by_cases hz : G.length = 0
    · have := h.f40; omega
    · rcases (ht.gs (G.length - 1) (by omega)).2 with h3 | h3
      · have := h.forty (fl + (G.length - 1)) (by rw [h3]; simp)
        omega
      · omega
  · cases e2 : q' j with
    | none => exact absurd e2 e
    | some xs =>
      rcases ht.sub j xs e2 with h3 | ⟨rfl, h3⟩
      · exact h.forty j (by rw [h3]; simp)
      · exact hN
  · rcases (ht.gs i hi).2 with h3 | h3
    · exact h.pay _ _ h3
    · rw [h3.2, h3.1]
/-- The set stays as it is. -/
theorem ord_no {w : World} {I M T C3 C4 C5 n fl : Nat} {q : Qv} {N : Nat} {W W6 : World} {fate : Nat} {G : List Gr} {p : Option Addr} {cp n' : Nat} {q' : Qv} (h : OrdS w I M T C3 C4 C5 n fl fl q W) (ht : Took2 w I M n fl q N W W6 fate G p cp n' q') (hN : N < 40) (hf : fate ≠ 1) :
    OrdS w I M T C3 C4 C5 (n + 1) (fl + G.length) fl q' W6 := by
  obtain ⟨a1, a2, a3, ⟨ks, a4, a5⟩, b3, b4, b5, _, _⟩ := ord_mid h ht hN
  obtain ⟨e1, e2⟩ := ht.no hf
  exact ⟨ht.kp.mono (fun _ h => h) ht.n1, ht.wn, a1, a2, a3, ⟨ks, a4.more (by omega), by rw [e1, e2]; exact a5⟩, b3, b4, b5, h.loT, h.lo4, h.ne⟩
theorem ord_yes {w : World} {I M T C3 C4 C5 n fl : Nat} {q : Qv} {N : Nat} {W W6 W7 : World} {fate : Nat} {G : List Gr} {p : Option Addr} {cp n' : Nat} {q' : Qv} {ks : List Nat} (h : OrdS w I M T C3 C4 C5 n fl fl q W) (ht : Took2 w I M n fl q N W W6 fate G p cp n' q') (hN : N < 40) (hf : fate = 1)
    (hks : ∀ j, j ∈ ks ↔ j < fl ∨ q j ≠ none) (hm : MapU T (n + 1) (addN ks N) W7) (htu : W6.mapTurned W7 T) : OrdS w I M T C3 C4 C5 (n + 1) (fl + G.length) fl q' W7 := by
  obtain ⟨a1, a2, a3, _, b3, b4, b5, hTI, _⟩ := ord_mid h ht hN
  have hk := turned_block htu
  have hsz := turned_size htu
  obtain ⟨o1, o2, o3⟩ := turned_os htu
  obtain ⟨es0, k0, hT0⟩ : ∃ es k, W6.heap[T]? = some (.map es k) := by obtain ⟨es, c, _, _, hh, _⟩ := htu; exact ⟨es, c, hh⟩
  have hc : ∀ (b : Nat) (cs : Array Value) (t : TypeId) (f : Nat × Nat), W6.heap[b]? = some (.cells cs t f) → W7.heap[b]? = some (.cells cs t f) := fun b cs t f e => (hk b (by rintro rfl; rw [hT0] at e; cases e)).trans e
  refine ⟨(ht.kp.keep (fun b o e ho => (hk b ?_).trans e) (ht.kp.bel.trans ⟨o1, o2, o3, Nat.le_of_eq hsz.symm, fun b hb => hk b (by have := h.loT; omega)⟩)).mono (fun _ h => h) ht.n1, ht.wn, a1, a2, a3, ⟨_, hm, fun j => ?_⟩, hc _ _ _ _ b3, hc _ _ _ _ b4, hc _ _ _ _ b5, h.loT, h.lo4, h.ne⟩
  · rcases ho with rfl | rfl | ⟨_, cs, f, rfl⟩
    · exact Ne.symm hTI
    · exact Ne.symm h.ne
    · rintro rfl; rw [hT0] at e; cases e
  · rw [mem_addN, hks]; exact (ht.yes hf j).symm
end Go.Proofs.Ytmghgjokleeigaa
