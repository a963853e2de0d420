/-
  IntakeOrder: the frame and the state of its second loop (the frame printed by a program).
-/
import Derived.Test.YtmghgjokleeigaaOr2
namespace Go.Proofs.Ytmghgjokleeigaa
open Go.RowKit Go.Shelf Go.Maps
attribute [local go_sem] Oper.semAt_some wide_fn_eq wide_depth
/-- The frame at the loop's head. -/
def FrmO (C2 C3 C4 C5 C6 k : Nat) (t : Array Value) : Prop := t.size = 91 ∧ t.getD 2 undef = .pointer (some ⟨C2, 0, none⟩) ∧ t.getD 3 undef = .pointer (some ⟨C3, 0, none⟩) ∧ t.getD 4 undef = .pointer (some ⟨C4, 0, none⟩) ∧ t.getD 5 undef = .pointer (some ⟨C5, 0, none⟩) ∧ t.getD 6 undef = .pointer (some ⟨C6, 0, none⟩) ∧ t.getD 45 undef = .int .i64 (k : Nat)
theorem lit_any' (t : Array Value) : t = ((List.range t.size).map fun i => t.getD i undef).toArray := by
  apply Array.ext
  · simp
  · intro i h1 h2
    simp [h1]
set_option maxRecDepth 100000 in
theorem lit91 (t : Array Value) (h : t.size = 91) : t = #[t.getD 0 undef, t.getD 1 undef, t.getD 2 undef, t.getD 3 undef, t.getD 4 undef, t.getD 5 undef, t.getD 6 undef, t.getD 7 undef, t.getD 8 undef, t.getD 9 undef, t.getD 10 undef, t.getD 11 undef, t.getD 12 undef, t.getD 13 undef, t.getD 14 undef, t.getD 15 undef, t.getD 16 undef, t.getD 17 undef, t.getD 18 undef, t.getD 19 undef, t.getD 20 undef, t.getD 21 undef, t.getD 22 undef, t.getD 23 undef, t.getD 24 undef, t.getD 25 undef, t.getD 26 undef, t.getD 27 undef, t.getD 28 undef, t.getD 29 undef, t.getD 30 undef, t.getD 31 undef, t.getD 32 undef, t.getD 33 undef, t.getD 34 undef, t.getD 35 undef, t.getD 36 undef, t.getD 37 undef, t.getD 38 undef, t.getD 39 undef, t.getD 40 undef, t.getD 41 undef, t.getD 42 undef, t.getD 43 undef, t.getD 44 undef, t.getD 45 undef, t.getD 46 undef, t.getD 47 undef, t.getD 48 undef, t.getD 49 undef, t.getD 50 undef, t.getD 51 undef, t.getD 52 undef, t.getD 53 undef, t.getD 54 undef, t.getD 55 undef, t.getD 56 undef, t.getD 57 undef, t.getD 58 undef, t.getD 59 undef, t.getD 60 undef, t.getD 61 undef, t.getD 62 undef, t.getD 63 undef, t.getD 64 undef, t.getD 65 undef, t.getD 66 undef, t.getD 67 undef, t.getD 68 undef, t.getD 69 undef, t.getD 70 undef, t.getD 71 undef, t.getD 72 undef, t.getD 73 undef, t.getD 74 undef, t.getD 75 undef, t.getD 76 undef, t.getD 77 undef, t.getD 78 undef, t.getD 79 undef, t.getD 80 undef, t.getD 81 undef, t.getD 82 undef, t.getD 83 undef, t.getD 84 undef, t.getD 85 undef, t.getD 86 undef, t.getD 87 undef, t.getD 88 undef, t.getD 89 undef, t.getD 90 undef] := by
  have := lit_any' t
  rw [h] at this
  exact this
set_option maxRecDepth 100000 in
theorem FrmO.lit {C2 C3 C4 C5 C6 k : Nat} {t : Array Value} (h : FrmO C2 C3 C4 C5 C6 k t) : ∃ u : Nat → Value, t = #[u 0, u 1, .pointer (some ⟨C2, 0, none⟩), .pointer (some ⟨C3, 0, none⟩), .pointer (some ⟨C4, 0, none⟩), .pointer (some ⟨C5, 0, none⟩), .pointer (some ⟨C6, 0, none⟩), u 7, u 8, u 9, u 10, u 11, u 12, u 13, u 14, u 15, u 16, u 17, u 18, u 19, u 20, u 21, u 22, u 23, u 24, u 25, u 26, u 27, u 28, u 29, u 30, u 31, u 32, u 33, u 34, u 35, u 36, u 37, u 38, u 39, u 40, u 41, u 42, u 43, u 44, .int .i64 (k : Nat), u 46, u 47, u 48, u 49, u 50, u 51, u 52, u 53, u 54, u 55, u 56, u 57, u 58, u 59, u 60, u 61, u 62, u 63, u 64, u 65, u 66, u 67, u 68, u 69, u 70, u 71, u 72, u 73, u 74, u 75, u 76, u 77, u 78, u 79, u 80, u 81, u 82, u 83, u 84, u 85, u 86, u 87, u 88, u 89, u 90] := by
  obtain ⟨hs, h2, h3, h4, h5, h6, h45⟩ := h
  refine ⟨fun i => t.getD i undef, ?_⟩
  have := lit91 t hs
  rw [h2, h3, h4, h5, h6, h45] at this
  exact this

/-- The frame behind the first loop. -/
def FrmA (C2 C3 C4 C5 C6 : Nat) (t : Array Value) : Prop := t.size = 91 ∧ t.getD 2 undef = .pointer (some ⟨C2, 0, none⟩) ∧ t.getD 3 undef = .pointer (some ⟨C3, 0, none⟩) ∧ t.getD 4 undef = .pointer (some ⟨C4, 0, none⟩) ∧ t.getD 5 undef = .pointer (some ⟨C5, 0, none⟩) ∧ t.getD 6 undef = .pointer (some ⟨C6, 0, none⟩)
set_option maxRecDepth 100000 in
theorem FrmA.lit {C2 C3 C4 C5 C6 : Nat} {t : Array Value} (h : FrmA C2 C3 C4 C5 C6 t) : ∃ u : Nat → Value, t = #[u 0, u 1, .pointer (some ⟨C2, 0, none⟩), .pointer (some ⟨C3, 0, none⟩), .pointer (some ⟨C4, 0, none⟩), .pointer (some ⟨C5, 0, none⟩), .pointer (some ⟨C6, 0, none⟩), u 7, u 8, u 9, u 10, u 11, u 12, u 13, u 14, u 15, u 16, u 17, u 18, u 19, u 20, u 21, u 22, u 23, u 24, u 25, u 26, u 27, u 28, u 29, u 30, u 31, u 32, u 33, u 34, u 35, u 36, u 37, u 38, u 39, u 40, u 41, u 42, u 43, u 44, u 45, u 46, u 47, u 48, u 49, u 50, u 51, u 52, u 53, u 54, u 55, u 56, u 57, u 58, u 59, u 60, u 61, u 62, u 63, u 64, u 65, u 66, u 67, u 68, u 69, u 70, u 71, u 72, u 73, u 74, u 75, u 76, u 77, u 78, u 79, u 80, u 81, u 82, u 83, u 84, u 85, u 86, u 87, u 88, u 89, u 90] := by
  obtain ⟨hs, h2, h3, h4, h5, h6⟩ := h
  refine ⟨fun i => t.getD i undef, ?_⟩
  have := lit91 t hs
  rw [h2, h3, h4, h5, h6] at this
  exact this
/-- The state, with the cells of the result and of the closure. -/
structure OrdF (w : World) (I M T C2 C3 C4 C5 C6 n fl : Nat) (q : Qv) (W : World) : Prop where
  s : OrdS w I M T C3 C4 C5 n fl fl q W
  b2 : ∃ v, W.heap[C2]? = some (.cells #[v] 4 (0, 0))
  b6 : W.heap[C6]? = some (.cells #[.func (.func 46) #[] #[.pointer (some ⟨C3, 0, none⟩), .pointer (some ⟨C5, 0, none⟩), .pointer (some ⟨C4, 0, none⟩)]] 75 (0, 0))
  lo2 : w.heap.size ≤ C2
section
variable {w : World} {I M T C2 C3 C4 C5 C6 n fl n' fl' nx : Nat} {q q' : Qv} {W W' : World}
theorem OrdF.below (h : OrdF w I M T C2 C3 C4 C5 C6 n fl q W) (hb : Below W.heap.size W W') : OrdF w I M T C2 C3 C4 C5 C6 n fl q W' := by
  obtain ⟨v, h2⟩ := h.b2
  exact ⟨h.s.same hb, ⟨v, (hb.block _ (block_lt h2)).trans h2⟩, (hb.block _ (block_lt h.b6)).trans h.b6, h.lo2⟩
/-- What is no cell of the closure's lies. -/
theorem OrdS.oth (h : OrdS w I M T C3 C4 C5 n fl nx q W) (ho : Oth I M T C4 W W') (b : Nat) (o : Obj) (e : W.heap[b]? = some o) (h1 : ∀ cs f, o ≠ .cells cs 80 f) (h2 : ∀ cs f, o ≠ .cells cs 22 f) (h3 : ∀ es k, o ≠ .map es k) : W'.heap[b]? = some o := by
  obtain ⟨ks, a1, a2⟩ := h.tk
  obtain ⟨⟨cs, hI⟩, es, kk, hM⟩ := h.kp.boxes
  obtain ⟨es', kk', hT⟩ := a1.obj
  refine (ho.2 b (block_lt e) ?_ ?_ ?_ ?_).trans e
  · rintro rfl; rw [hI] at e; cases e; exact h1 _ _ rfl
  · rintro rfl; rw [hM] at e; cases e; exact h3 _ _ rfl
  · rintro rfl; rw [hT] at e; cases e; exact h3 _ _ rfl
  · rintro rfl; rw [h.b4] at e; cases e; exact h2 _ _ rfl
theorem OrdF.oth (h : OrdF w I M T C2 C3 C4 C5 C6 n fl q W) (hs : OrdS w I M T C3 C4 C5 n' fl' fl' q' W') (ho : Oth I M T C4 W W') : OrdF w I M T C2 C3 C4 C5 C6 n' fl' q' W' := by
  obtain ⟨v, h2⟩ := h.b2
  exact ⟨hs, ⟨v, h.s.oth ho _ _ h2 (fun _ _ => by simp) (fun _ _ => by simp) (fun _ _ => by simp)⟩, h.s.oth ho _ _ h.b6 (fun _ _ => by simp) (fun _ _ => by simp) (fun _ _ => by simp), h.lo2⟩
theorem OrdF.more (h : OrdF w I M T C2 C3 C4 C5 C6 n fl q W) (hn : n ≤ n') : OrdF w I M T C2 C3 C4 C5 C6 n' fl q W := by
  obtain ⟨ks, h1, h2⟩ := h.s.tk
  exact ⟨⟨h.s.kp.mono (fun _ h => h) hn, h.s.wn, h.s.pay, h.s.f40, h.s.forty, ⟨ks, h1.more hn, h2⟩, h.s.b3, h.s.b4, h.s.b5, h.s.loT, h.s.lo4, h.s.ne⟩, h.b2, h.b6, h.lo2⟩
theorem Stb.ordF {B : Nat} (hB : w.heap.size ≤ B) : Stb B (OrdF w I M T C2 C3 C4 C5 C6 n fl q) := fun A A' row h hg hr => by
  obtain ⟨v, h2⟩ := h.b2
  obtain ⟨ks, a1, a2⟩ := h.s.tk
  exact ⟨⟨Stb.kept hB _ _ _ h.s.kp hg hr, h.s.wn, h.s.pay, h.s.f40, h.s.forty, ⟨ks, Stb.mapU _ _ _ a1 hg hr, a2⟩, stb_keep hg hr h.s.b3 rfl, stb_keep hg hr h.s.b4 rfl, stb_keep hg hr h.s.b5 rfl, h.s.loT, h.s.lo4, h.s.ne⟩, ⟨v, stb_keep hg hr h2 rfl⟩, stb_keep hg hr h.b6 rfl, h.lo2⟩
theorem Stb.marks {B : Nat} (b : Nat) (Ds : List Nat) (hlt : ∀ D ∈ Ds, D < B) : Stb B (MarksIn b Ds) := fun A A' row h hg hr => by
  refine ⟨h.1, fun D hD => ⟨(h.2 D hD).1, ?_⟩⟩
  exact Stb.low B D _ (hlt D hD) A A' row (h.2 D hD).2 hg hr
end
def OrdI (w : World) (I M T C2 C3 C4 C5 C6 : Nat) (m : Nat) (Ds : List Nat) (t : Array Value) (W : World) : Prop :=
  ∃ (k n fl : Nat) (q : Qv), m = 50 - k ∧ k ≤ 50 ∧ n ≤ 120 + 16 * k ∧ (k ≤ fl ∨ fl = 40) ∧ OrdF w I M T C2 C3 C4 C5 C6 n fl q W ∧ MarksIn w.heap.size Ds W ∧ FrmO C2 C3 C4 C5 C6 k t
/-- A payload that may be handed on. -/
def PaySl (N fl : Nat) (q : Qv) (v : Value) (wx : World) : Prop := ∃ p l cp, v = .slice p l cp ∧ l ≤ 256 ∧ ((N < fl ∨ q N ≠ none) ∨ (Rd wx (.slice p l cp) (byts (payloadL N)) ∧ (payloadL N).length = l))
/-- The closure that asks the map. -/
theorem asks49 (Z C n : Nat) (ids L : List Nat) (hL : ∀ x ∈ L, x ≤ 4294967295) : Asks 49 #[.pointer (some ⟨C, 0, none⟩)] (fun x => decide (x ∈ ids)) (fun W => MapU Z n ids W ∧ W.heap[C]? = some (.cells #[.map (some Z)] 65 (0, 0))) L := by
  rintro x W hx ⟨h1, h2⟩
  have c1 := one_cell h2
  have hl := h1.look x (hL x hx)
  refine callsIn_of_wp Try.func49 rfl trivial ?_
  simp only [Try.ntmps49, List.size_toArray, List.length_cons, List.length_nil, Nat.reduceAdd, Nat.reduceSub, Array.replicate_succ, Array.replicate_zero, List.push_toArray, List.append_toArray, List.nil_append, List.cons_append]
  clear h1 h2
  by_cases hm : x ∈ ids
  · rw [if_pos hm] at hl
    rw [decide_eq_true hm]
    gi_wp2
    go_ret
    exact ⟨rfl, grown_refl _⟩
  · rw [if_neg hm] at hl
    rw [decide_eq_false hm]
    gi_wp2
    go_ret
    exact ⟨rfl, grown_refl _⟩
/-- The row of what is missing. -/
def missL2 (q : Qv) (fl tz : Nat) : List Nat := (List.range' fl (tz - fl)).filter fun n => !decide (n ∈ idsQ q fl)
theorem missL2_in {q : Qv} {fl tz x : Nat} (h : x ∈ missL2 q fl tz) : fl ≤ x ∧ x < tz := by
  unfold missL2 at h
  have := (List.mem_filter.1 h).1
  rw [List.mem_range'_1] at this
  omega
theorem missL2_first {q : Qv} {fl tz : Nat} (hw : Win q fl) (h : fl < tz) : fl ∈ missL2 q fl tz := by
  unfold missL2
  rw [List.mem_filter, List.mem_range'_1]
  refine ⟨by omega, ?_⟩
  have : fl ∉ idsQ q fl := fun e => by have := hw.lo fl ((mem_idsQ hw fl).1 e); omega
  simp [this]
theorem missL2_len (q : Qv) (fl tz : Nat) : (missL2 q fl tz).length ≤ tz - fl := by
  unfold missL2
  have := List.length_filter_le (fun n => !decide (n ∈ idsQ q fl)) (List.range' fl (tz - fl))
  rwa [List.length_range'] at this
/-- The state in the second range. -/
structure OrdR (w : World) (I M T C2 C3 C4 C5 C6 n fl Z n13 : Nat) (ids : List Nat) (W14 : World) (Ds : List Nat) (pre : List Nat) (W : World) : Prop where
  s : ∃ (n' fl' : Nat) (q' : Qv), OrdF w I M T C2 C3 C4 C5 C6 n' fl' q' W ∧ n' ≤ n + pre.length ∧ fl ≤ fl' ∧ ∀ j ∈ pre, j < fl' ∨ q' j ≠ none
  u : MapU Z ids.length ids W
  c : W.heap[Z + 1]? = some (.cells #[.map (some Z)] 65 (0, 0))
  l : Lies n13 W14.heap.size W14 W
  z : W14.heap.size ≤ W.heap.size
  m : MarksIn w.heap.size Ds W
theorem OrdR.stb {w : World} {I M T C2 C3 C4 C5 C6 n fl Z n13 : Nat} {ids : List Nat} {W14 : World} {Ds : List Nat} (pre : List Nat) {B : Nat} (hB : w.heap.size ≤ B) (hB2 : W14.heap.size ≤ B) (hlt : ∀ D ∈ Ds, D < B) : Stb B (OrdR w I M T C2 C3 C4 C5 C6 n fl Z n13 ids W14 Ds pre) := fun A A' row h hg hr => by
  obtain ⟨n', fl', q', h1, h2⟩ := h.s
  obtain ⟨a, b⟩ := Stb.lies (n := n13) (W := W14) (Nat.le_refl _) hB2 A A' row ⟨h.l, h.z⟩ hg hr
  exact ⟨⟨n', fl', q', Stb.ordF hB A A' row h1 hg hr, h2⟩, Stb.mapU A A' row h.u hg hr, Stb.block B _ _ rfl A A' row h.c hg hr, a, b, Stb.marks _ _ hlt A A' row h.m hg hr⟩
/-- One number is handed on in the round. -/
theorem OrdR.next {w : World} {I M T C2 C3 C4 C5 C6 n fl Z n13 : Nat} {ids : List Nat} {W14 : World} {Ds : List Nat} {pre : List Nat} {x : Nat} {W A B : World} {n' fl' : Nat} {q' : Qv} (h : OrdR w I M T C2 C3 C4 C5 C6 n fl Z n13 ids W14 Ds pre W) (hA : Below W.heap.size W A)
    (hlt : I < Z ∧ M < Z ∧ T < Z ∧ C4 < Z) (hz : Z + 1 < n13) (h14 : n13 ≤ W14.heap.size) (hF : OrdF w I M T C2 C3 C4 C5 C6 n' fl' q' W) (hn : n' ≤ n + pre.length) (hfl : fl ≤ fl') (hpre : ∀ j ∈ pre, j < fl' ∨ q' j ≠ none)
    (hx : x < fl' + 16) {e : Ending} (ho : OnPost w I M T C3 C4 C5 n' fl' q' x A e B) : e = .returned (.bool true) ∧ KeepBk W14.heap.size W B ∧ OrdR w I M T C2 C3 C4 C5 C6 n fl Z n13 ids W14 Ds (pre ++ [x]) B := by
  obtain ⟨rfl, n2, fl2, q2, a1, a2, a3, a4, a5, a6⟩ := ho
  have ho : Oth I M T C4 W B := (Oth.of_below hA).trans a6
  have hzW := h.z
  refine ⟨rfl, ⟨ho.1, fun k o hBk hko hbk => (ho.2 k (block_lt hko) (by omega) (by omega) (by omega) (by omega)).trans hko⟩, ⟨⟨n2, fl2, q2, (hF.below hA).oth a1 a6, ?_, by omega, fun j hj => ?_⟩, h.u.same (ho.2 _ h.u.lt (by omega) (by omega) (by omega) (by omega)), (ho.2 _ (block_lt h.c) (by omega) (by omega) (by omega) (by omega)).trans h.c, fun k h5 h6 => (ho.2 k (by omega) (by omega) (by omega) (by omega) (by omega)).trans (h.l k h5 h6), Nat.le_trans hzW ho.1, h.m.keep fun D e => hF.s.oth ho D _ e (fun _ _ => by simp) (fun _ _ => by simp) (fun _ _ => by simp)⟩⟩
  · rw [List.length_append, List.length_singleton]; omega
  · rcases List.mem_append.1 hj with hj | hj
    · exact a4 j (hpre j hj)
    · rw [List.mem_singleton] at hj; subst hj; exact a5 hx
theorem enters49 : Enters 49 := fun _ _ => (enters_of Try.func49 (by kernel_rfl) rfl) _ _
theorem enters46 : Enters 46 := fun _ _ => (enters_of Try.func46 (by kernel_rfl) rfl) _ _
end Go.Proofs.Ytmghgjokleeigaa
