/-
  NetNothing: what is kept of the acts: what waits on each way (number, mark), how often each number may still come. Plain; and a map of counts.
-/
import Derived.Test.YtbmhgdfkkiepaaaMarks
import Derived.Maps.Own
import Derived.Maps.Views
import Derived.Maps.OwnSet
namespace Go.Proofs.Ytbmhgdfkkiepaaa
open Go.RowKit Go.Maps

abbrev Dg := List (Nat × Nat)
/-- The datagrams' bytes. -/
def encD (d : Nat → Dg) : Ls := fun i => (d i).map fun q => [i, 0, q.1, q.2]
structure Good (k : Nat) (d : Nat → Dg) (F : Nat → Nat → Nat) : Prop where
  len : ∀ i, i < 2 → (d i).length ≤ 64
  low : ∀ i, i < 2 → ∀ q ∈ d i, q.1 ≤ 200 ∧ q.2 ≤ 1
  cnt : ∀ i, i < 2 → ∀ id, (d i).countP (fun q => q.1 == id) ≤ F i id
  bnd : ∀ i, i < 2 → ∀ id, F i id ≤ k
def sentD (l : Dg) (q : Nat × Nat) : Dg := (if 64 ≤ l.length then l.eraseIdx 0 else l) ++ [q]
def plus (F : Nat → Nat → Nat) (i id : Nat) : Nat → Nat → Nat := upd F i (upd (F i) id (F i id + 1))
def minus (F : Nat → Nat → Nat) (i id : Nat) : Nat → Nat → Nat := upd F i (upd (F i) id (F i id - 1))

theorem split_at {l : Dg} {i : Nat} {q : Nat × Nat} (h : l[i]? = some q) : l = l.take i ++ q :: l.drop (i + 1) := by
  obtain ⟨hi, rfl⟩ := List.getElem?_eq_some_iff.1 h
  rw [List.getElem_cons_drop, List.take_append_drop]
theorem erase_at {l : Dg} {i : Nat} : l.eraseIdx i = l.take i ++ l.drop (i + 1) := List.eraseIdx_eq_take_drop_succ l i
theorem count_erase {l : Dg} {i : Nat} {q : Nat × Nat} (h : l[i]? = some q) (id : Nat) : (l.eraseIdx i).countP (fun q => q.1 == id) + (if q.1 = id then 1 else 0) = l.countP (fun q => q.1 == id) := by
  conv => rhs; rw [split_at h]
  rw [erase_at, List.countP_append, List.countP_append, List.countP_cons]
  by_cases e : q.1 = id
  · simp [e]; omega
  · simp [e]
theorem mem_erase {l : Dg} {i : Nat} {q : Nat × Nat} (h : q ∈ l.eraseIdx i) : q ∈ l := List.mem_of_mem_eraseIdx h
theorem Good.start : Good 0 (fun _ => []) (fun _ _ => 0) := ⟨fun _ _ => by simp, fun _ _ q h => by simp at h, fun _ _ _ => by simp, fun _ _ _ => by simp⟩
theorem Good.more {k k' : Nat} {d : Nat → Dg} {F : Nat → Nat → Nat} (h : Good k d F) (hk : k ≤ k') : Good k' d F := ⟨h.len, h.low, h.cnt, fun i hi id => Nat.le_trans (h.bnd i hi id) hk⟩
theorem Good.send {k : Nat} {d : Nat → Dg} {F : Nat → Nat → Nat} (h : Good k d F) (w s : Nat) (hs : s ≤ 200) : Good (k + 1) (upd d w (sentD (d w) (s, 0))) (plus F w s) := by
  have hsub : (if 64 ≤ (d w).length then (d w).eraseIdx 0 else d w).Sublist (d w) := by split; exact List.eraseIdx_sublist _ _; exact List.Sublist.refl _
  refine ⟨fun i hi => ?_, fun i hi q hq => ?_, fun i hi id => ?_, fun i hi id => ?_⟩
  · by_cases e : i = w
    · subst e; rw [upd_same]; unfold sentD
      have := h.len i hi
      split
      · rw [List.length_append, List.length_eraseIdx, if_pos (by omega)]; simp; omega
      · simp; omega
    · rw [upd_other _ _ e]; exact h.len i hi
  · by_cases e : i = w
    · subst e; rw [upd_same] at hq
      rcases List.mem_append.1 hq with h1 | h1
      · exact h.low i hi q (hsub.mem h1)
      · rw [List.mem_singleton] at h1; subst h1; exact ⟨hs, by omega⟩
    · rw [upd_other _ _ e] at hq; exact h.low i hi q hq
  · unfold plus
    by_cases e : i = w
    · subst e; rw [upd_same, upd_same]
      have h1 := hsub.countP_le (p := fun q => q.1 == id)
      have h2 := h.cnt i hi id
      unfold sentD
      generalize (if 64 ≤ (d i).length then (d i).eraseIdx 0 else d i) = l1 at h1 ⊢
      rw [List.countP_append, List.countP_singleton]
      by_cases e2 : id = s
      · subst e2; rw [upd_same]; simp; omega
      · rw [upd_other _ _ e2]
        have : ((s == id) = true) = False := by simp; omega
        simp only [this, if_false]; omega
    · rw [upd_other _ _ e, upd_other _ _ e]; exact h.cnt i hi id
  · unfold plus
    by_cases e : i = w
    · subst e; rw [upd_same]
      by_cases e2 : id = s
      · subst e2; rw [upd_same]; have := h.bnd i hi id; omega
      · rw [upd_other _ _ e2]; have := h.bnd i hi id; omega
    · rw [upd_other _ _ e]; have := h.bnd i hi id; omega
theorem Good.deliver {k : Nat} {d : Nat → Dg} {F : Nat → Nat → Nat} (h : Good k d F) (w i : Nat) (hw : w < 2) (q : Nat × Nat) (hq : (d w)[i]? = some q) : 1 ≤ F w q.1 ∧ Good k (upd d w ((d w).eraseIdx i)) (minus F w q.1) := by
  have h1 : 1 ≤ F w q.1 := by
    have h2 := count_erase hq q.1
    have h3 := h.cnt w hw q.1
    rw [if_pos rfl] at h2
    omega
  refine ⟨h1, fun j hj => ?_, fun j hj p hp => ?_, fun j hj id => ?_, fun j hj id => ?_⟩
  · by_cases e : j = w
    · subst e; rw [upd_same]; have := h.len j hj; exact Nat.le_trans (List.eraseIdx_sublist _ _).length_le this
    · rw [upd_other _ _ e]; exact h.len j hj
  · by_cases e : j = w
    · subst e; rw [upd_same] at hp; exact h.low j hj p (mem_erase hp)
    · rw [upd_other _ _ e] at hp; exact h.low j hj p hp
  · unfold minus
    by_cases e : j = w
    · subst e; rw [upd_same, upd_same]
      have h2 := count_erase hq id
      have h3 := h.cnt j hj id
      by_cases e2 : id = q.1
      · subst e2; rw [upd_same, ]; rw [if_pos rfl] at h2; omega
      · rw [upd_other _ _ e2]; rw [if_neg (Ne.symm e2)] at h2; omega
    · rw [upd_other _ _ e, upd_other _ _ e]; exact h.cnt j hj id
  · unfold minus
    by_cases e : j = w
    · subst e; rw [upd_same]
      by_cases e2 : id = q.1
      · subst e2; rw [upd_same]; have := h.bnd j hj q.1; omega
      · rw [upd_other _ _ e2]; exact h.bnd j hj id
    · rw [upd_other _ _ e]; exact h.bnd j hj id
theorem Good.double {k : Nat} {d : Nat → Dg} {F : Nat → Nat → Nat} (h : Good k d F) (w i : Nat) (hw : w < 2) (hl : (d w).length < 64) (q : Nat × Nat) (hq : (d w)[i]? = some q) : Good (k + 1) (upd d w (d w ++ [q])) (plus F w q.1) := by
  have hm : q ∈ d w := List.mem_of_getElem? hq
  refine ⟨fun j hj => ?_, fun j hj p hp => ?_, fun j hj id => ?_, fun j hj id => ?_⟩
  · by_cases e : j = w
    · subst e; rw [upd_same]; simp; omega
    · rw [upd_other _ _ e]; exact h.len j hj
  · by_cases e : j = w
    · subst e; rw [upd_same] at hp
      rcases List.mem_append.1 hp with h1 | h1
      · exact h.low j hj p h1
      · rw [List.mem_singleton] at h1; subst h1; exact h.low j hj p hm
    · rw [upd_other _ _ e] at hp; exact h.low j hj p hp
  · unfold plus
    by_cases e : j = w
    · subst e; rw [upd_same, upd_same]
      have h2 := h.cnt j hj id
      rw [List.countP_append, List.countP_singleton]
      by_cases e2 : id = q.1
      · subst e2; rw [upd_same]; simp; omega
      · rw [upd_other _ _ e2]
        have : ((q.1 == id) = true) = False := by simp; omega
        simp only [this, if_false]; omega
    · rw [upd_other _ _ e, upd_other _ _ e]; exact h.cnt j hj id
  · unfold plus
    by_cases e : j = w
    · subst e; rw [upd_same]
      by_cases e2 : id = q.1
      · subst e2; rw [upd_same]; have := h.bnd j hj q.1; omega
      · rw [upd_other _ _ e2]; have := h.bnd j hj id; omega
    · rw [upd_other _ _ e]; have := h.bnd j hj id; omega
theorem Good.flip {k : Nat} {d : Nat → Dg} {F : Nat → Nat → Nat} (h : Good k d F) (w i : Nat) (hw : w < 2) (q : Nat × Nat) (hq : (d w)[i]? = some q) : Good k (upd d w ((d w).set i (q.1, q.2 ^^^ 1))) F := by
  have hm : q ∈ d w := List.mem_of_getElem? hq
  obtain ⟨hi, hqi⟩ := List.getElem?_eq_some_iff.1 hq
  have hl := h.low w hw q hm
  have hb : q.2 ^^^ 1 ≤ 1 := by
    have h3 := hl.2
    obtain h4 | h4 : q.2 = 0 ∨ q.2 = 1 := by omega
    · rw [h4]; decide
    · rw [h4]; decide
  have hmap : ((d w).set i (q.1, q.2 ^^^ 1)).map Prod.fst = (d w).map Prod.fst := by
    rw [List.map_set]
    apply List.ext_getElem?
    intro m
    rw [List.getElem?_set]
    split
    · next e => subst e; rw [List.length_map, if_pos hi, List.getElem?_map, hq]; rfl
    · rfl
  have hcp : ∀ id, ((d w).set i (q.1, q.2 ^^^ 1)).countP (fun q => q.1 == id) = (d w).countP (fun q => q.1 == id) := fun id => by
    have h5 : ∀ l : Dg, l.countP (fun q => q.1 == id) = (l.map Prod.fst).countP (· == id) := fun l => by rw [List.countP_map]; rfl
    rw [h5, h5, hmap]
  refine ⟨fun j hj => ?_, fun j hj p hp => ?_, fun j hj id => ?_, h.bnd⟩
  · by_cases e : j = w
    · subst e; rw [upd_same, List.length_set]; exact h.len j hj
    · rw [upd_other _ _ e]; exact h.len j hj
  · by_cases e : j = w
    · subst e; rw [upd_same] at hp
      rcases List.mem_or_eq_of_mem_set hp with h1 | h1
      · exact h.low j hj p h1
      · subst h1; exact ⟨hl.1, hb⟩
    · rw [upd_other _ _ e] at hp; exact h.low j hj p hp
  · by_cases e : j = w
    · subst e; rw [upd_same, hcp]; exact h.cnt j hj id
    · rw [upd_other _ _ e]; exact h.cnt j hj id

/-! ### A map of counts -/
theorem law3 : Keyed Try.prog 3 := int_keyed Try.underlying3
theorem zero3 (w : World) : (zeroValue 3).run Try.prog w = .ok (.int .i64 0) w := by kernel_rfl
def MapF (M k : Nat) (F : Nat → Nat) (W : World) : Prop := ∃ D : DataW Unit, W.ownsMap Try.prog 3 (plainElem Try.prog 3) M k D ∧ ∀ id : Nat, id ≤ 65535 → D.atKey (.int .i64 id) (.lit (.int .i64 0)) = .lit (.int .i64 (F id))
theorem MapF.made (w : World) : MapF w.heap.size 0 (fun _ => 0) (w.alloc (.map #[] 0)) := ⟨_, World.ownsMap_made _ _ _ _, fun _ _ => rfl⟩
theorem MapF.same {M k : Nat} {F : Nat → Nat} {W W' : World} (h : MapF M k F W) (hk : W'.heap[M]? = W.heap[M]?) : MapF M k F W' := by
  obtain ⟨D, ⟨es, clock, h1, h2, h3, h4⟩, h5⟩ := h
  exact ⟨D, ⟨es, clock, hk.trans h1, h2, h3, h4⟩, h5⟩
theorem MapF.more {M k k' : Nat} {F : Nat → Nat} {W : World} (h : MapF M k F W) (hk : k ≤ k') : MapF M k' F W := by
  obtain ⟨D, h1, h2⟩ := h
  exact ⟨D, h1.mono hk, h2⟩
theorem MapF.lt {M k : Nat} {F : Nat → Nat} {W : World} (h : MapF M k F W) : M < W.heap.size := by obtain ⟨D, h1, _⟩ := h; exact h1.lt
theorem wf_id {id : Nat} (h : id ≤ 65535) : (Lit.int .i64 (id : Int)).wf = true := by simp [Lit.wf, IntKind.min, IntKind.max, IntKind.signed, IntKind.bits]; omega
theorem MapF.look {M k : Nat} {F : Nat → Nat} {W : World} (h : MapF M k F W) (id : Nat) (hid : id ≤ 65535) : (Instr.lookup 80 (.map (some M)) (.int .i64 id) false).run Try.prog W = .ok (.int .i64 (F id)) W := by
  obtain ⟨D, h1, h2⟩ := h
  obtain ⟨c, hrun, hat, _⟩ := h1.lookup_int (t := 80) law3 Try.underlying80 Try.underlying3 (zero3 _) (keyOf_int_mk Try.underlying3 (wf_id hid))
  rw [h2 id hid] at hat
  have e : (F id : Int) = c := (Lit.int.inj (DataW.lit.inj hat)).2
  subst e
  exact hrun
theorem MapF.update {M k : Nat} {F : Nat → Nat} {W : World} (h : MapF M k F W) (hk : k ≤ 1000) (id v : Nat) (hid : id ≤ 65535) (hv : v ≤ 65535) :
    ∃ W', (Instr.mapUpdate 80 (.map (some M)) (.int .i64 id) (.int .i64 v)).run Try.prog W = .ok () W' ∧ MapF M (k + 1) (upd F id v) W' ∧ W.grownBy W' (some M) := by
  obtain ⟨D, h1, h2⟩ := h
  obtain ⟨W', hrun, r1, r2⟩ := h1.update law3 Try.underlying80 (by unfold maxLen; omega) (keyOf_int_mk Try.underlying3 (wf_id hid)) (plainElem_int Try.underlying3 (wf_id hv))
  refine ⟨W', hrun, ⟨_, r1, fun j hj => ?_⟩, r2⟩
  by_cases e : j = id
  · subst e; rw [upd_same]
    exact atKey_put_same (k := .int .i64 (j : Int)) h1.isMap (by first | trivial | exact wf_id hid | decide) _ _
  · rw [upd_other _ _ e]
    rw [atKey_put_other (by intro e2; injection e2 with _ e2; omega)]
    exact h2 j hj
end Go.Proofs.Ytbmhgdfkkiepaaa
