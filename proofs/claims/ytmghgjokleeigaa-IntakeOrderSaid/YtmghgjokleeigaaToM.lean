/-
  IntakeTold: sets of numbers in a map; what a mask tells. Plain, but for the map.
-/
import Derived.Test.YtmghgjokleeigaaInE
import Derived.Test.YtmghgjokleeigaaInP
import Derived.Test.YtmghgjokleeigaaMasksLaw
import Derived.Maps.OwnIn
namespace Go.Proofs.Ytmghgjokleeigaa
open Go.RowKit Go.Shelf Go.Maps

/-- What a mask tells is what is kept. -/
theorem toldL_mask (q : Qv) (fl : Nat) (hf : fl ≤ 4294967295) : toldL fl (maskQ q fl) = (behindL fl).filter fun x => (q x).isSome := by
  unfold toldL maskQ
  refine List.filter_congr fun x hx => ?_
  obtain ⟨h1, h2, h3⟩ := mem_behindL hf hx
  rw [maskOf_bit _ _ _ (fun y hy => (mem_behindL hf (List.mem_filter.1 hy).1).1), show fl + 1 + (x - fl - 1) = x by omega]
  cases e : (q x).isSome with
  | true => exact decide_eq_true (List.mem_filter.2 ⟨hx, e⟩)
  | false => exact decide_eq_false fun hm => by have := (List.mem_filter.1 hm).2; rw [e] at this; cases this
theorem maskQ_lt (q : Qv) (fl : Nat) (hf : fl ≤ 4294967295) : maskQ q fl ≤ 4294967295 := by
  have := maskOf_lt fl ((behindL fl).filter fun x => (q x).isSome) fun x hx => (mem_behindL hf (List.mem_filter.1 hx).1).2.1
  unfold maskQ
  omega
theorem toldL_ids {q : Qv} {fl : Nat} (hw : Win q fl) (hf : fl ≤ 2147483648) : toldL fl (maskQ q fl) = idsQ q fl := by
  rw [toldL_mask q fl (by omega)]
  have e : behindL fl = List.range' (fl + 1) 15 ++ List.range' (fl + 16) 17 := by
    unfold behindL
    rw [show min 32 (4294967295 - fl) = 15 + 17 by omega, ← List.range'_append_1]
  rw [e, List.filter_append]
  have h2 : (List.range' (fl + 16) 17).filter (fun x => (q x).isSome) = [] := by
    refine List.filter_eq_nil_iff.2 fun x hx => ?_
    rw [List.mem_range'_1] at hx
    cases eq : q x with
    | none => simp
    | some _ => have := hw.lo x (by rw [eq]; simp); omega
  rw [h2, List.append_nil]
  rfl

/-- Block M is a set of numbers: each has 1. -/
def MapU (M n : Nat) (ks : List Nat) (W : World) : Prop :=
  ks.Nodup ∧ ∃ D : DataW Unit, W.ownsMap Try.prog 22 (plainElem Try.prog 3) M n D ∧ Maps.size D = ks.length ∧ ∀ j : Nat, j ≤ 4294967295 → Maps.has D (.int .u32 (j : Int)) = decide (j ∈ ks) ∧ (j ∈ ks → ∀ z, D.atKey (.int .u32 (j : Int)) z = .lit (.int .i64 1))
theorem zero3 (w : World) : (zeroValue 3).run Try.prog w = .ok (.int .i64 0) w := by kernel_rfl
def addN (ks : List Nat) (j : Nat) : List Nat := if j ∈ ks then ks else ks ++ [j]
theorem mem_addN (ks : List Nat) (j i : Nat) : i ∈ addN ks j ↔ i ∈ ks ∨ i = j := by
  unfold addN
  by_cases h : j ∈ ks
  · rw [if_pos h]; refine ⟨.inl, fun h2 => ?_⟩; rcases h2 with h2 | rfl; exact h2; exact h
  · rw [if_neg h, List.mem_append, List.mem_singleton]
section
variable {M n : Nat} {ks : List Nat} {W W' : World}
theorem MapU.made (w : World) : MapU w.heap.size 0 [] (w.alloc (.map #[] 0)) := ⟨List.nodup_nil, _, World.ownsMap_made _ _ _ _, rfl, fun _ _ => ⟨rfl, fun h => by simp at h⟩⟩
theorem MapU.same (h : MapU M n ks W) (hk : W'.heap[M]? = W.heap[M]?) : MapU M n ks W' := by
  obtain ⟨h0, D, ⟨es, clock, h1, h2, h3, h4⟩, h5⟩ := h
  exact ⟨h0, D, ⟨es, clock, hk.trans h1, h2, h3, h4⟩, h5⟩
theorem MapU.more {n' : Nat} (h : MapU M n ks W) (hn : n ≤ n') : MapU M n' ks W := by
  obtain ⟨h0, D, h1, h2⟩ := h
  exact ⟨h0, D, h1.mono hn, h2⟩
theorem MapU.lt (h : MapU M n ks W) : M < W.heap.size := by obtain ⟨_, D, h1, _⟩ := h; exact h1.lt
theorem MapU.obj (h : MapU M n ks W) : ∃ es k, W.heap[M]? = some (.map es k) := by obtain ⟨_, D, ⟨es, clock, h1, _⟩, _⟩ := h; exact ⟨_, _, h1⟩
theorem Stb.mapU {B : Nat} : Stb B (MapU M n ks) := fun A A' row h hg hr => by
  obtain ⟨es, k, ho⟩ := h.obj
  exact h.same ((stb_keep hg hr ho rfl).trans ho.symm)
theorem MapU.look (h : MapU M n ks W) (j : Nat) (hj : j ≤ 4294967295) : (Instr.lookup 65 (.map (some M)) (.int .u32 j) false).run Try.prog W = .ok (.int .i64 (if j ∈ ks then 1 else 0)) W := by
  obtain ⟨h0, D, h1, h2, h3⟩ := h
  obtain ⟨c, hrun, hat, _⟩ := h1.lookup_int (t := 65) law22 Try.underlying65 Try.underlying3 (zero3 _) (key_u32 hj)
  obtain ⟨a1, a2⟩ := h3 j hj
  by_cases hm : j ∈ ks
  · rw [a2 hm] at hat
    have e : (1 : Int) = c := (Lit.int.inj (DataW.lit.inj hat)).2
    rw [if_pos hm, hrun, ← e]
  · rw [decide_eq_false hm] at a1
    rw [atKey_of_not_has a1] at hat
    have e : (0 : Int) = c := (Lit.int.inj (DataW.lit.inj hat)).2
    rw [if_neg hm, hrun, ← e]
theorem MapU.put (h : MapU M n ks W) (hn : n ≤ 1000) (j : Nat) (hj : j ≤ 4294967295) :
    ∃ W', (Instr.mapUpdate 65 (.map (some M)) (.int .u32 j) (.int .i64 1)).run Try.prog W = .ok () W' ∧ MapU M (n + 1) (addN ks j) W' ∧ W.mapTurned W' M := by
  obtain ⟨h0, D, h1, h2, h3⟩ := h
  obtain ⟨W', hrun, r1, r2⟩ := h1.store (t := 65) law22 Try.underlying65 (by unfold maxLen; omega) (key_u32 hj) (plainElem_int Try.underlying3 (a := 1) (by decide))
  refine ⟨W', hrun, ⟨?_, _, r1, ?_, fun i hi => ?_⟩, r2⟩
  · unfold addN
    by_cases hm : j ∈ ks
    · rw [if_pos hm]; exact h0
    · rw [if_neg hm, List.nodup_append]
      refine ⟨h0, by simp, fun a ha b hb => ?_⟩
      rw [List.mem_singleton] at hb; subst hb
      rintro rfl; exact hm ha
  · rw [size_put (h1.tidy law22), (h3 j hj).1, h2]
    unfold addN
    by_cases hm : j ∈ ks
    · rw [decide_eq_true hm, if_pos rfl, if_pos hm]
    · rw [decide_eq_false hm, if_neg (by simp), if_neg hm]; simp
  · by_cases e : i = j
    · subst e
      refine ⟨?_, fun _ z => atKey_put_same h1.isMap (key_lit hi) _ _⟩
      rw [has_put_same h1.isMap (key_lit hi)]
      exact (decide_eq_true ((mem_addN ks i i).2 (.inr rfl))).symm
    · obtain ⟨a1, a2⟩ := h3 i hi
      refine ⟨?_, fun hm z => ?_⟩
      · rw [has_put_other (lit_ne e), a1]
        refine decide_eq_decide.2 ⟨fun h => (mem_addN ks j i).2 (.inl h), fun h => ?_⟩
        rcases (mem_addN ks j i).1 h with h | h
        · exact h
        · exact absurd h e
      · rw [atKey_put_other (lit_ne e)]
        refine a2 ?_ z
        rcases (mem_addN ks j i).1 hm with h | h
        · exact h
        · exact absurd h e
theorem MapU.len (h : MapU M n ks W) (ty : TypeId) : (Builtin.len_ #[65] ty #[.map (some M)]).run Try.prog W = .ok (.int .i64 ks.length) W := by
  obtain ⟨_, D, h1, h2, _⟩ := h
  rw [← h2]
  exact h1.len (t := 65) Try.underlying65 ty
end
theorem nodup_len {l l' : List Nat} (h : l.Nodup) (h' : l'.Nodup) (hm : ∀ j, j ∈ l ↔ j ∈ l') : l.length = l'.length := ((List.perm_ext_iff_of_nodup h h').2 hm).length_eq
end Go.Proofs.Ytmghgjokleeigaa
