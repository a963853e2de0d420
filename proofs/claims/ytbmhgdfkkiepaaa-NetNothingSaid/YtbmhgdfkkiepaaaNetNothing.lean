/-
  NetNothingSaid: the walk lifted to the statement, for every input. No condition.
-/
import Derived.Test.YtbmhgdfkkiepaaaNothW
import Derived.ProofKit
import Derived.OpenShut
import Derived.ChangeOld
import Derived.Below
import Derived.Deep.Slices
import Derived.Deep.Fields
import Derived.ChangeSame
namespace Go.Proofs.Ytbmhgdfkkiepaaa.netNothingLaw
open Go.ChangeShapes Go.WideShapes Go.ChangeAt Go.RowKit Go.Deep
set_option linter.unusedVariables false

theorem own : ownKnob Try.prog.godebug = none := by kernel_rfl
theorem laidOut : laidOutB Try.prog = true := by kernel_rfl

section
variable {H : Type} {enc : TypeId × Value → H} {P : Program} {w : World} {base : Nat} {spare : Nat → Bool} {held : Bool}
theorem open_slice_fields {t e : TypeId} {fs : Array Field} {fuel : Nat} {cs : List Value} {x : DataW H × List MemPlace} (ht : P.underlying t = some (.slice e)) (he : P.underlying e = some (.struct fs))
    (hone : oneCellFields P fs = true) (hC : P.cellsOf e = fs.size) (h : DataW.trod enc P w base spare held fuel t cs = some x) :
    (cs = [.slice none 0 0] ∧ x = (.nil, [])) ∨
    ∃ (a : Addr) (len cap m : Nat) (D : Nat → DataW H) (Pl : Nat → List MemPlace), cs = [.slice (some a) len cap] ∧ base ≤ a.block ∧ len ≤ cap ∧ cap ≤ maxLen ∧ m = (if spare a.block then cap else len) ∧
      x = (.slice ((List.range len).map D) ((List.range (m - len)).map fun j => D (len + j)), MemPlace.row a (m * fs.size) ++ (List.range m).flatMap Pl) ∧
      ∀ i, i < m → ∃ (ys : List (DataW H × List MemPlace)) (n : Nat), D i = .agg (ys.map (·.1)) ∧ Pl i = ys.flatMap (·.2) ∧ ys.length = fs.size ∧
        ∀ (j : Nat) (f : Field), fs[j]? = some f → ∃ (v : Value) (y : DataW H × List MemPlace), w.cell? (a.add (i * fs.size + j)) = some v ∧ ys[j]? = some y ∧ DataW.trod enc P w base spare held n f.type [v] = some y := by
  rcases open_slice ht h with h0 | ⟨a, len, cap, m, n, D, Pl, hcs, hb, hl, hm, hmm, hx, hi⟩
  · exact .inl h0
  · refine .inr ⟨a, len, cap, m, D, Pl, hcs, hb, hl, hm, hmm, by rw [hC] at hx; exact hx, fun i him => ?_⟩
    obtain ⟨cs', hc, ht'⟩ := hi i him
    rw [hC] at hc
    obtain ⟨ys, n', hn', hy, hlen, hyl, hf⟩ := DataW.trod_struct he ht'
    obtain ⟨_, hcl, hat⟩ := World.cells?_some hc
    simp only [Prod.mk.injEq] at hy
    refine ⟨ys, n', hy.1, hy.2, hyl, fun j f hj => ?_⟩
    obtain ⟨ho, hk⟩ := hone_of hone j f hj
    have hjl : j < fs.size := (Array.getElem?_eq_some_iff.1 hj).1
    have hcell := hat j hjl
    have hv : cs'[j]? = some (cs'[j]'(by omega)) := List.getElem?_eq_getElem (by omega)
    have h1 := hf j f hj
    rw [ho, hk] at h1
    have hone' : (cs'.drop j).take 1 = [cs'[j]'(by omega)] := by
      rw [List.drop_eq_getElem_cons (by omega)]
      rfl
    rw [hone'] at h1
    have hys : ys[j]? = some (ys[j]'(by omega)) := List.getElem?_eq_getElem (by omega)
    refine ⟨_, _, ?_, hys, h1.trans hys⟩
    rw [← Go.Deep.add_add, hcell, hv]
end

theorem nat_of_u8 {z : Int} (h : (Lit.int .u8 z).wf = true) : ∃ t : Nat, z = (t : Int) ∧ t ≤ 255 := by
  have hb : 0 ≤ z ∧ z ≤ 255 := by simpa [Lit.wf, IntKind.min, IntKind.max, IntKind.signed, IntKind.bits] using h
  exact ⟨z.toNat, by omega, by omega⟩
theorem no_spot {w : World} {b o k : Nat} {v : Value} (h : w.cell? ⟨b, o, some k⟩ = some v) : False := by
  unfold World.cell? at h
  split at h
  · rw [if_pos (by rfl)] at h; exact absurd h (by simp)
  · exact absurd h (by simp)
theorem add_none (b o n : Nat) : (⟨b, o, none⟩ : Addr).add n = ⟨b, o + n, none⟩ := by
  unfold Addr.add
  split
  · rename_i h; rw [h]; rfl
  · rfl
theorem spot_none {w : World} {a : Addr} {v : Value} (h : w.cell? (a.add 0) = some v) : a = ⟨a.block, a.off, none⟩ := by
  have h' : w.cell? a = some v := h
  obtain ⟨b, o, s⟩ := a
  cases s with
  | none => rfl
  | some k => exact (no_spot h').elim
theorem trod_bool {H : Type} {enc : TypeId × Value → H} {P : Program} {w : World} {base : Nat} {spare : Nat → Bool} {held : Bool} {n : Nat} {t : TypeId} {v : Value} {y : DataW H × List MemPlace} (ht : P.underlying t = some .bool) (h : DataW.trod enc P w base spare held n t [v] = some y) : ∃ b, v = .bool b := by
  cases n with
  | zero => simp [DataW.trod] at h
  | succ n =>
    simp only [DataW.trod, ht] at h
    cases v <;> first | exact ⟨_, rfl⟩ | simp at h
/-- The acts that came in. -/
theorem acts_in {H : Type} {enc : TypeId × Value → H} {W : World} {base : Nat} {spare : Nat → Bool} {held : Bool} {a : Option Addr} {len cap : Nat} {d : DataW H} {p : List MemPlace} (h : DataW.Trod enc Try.prog W base spare held 79 (.slice a len cap) d p) :
    len ≤ 9223372036854775807 ∧ ∃ (x n : Nat → Nat) (dn : Nat → Bool), ∀ i, i < len → (∃ b o, a = some ⟨b, o, none⟩ ∧ b < W.heap.size ∧ Act3 W b o i (x i) (n i) (dn i)) ∧ x i ≤ 255 ∧ n i ≤ 255 := by
  obtain ⟨fuel, hf⟩ := h
  rcases open_slice_fields Try.underlying79 Try.underlying84 (by kernel_rfl) (by kernel_rfl) hf with ⟨hcs, _⟩ | ⟨a', len', cap', m, D, Pl, hcs, hb, hl, hm, hmm, hx, hi⟩
  · simp [Value.cells] at hcs
    obtain ⟨rfl, rfl, rfl⟩ := hcs
    exact ⟨by omega, fun _ => 0, fun _ => 0, fun _ => false, fun i hi => absurd hi (by omega)⟩
  · simp [Value.cells] at hcs
    obtain ⟨rfl, rfl, rfl⟩ := hcs
    have hlen : len ≤ m := by rw [hmm]; split <;> omega
    have key : ∀ i, ∃ q : Nat × Nat × Bool, i < len → (∃ b o, some a' = some ⟨b, o, none⟩ ∧ b < W.heap.size ∧ Act3 W b o i q.1 q.2.1 q.2.2) ∧ q.1 ≤ 255 ∧ q.2.1 ≤ 255 := by
      intro i
      by_cases h : i < len
      · obtain ⟨ys, n, _, _, _, hj⟩ := hi i (by omega)
        obtain ⟨v0, y0, hc0, _, ht0⟩ := hj 0 _ rfl
        obtain ⟨v1, y1, hc1, _, ht1⟩ := hj 1 _ rfl
        obtain ⟨v2, y2, hc2, _, ht2⟩ := hj 2 _ rfl
        obtain ⟨z0, e0, _, w0⟩ := DataW.trod_int Try.underlying5 ht0
        obtain ⟨z1, e1, _, w1⟩ := DataW.trod_int Try.underlying5 ht1
        obtain ⟨b2, rfl⟩ := trod_bool Try.underlying4 ht2
        simp only [List.cons.injEq, and_true] at e0 e1
        subst e0 e1
        obtain ⟨t0, rfl, hz0⟩ := nat_of_u8 w0
        obtain ⟨t1, rfl, hz1⟩ := nat_of_u8 w1
        have es : a' = ⟨a'.block, a'.off, none⟩ := by
          obtain ⟨ys', n', _, _, _, hj'⟩ := hi 0 (by omega)
          obtain ⟨v', y', hc', _, _⟩ := hj' 0 _ rfl
          exact spot_none hc'
        rw [es, add_none] at hc0 hc1 hc2
        refine ⟨(t0, t1, b2), fun _ => ⟨⟨a'.block, a'.off, by rw [← es], by have := World.block_lt_of_cell? W _ hc0; exact this, hc0, ?_, ?_⟩, hz0, hz1⟩⟩
        · rw [Nat.add_assoc]; exact hc1
        · rw [Nat.add_assoc]; exact hc2
      · exact ⟨(0, 0, false), fun h' => absurd h' h⟩
    obtain ⟨f, hf⟩ := Classical.axiomOfChoice key
    exact ⟨by have : maxLen ≤ 9223372036854775807 := by unfold maxLen; omega
              omega, fun i => (f i).1, fun i => (f i).2.1, fun i => (f i).2.2, fun i h => hf i h⟩

set_option maxRecDepth 100000 in
theorem lifted (os : Os) (started : os.Started) (H : Type) (enc : TypeId × Value → H) :
    ReturnsInHanded {} Try.checked os 8 .any (Rows.netNothingSpec.pre6 enc Try.prog Try.f8 Rows.netNothingRow.domain false) (Rows.netNothingSpec.post enc Try.prog Try.f8 false true false false) := by
  refine returnsInHanded_of_change (C := Try.checked) own started (by kernel_rfl) Try.func8
    (ChangeSpec.witness6 (enc := enc) (C := Try.checked) false ⟨#[], #[.slice none 0 0], []⟩ 8 (by kernel_rfl) (by kernel_rfl) (by kernel_rfl) (by kernel_rfl)) ?_
  intro W base args ds gs before hval0 hW hcnd _
  have hval : ∀ (j : Nat) t v, Try.f8.params[j]? = some t → args[j]? = some v → Value.okWide Try.prog W .any base t v := hval0
  have hW' := hW
  obtain ⟨p, q, hA0, hV, rfl, hfz, hnd⟩ := hW
  have hA : DataW.TrodAll enc Try.prog W 0 (fun _ => true) true Try.f8.params.toList args.toList ds p := hA0
  rw [Try.params8] at hA hval
  obtain ⟨v1, vs1, d1, ds1, p1, q1, hargs, rfl, rfl, h1, r1⟩ := trodAll_cons hA
  obtain ⟨rfl, rfl, rfl⟩ := trodAll_nil r1
  obtain rfl : args = #[v1] := by cases args; simp_all
  obtain ⟨rfl, rfl⟩ := trodVars_none hV
  obtain ⟨a1, len1, cap1, rfl⟩ := okWide_slice Try.underlying79 (hval 0 79 v1 rfl rfl)
  have k1 := h1
  have lt1 : ∀ x ∈ p1, x.block < W.heap.size := by obtain ⟨m, hm⟩ := k1; exact DataW.trod_lt m _ _ _ hm
  obtain ⟨hlen, x, n, dn, hi⟩ := acts_in h1
  clear hA0 hval0
  have walk : Calls Try.prog 8 #[.slice a1 len1 cap1] W (TruePost W) := nothing_walk a1 len1 cap1 hlen W x n dn hi
  refine walk.mono fun e W' ⟨he, bel⟩ => ?_
  subst he
  exact ⟨_, rfl, _, _, _, [], _, [], hW', trodAll_mk1 (shut_bool Try.underlying4 _), (trodAll_cons_mk (Below.trod laidOut (by kernel_rfl) (of_decide_eq_true (by kernel_rfl)) k1 bel lt1) trodAll_mk0), rfl, bel.frame _, fun h => by cases h⟩

theorem over : Rows.netNothingRow.holds Try.pinned (OpenSpec.ofChange Rows.netNothingSpec) :=
  OpenClaim.holds_of_wide 8 Try.f8 rfl rfl rfl rfl rfl rfl rfl ⟨rfl, rfl, rfl, rfl, rfl⟩ rfl rfl rfl rfl rfl (by kernel_rfl) Try.func8 (by kernel_rfl)
    (of_decide_eq_true (by kernel_rfl)) (by unfold Func.isWrapper; first | (rw [if_pos (by decide +kernel)]; kernel_rfl) | (rw [if_neg (by decide +kernel)]; exact ⟨rfl, rfl⟩))
    (fun os started H enc _ => lifted os started H enc)

theorem proved : Rows.NetNothingSaid := over
#print axioms proved
end Go.Proofs.Ytbmhgdfkkiepaaa.netNothingLaw
