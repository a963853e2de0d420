/-
  SeqSpansSaid: the walk lifted to the statement, for every input. No condition.
-/
import Derived.Test.YtmghgjokleeigaaSpansW
import Derived.ProofKit
import Derived.OpenShut
import Derived.ChangeOld
import Derived.Below
import Derived.Deep.Slices
import Derived.Deep.Fields
import Derived.Lib.SmallJoins
namespace Go.Proofs.Ytmghgjokleeigaa.seqSpansLaw
open Go.ChangeShapes Go.WideShapes Go.ChangeAt Go.RowKit Go.Deep Go.Joins
set_option linter.unusedVariables false

theorem own : ownKnob Try.prog.godebug = none := by kernel_rfl
theorem laidOut : laidOutB Try.prog = true := by kernel_rfl

theorem nat_of_u32 {z : Int} (h : (Lit.int .u32 z).wf = true) : ∃ t : Nat, z = (t : Int) ∧ t ≤ 4294967295 := by
  have hb : 0 ≤ z ∧ z ≤ 4294967295 := by simpa [Lit.wf, IntKind.min, IntKind.max, IntKind.signed, IntKind.bits] using h
  exact ⟨z.toNat, by omega, by omega⟩
theorem no_spot {w : World} {b o k : Nat} {v : Value} (h : w.cell? ⟨b, o, some k⟩ = some v) : False := by
  unfold World.cell? at h
  split at h
  · rw [if_pos (by rfl)] at h; exact absurd h (by simp)
  · exact absurd h (by simp)
theorem add_none (b o n : Nat) : (⟨b, o, none⟩ : Addr).add n = ⟨b, o + n, none⟩ := by
  unfold Addr.add
  split
  · rename_i h; rw [h]; rfl
  · rfl
theorem spot_none {w : World} {a : Addr} {v : Value} (h : w.cell? (a.add 0) = some v) : a = ⟨a.block, a.off, none⟩ := by
  have h' : w.cell? a = some v := h
  obtain ⟨b, o, s⟩ := a
  cases s with
  | none => rfl
  | some k => exact (no_spot h').elim
theorem okWide_array {P : Program} {w : World} {r : Reach} {base : Nat} {t e : TypeId} {n : Nat} {v : Value} (ht : P.underlying t = some (.array n e)) (h : Value.okWide P w r base t v) : ∃ cs, v = .agg cs ∧ cs.size = P.cellsOf t := by
  simp only [Value.okWide, ht] at h
  obtain ⟨cs, h1, h2, _⟩ := h
  exact ⟨cs, h1, h2⟩
/-- The row that came in: as many of its first as are asked. -/
theorem row_in {H : Type} {enc : TypeId × Value → H} {W : World} {base : Nat} {spare : Nat → Bool} {held : Bool} {a : Option Addr} {len cap : Nat} {d : DataW H} {p : List MemPlace} (h : DataW.Trod enc Try.prog W base spare held 26 (.slice a len cap) d p) :
    len ≤ cap ∧ cap ≤ 9223372036854775807 ∧ ∀ n, n ≤ len → ∃ xs : List Nat, xs.length = n ∧ ∀ W', Below W.heap.size W W' → RowU .u32 W' (.slice a xs.length cap) xs := by
  obtain ⟨fuel, hf⟩ := h
  rcases open_ints Try.underlying26 Try.underlying22 (by kernel_rfl) hf with ⟨hcs, _⟩ | ⟨a', len', cap', zs, hcs, hb, hl, hm, hz, hx, hi, hw⟩
  · simp [Value.cells] at hcs
    obtain ⟨rfl, rfl, rfl⟩ := hcs
    exact ⟨by omega, by omega, fun n hn => ⟨[], by simp; omega, fun W' _ => ⟨_, _, rfl, fun h => absurd rfl h⟩⟩⟩
  · simp [Value.cells] at hcs
    obtain ⟨rfl, rfl, rfl⟩ := hcs
    refine ⟨hl, by unfold maxLen at hm; omega, fun n hn => ?_⟩
    have hlen : len ≤ zs.length := by rw [hz]; split <;> omega
    refine ⟨(zs.take n).map Int.toNat, by simp; omega, fun W' hW' => ⟨_, _, rfl, fun hne => ?_⟩⟩
    have hzs : 0 < zs.length := by
      rcases Nat.eq_zero_or_pos zs.length with h0 | h0
      · exact absurd (by simp [List.eq_nil_of_length_eq_zero h0]) hne
      · exact h0
    have es : a' = ⟨a'.block, a'.off, none⟩ := spot_none (hi 0 hzs)
    refine ⟨a'.block, a'.off, by rw [← es], fun i x hx => ?_⟩
    have hil : i < (zs.take n).length := by
      have := (List.getElem?_eq_some_iff.1 hx).1
      simpa using this
    have hil2 : i < zs.length := by rw [List.length_take] at hil; omega
    have hc := hi i hil2
    rw [es, add_none] at hc
    obtain ⟨z, hz1, hz2⟩ := nat_of_u32 (hw zs[i] (List.getElem_mem hil2))
    have hx' : x = z := by
      rw [List.getElem?_map, List.getElem?_eq_getElem hil] at hx
      simp at hx
      rw [hz1] at hx
      simpa using hx.symm
    subst hx'
    rw [hW'.cell (p := ⟨a'.block, a'.off + i, none⟩) (by have := World.block_lt_of_cell? W _ hc; exact this), hc]
    simp [List.getD, List.getElem?_eq_getElem hil2, hz1]

set_option maxRecDepth 100000 in
theorem lifted (os : Os) (started : os.Started) (H : Type) (enc : TypeId × Value → H) :
    ReturnsInHanded {} Try.checked os 4 .any (Rows.seqSpansSpec.pre6 enc Try.prog Try.f4 Rows.seqSpansRow.domain false) (Rows.seqSpansSpec.post enc Try.prog Try.f4 false true false false) := by
  refine returnsInHanded_of_change (C := Try.checked) own started (by kernel_rfl) Try.func4
    (ChangeSpec.witness6 (enc := enc) (C := Try.checked) false ⟨#[], #[.agg #[.int .u32 0, .int .u32 0], .slice none 0 0, .agg #[.int .u32 0, .int .u32 0]], []⟩ 8 (by kernel_rfl) (by kernel_rfl) (by kernel_rfl) (by kernel_rfl)) ?_
  intro W base args ds gs before hval0 hW hcnd _
  have hval : ∀ (j : Nat) t v, Try.f4.params[j]? = some t → args[j]? = some v → Value.okWide Try.prog W .any base t v := hval0
  have hW' := hW
  obtain ⟨p, q, hA0, hV, rfl, hfz, hnd⟩ := hW
  have hA : DataW.TrodAll enc Try.prog W 0 (fun _ => true) true Try.f4.params.toList args.toList ds p := hA0
  rw [Try.params4] at hA hval
  obtain ⟨v0, vs0, d0, ds0, p0, q0, hargs, rfl, rfl, h0, r0⟩ := trodAll_cons hA
  obtain ⟨v1, vs1, d1, ds1, p1, q1, rfl, rfl, rfl, h1, r1⟩ := trodAll_cons r0
  obtain ⟨v2, vs2, d2, ds2, p2, q2, rfl, rfl, rfl, h2, r2⟩ := trodAll_cons r1
  obtain ⟨rfl, rfl, rfl⟩ := trodAll_nil r2
  obtain rfl : args = #[v0, v1, v2] := by cases args; simp_all
  obtain ⟨rfl, rfl⟩ := trodVars_none hV
  have k0 := h0
  have k1 := h1
  have k2 := h2
  have lt0 : ∀ x ∈ p0, x.block < W.heap.size := by obtain ⟨m, hm⟩ := k0; exact DataW.trod_lt m _ _ _ hm
  have lt1 : ∀ x ∈ p1, x.block < W.heap.size := by obtain ⟨m, hm⟩ := k1; exact DataW.trod_lt m _ _ _ hm
  have lt2 : ∀ x ∈ p2, x.block < W.heap.size := by obtain ⟨m, hm⟩ := k2; exact DataW.trod_lt m _ _ _ hm
  obtain ⟨v00, v01, y0, y1, n0, rfl, -, -, t0, t1⟩ := open_agg2 Try.underlying25 (by kernel_rfl) (by kernel_rfl) (hval 0 25 v0 rfl rfl) h0
  obtain ⟨z0, e0, _, w0⟩ := DataW.trod_int Try.underlying22 t0
  obtain ⟨z1, e1, _, w1⟩ := DataW.trod_int Try.underlying22 t1
  simp only [List.cons.injEq, and_true] at e0 e1
  subst e0 e1
  obtain ⟨fr, rfl, hfr⟩ := nat_of_u32 w0
  obtain ⟨up, rfl, hto⟩ := nat_of_u32 w1
  obtain ⟨a1, len1, cap1, rfl⟩ := okWide_slice Try.underlying26 (hval 1 26 v1 rfl rfl)
  obtain ⟨hl1, hl2, hrow⟩ := row_in h1
  obtain ⟨xs, hxl, hxs⟩ := hrow (min len1 30) (by omega)
  obtain ⟨cs, rfl, hcs⟩ := okWide_array Try.underlying35 (hval 2 35 v2 rfl rfl)
  obtain ⟨x0, x1, rfl, hx0, hx1⟩ : ∃ x0 x1 : Nat, cs = #[.int .u32 x0, .int .u32 x1] ∧ x0 ≤ 4294967295 ∧ x1 ≤ 4294967295 := by
    obtain ⟨fuel, hf⟩ := h2
    obtain ⟨ys, m, _, _, hlen, _, hg⟩ := DataW.trod_array Try.underlying35 hf
    have hC : Try.prog.cellsOf 35 = 2 := by kernel_rfl
    have hC1 : Try.prog.cellsOf 22 = 1 := by kernel_rfl
    rw [hC] at hcs
    obtain ⟨c0, c1, rfl⟩ := array2 hcs
    have g0 := hg 0 (by omega)
    have g1 := hg 1 (by omega)
    simp only [hC1, Value.cells] at g0 g1
    have hys : ys.length = 2 := by assumption
    rw [List.getElem?_eq_getElem (by omega)] at g0 g1
    obtain ⟨u0, f0, _, s0⟩ := DataW.trod_int Try.underlying22 (by simpa using g0)
    obtain ⟨u1, f1, _, s1⟩ := DataW.trod_int Try.underlying22 (by simpa using g1)
    simp only [List.cons.injEq, and_true] at f0 f1
    subst f0 f1
    obtain ⟨x0, rfl, hx0⟩ := nat_of_u32 s0
    obtain ⟨x1, rfl, hx1⟩ := nat_of_u32 s1
    exact ⟨x0, x1, rfl, hx0, hx1⟩
  clear hA0 hval0
  refine (spans_walk fr up x0 x1 hfr hto hx0 hx1 a1 len1 cap1 xs W hxl hl1 hl2 hxs).mono fun e W' ⟨he, bel⟩ => ?_
  subst he
  exact ⟨_, rfl, _, _, _, [], _, [], hW', trodAll_mk1 (shut_bool Try.underlying4 _), (trodAll_cons_mk (Below.trod laidOut (by kernel_rfl) (of_decide_eq_true (by kernel_rfl)) k0 bel lt0) (trodAll_cons_mk (Below.trod laidOut (by kernel_rfl) (of_decide_eq_true (by kernel_rfl)) k1 bel lt1) (trodAll_cons_mk (Below.trod laidOut (by kernel_rfl) (of_decide_eq_true (by kernel_rfl)) k2 bel lt2) trodAll_mk0))), rfl, bel.frame _, fun h => by cases h⟩

theorem over : Rows.seqSpansRow.holds Try.pinned (OpenSpec.ofChange Rows.seqSpansSpec) :=
  OpenClaim.holds_of_wide 4 Try.f4 rfl rfl rfl rfl rfl rfl rfl ⟨rfl, rfl, rfl, rfl, rfl⟩ rfl rfl rfl rfl rfl (by kernel_rfl) Try.func4 (by kernel_rfl)
    (of_decide_eq_true (by kernel_rfl)) (by unfold Func.isWrapper; first | (rw [if_pos (by decide +kernel)]; kernel_rfl) | (rw [if_neg (by decide +kernel)]; exact ⟨rfl, rfl⟩))
    (fun os started H enc _ => lifted os started H enc)

theorem proved : Rows.SeqSpansSaid := over
#print axioms proved
end Go.Proofs.Ytmghgjokleeigaa.seqSpansLaw
