/-
  NetBitsSaid: the walk lifted to the statement, for every input. No condition.
-/
import Derived.Test.YtbmhgdfkkiepaaaBitsW
import Derived.ProofKit
import Derived.OpenShut
import Derived.ChangeOld
import Derived.Below
import Derived.Deep.Slices
import Derived.Lib.SmallJoins
namespace Go.Proofs.Ytbmhgdfkkiepaaa.netBitsLaw
open Go.ChangeShapes Go.WideShapes Go.ChangeAt Go.RowKit Go.Deep Go.Joins
set_option linter.unusedVariables false

theorem own : ownKnob Try.prog.godebug = none := by kernel_rfl
theorem laidOut : laidOutB Try.prog = true := by kernel_rfl

theorem nat_of_u8 {z : Int} (h : (Lit.int .u8 z).wf = true) : ∃ t : Nat, z = (t : Int) ∧ t ≤ 255 := by
  have hb : 0 ≤ z ∧ z ≤ 255 := by simpa [Lit.wf, IntKind.min, IntKind.max, IntKind.signed, IntKind.bits] using h
  exact ⟨z.toNat, by omega, by omega⟩
theorem nat_of_u16 {z : Int} (h : (Lit.int .u16 z).wf = true) : ∃ t : Nat, z = (t : Int) ∧ t ≤ 65535 := by
  have hb : 0 ≤ z ∧ z ≤ 65535 := by simpa [Lit.wf, IntKind.min, IntKind.max, IntKind.signed, IntKind.bits] using h
  exact ⟨z.toNat, by omega, by omega⟩
theorem no_spot {w : World} {b o k : Nat} {v : Value} (h : w.cell? ⟨b, o, some k⟩ = some v) : False := by
  unfold World.cell? at h
  split at h
  · rw [if_pos (by rfl)] at h; exact absurd h (by simp)
  · exact absurd h (by simp)
theorem add_none (b o n : Nat) : (⟨b, o, none⟩ : Addr).add n = ⟨b, o + n, none⟩ := by
  unfold Addr.add
  split
  · rename_i h; rw [h]; rfl
  · rfl
theorem spot_none {w : World} {a : Addr} {v : Value} (h : w.cell? (a.add 0) = some v) : a = ⟨a.block, a.off, none⟩ := by
  have h' : w.cell? a = some v := h
  obtain ⟨b, o, s⟩ := a
  cases s with
  | none => rfl
  | some k => exact (no_spot h').elim
/-- The bytes that came in: as many of the first as are asked. -/
theorem bytes_in {H : Type} {enc : TypeId × Value → H} {W : World} {base : Nat} {spare : Nat → Bool} {held : Bool} {a : Option Addr} {len cap : Nat} {d : DataW H} {p : List MemPlace} (h : DataW.Trod enc Try.prog W base spare held 68 (.slice a len cap) d p) :
    len ≤ cap ∧ cap ≤ 9223372036854775807 ∧ (a = none → cap = 0) ∧ ∀ n, n ≤ len → ∃ ys : List Nat, ys.length = n ∧ (∀ j (h : j < ys.length), ys[j] ≤ 255) ∧
      ∀ j (h : j < ys.length), ∃ b o, a = some ⟨b, o, none⟩ ∧ b < W.heap.size ∧ W.cell? ⟨b, o + j, none⟩ = some (.int .u8 ys[j]) := by
  obtain ⟨fuel, hf⟩ := h
  rcases open_ints Try.underlying68 Try.underlying5 (by kernel_rfl) hf with ⟨hcs, _⟩ | ⟨a', len', cap', zs, hcs, hb, hl, hm, hz, hx, hi, hw⟩
  · simp [Value.cells] at hcs
    obtain ⟨rfl, rfl, rfl⟩ := hcs
    exact ⟨by omega, by omega, fun _ => rfl, fun n hn => ⟨[], by simp; omega, fun j h => by simp at h, fun j h => by simp at h⟩⟩
  · simp [Value.cells] at hcs
    obtain ⟨rfl, rfl, rfl⟩ := hcs
    refine ⟨hl, by unfold maxLen at hm; omega, fun e => (by cases e), fun n hn => ?_⟩
    have hlen : len ≤ zs.length := by rw [hz]; split <;> omega
    have hyl : ((zs.take n).map Int.toNat).length = n := by simp; omega
    refine ⟨(zs.take n).map Int.toNat, hyl, fun j h => ?_, fun j h => ?_⟩
    · have hil2 : j < zs.length := by omega
      obtain ⟨z, hz1, hz2⟩ := nat_of_u8 (hw zs[j] (List.getElem_mem hil2))
      simp [hz1]; omega
    · have hil2 : j < zs.length := by omega
      have es : a' = ⟨a'.block, a'.off, none⟩ := spot_none (hi 0 (by omega))
      have hc := hi j hil2
      rw [es, add_none] at hc
      obtain ⟨z, hz1, hz2⟩ := nat_of_u8 (hw zs[j] (List.getElem_mem hil2))
      refine ⟨a'.block, a'.off, by rw [← es], by have := World.block_lt_of_cell? W _ hc; exact this, ?_⟩
      rw [hc]
      simp [List.getD, List.getElem?_eq_getElem hil2, hz1]

set_option maxRecDepth 100000 in
theorem lifted (os : Os) (started : os.Started) (H : Type) (enc : TypeId × Value → H) :
    ReturnsInHanded {} Try.checked os 7 .any (Rows.netBitsSpec.pre6 enc Try.prog Try.f7 Rows.netBitsRow.domain false) (Rows.netBitsSpec.post enc Try.prog Try.f7 false true false false) := by
  refine returnsInHanded_of_change (C := Try.checked) own started (by kernel_rfl) Try.func7
    (ChangeSpec.witness6 (enc := enc) (C := Try.checked) false ⟨#[], #[.slice none 0 0, .int .u16 0, .int .u8 0], []⟩ 8 (by kernel_rfl) (by kernel_rfl) (by kernel_rfl) (by kernel_rfl)) ?_
  intro W base args ds gs before hval0 hW hcnd _
  have hval : ∀ (j : Nat) t v, Try.f7.params[j]? = some t → args[j]? = some v → Value.okWide Try.prog W .any base t v := hval0
  have hW' := hW
  obtain ⟨p, q, hA0, hV, rfl, hfz, hnd⟩ := hW
  have hA : DataW.TrodAll enc Try.prog W 0 (fun _ => true) true Try.f7.params.toList args.toList ds p := hA0
  rw [Try.params7] at hA hval
  obtain ⟨v0, vs0, d0, ds0, p0, q0, hargs, rfl, rfl, h0, r0⟩ := trodAll_cons hA
  obtain ⟨v1, vs1, d1, ds1, p1, q1, rfl, rfl, rfl, h1, r1⟩ := trodAll_cons r0
  obtain ⟨v2, vs2, d2, ds2, p2, q2, rfl, rfl, rfl, h2, r2⟩ := trodAll_cons r1
  obtain ⟨rfl, rfl, rfl⟩ := trodAll_nil r2
  obtain rfl : args = #[v0, v1, v2] := by cases args; simp_all
  obtain ⟨rfl, rfl⟩ := trodVars_none hV
  have k0 := h0
  have lt0 : ∀ x ∈ p0, x.block < W.heap.size := by obtain ⟨m, hm⟩ := k0; exact DataW.trod_lt m _ _ _ hm
  obtain ⟨a0, len0, cap0, rfl⟩ := okWide_slice Try.underlying68 (hval 0 68 v0 rfl rfl)
  obtain ⟨z1, rfl, rfl, rfl, w1⟩ := open_int Try.underlying69 (hval 1 69 v1 rfl rfl) h1
  obtain ⟨z2, rfl, rfl, rfl, w2⟩ := open_int Try.underlying5 (hval 2 5 v2 rfl rfl) h2
  obtain ⟨bit, rfl, hbit⟩ := nat_of_u16 w1
  obtain ⟨ahead, rfl, hah⟩ := nat_of_u8 w2
  obtain ⟨hl1, hl2, hn, hrow⟩ := bytes_in h0
  obtain ⟨ys, hyl, hy5, hyc⟩ := hrow (min len0 600) (by omega)
  clear hA0 hval0
  refine (bits_walk a0 len0 cap0 hl1 (by omega) hn bit ahead hbit hah W ys hyl hy5 hyc).mono fun e W' ⟨he, bel⟩ => ?_
  subst he
  exact ⟨_, rfl, _, _, _, [], _, [], hW', trodAll_mk1 (shut_bool Try.underlying4 _), (trodAll_cons_mk (Below.trod laidOut (by kernel_rfl) (of_decide_eq_true (by kernel_rfl)) k0 bel lt0) (trodAll_cons_mk (shut_int Try.underlying69 w1) (trodAll_cons_mk (shut_int Try.underlying5 w2) trodAll_mk0))), rfl, bel.frame _, fun h => by cases h⟩

theorem over : Rows.netBitsRow.holds Try.pinned (OpenSpec.ofChange Rows.netBitsSpec) :=
  OpenClaim.holds_of_wide 7 Try.f7 rfl rfl rfl rfl rfl rfl rfl ⟨rfl, rfl, rfl, rfl, rfl⟩ rfl rfl rfl rfl rfl (by kernel_rfl) Try.func7 (by kernel_rfl)
    (of_decide_eq_true (by kernel_rfl)) (by unfold Func.isWrapper; first | (rw [if_pos (by decide +kernel)]; kernel_rfl) | (rw [if_neg (by decide +kernel)]; exact ⟨rfl, rfl⟩))
    (fun os started H enc _ => lifted os started H enc)

theorem proved : Rows.NetBitsSaid := over
#print axioms proved
end Go.Proofs.Ytbmhgdfkkiepaaa.netBitsLaw
