/-
  Intake: maps.Values: the iterator over what is kept, in whatever order. No condition but the numbers' ranges.
-/
import Derived.Test.YtmghgjokleeigaaInT
import Derived.Maps.RangeWalk
namespace Go.Proofs.Ytmghgjokleeigaa
open Go.RowKit Go.Shelf Go.Maps
attribute [local go_sem] Oper.semAt_some wide_fn_eq wide_depth

abbrev Kg := Nat × Gr
/-- Each that is kept, once. -/
def AllK (v : Nat → Option Gr) (ids : List Nat) (xs : List Kg) : Prop := (xs.map Prod.fst).Nodup ∧ (∀ j, j ∈ xs.map Prod.fst ↔ j ∈ ids) ∧ ∀ x ∈ xs, v x.1 = some x.2
/-- The numbers that are kept. -/
structure Ids (v : Nat → Option Gr) (ids : List Nat) : Prop where
  nd : ids.Nodup
  mem : ∀ j, j ∈ ids ↔ v j ≠ none
  top : ∀ j ∈ ids, j ≤ 4294967295
theorem ranges_same {w w' : World} {b r n : Nat} {D : DataW Value} {left : Lit → Bool} {cnt : Nat} (h : w.ranges Try.prog 22 HR b r n D left cnt) (h1 : w'.heap[b]? = w.heap[b]?) (h2 : w'.heap[r]? = w.heap[r]?) : w'.ranges Try.prog 22 HR b r n D left cnt := by
  obtain ⟨es, clock, since, seen, c0, hb, F, hs, hD, hr, rest⟩ := h
  exact ⟨es, clock, since, seen, c0, h1.trans hb, F, hs, hD, h2.trans hr, rest⟩
theorem ranges_iter {w : World} {b r n : Nat} {D : DataW Value} {left : Lit → Bool} {cnt : Nat} (h : w.ranges Try.prog 22 HR b r n D left cnt) : ∃ m s q c, w.heap[r]? = some (.mapIter m s q c) := by
  obtain ⟨es, clock, since, seen, c0, hb, F, hs, hD, hr, rest⟩ := h
  exact ⟨_, _, _, _, hr⟩
theorem enters83 : Enters 83 := fun _ _ => (enters_of Try.func83 (by kernel_rfl) rfl) _ _
theorem values72 (M : Nat) (w : World) : Calls Try.prog 72 #[.map (some M)] w fun e w' => e = .returned (.func (.func 83) #[] #[.pointer (some ⟨w.heap.size, 0, none⟩)]) ∧ w.alloc (.cells #[.map (some M)] 78) = w' := by
  go_enter Try.func72, Try.ntmps72
  go_wp2
  go_ret
  exact ⟨rfl, rfl⟩

theorem sameKey_u32 (i j : Nat) : (Lit.int .u32 (i : Int)).sameKey (.int .u32 (j : Int)) = decide (i = j) := by
  by_cases e : i = j
  · subst e
    rw [decide_eq_true rfl]
    simp [Lit.sameKey]
  · rw [decide_eq_false e]
    exact sameKey_ne (lit_ne e)
/-- How far the iterator has come. -/
structure Half (v : Nat → Option Gr) (ids : List Nat) (left : Lit → Bool) (pre : List Kg) : Prop where
  nd : (pre.map Prod.fst).Nodup
  mem : ∀ j, j ∈ pre.map Prod.fst ↔ j ∈ ids ∧ left (.int .u32 (j : Int)) = false
  at_ : ∀ x ∈ pre, v x.1 = some x.2
theorem Half.start {v : Nat → Option Gr} {ids : List Nat} {left : Lit → Bool} (h : ∀ j ∈ ids, left (.int .u32 (j : Int)) = true) : Half v ids left [] :=
  ⟨List.nodup_nil, fun j => ⟨fun h => by simp at h, fun ⟨h1, h2⟩ => by rw [h j h1] at h2; cases h2⟩, fun x h => by simp at h⟩
theorem Half.next {v : Nat → Option Gr} {ids : List Nat} {left : Lit → Bool} {pre : List Kg} (h : Half v ids left pre) {x : Kg} (hx : x.1 ∈ ids) (hl : left (.int .u32 (x.1 : Int)) = true) (hv : v x.1 = some x.2) :
    Half v ids (fun z => left z && !z.sameKey (.int .u32 (x.1 : Int))) (pre ++ [x]) := by
  have hnot : x.1 ∉ pre.map Prod.fst := fun hm => by have := ((h.mem _).1 hm).2; rw [hl] at this; cases this
  refine ⟨?_, fun j => ?_, fun y hy => ?_⟩
  · rw [List.map_append, List.nodup_append]
    refine ⟨h.nd, by simp, fun a ha b hb => ?_⟩
    simp at hb; subst hb
    rintro rfl; exact hnot ha
  · rw [List.map_append, List.mem_append, h.mem j]
    simp only [List.map_cons, List.map_nil, List.mem_singleton, sameKey_u32]
    constructor
    · rintro (⟨h1, h2⟩ | rfl)
      · exact ⟨h1, by rw [h2]; rfl⟩
      · exact ⟨hx, by simp⟩
    · rintro ⟨h1, h2⟩
      by_cases e : j = x.1
      · exact .inr e
      · refine .inl ⟨h1, ?_⟩
        rw [decide_eq_false e] at h2
        simpa using h2
  · rcases List.mem_append.1 hy with hy | hy
    · exact h.at_ y hy
    · rw [List.mem_singleton] at hy; subst hy; exact hv
theorem Half.all {v : Nat → Option Gr} {ids : List Nat} {left : Lit → Bool} {pre : List Kg} (h : Half v ids left pre) (hl : ∀ k, left k = false) : AllK v ids pre :=
  ⟨h.nd, fun j => ⟨fun hj => ((h.mem j).1 hj).1, fun hj => (h.mem j).2 ⟨hj, hl _⟩⟩, h.at_⟩
theorem Half.more {v : Nat → Option Gr} {ids : List Nat} {left : Lit → Bool} {pre : List Kg} (h : Half v ids left pre) (hi : Ids v ids) : ∃ rest, AllK v ids (pre ++ rest) := by
  refine ⟨(ids.filter fun j : Nat => left (.int .u32 (j : Int))).map fun j : Nat => (j, (v j).getD ((none, 0, 0), [])), ?_, fun j => ?_, fun x hx => ?_⟩
  · rw [List.map_append, List.nodup_append, List.map_map]
    have e : (List.filter (fun j : Nat => left (.int .u32 (j : Int))) ids).map (Prod.fst ∘ fun j : Nat => (j, (v j).getD ((none, 0, 0), []))) = List.filter (fun j : Nat => left (.int .u32 (j : Int))) ids := by
      conv => rhs; rw [← List.map_id (List.filter _ ids)]
      rfl
    rw [e]
    refine ⟨h.nd, hi.nd.filter _, fun a ha b hb => ?_⟩
    rintro rfl
    have h1 := ((h.mem a).1 ha).2
    have h2 := (List.mem_filter.1 hb).2
    rw [h1] at h2; cases h2
  · rw [List.map_append, List.mem_append, h.mem j, List.map_map]
    constructor
    · rintro (⟨h1, _⟩ | h1)
      · exact h1
      · obtain ⟨k, hk, rfl⟩ := List.mem_map.1 h1
        exact (List.mem_filter.1 hk).1
    · intro hj
      cases hl : left (.int .u32 (j : Int)) with
      | false => exact .inl ⟨hj, rfl⟩
      | true => exact .inr (List.mem_map.2 ⟨j, List.mem_filter.2 ⟨hj, hl⟩, rfl⟩)
  · rcases List.mem_append.1 hx with hx | hx
    · exact h.at_ x hx
    · obtain ⟨k, hk, rfl⟩ := List.mem_map.1 hx
      have := (hi.mem k).1 (List.mem_filter.1 hk).1
      cases e : v k with
      | none => exact absurd e this
      | some g => simp [e]

set_option maxRecDepth 100000 in
set_option maxHeartbeats 2000000 in
theorem values83 (M n c Bx : Nat) (v : Nat → Option Gr) (ids : List Nat) (hi : Ids v ids) (W0 : World) (hm : MapV M n v c W0) :
    Iters Try.prog 83 #[.pointer (some ⟨Bx, 0, none⟩)] (fun x : Kg => #[encG x.2]) (AllK v ids) (fun W => W.heap[Bx]? = some (.cells #[.map (some M)] 78 (0, 0)) ∧ W.heap[M]? = W0.heap[M]?) := by
  intro l J Jx W hJ hJx hpre hY h0
  obtain ⟨hbx, hM⟩ := hpre _ _ h0
  obtain ⟨D, hown0, hsz, hsays⟩ := hm
  have hown : W.ownsMap Try.prog 22 HR M n D := by
    obtain ⟨es, clock, h1, h2, h3, h4⟩ := hown0
    exact ⟨es, clock, hM.trans h1, h2, h3, h4⟩
  have cb : W.cell? ⟨Bx, 0, none⟩ = some (.map (some M)) := one_cell hbx
  refine callsIn_of_wp Try.func83 rfl trivial ?_
  simp only [Try.ntmps83, List.size_toArray, List.length_cons, List.length_nil, Nat.reduceAdd, Nat.reduceSub, Array.replicate_succ, Array.replicate_zero, List.push_toArray, List.append_toArray, List.nil_append, List.cons_append]
  have HJ := Lib.hid hJ; have HJx := Lib.hid hJx; have Hpre := Lib.hid hpre; have HY := Lib.hid hY; have H0 := Lib.hid h0; have Hown := Lib.hid hown; have Hsays := Lib.hid hsays; have Hi := Lib.hid hi; have HM := Lib.hid hM
  have HBX := Lib.hid hbx
  clear hJ hJx hpre hY h0 hown hown0 hsz hsays hi hbx hM
  refine wpIn_wide.2 ?_
  go_wp2_with (first | (at_range; refine wpList_range_own _ rfl _ 78 rfl 22 62 law22 Try.underlying78 HR M n D rfl Hown.out ?_; intro w1 hrg0 hg0 hs0) | fail)
  clear cb
  refine (wpIn_wide (n := 0)).1 ?_
  have Hr0 := Lib.hid hrg0; have Hj0 := Lib.hid ((HJ.out []).grows H0.out hg0)
  have Hs0 := Lib.hid hs0
  clear hrg0 hg0 hs0
  gi_loopw [] (fun wr => ∃ (pre : List Kg) (left : Lit → Bool) (cnt : Nat), J pre wr ∧ wr.ranges Try.prog 22 HR M W.heap.size n D left cnt ∧ Half v ids left pre) (fun wr => wr.rangeLeft M W.heap.size)
  case atStart =>
    refine ⟨[], _, _, Hj0.out, Hr0.out, Half.start fun j hj => ?_⟩
    rw [(Hsays.out j (Hi.out.top j hj)).1]
    have := (Hi.out.mem j).1 hj
    cases e : v j with
    | none => exact absurd e this
    | some g => rfl
  case round =>
    obtain ⟨pre, left, cnt, hj, hrg, hh⟩ := hrel
    have Hj := Lib.hid hj; have Hrg := Lib.hid hrg; have Hh := Lib.hid hh
    clear hj hrg hh Hj0 Hr0 Hs0
    refine wpIn_seq_k fun K2 hK2 => ?_
    refine wpIn_wide.2 ?_
    go_wp2_with (at_next; refine wpList_next_ranges _ rfl _ rfl 22 law22 HR (α := Int) (β := Value) (Value.int .u32) id (fun key kl h => by obtain ⟨x, rfl, _⟩ := keyOf_int_inv Try.underlying22 h; exact ⟨x, rfl⟩) (fun v y _ => ⟨v, rfl⟩) M W.heap.size n D left cnt rfl Hrg.out ?_ ?_)
    · intro hc0 hl0
      have Hl0 := Lib.hid hl0
      clear hl0
      go_wp2_with fail
      gi_wp2
      go_end0
      exact IterEnd.all pre (Hh.out.all Hl0.out) Hj.out
    · intro x cv kl y ps w2 cnt2 hkey hlk hRv hat hrg2 hlt2 hgr2 hsz2 hen
      obtain ⟨x', ex, rfl, hwx⟩ := keyOf_int_inv Try.underlying22 hkey
      cases ex
      obtain ⟨j, rfl, hj⟩ : ∃ j : Nat, x = (j : Int) ∧ j ≤ 4294967295 := by
        have hb : 0 ≤ x ∧ x ≤ 4294967295 := by simpa [Lit.wf, IntKind.min, IntKind.max, IntKind.signed, IntKind.bits] using hwx
        exact ⟨x.toNat, by omega, by omega⟩
      have hhas := has_true_of_atKey hat
      rw [(Hsays.out j hj).1] at hhas
      obtain ⟨g, hg⟩ : ∃ g, v j = some g := Option.isSome_iff_exists.1 hhas
      have hyg : y = .held (encG g) := (hat .nil).symm.trans ((Hsays.out j hj).2 g hg .nil)
      obtain rfl : cv = encG g := by
        simp only [HR, Option.some.injEq, Prod.mk.injEq] at hRv
        have := hRv.1.trans hyg
        injection this
      have hmem : j ∈ ids := (Hi.out.mem j).2 (by rw [hg]; simp)
      have hh2 := Hh.out.next (x := (j, g)) hmem hlk hg
      obtain ⟨rest, hrest⟩ := hh2.more Hi.out
      rw [List.append_assoc] at hrest
      obtain ⟨m', s', q', c', hiter⟩ := ranges_iter Hrg.out
      have hj2 : J pre w2 := HJ.out pre wr w2 (some W.heap.size) Hj.out hgr2 (fun r e => by cases e; exact ⟨Nat.le_refl _, _, hiter, rfl⟩)
      obtain ⟨fn, tmps, assign, body, hy, hR⟩ := HY.out pre (j, g) rest w2 hrest hj2
      obtain ⟨gq, gl, gc, eg⟩ : ∃ q l c, encG g = .slice q l c := ⟨_, _, _, rfl⟩
      simp only [eg] at hen hy ⊢
      have HM2 := Lib.hid ((Hpre.out _ _ hj2).2)
      have Hrest := Lib.hid hrest; have Hh2 := Lib.hid hh2; have Hrg2 := Lib.hid hrg2; have Hlt2 := Lib.hid hlt2
      have Hleft := Lib.hid (Hrg.out.left_eq)
      clear hrest hh2 hrg2 hlt2 hkey hlk hRv hat hgr2 hsz2 hwx hhas hyg hg hiter hj2 hmem
      go_wp2_with fail
      gi_wp2_with fail
      refine hR.mono ?_
      rintro e W3 (⟨rfl, hk3, hj3⟩ | ⟨rfl, hk3, hj3⟩)
      · have hp3 := (Hpre.out _ _ hj3).2
        have Hk3 := Lib.hid hk3; have Hj3 := Lib.hid hj3; have Hp3 := Lib.hid hp3
        clear hk3 hj3 hp3 hR hy
        have hr3 : W3.ranges Try.prog 22 HR M W.heap.size n D (fun z => left z && !z.sameKey (.int .u32 (j : Int))) cnt2 := by
          refine ranges_same Hrg2.out (Hp3.out.trans ?_) ?_
          · exact HM2.out.symm
          · obtain ⟨m2, s2, q2, c2, hit2⟩ := ranges_iter Hrg2.out
            rw [hit2]; exact Hk3.out.same _ _ (Nat.le_refl _) hit2 rfl
        have HR3 := Lib.hid hr3
        clear hr3
        gi_wp2
        go_roundw
        case rel =>
          exact ⟨⟨_, Hj3.out, _, ⟨_, HR3.out⟩, Hh2.out⟩, _, _, _, _, _, _, _, _, _, rfl⟩
        case measure =>
          rw [HR3.out.left_eq, Hleft.out]
          exact Hlt2.out
      · gi_wp2
        refine bodyPost_ret (results_none rfl _ _ _) rfl ?_
        exact IterEnd.part _ _ (by rw [List.append_assoc]; exact Hrest.out) hj3
end Go.Proofs.Ytmghgjokleeigaa
