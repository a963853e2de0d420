/-
  A region without a call, within a round: what holds of it outside holds within. Over any program.
-/
import Derived.Test.YtbmhgdfkkiepaaaMarks
import Derived.OrdersIn
import Derived.RegionIn
import Derived.StillTail
import Derived.StillTactics
namespace Go.Proofs.Ytbmhgdfkkiepaaa
open Go.RowKit

/-- No call comes of it. -/
def Calm : Result Next → Prop
  | .ok (.value _) _ => True
  | .ok .skip _ => True
  | .ok _ _ => False
  | _ => True
theorem upon_in {P : Program} {o : Oper} {a : Act} {K : Act → World → Prop} {Q : Exit → Act → World → Prop} {r : Result Next} (l : Nat) (hc : Calm r) (h : Oper.upon P o a K Q r) : Oper.uponIn (Fence.wide.inRound l) 0 P o a K Q r := by
  cases r with
  | ok x w => cases x <;> first | exact h | exact hc.elim
  | halt x w => cases x <;> exact h
theorem wpAnyIn_of {P : Program} {ops : Array Oper} {Q : Exit → Act → World → Prop} {md : Region.Mode} (l : Nat) (hQ : ¬ LetsOut Q)
    (hc : ∀ (i : Nat) (o : Oper), ops[i]? = some o → (∀ c, o.op ≠ .defer c) ∧ ∀ a w, Calm ((execOp a o).run P w)) :
    ∀ (fuel : Nat) (listed : Array Bool) (a : Act) (w : World), wpAny P md ops Q fuel listed a w → wpAnyIn (Fence.wide.inRound l) 0 P md ops Q fuel listed a w := by
  intro fuel
  induction fuel with
  | zero => intro listed a w h; exact h
  | succ fuel ih =>
    intro listed a w h
    refine ⟨h.1, fun i hi => ?_⟩
    have h1 := h.2 i hi
    unfold wpOp at h1
    unfold wpOpIn
    cases ho : ops[i]? with
    | none => rw [ho] at h1; exact ih _ _ _ h1
    | some o =>
      rw [ho] at h1
      simp only at h1 ⊢
      obtain ⟨hd, hcalm⟩ := hc i o ho
      by_cases hw : Region.wanted o (yielded ops a.tmps) = true
      · rw [if_pos hw] at h1 ⊢
        rcases h1 with h1 | h1
        · refine ⟨fun f _ => trivial, ?_⟩
          rw [Oper.semAt_eq _ _ _ hd]
          refine upon_in l (hcalm _ _) ?_
          exact (Oper.wp_mono (fun a w h => ih _ a w h) h1)
        · exact (hQ h1.2).elim
      · rw [if_neg hw] at h1 ⊢
        exact ⟨fun f _ => trivial, ih _ _ _ h1⟩
/-- Reads first, then a forced end: within a round. -/
theorem still_round {P : Program} {id : Nat} {Q : Exit → Act → World → Prop} {a : Act} {w : World} {l : List Oper} (lr : Nat) (hQ : ¬ LetsOut Q)
    (hc : ∀ (i : Nat) (o : Oper), l.toArray[i]? = some o → (∀ c, o.op ≠ .defer c) ∧ ∀ a w, Calm ((execOp a o).run P w))
    (n : Nat) (hm : P.follows .mixedOrders = true) (hB : Region.lexTailB .any l.toArray n = true)
    (h : wpStill P l.toArray { w with drawn := w.drawn + 1 } (fun a' => wpList P l.toArray Q (l.drop n) a' { w with drawn := w.drawn + 1 }) (l.take n) a) : (Code.region id l.toArray true).wpIn (Fence.wide.inRound lr) 0 P Q a w := by
  refine wpIn_region_any hm (wpAnyIn_of lr hQ hc _ _ _ _ ?_)
  simp only [Region.lexTailB, Bool.and_eq_true, decide_eq_true_eq] at hB
  obtain ⟨⟨⟨⟨b1, b2⟩, b3⟩, b4⟩, b5⟩ := hB
  have hsz : l.toArray.size = l.length := by simp
  have hlt : n < l.length := by omega
  have ht : (l.take n).length = n := by rw [List.length_take]; omega
  have hd : (l.drop n).length = l.toArray.size - n := by rw [List.length_drop, hsz]
  have hi : HeadInv .any l.toArray n (Array.replicate l.toArray.size false) := by
    refine ⟨by simp, fun j oj _ hl => ?_, fun t _ h2 => getD_in (by simpa using h2) (getD_replicate_false _ _)⟩
    rw [getD_replicate_false] at hl; cases hl
  have H := wpAnyL_lex (md := .any) (g := l.toArray.size - n) b1 b3 b4 b2 (l.take n) 0 _ a (fun j hj => by
    rw [ht] at hj
    simp [hj]) (by simpa using ht) hi (by rw [ht]; exact b5) h
  have R := wpAny_of_head (Q' := Q) (g := l.toArray.size - n) (fun listed a' hL => by
    have E := wpAny_of_seq (md := .any) (Q' := Q) (l.drop n) n listed a' { w with drawn := w.drawn + 1 } (fun j => by simp [List.getElem?_drop]) (by rw [hd]; exact hL.1) hL.2
    rwa [hd] at E) _ _ _ H
  rw [ht, show n + (l.toArray.size - n) = l.toArray.size by omega] at R
  exact R
def OnlyNormal (Q : Exit → Act → World → Prop) (e : Exit) (a : Act) (w : World) : Prop := e = .normal ∧ Q e a w
theorem still_round_n {P : Program} {id : Nat} {Q : Exit → Act → World → Prop} {a : Act} {w : World} {l : List Oper} (lr : Nat)
    (hc : ∀ (i : Nat) (o : Oper), l.toArray[i]? = some o → (∀ c, o.op ≠ .defer c) ∧ ∀ a w, Calm ((execOp a o).run P w))
    (n : Nat) (hm : P.follows .mixedOrders = true) (hB : Region.lexTailB .any l.toArray n = true)
    (h : wpStill P l.toArray { w with drawn := w.drawn + 1 } (fun a' => wpList P l.toArray (OnlyNormal Q) (l.drop n) a' { w with drawn := w.drawn + 1 }) (l.take n) a) : (Code.region id l.toArray true).wpIn (Fence.wide.inRound lr) 0 P Q a w :=
  wpIn_mono (still_round (Q := OnlyNormal Q) lr (fun ⟨_, _, h⟩ => by cases h.1) hc n hm hB h) fun _ _ _ h => h.2
theorem calm_then (r : Result Value) : Calm (r.andThen fun v w => .ok (.value v) w) := by cases r <;> trivial
theorem calm_skip {α : Type} (r : Result α) : Calm (r.andThen fun _ w => .ok .skip w) := by cases r <;> trivial
def plainB : Op → Bool
  | .move _ => true
  | .load .. => true
  | .indexAddr .. => true
  | .convert .. => true
  | .binOp .. => true
  | .store .. => true
  | _ => false
theorem calm_plain {P : Program} (o : Oper) (h : plainB o.op = true) : (∀ c, o.op ≠ .defer c) ∧ ∀ a w, Calm ((execOp a o).run P w) := by
  refine ⟨fun c e => (by rw [e] at h; cases h), fun a w => ?_⟩
  unfold execOp
  cases ho : o.op <;> rw [ho] at h <;> first | (cases h; done) | skip
  all_goals simp only [Sem.run_bind, Sem.run_pure]
  all_goals first
    | trivial
    | exact calm_then _
    | exact calm_skip _
    | skip
theorem calm_all {P : Program} (l : List Oper) (h : l.all (fun o => plainB o.op) = true) : ∀ (i : Nat) (o : Oper), l.toArray[i]? = some o → (∀ c, o.op ≠ .defer c) ∧ ∀ a w, Calm ((execOp a o).run P w) := fun i o ho =>
  calm_plain o (List.all_eq_true.1 h o (List.mem_of_getElem? (by simpa using ho)))
end Go.Proofs.Ytbmhgdfkkiepaaa
