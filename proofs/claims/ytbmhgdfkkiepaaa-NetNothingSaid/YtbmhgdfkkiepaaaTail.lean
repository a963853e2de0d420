/-
  A region that draws its order, whose first operations are carried out one by one and whose rest only reads: the rest goes by one walk. Over any program.
-/
import Derived.BigQuiet
import Derived.Deep.QuietTactic
namespace Go.Proofs.Ytbmhgdfkkiepaaa

theorem wpAny_tail {P : Program} {ops : Array Oper} {Q : Exit → Act → World → Prop} {l : List Oper} (k : Nat) {fuel : Nat} {listed : Array Bool} {a : Act} {w : World} (hf : fuel = l.length) (hl : ∀ j, l[j]? = ops[k + j]?)
    (hs : Region.noSelect ops = true) (hB : Region.lexFrom .any ops l.length k listed = true)
    (h : wpQuiet P ops (fun w' => ∃ n, w' = w.drewN n) (fun a' => ∀ w', (∃ n, w' = w.drewN n) → Q .normal a' w') l a) : wpAny P .any ops Q fuel listed a w := by
  subst hf
  exact wpAny_of_quiet (C := fun w' => ∃ n, w' = w.drewN n) (Q := fun a' => ∀ w', (∃ n, w' = w.drewN n) → Q .normal a' w') (fun _ w' hw' h => h w' hw') _ _ _ _ ⟨0, rfl⟩ (wpAnyQ_lex hs l k listed a hl hB h)

theorem wpAny_tail3 {P : Program} {o0 o1 o2 : Oper} {l : List Oper} {Q : Exit → Act → World → Prop} {fuel : Nat} {listed : Array Bool} {a : Act} {w : World} (hf : fuel = l.length)
    (hs : Region.noSelect (List.toArray (o0 :: o1 :: o2 :: l)) = true) (hB : Region.lexFrom .any (List.toArray (o0 :: o1 :: o2 :: l)) l.length 3 listed = true)
    (h : wpQuiet P (List.toArray (o0 :: o1 :: o2 :: l)) (fun w' => ∃ n, w' = w.drewN n) (fun a' => ∀ w', (∃ n, w' = w.drewN n) → Q .normal a' w') l a) : wpAny P .any (List.toArray (o0 :: o1 :: o2 :: l)) Q fuel listed a w :=
  wpAny_tail 3 hf (fun j => by simp [Nat.add_comm 3 j]) hs hB h
end Go.Proofs.Ytbmhgdfkkiepaaa
