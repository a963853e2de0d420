/-
  A slice of one-cell elements of the call's own, wherever in its block it begins (behind 's = s[1:]'): what an append makes of it. No condition but the lengths' bounds.
-/
import Derived.Test.YtmghgjokleeigaaSpM
import Derived.ArgAppend
import Derived.OwnWalk
import Derived.OwnWalkIn
namespace Go.Proofs.Ytmghgjokleeigaa
open Go.RowKit

/-- A block of cells behind a store. -/
theorem set_cells {w : World} {b o : Nat} {c : Array Value} {x : Value} {t : TypeId} (h : w.heap[b]? = some (.cells c t (0, 0))) : (w.setCell ⟨b, o, none⟩ x).heap[b]? = some (.cells (c.setIfInBounds o x) t (0, 0)) := by
  have hlt := block_lt h
  have h' : w.heap[b] = .cells c t (0, 0) := by simpa [Array.getElem?_eq_getElem hlt] using h
  show (w.heap.modify b _)[b]? = _
  rw [Array.getElem?_eq_getElem (by simpa using hlt), Array.getElem_modify_self, h']
  rfl
def OffRow (w : World) (base : Nat) (e : TypeId) (v : Value) (xs : List Value) : Prop :=
  (v = .slice none 0 0 ∧ xs = []) ∨
  ∃ g o cap cur, v = .slice (some ⟨g, o, none⟩) xs.length cap ∧ base ≤ g ∧ w.heap[g]? = some (.cells cur e (0, 0)) ∧ xs.length ≤ cap ∧ cap ≤ maxLen ∧ o + cap ≤ cur.size ∧ ∀ j u, xs[j]? = some u → cur[o + j]? = some u

section
variable {w w' : World} {base : Nat} {e : TypeId} {v : Value} {xs : List Value}
theorem OffRow.nil_ (w : World) (base : Nat) (e : TypeId) : OffRow w base e (.slice none 0 0) [] := .inl ⟨rfl, rfl⟩
theorem OffRow.form (h : OffRow w base e v xs) : ∃ q c, v = .slice q xs.length c := by
  rcases h with ⟨rfl, rfl⟩ | ⟨g, o, cap, cur, rfl, _⟩
  · exact ⟨_, _, rfl⟩
  · exact ⟨_, _, rfl⟩
theorem OffRow.mono {base' : Nat} (h : OffRow w base e v xs) (hb : base' ≤ base) : OffRow w base' e v xs := by
  rcases h with h | ⟨g, o, cap, cur, h1, h2, h3⟩
  · exact .inl h
  · exact .inr ⟨g, o, cap, cur, h1, by omega, h3⟩
theorem OffRow.own (h : OffRow w base e v xs) {k : Nat} (hk : v.ownBlock = some k) : base ≤ k ∧ ∃ cur, w.heap[k]? = some (.cells cur e (0, 0)) := by
  rcases h with ⟨rfl, _⟩ | ⟨g, o, cap, cur, rfl, h2, h3, _⟩
  · simp [Value.ownBlock] at hk
  · simp [Value.ownBlock] at hk; subst hk; exact ⟨h2, _, h3⟩
theorem OffRow.same (h : OffRow w base e v xs) (hs : ∀ k, v.ownBlock = some k → w'.heap[k]? = w.heap[k]?) : OffRow w' base e v xs := by
  rcases h with h | ⟨g, o, cap, cur, rfl, h2, h3, h4⟩
  · exact .inl h
  · exact .inr ⟨g, o, cap, cur, rfl, h2, (hs g rfl).trans h3, h4⟩
theorem OffRow.grown {row : Option Nat} (h : OffRow w base e v xs) (hg : w.grownBy w' row) (hne : ∀ k, v.ownBlock = some k → row ≠ some k) : OffRow w' base e v xs :=
  h.same fun k hk => hg.block k (block_lt (h.own hk).2.choose_spec) (fun e' => hne k hk e'.symm)
theorem OffRow.alloc (h : OffRow w base e v xs) (o : Obj) : OffRow (w.alloc o) base e v xs := h.grown (World.grownBy_alloc w o none) (fun _ _ e => by cases e)
theorem OffRow.drewN (h : OffRow w base e v xs) (n : Nat) : OffRow (w.drewN n) base e v xs := h
theorem OffRow.at_ (h : OffRow w base e v xs) {k : Nat} (hk : k < xs.length) : ∃ g o c, v = .slice (some ⟨g, o, none⟩) xs.length c ∧ w.cell? ⟨g, o + k, none⟩ = some xs[k] := by
  rcases h with ⟨_, rfl⟩ | ⟨g, o, cap, cur, rfl, h2, h3, h4, h5, h6, h7⟩
  · simp at hk
  · refine ⟨g, o, cap, rfl, ?_⟩
    have := h7 k xs[k] (List.getElem?_eq_getElem hk)
    simp [World.cell?, h3, this]
/-- Behind 's = s[1:]'. -/
theorem OffRow.tail {g o n c : Nat} {x : Value} {ys : List Value} (h : OffRow w base e (.slice (some ⟨g, o, none⟩) n c) (x :: ys)) : n = ys.length + 1 ∧ 1 ≤ c ∧ c ≤ maxLen ∧
    (c = 1 → OffRow w base e (.slice (some ⟨g, o, none⟩) 0 0) ys) ∧ OffRow w base e (.slice (some ⟨g, o + 1, none⟩) ys.length (c - 1)) ys := by
  rcases h with ⟨h, _⟩ | ⟨g', o', cap, cur, e1, h2, h3, h4, h5, h6, h7⟩
  · cases h
  · cases e1
    simp only [List.length_cons] at h4
    refine ⟨by simp, by omega, h5, fun e1 => ?_, .inr ⟨g, o + 1, c - 1, cur, rfl, h2, h3, by omega, by omega, by omega, fun j u hu => ?_⟩⟩
    · obtain rfl : ys = [] := List.eq_nil_of_length_eq_zero (by omega)
      exact .inr ⟨g, o, 0, cur, rfl, h2, h3, by simp, by omega, by omega, by simp⟩
    · have := h7 (j + 1) u (by simpa using hu)
      rwa [show o + 1 + j = o + (j + 1) by omega]
theorem OffRow.of_owns {n : Nat} (h : w.ownsRow base e 1 v n xs) : OffRow w base e v xs := by
  obtain ⟨hl, h⟩ := h
  rcases h with ⟨rfl, rfl⟩ | ⟨g, cap, cur, rfl, h2, h3, h4, h5, h6, h7⟩
  · exact .inl ⟨rfl, List.eq_nil_of_length_eq_zero (by simpa using hl)⟩
  · obtain rfl : n = xs.length := by omega
    refine .inr ⟨g, 0, cap, cur, rfl, h2, h3, h4, h5, by omega, fun j u hu => ?_⟩
    rw [← h7, List.getElem?_take] at hu
    split at hu
    · simpa using hu
    · cases hu
theorem OffRow.len' {q : Option Addr} {n c : Nat} (h : OffRow w base e (.slice q n c) xs) : n = xs.length := by obtain ⟨q', c', e⟩ := h.form; cases e; rfl
theorem OffRow.form' (h : OffRow w base e v xs) : ∃ q L c, v = .slice q L c := by obtain ⟨q, c, rfl⟩ := h.form; exact ⟨_, _, _, rfl⟩
theorem OffRow.rowU {l : List Nat} (h : OffRow w base 22 v (l.map fun x : Nat => Value.int .u32 x)) : RowU .u32 w v l := by
  rcases h with ⟨rfl, h0⟩ | ⟨g, o, cap, cur, rfl, h2, h3, h4, h5, h6, h7⟩
  · have : l = [] := by simpa using h0
    subst this
    exact ⟨_, _, rfl, fun h => absurd rfl h⟩
  · refine ⟨_, _, by rw [List.length_map], fun _ => ⟨g, o, rfl, fun i x hx => ?_⟩⟩
    have := h7 i (.int .u32 x) (by simp [hx])
    simp [World.cell?, h3, this]
/-- Two slices in different blocks. -/
def Apart (u v : Value) : Prop := ∀ k, u.ownBlock = some k → v.ownBlock ≠ some k
theorem Apart.symm {u v : Value} (h : Apart u v) : Apart v u := fun k h1 h2 => h k h2 h1
end

section
variable {P : Program} (w : World)
theorem run_append_off (base : Nat) (t ty e : TypeId) (i : TypeInfo) (z : Value) (bytes : Nat) (ht : P.underlying t = some (.slice e)) (hi : P.info? e = some i) (hz : i.zero = some z)
    (hsize : i.size = 1) (hby : i.bytes = bytes) (hzs : z.cells.size = 1) (v : Value) (xs : List Value) (h : OffRow w base e v xs) (ad : Addr) (c : Nat) (u : Value) (hu : w.cell? ad = some u) (h1 : u.oneCell' = true)
    (h63 : xs.length + 1 ≤ maxLen) (hbytes : (xs.length + 1) * bytes ≤ 140737488355328) (hbase : base ≤ w.heap.size) :
    ∃ v' w', (Builtin.append_ #[t, t] ty #[v, .slice (some ad) 1 c]).run P w = .ok v' w' ∧ OffRow w' base e v' (xs ++ [u]) ∧ w.grownBy w' v.ownBlock ∧ (∀ k, v'.ownBlock = some k → v.ownBlock = some k ∨ w.heap.size ≤ k) := by
  have hnews : ∀ j u', [u][j]? = some u' → w.cell? (ad.add j) = some u' := by
    intro j u' hj
    cases j with
    | zero => simp at hj; subst hj; exact hu
    | succ j => simp at hj
  have hone : ∀ x ∈ [u], x.oneCell' = true := by simpa using h1
  rcases h with ⟨rfl, rfl⟩ | ⟨g, o, cap, cur, rfl, h2, h3, h4, h5, h6, h7⟩
  · obtain ⟨v', w', hr, hown, hg, _⟩ := run_append_own (P := P) w w.heap.size t ty e i z 1 bytes ht hi hz hsize hby hzs (by omega) (.slice none 0 0) 0 [] (World.ownsRow_nil w _ e 1) ad 1 c [u] (by simp) hnews hone (by simpa using h63) (by simpa using hbytes) (Nat.le_refl _)
    exact ⟨v', w', hr, (OffRow.of_owns hown).mono hbase, hg, fun k hk => .inr (own_ge hown hk)⟩
  · have hlt := block_lt h3
    by_cases hr : xs.length + 1 ≤ cap
    · have hcell : ∀ j, j < [u].length → (w.cell? ⟨g, o + xs.length * i.size + j, none⟩).isSome = true := by
        intro j hj
        simp at hj; subst hj
        have : o + xs.length < cur.size := by omega
        simp [World.cell?, h3, hsize, this]
      have hfr : ∀ j, j < [u].length → w.frozen? ⟨g, o + xs.length * i.size + j, none⟩ = false := by
        intro j hj
        simp [World.frozen?, h3]
      have hrun := run_append_room_cells (P := P) w t ty e i ht hi g o xs.length cap ad 1 c [u] (by simp [hsize]) hnews hone hr hcell hfr
      refine ⟨_, _, hrun, .inr ⟨g, o, cap, cur.setIfInBounds (o + xs.length) u, by simp, h2, ?_, by simp; omega, h5, by simp; omega, fun j u' hj => ?_⟩, ?_, fun k hk => .inl hk⟩
      · simp only [World.setCells, hsize, Nat.mul_one]
        exact set_cells h3
      · by_cases hjl : j < xs.length
        · rw [List.getElem?_append_left hjl] at hj
          rw [Array.getElem?_setIfInBounds_ne (by omega)]
          exact h7 j u' hj
        · rw [List.getElem?_append_right (by omega)] at hj
          obtain rfl : j = xs.length := by
            rcases Nat.lt_or_ge (j - xs.length) 1 with h | h
            · omega
            · rw [List.getElem?_eq_none (by simpa using h)] at hj; cases hj
          simp at hj
          subst hj
          have : o + xs.length < cur.size := by omega
          simp [this]
      · simp only [World.setCells]
        exact grown_set_drewN w 0 g _ u
    · obtain ⟨v', w', hrun, hown, hg⟩ := run_append_arg_grows (P := P) w t ty e i z 1 bytes ht hi hz hsize hby hzs (by omega) ⟨g, o, none⟩ xs.length cap xs (by simp) (by
        intro j u' hj
        have := h7 j u' hj
        rw [Addr.add_lit]
        simp [World.cell?, h3, this]) ad 1 c [u] (by simp) hnews (by omega) h63 hbytes
      exact ⟨v', w', hrun, (OffRow.of_owns hown).mono hbase, ⟨hg.os, hg.tape, hg.output, hg.size, fun k hk _ => hg.block k hk (by simp)⟩, fun k hk => .inr (own_ge hown hk)⟩

theorem wpList_append_off {ops : Array Oper} {rest : List Oper} {o : Oper} {a : Act} {Q : Exit → Act → World → Prop} (hgd : o.guard = none) (s x : Operand) (t : TypeId)
    (ho : o.op = .call { callee := .builtin .append, args := #[s, x], argTypes := #[t, t] })
    (base : Nat) (e : TypeId) (i : TypeInfo) (z : Value) (bytes : Nat) (ht : P.underlying t = some (.slice e)) (hi : P.info? e = some i) (hz : i.zero = some z)
    (hsize : i.size = 1) (hby : i.bytes = bytes) (hzs : z.cells.size = 1) (v : Value) (xs : List Value) (hs : a.eval s = v) (hown : OffRow w base e v xs)
    (ad : Addr) (c : Nat) (u : Value) (hx : a.eval x = .slice (some ad) 1 c) (hu : w.cell? ad = some u) (h1 : u.oneCell' = true)
    (h63 : xs.length + 1 ≤ maxLen) (hbytes : (xs.length + 1) * bytes ≤ 140737488355328) (hbase : base ≤ w.heap.size)
    (h : ∀ v' w', OffRow w' base e v' (xs ++ [u]) → w.grownBy w' v.ownBlock → (∀ k, v'.ownBlock = some k → v.ownBlock = some k ∨ w.heap.size ≤ k) → wpList P ops Q rest (a.put o.dst v') w') : wpList P ops Q (o :: rest) a w :=
  wpList_plain hgd fun _ hK => by
    obtain ⟨v', w', hr, h2, h3, h4⟩ := run_append_off (P := P) w base t o.type e i z bytes ht hi hz hsize hby hzs v xs hown ad c u hu h1 h63 hbytes hbase
    unfold Oper.wp execOp
    simp only [ho, resolve, invoke, builtin, Sem.run_bind, Sem.run_pure, Result.andThen_ok, List.map_toArray, List.map_cons, List.map_nil, hs, hx, hr]
    exact hK _ _ (h v' w' h2 h3 h4)
theorem wpListIn_append_off {F : Fence} {nn : Nat} {ops : Array Oper} {rest : List Oper} {o : Oper} {a : Act} {Q : Exit → Act → World → Prop} (hgd : o.guard = none) (s x : Operand) (t : TypeId)
    (ho : o.op = .call { callee := .builtin .append, args := #[s, x], argTypes := #[t, t] })
    (base : Nat) (e : TypeId) (i : TypeInfo) (z : Value) (bytes : Nat) (ht : P.underlying t = some (.slice e)) (hi : P.info? e = some i) (hz : i.zero = some z)
    (hsize : i.size = 1) (hby : i.bytes = bytes) (hzs : z.cells.size = 1) (v : Value) (xs : List Value) (hs : a.eval s = v) (hown : OffRow w base e v xs)
    (ad : Addr) (c : Nat) (u : Value) (hx : a.eval x = .slice (some ad) 1 c) (hu : w.cell? ad = some u) (h1 : u.oneCell' = true)
    (h63 : xs.length + 1 ≤ maxLen) (hbytes : (xs.length + 1) * bytes ≤ 140737488355328) (hbase : base ≤ w.heap.size)
    (h : ∀ v' w', OffRow w' base e v' (xs ++ [u]) → w.grownBy w' v.ownBlock → (∀ k, v'.ownBlock = some k → v.ownBlock = some k ∨ w.heap.size ≤ k) → wpListIn F nn P ops Q rest (a.put o.dst v') w') : wpListIn F nn P ops Q (o :: rest) a w :=
  wpListIn_plain hgd fun _ hK => by
    obtain ⟨v', w', hr, h2, h3, h4⟩ := run_append_off (P := P) w base t o.type e i z bytes ht hi hz hsize hby hzs v xs hown ad c u hu h1 h63 hbytes hbase
    unfold Oper.wpIn
    refine ⟨?_, ?_⟩
    · simp [Oper.about, ho, resolve, Target.leads, Sem.run_pure]
    · rw [Oper.semAt_plain F _ _ (by rw [ho]; intro c hc'; cases hc')]
      simp [execOp, ho, resolve, invoke, builtin, hs, hx, hr, Result.andThen]
      exact hK _ _ (h v' w' h2 h3 h4)
end
end Go.Proofs.Ytmghgjokleeigaa
