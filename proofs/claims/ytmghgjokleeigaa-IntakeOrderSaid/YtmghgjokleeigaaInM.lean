/-
  Intake: what is kept, in memory: a map of slices of bytes. No condition but the numbers' ranges.
-/
import Derived.Test.YtmghgjokleeigaaOff
import Derived.Maps.Own
import Derived.Maps.Views
import Derived.Maps.OwnSet
import Derived.Maps.RangeWalk
namespace Go.Proofs.Ytmghgjokleeigaa
open Go.RowKit Go.Maps

abbrev byts (l : List Nat) : List Value := l.map fun x : Nat => Value.int .u8 x
/-- A slice's address, length, capacity. -/
abbrev Sl := Option Addr × Nat × Nat
def encS (s : Sl) : Value := .slice s.1 s.2.1 s.2.2
/-- A payload: where it lies, its bytes. -/
abbrev Gr := Sl × List Nat
abbrev encG (g : Gr) : Value := encS g.1
/-- A slice reads as these cells, wherever it lies; nil is nothing. -/
def Rd (W : World) (v : Value) (xs : List Value) : Prop :=
  (v = .slice none 0 0 ∧ xs = []) ∨ ∃ ad c, v = .slice (some ad) xs.length c ∧ ∀ j u, xs[j]? = some u → W.cell? (ad.add j) = some u
theorem OffRow.rd {w : World} {base : Nat} {e : TypeId} {v : Value} {xs : List Value} (h : OffRow w base e v xs) : Rd w v xs := by
  rcases h with h | ⟨g, o, cap, cur, rfl, h2, h3, h4, h5, h6, h7⟩
  · exact .inl h
  · refine .inr ⟨_, _, rfl, fun j u hu => ?_⟩
    have := h7 j u hu
    rw [Addr.add_lit]
    simp [World.cell?, h3, this]
theorem OffRow.len'' {w : World} {base : Nat} {e : TypeId} {v : Value} {q : Option Addr} {n c : Nat} {xs : List Value} (h : OffRow w base e v xs) (hv : v = .slice q n c) : n = xs.length := by subst hv; exact h.len'
theorem Rd.keep {w w' : World} {v : Value} {xs : List Value} (h : Rd w v xs) (hk : ∀ a u, w.cell? a = some u → w'.cell? a = some u) : Rd w' v xs := by
  rcases h with h | ⟨ad, c, rfl, h⟩
  · exact .inl h
  · exact .inr ⟨ad, c, rfl, fun j u hu => hk _ _ (h j u hu)⟩
theorem cell_below {w w' : World} (h : Below w.heap.size w w') (a : Addr) (u : Value) (hc : w.cell? a = some u) : w'.cell? a = some u := by
  have hlt := World.block_lt_of_cell? w _ hc
  exact (h.cell (p := a) hlt).trans hc
theorem Rd.below {w w' : World} {v : Value} {xs : List Value} (h : Rd w v xs) (hb : Below w.heap.size w w') : Rd w' v xs := h.keep (cell_below hb)

theorem law22 : Keyed Try.prog 22 := int_keyed Try.underlying22
/-- An element reads as itself. -/
def HR (v : Value) : Option (DataW Value × List MemPlace) := some (.held v, [])
theorem zero62 (w : World) : (zeroValue 62).run Try.prog w = .ok (.slice none 0 0) w := by kernel_rfl
theorem wf_u32 {id : Nat} (h : id ≤ 4294967295) : (Lit.int .u32 (id : Int)).wf = true := by simp [Lit.wf, IntKind.min, IntKind.max, IntKind.signed, IntKind.bits]; omega
theorem key_u32 {id : Nat} (h : id ≤ 4294967295) : keyOf Try.prog 22 (.int .u32 (id : Int)) = some (.int .u32 (id : Int)) := keyOf_int_mk Try.underlying22 (wf_u32 h)
def upd {α : Type} (f : Nat → α) (k : Nat) (x : α) : Nat → α := fun i => if i = k then x else f i
theorem upd_same {α : Type} (f : Nat → α) (k : Nat) (x : α) : upd f k x k = x := if_pos rfl
theorem upd_other {α : Type} (f : Nat → α) {k i : Nat} (x : α) (h : i ≠ k) : upd f k x i = f i := if_neg h

/-- What D holds at each number. -/
def Says (D : DataW Value) (v : Nat → Option Gr) : Prop :=
  ∀ id : Nat, id ≤ 4294967295 → Maps.has D (.int .u32 (id : Int)) = (v id).isSome ∧ ∀ g, v id = some g → ∀ z, D.atKey (.int .u32 (id : Int)) z = .held (encG g)
/-- Block M is a map of c slices: at each number, what lies there. -/
def MapV (M n : Nat) (v : Nat → Option Gr) (c : Nat) (W : World) : Prop :=
  ∃ D : DataW Value, W.ownsMap Try.prog 22 HR M n D ∧ Maps.size D = c ∧ Says D v
section
variable {M n c : Nat} {v : Nat → Option Gr} {W W' : World}
theorem MapV.made (w : World) : MapV w.heap.size 0 (fun _ => none) 0 (w.alloc (.map #[] 0)) :=
  ⟨_, World.ownsMap_made _ _ _ _, rfl, fun _ _ => ⟨rfl, fun _ h => by cases h⟩⟩
theorem MapV.same (h : MapV M n v c W) (hk : W'.heap[M]? = W.heap[M]?) : MapV M n v c W' := by
  obtain ⟨D, ⟨es, clock, h1, h2, h3, h4⟩, h5⟩ := h
  exact ⟨D, ⟨es, clock, hk.trans h1, h2, h3, h4⟩, h5⟩
theorem MapV.more {n' : Nat} (h : MapV M n v c W) (hn : n ≤ n') : MapV M n' v c W := by
  obtain ⟨D, h1, h2⟩ := h
  exact ⟨D, h1.mono hn, h2⟩
theorem MapV.lt (h : MapV M n v c W) : M < W.heap.size := by obtain ⟨D, h1, _⟩ := h; exact h1.lt
theorem MapV.le (h : MapV M n v c W) : c ≤ n := by obtain ⟨D, h1, rfl, _⟩ := h; exact h1.size_le
/-- What a look-up finds. -/
def valAt (o : Option Gr) : Value := match o with | some g => encG g | none => .slice none 0 0
theorem says_val {D : DataW Value} (hs : Says D v) {id : Nat} (hid : id ≤ 4294967295) {x : Value} {ps : List MemPlace} (h : HR x = some (D.atKey (.int .u32 (id : Int)) (.held (.slice none 0 0)), ps)) : x = valAt (v id) := by
  obtain ⟨h1, h2⟩ := hs id hid
  have h3 : DataW.held x = D.atKey (.int .u32 (id : Int)) (.held (.slice none 0 0)) := by
    simp only [HR, Option.some.injEq, Prod.mk.injEq] at h
    exact h.1
  cases hv : v id with
  | none =>
    rw [hv] at h1
    rw [atKey_of_not_has (by simpa using h1)] at h3
    injection h3
  | some g =>
    rw [h2 g hv] at h3
    injection h3
theorem MapV.look_ok (h : MapV M n v c W) (id : Nat) (hid : id ≤ 4294967295) : (Instr.lookup 78 (.map (some M)) (.int .u32 id) true).run Try.prog W = .ok (.tuple #[valAt (v id), .bool (v id).isSome]) W := by
  obtain ⟨D, h1, _, h2⟩ := h
  obtain ⟨x, ps, hrun, hx⟩ := h1.look_ok (t := 78) law22 Try.underlying78 (zero62 _) (zd := .held (.slice none 0 0)) (zp := []) rfl (key_u32 hid)
  rw [hrun, says_val h2 hid hx, (h2 id hid).1]
theorem MapV.look (h : MapV M n v c W) (id : Nat) (hid : id ≤ 4294967295) : (Instr.lookup 78 (.map (some M)) (.int .u32 id) false).run Try.prog W = .ok (valAt (v id)) W := by
  obtain ⟨D, h1, _, h2⟩ := h
  obtain ⟨x, ps, hrun, hx⟩ := h1.lookup (t := 78) law22 Try.underlying78 (zero62 _) (zd := .held (.slice none 0 0)) (zp := []) rfl (key_u32 hid)
  rw [hrun, says_val h2 hid hx]
theorem key_lit {id : Nat} (hid : id ≤ 4294967295) : WideAt.IsKeyLit (.int .u32 (id : Int)) := law22.key (key_u32 hid)
theorem lit_ne {i j : Nat} (h : i ≠ j) : (Lit.int .u32 (i : Int)) ≠ .int .u32 (j : Int) := by intro e; injection e with _ e; omega
theorem MapV.store (h : MapV M n v c W) (hn : n < maxLen) (id : Nat) (hid : id ≤ 4294967295) (hv : v id = none) (g : Gr) :
    ∃ W', (Instr.mapUpdate 78 (.map (some M)) (.int .u32 id) (encG g)).run Try.prog W = .ok () W' ∧ MapV M (n + 1) (upd v id (some g)) (c + 1) W' ∧ W.mapTurned W' M := by
  obtain ⟨D, h1, h2, h3⟩ := h
  obtain ⟨W', hrun, r1, r2⟩ := h1.store (t := 78) law22 Try.underlying78 hn (key_u32 hid) (val := encG g) (d := .held (encG g)) (ps := []) rfl
  refine ⟨W', hrun, ⟨_, r1, ?_, fun j hj => ?_⟩, r2⟩
  · rw [size_put (h1.tidy law22), (h3 id hid).1, hv, ← h2]; rfl
  · by_cases e : j = id
    · subst e
      rw [upd_same]
      refine ⟨has_put_same h1.isMap (key_lit hj) _, fun g' hg' z => ?_⟩
      cases hg'
      exact atKey_put_same h1.isMap (key_lit hj) _ _
    · rw [upd_other _ _ e]
      obtain ⟨a1, a2⟩ := h3 j hj
      refine ⟨(has_put_other (lit_ne e) _).trans a1, fun g' hg' z => ?_⟩
      rw [atKey_put_other (lit_ne e)]
      exact a2 g' hg' z
theorem MapV.drop (h : MapV M n v c W) (id : Nat) (hid : id ≤ 4294967295) (hv : (v id).isSome = true) (ty : TypeId) :
    ∃ W', (Builtin.delete_ #[78, 22] ty #[.map (some M), .int .u32 id]).run Try.prog W = .ok (.tuple #[]) W' ∧ MapV M n (upd v id none) (c - 1) W' ∧ W.mapTurned W' M := by
  obtain ⟨D, h1, h2, h3⟩ := h
  obtain ⟨W', hrun, r1, r2⟩ := h1.drop (t := 78) law22 Try.underlying78 (key_u32 hid) ty
  refine ⟨W', hrun, ⟨_, r1, ?_, fun j hj => ?_⟩, r2⟩
  · have := size_del (k := .int .u32 (id : Int)) (h1.tidy law22)
    rw [(h3 id hid).1, hv, h2] at this
    simp at this
    omega
  · by_cases e : j = id
    · subst e
      rw [upd_same]
      exact ⟨has_del_same, fun g' hg' => by cases hg'⟩
    · rw [upd_other _ _ e]
      obtain ⟨a1, a2⟩ := h3 j hj
      refine ⟨(has_del_other (lit_ne e)).trans a1, fun g' hg' z => ?_⟩
      rw [atKey_del_other (lit_ne e)]
      exact a2 g' hg' z
theorem MapV.len (h : MapV M n v c W) (ty : TypeId) : (Builtin.len_ #[78] ty #[.map (some M)]).run Try.prog W = .ok (.int .i64 c) W := by
  obtain ⟨D, h1, rfl, _⟩ := h
  exact h1.len (t := 78) Try.underlying78 ty
end
theorem turned_block {W W' : World} {M : Nat} (h : W.mapTurned W' M) : ∀ b, b ≠ M → W'.heap[b]? = W.heap[b]? := by
  obtain ⟨es, clock, es', clock', hb, rfl⟩ := h
  exact fun b hne => Go.ChangeMaps.heap_setBlock_other hb _ hne
theorem turned_size {W W' : World} {M : Nat} (h : W.mapTurned W' M) : W'.heap.size = W.heap.size := by
  obtain ⟨es, clock, es', clock', hb, rfl⟩ := h
  simp [Go.ChangeMaps.setBlock]

/-- An intake in memory: what it waits for, what is kept. -/
structure Intk (w0 : World) (I M n fl : Nat) (v : Nat → Option Gr) (c : Nat) (W : World) : Prop where
  box : W.heap[I]? = some (.cells #[.int .u32 fl, .map (some M)] 80 (0, 0))
  map : MapV M n v c W
  gr : ∀ id g, v id = some g → OffRow W w0.heap.size 5 (encG g) (byts g.2)
  hI : w0.heap.size ≤ I
  hM : w0.heap.size ≤ M
  bel : Below w0.heap.size w0 W
section
variable {w0 : World} {I M n fl : Nat} {v : Nat → Option Gr} {c : Nat} {W W' : World}
theorem Intk.ne (h : Intk w0 I M n fl v c W) : I ≠ M := by
  obtain ⟨D, ⟨es, clock, h1, _⟩, _⟩ := h.map
  intro e
  have := h.box
  rw [e, h1] at this
  cases this
theorem Intk.same (h : Intk w0 I M n fl v c W) (hb : Below W.heap.size W W') : Intk w0 I M n fl v c W' :=
  ⟨(hb.block _ (block_lt h.box)).trans h.box, h.map.same (hb.block _ h.map.lt), fun id g e => (h.gr id g e).same fun b e2 => hb.block b (block_lt ((h.gr id g e).own e2).2.choose_spec), h.hI, h.hM, h.bel.trans (hb.mono h.bel.size)⟩
theorem Intk.alloc (h : Intk w0 I M n fl v c W) (o : Obj) : Intk w0 I M n fl v c (W.alloc o) := h.same ((Below.refl _ _).alloc (Nat.le_refl _) _)
theorem Intk.drewN (h : Intk w0 I M n fl v c W) (k : Nat) : Intk w0 I M n fl v c (W.drewN k) := h.same ⟨rfl, rfl, rfl, Nat.le_refl _, fun _ _ => rfl⟩
theorem Intk.drew (h : Intk w0 I M n fl v c W) : Intk w0 I M n fl v c W.drew := h.drewN 1
theorem Intk.more {n' : Nat} (h : Intk w0 I M n fl v c W) (hn : n ≤ n') : Intk w0 I M n' fl v c W := ⟨h.box, h.map.more hn, h.gr, h.hI, h.hM, h.bel⟩
theorem Intk.c0 (h : Intk w0 I M n fl v c W) : W.cell? ⟨I, 0, none⟩ = some (.int .u32 fl) := by simp [World.cell?, h.box]
theorem Intk.c1 (h : Intk w0 I M n fl v c W) : W.cell? ⟨I, 1, none⟩ = some (.map (some M)) := by simp [World.cell?, h.box]
theorem Intk.f0 (h : Intk w0 I M n fl v c W) : W.frozen? ⟨I, 0, none⟩ = false := by simp [World.frozen?, h.box]
end
end Go.Proofs.Ytmghgjokleeigaa
