/-
  NetNothing: what each act turns.
-/
import Derived.Test.YtbmhgdfkkiepaaaNothS
namespace Go.Proofs.Ytbmhgdfkkiepaaa
open Go.RowKit

theorem NetIs.keepC {w0 : World} {N : Nat} {r : Nat → Value} {g : Nat → List Gr} {W W' : World} (h : NetIs w0 N r g W) (hk : ∀ (b : Nat) (c : Array Value) (t : TypeId) (f : Nat × Nat), W.heap[b]? = some (Obj.cells c t f) → t = 93 ∨ t = 68 ∨ t = 5 → W'.heap[b]? = W.heap[b]?) (hb : Below w0.heap.size w0 W') : NetIs w0 N r g W' := by
  refine ⟨(hk _ _ _ _ h.net (.inl rfl)).trans h.net, fun k hk2 => (h.row k hk2).same fun b e => ?_, fun k hk2 p hp => (h.gram k hk2 p hp).same fun b e => ?_, h.apart, h.ne, h.hN, hb⟩
  · obtain ⟨_, cur, hc⟩ := (h.row k hk2).own e
    exact hk _ _ _ _ hc (.inr (.inl rfl))
  · obtain ⟨_, cur, hc⟩ := (h.gram k hk2 p hp).own e
    exact hk _ _ _ _ hc (.inr (.inr rfl))
theorem Has.keepC {w0 : World} {N : Nat} {l : Ls} {W W' : World} (h : Has w0 N l W) (hk : ∀ (b : Nat) (c : Array Value) (t : TypeId) (f : Nat × Nat), W.heap[b]? = some (Obj.cells c t f) → t = 93 ∨ t = 68 ∨ t = 5 → W'.heap[b]? = W.heap[b]?) (hb : Below w0.heap.size w0 W') : Has w0 N l W' := by
  obtain ⟨r, g, h, hl⟩ := h
  exact ⟨r, g, h.keepC hk hb, hl⟩

section
variable {w : World} {N Mb Wb : Nat} {M : Nat → Nat} {S k wy : Nat} {d : Nat → Dg} {F : Nat → Nat → Nat} {Ds : List Nat} {W W1 W2 : World}
/-- A count has turned, and how many wait. -/
theorem Noth.count {d' : Nat → Dg} {G : Nat → Nat} {S' k' : Nat} (h : Noth w N Mb Wb M S k d F Ds W) (wy : Nat) (hwy : wy < 2) (hh : Has w N (encD d') W1)
    (hk : ∀ (b : Nat) (o : Obj), W.heap[b]? = some o → (∀ c t f, o = Obj.cells c t f → t = 81 ∨ t = 82) → W1.heap[b]? = some o)
    (hm : MapF (M wy) k' G W2) (hgr : W1.grownBy W2 (some (M wy))) (hg : Good k' d' (upd F wy G)) (hS : S' ≤ k') (hkk : k ≤ k') (hl : ∀ i, i < 2 → i ≠ wy → (d' i).length = (d i).length) (W3 : World) (hW3 : W3 = W2.setCell ⟨Wb, wy, none⟩ (.int .i64 ((d' wy).length : Nat)) ∨ (W3 = W2 ∧ (d' wy).length = (d wy).length)) :
    Noth w N Mb Wb M S' k' d' (upd F wy G) Ds W3 := by
  have hWb1 := hk _ _ h.wb (fun c t f e => by cases e; exact .inr rfl)
  have hMb1 := hk _ _ h.mb (fun c t f e => by cases e; exact .inl rfl)
  have hmap : ∀ i, i < 2 → ∃ es clock, W1.heap[M i]? = some (Obj.map es clock) := fun i hi => by
    obtain ⟨D, ⟨es, clock, h1, _⟩, _⟩ := h.mp i hi
    exact ⟨es, clock, hk _ _ h1 (fun c t f e => by cases e)⟩
  obtain ⟨es0, cl0, hM0⟩ := hmap wy hwy
  have hMW : M wy ≠ Wb := by intro e; rw [e, hWb1] at hM0; cases hM0
  have hMM : M wy ≠ Mb := by intro e; rw [e, hMb1] at hM0; cases hM0
  have hWM : Mb ≠ Wb := by intro e; rw [e, hWb1] at hMb1; cases hMb1
  have e2 : ∀ b, b < W1.heap.size → b ≠ M wy → W2.heap[b]? = W1.heap[b]? := fun b hb hne => hgr.block b hb (fun e => hne (by injection e))
  have hWb2 : W2.heap[Wb]? = some (.cells #[.int .i64 ((d 0).length : Nat), .int .i64 ((d 1).length : Nat)] 82 (0, 0)) := (e2 _ (block_lt hWb1) (Ne.symm hMW)).trans hWb1
  have e3 : ∀ b, b ≠ Wb → W3.heap[b]? = W2.heap[b]? := fun b hb => by
    rcases hW3 with rfl | ⟨rfl, _⟩
    · exact Below.heap_setCell _ _ _ _ hb
    · rfl
  have hb1 := hh.bel
  have hb2 : Below w.heap.size w W2 := hb1.grown hgr hb1.size (fun j e => by cases e; exact h.lo.2.2 wy hwy)
  have hb3 : Below w.heap.size w W3 := by
    rcases hW3 with rfl | ⟨rfl, _⟩
    · exact hb2.setCell h.lo.2.1 _
    · exact hb2
  refine ⟨hh.keepC (fun b c t f e ht => ?_) hb3, hg, hS, (e3 _ hWM).trans ((e2 _ (block_lt hMb1) (Ne.symm hMM)).trans hMb1), ?_, fun i hi => ?_, h.mks.keep fun D e => ?_, h.ne, h.lo⟩
  · have n1 : b ≠ Wb := by rintro rfl; rw [hWb1] at e; cases e; rcases ht with h | h | h <;> exact absurd h (by decide)
    have n2 : b ≠ M wy := by rintro rfl; rw [hM0] at e; cases e
    rw [e3 _ n1, e2 _ (block_lt e) n2]
  · rcases hW3 with rfl | ⟨rfl, hsame⟩
    · rw [set_cells hWb2]
      obtain rfl | rfl : wy = 0 ∨ wy = 1 := by omega
      · rw [← hl 1 (by omega) (by omega)]; rfl
      · rw [← hl 0 (by omega) (by omega)]; rfl
    · rw [hWb2]
      obtain rfl | rfl : wy = 0 ∨ wy = 1 := by omega
      · rw [← hl 1 (by omega) (by omega), hsame]
      · rw [← hl 0 (by omega) (by omega), hsame]
  · by_cases e : i = wy
    · subst e; rw [upd_same]; exact hm.same (e3 _ hMW)
    · rw [upd_other _ _ e]
      obtain ⟨es, cl, hMi⟩ := hmap i hi
      have n1 : M i ≠ Wb := by intro e; rw [e, hWb1] at hMi; cases hMi
      have n2 : M i ≠ M wy := by
        have := h.ne
        obtain ⟨rfl, rfl⟩ | ⟨rfl, rfl⟩ : (i = 0 ∧ wy = 1) ∨ (i = 1 ∧ wy = 0) := by omega
        · exact this
        · exact Ne.symm this
      refine ((h.mp i hi).more hkk).same ?_
      rw [e3 _ n1, e2 _ (block_lt hMi) n2, hMi]
      obtain ⟨D, ⟨es', clock', h1, _⟩, _⟩ := h.mp i hi
      rw [← hMi, hk _ _ h1 (fun c t f e => by cases e), h1]
  · have h1 := hk _ _ e (fun c t f e => by cases e)
    have n1 : D ≠ Wb := by rintro rfl; rw [hWb1] at h1; cases h1
    have n2 : D ≠ M wy := by rintro rfl; rw [hM0] at h1; cases h1
    rw [e3 _ n1, e2 _ (block_lt h1) n2, h1]
theorem Keep5.noth (h : Keep5 W W1) : ∀ (b : Nat) (o : Obj), W.heap[b]? = some o → (∀ c t f, o = Obj.cells c t f → t = 81 ∨ t = 82) → W1.heap[b]? = some o := fun b o e ho => h b o e fun c t f e2 => by
  rcases ho c t f e2 with rfl | rfl <;> decide
theorem src_four {w0 W : World} (a b c e : Int) (A B C E : Nat) (ha : a = A) (hb : b = B) (hc : c = C) (he : e = E) (f : Nat × Nat) (cp : Nat) : Src w0 (W.alloc (.cells #[.int .u8 a, .int .u8 b, .int .u8 c, .int .u8 e] 5 f)) (.slice (some ⟨W.heap.size, 0, none⟩) 4 cp) [A, B, C, E] := by
  subst ha hb hc he
  have h0 := alloc_new W (.cells #[.int .u8 (A : Int), .int .u8 (B : Int), .int .u8 (C : Int), .int .u8 (E : Int)] 5 f)
  refine ⟨.inr ⟨⟨W.heap.size, 0, none⟩, cp, rfl, fun j u hu => ?_⟩, fun b e => .inr (.inr ⟨_, _, by cases e; exact h0⟩)⟩
  rw [Addr.add_lit]
  simp only [World.cell?, h0]
  rw [Nat.zero_add]
  exact (by simpa [← Array.getElem?_toList] using hu)
/-- A send. -/
theorem noth_send (h : Noth w N Mb Wb M S k d F Ds W) (wy : Nat) (hwy : wy < 2) (hS : S ≤ 199) (q cp : Nat) (f : Nat × Nat) (hq : q = W.heap.size) :
    Calls Try.prog 29 #[.pointer (some ⟨N, 0, none⟩), .int .i64 wy, .slice (some ⟨q, 0, none⟩) 4 cp] (W.alloc (.cells #[.int .u8 wy, .int .u8 (((S : Int) + 1) / 256), .int .u8 ((S : Int) + 1), .int .u8 0] 5 f)) fun e W1 =>
      e = .returned (.tuple #[.bool (decide (64 ≤ (d wy).length)), .int .i64 0]) ∧ Keep5 W W1 ∧ Has w N (encD (upd d wy (sentD (d wy) (S + 1, 0)))) W1 := by
  subst hq
  have hl : (encD d wy).length = (d wy).length := List.length_map ..
  have hl64 := h.good.len wy hwy
  refine (has_send (h.al _).has wy hwy (by omega) [wy, 0, S + 1, 0] _ _ _ (src_four _ _ _ _ wy 0 (S + 1) 0 rfl (by omega) (by push_cast; rfl) rfl f cp) rfl (by simp)).mono ?_
  rintro e W1 ⟨rfl, k5, h2⟩
  have he : sent (encD d wy) [wy, 0, S + 1, 0] = (sentD (d wy) (S + 1, 0)).map fun q => [wy, 0, q.1, q.2] := by
    unfold sent sentD
    rw [hl, List.map_append]
    split
    · show ((d wy).map _).eraseIdx 0 ++ _ = _
      rw [map_erase]; rfl
    · rfl
  refine ⟨by rw [hl], (keep5_below ((Below.refl _ _).alloc (Nat.le_refl _) _)).trans k5, h2.congr ?_ ?_⟩
  · by_cases e : wy = 0
    · subst e; rw [upd_same]; exact he
    · rw [upd_other _ _ (Ne.symm e)]; show _ = (upd d wy _ 0).map _; rw [upd_other _ _ (Ne.symm e)]; rfl
  · by_cases e : wy = 1
    · subst e; rw [upd_same]; exact he
    · rw [upd_other _ _ (Ne.symm e)]; show _ = (upd d wy _ 1).map _; rw [upd_other _ _ (Ne.symm e)]; rfl
/-- What is read behind a call. -/
structure Seen (Mb Wb : Nat) (M : Nat → Nat) (k : Nat) (d : Nat → Dg) (F : Nat → Nat → Nat) (wy : Nat) (W : World) : Prop where
  cw : W.cell? ⟨Wb, wy, none⟩ = some (.int .i64 ((d wy).length : Nat))
  fw : W.frozen? ⟨Wb, wy, none⟩ = false
  cm : W.cell? ⟨Mb, wy, none⟩ = some (.map (some (M wy)))
  mp : MapF (M wy) k (F wy) W
  ne : M wy ≠ Wb
  lt : Wb < W.heap.size
  nb : M wy ≠ Mb
  ltb : Mb < W.heap.size
theorem Noth.seen (h : Noth w N Mb Wb M S k d F Ds W) (wy : Nat) (hwy : wy < 2) (hk : ∀ (b : Nat) (o : Obj), W.heap[b]? = some o → (∀ c t f, o = Obj.cells c t f → t = 81 ∨ t = 82) → W1.heap[b]? = some o) : Seen Mb Wb M k d F wy W1 := by
  have e1 := hk _ _ h.wb (fun c t f e => by cases e; exact .inr rfl)
  have e2 := hk _ _ h.mb (fun c t f e => by cases e; exact .inl rfl)
  obtain ⟨D, ⟨es, clock, h1, h2, h3, h4⟩, h5⟩ := h.mp wy hwy
  have e3 := hk _ _ h1 (fun c t f e => by cases e)
  refine ⟨?_, ?_, ?_, ⟨D, ⟨es, clock, e3, h2, h3, h4⟩, h5⟩, ?_, block_lt e1, ?_, block_lt e2⟩
  · obtain rfl | rfl : wy = 0 ∨ wy = 1 := by omega
    · simp [World.cell?, e1]
    · simp [World.cell?, e1]
  · simp [World.frozen?, e1]
  · obtain rfl | rfl : wy = 0 ∨ wy = 1 := by omega
    · simp [World.cell?, e2]
    · simp [World.cell?, e2]
  · intro e; rw [e, e1] at e3; cases e3
  · intro e; rw [e, e2] at e3; cases e3
theorem Seen.behind (h : Seen Mb Wb M k d F wy W) {r : Option Nat} (hr : r = some (M wy)) (hg : W.grownBy W1 r) : W1.cell? ⟨Wb, wy, none⟩ = some (.int .i64 ((d wy).length : Nat)) ∧ W1.frozen? ⟨Wb, wy, none⟩ = false ∧ W1.cell? ⟨Mb, wy, none⟩ = some (.map (some (M wy))) := by
  subst hr
  have e := hg.block Wb h.lt (fun e => h.ne (by injection e with e; exact e.symm))
  exact ⟨(World.cell?_of_block (w := W) (a := ⟨Wb, wy, none⟩) e).trans h.cw, (World.frozen?_of_block (w := W) (a := ⟨Wb, wy, none⟩) e).trans h.fw, (World.cell?_of_block (w := W) (a := ⟨Mb, wy, none⟩) (hg.block Mb h.ltb (fun e => h.nb (by injection e with e; exact e.symm)))).trans h.cm⟩
theorem Noth.next {k' : Nat} (h : Noth w N Mb Wb M S k d F Ds W) (hk : k ≤ k') : Noth w N Mb Wb M S k' d F Ds W := ⟨h.has, h.good.more hk, Nat.le_trans h.sk hk, h.mb, h.wb, fun i hi => (h.mp i hi).more hk, h.mks, h.ne, h.lo⟩
theorem encD_upd (d : Nat → Dg) (wy : Nat) (x : Dg) (i : Nat) : upd (encD d) wy (x.map fun q => [wy, 0, q.1, q.2]) i = encD (upd d wy x) i := by
  by_cases e : i = wy
  · subst e; rw [upd_same]; show _ = (upd d i x i).map _; rw [upd_same]
  · rw [upd_other _ _ e]; show _ = (upd d wy x i).map _; rw [upd_other _ _ e]; rfl
def DelPost (w : World) (N : Nat) (d : Nat → Dg) (wy A : Nat) (W : World) (e : Ending) (W1 : World) : Prop :=
  ∃ qv cv lo fl, (d wy)[A]? = some (lo, fl) ∧ lo ≤ 200 ∧ fl ≤ 1 ∧ e = .returned (.tuple #[.slice qv 4 cv, .int .i64 0]) ∧ OffRow W1 w.heap.size 5 (.slice qv 4 cv) (byts [wy, 0, lo, fl]) ∧ Keep5 W W1 ∧ Has w N (encD (upd d wy ((d wy).eraseIdx A))) W1
theorem noth_deliver (h : Noth w N Mb Wb M S k d F Ds W) (wy : Nat) (hwy : wy < 2) (A : Nat) (hA : A < (d wy).length) :
    Calls Try.prog 33 #[.pointer (some ⟨N, 0, none⟩), .int .i64 wy, .int .i64 A] W (DelPost w N d wy A W) := by
  have hl : (encD d wy).length = (d wy).length := List.length_map ..
  have hl64 := h.good.len wy hwy
  obtain ⟨q, hq⟩ : ∃ q, (d wy)[A]? = some q := ⟨_, List.getElem?_eq_getElem hA⟩
  have hlow := h.good.low wy hwy q (List.mem_of_getElem? hq)
  refine (has_deliver h.has wy A hwy (by omega) [wy, 0, q.1, q.2] (by show ((d wy).map _)[A]? = _; rw [List.getElem?_map, hq]; rfl)).mono ?_
  rintro e W1 ⟨qv, n, cv, rfl, hn, ho, k5, h1⟩
  obtain rfl : n = 4 := hn
  refine ⟨qv, cv, q.1, q.2, hq, hlow.1, hlow.2, rfl, ho, k5, h1.congr ?_ ?_⟩
  · rw [← encD_upd, map_erase]; rfl
  · rw [← encD_upd, map_erase]; rfl
/-- All that is known behind a call, abides draws. -/
structure Behind (w : World) (N Mb Wb : Nat) (M : Nat → Nat) (k : Nat) (d d' : Nat → Dg) (F : Nat → Nat → Nat) (wy Ab A : Nat) (W W1 : World) : Prop where
  sn : Seen Mb Wb M k d F wy W1
  k5 : ∀ (b : Nat) (o : Obj), W.heap[b]? = some o → (∀ c t f, o = Obj.cells c t f → t = 81 ∨ t = 82) → W1.heap[b]? = some o
  has : Has w N (encD d') W1
  dA : W1.cell? ⟨Ab, 0, none⟩ = some (.int .i64 A)
theorem Behind.drewN {d' : Nat → Dg} {Ab A : Nat} (h : Behind w N Mb Wb M k d d' F wy Ab A W W1) (n : Nat) : Behind w N Mb Wb M k d d' F wy Ab A W (W1.drewN n) :=
  ⟨⟨h.sn.cw, h.sn.fw, h.sn.cm, h.sn.mp.same rfl, h.sn.ne, h.sn.lt, h.sn.nb, h.sn.ltb⟩, h.k5, h.has.same ⟨rfl, rfl, rfl, Nat.le_refl _, fun _ _ => rfl⟩, h.dA⟩
theorem and254 (fl : Nat) (h : fl ≤ 1) : bits .and .u8 (fl : Int) 254 = 0 := by
  obtain rfl | rfl : fl = 0 ∨ fl = 1 := by omega
  · decide
  · decide
theorem or_zero (lo : Nat) (h : lo ≤ 255) : bits .or .i64 0 (lo : Int) = (lo : Int) := by
  have h0 : ∀ x : Fin 256, bits .or .i64 0 ((x : Nat) : Int) = ((x : Nat) : Int) := by decide +kernel
  exact h0 ⟨lo, by omega⟩
theorem noth_gone (h : Noth w N Mb Wb M S k d F Ds W) (wy : Nat) (hwy : wy < 2) (A : Nat) (hA : (d wy).length ≤ A) :
    Calls Try.prog 48 #[.pointer (some ⟨N, 0, none⟩), .int .i64 wy, .int .i64 A] W fun e W' => e = .returned (.tuple #[.pointer (some ⟨N, 1 + wy, none⟩), .int .i64 6]) ∧ W = W' := by
  obtain ⟨r, g, hn, hg⟩ := h.has
  have hl : (encD d wy).length = (d wy).length := List.length_map ..
  have hl64 := h.good.len wy hwy
  have e1 : (g wy).length = (d wy).length := by rw [← hl, ← hg wy hwy, List.length_map]
  exact at_none hn wy A hwy (by omega) (by omega)
/-- One bit is turned. -/
theorem noth_flip (h : Noth w N Mb Wb M S k d F Ds W) (wy : Nat) (hwy : wy < 2) (A : Nat) (hA : A < (d wy).length) :
    Calls Try.prog 30 #[.pointer (some ⟨N, 0, none⟩), .int .i64 wy, .int .i64 A, .int .i64 24] W fun e W1 => e = .returned (.int .i64 0) ∧ ∃ d' : Nat → Dg, Noth w N Mb Wb M S k d' F Ds W1 ∧ (d' wy).length = (d wy).length ∧
      ∀ (b : Nat) (o : Obj), W.heap[b]? = some o → (∀ c t f, o = Obj.cells c t f → t ≠ 5) → W1.heap[b]? = some o := by
  have hl : (encD d wy).length = (d wy).length := List.length_map ..
  have hl64 := h.good.len wy hwy
  obtain ⟨q, hq⟩ : ∃ q, (d wy)[A]? = some q := ⟨_, List.getElem?_eq_getElem hA⟩
  have hlow := h.good.low wy hwy q (List.mem_of_getElem? hq)
  refine (has_flip h.has wy A 24 hwy (by omega) [wy, 0, q.1, q.2] (by show ((d wy).map _)[A]? = _; rw [List.getElem?_map, hq]; rfl) (by simp) (by omega) q.2 rfl (by omega)).mono ?_
  rintro e W1 ⟨rfl, kF, h1⟩
  have he : (encD d wy).set A ([wy, 0, q.1, q.2].set (24 / 8) (q.2 ^^^ 2 ^ (24 % 8))) = ((d wy).set A (q.1, q.2 ^^^ 1)).map fun q => [wy, 0, q.1, q.2] := by
    rw [List.map_set]; rfl
  rw [he] at h1
  refine ⟨rfl, upd d wy ((d wy).set A (q.1, q.2 ^^^ 1)), h.turn (h1.congr (encD_upd _ _ _ _) (encD_upd _ _ _ _)) (h.good.flip wy A hwy q hq) (fun b o e ho => kF b o e (fun c t f e2 => by rcases ho c t f e2 with rfl | rfl <;> decide)) (fun i hi => ?_), by rw [upd_same, List.length_set], kF⟩
  by_cases e : i = wy
  · subst e; rw [upd_same, List.length_set]
  · rw [upd_other _ _ e]
theorem allS_at {pre rest : List Yd} {x : Yd} (h : AllS (encD d wy) (pre ++ x :: rest)) : ∃ lo fl, x.1 = pre.length ∧ (d wy)[pre.length]? = some (lo, fl) ∧ x.2.2 = [wy, 0, lo, fl] := by
  have h1 : ((pre ++ x :: rest).map tagY)[pre.length]? = (zips (encD d wy))[pre.length]? := by rw [h]
  rw [List.getElem?_map] at h1
  simp at h1
  have hlt : pre.length < (zips (encD d wy)).length := by
    have := congrArg List.length h
    rw [← this]; simp
  have hlt2 : pre.length < (encD d wy).length := by rw [zips_len] at hlt; exact hlt
  rw [List.getElem?_eq_getElem hlt, zips_get _ _ hlt2] at h1
  have h2 : tagY x = (pre.length, (encD d wy)[pre.length]) := by injection h1
  have hlt3 : pre.length < (d wy).length := by simpa [encD] using hlt2
  refine ⟨((d wy)[pre.length]).1, ((d wy)[pre.length]).2, congrArg Prod.fst h2, List.getElem?_eq_getElem hlt3, ?_⟩
  have := congrArg Prod.snd h2
  simpa [tagY, encD] using this
theorem Noth.marked {Ds' : List Nat} (h : Noth w N Mb Wb M S k d F Ds W) (hm : MarksIn w.heap.size Ds' W) : Noth w N Mb Wb M S k d F Ds' W := ⟨h.has, h.good, h.sk, h.mb, h.wb, h.mp, hm, h.ne, h.lo⟩
theorem noth_full (h : Noth w N Mb Wb M S k d F Ds W) (wy : Nat) (hwy : wy < 2) (A : Nat) (hA : A < (d wy).length) (hl : (d wy).length = 64) :
    Calls Try.prog 32 #[.pointer (some ⟨N, 0, none⟩), .int .i64 wy, .int .i64 A] W fun e W' => e = .returned (.int .i64 7) ∧ W = W' := by
  obtain ⟨r, g, hn, hg⟩ := h.has
  have h1 : (encD d wy).length = (d wy).length := List.length_map ..
  have e1 : (g wy).length = (d wy).length := by rw [← h1, ← hg wy hwy, List.length_map]
  exact double_full hn wy A hwy (by omega) (by omega) (by omega)
theorem noth_double (h : Noth w N Mb Wb M S k d F Ds W) (wy : Nat) (hwy : wy < 2) (A : Nat) (hl : (d wy).length < 64) (q : Nat × Nat) (hq : (d wy)[A]? = some q) :
    Calls Try.prog 32 #[.pointer (some ⟨N, 0, none⟩), .int .i64 wy, .int .i64 A] W fun e W1 => e = .returned (.int .i64 0) ∧ Keep5 W W1 ∧ Has w N (encD (upd d wy (d wy ++ [q]))) W1 := by
  have h1 : (encD d wy).length = (d wy).length := List.length_map ..
  refine (has_double h.has wy A hwy (by omega) [wy, 0, q.1, q.2] (by show ((d wy).map _)[A]? = _; rw [List.getElem?_map, hq]; rfl) (by simp)).mono ?_
  rintro e W1 ⟨rfl, k5, h2⟩
  have he : encD d wy ++ [[wy, 0, q.1, q.2]] = (d wy ++ [q]).map fun q => [wy, 0, q.1, q.2] := by
    rw [List.map_append]; rfl
  rw [he] at h2
  exact ⟨rfl, k5, h2.congr (encD_upd _ _ _ _) (encD_upd _ _ _ _)⟩
end
end Go.Proofs.Ytbmhgdfkkiepaaa
