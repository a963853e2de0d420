/-
  What waits, as lists of bytes; string(b); the document's example.
-/
import Derived.Test.YtbmhgdfkkiepaaaNet4
import Derived.Test.YtbmhgdfkkiepaaaNet6
import Derived.Test.YtbmhgdfkkiepaaaCredW
import Derived.Shelf.Bytes.SlSmallAll
import Derived.Lib.SlBytesConst
namespace Go.Proofs.Ytbmhgdfkkiepaaa
open Go.RowKit

abbrev Ls := Nat → List (List Nat)
/-- What waits on the two ways. -/
def Has (w0 : World) (N : Nat) (l : Ls) (W : World) : Prop := ∃ r g, NetIs w0 N r g W ∧ ∀ k, k < 2 → (g k).map Prod.snd = l k
section
variable {w0 W : World} {N : Nat} {l : Ls}
theorem Has.bel (h : Has w0 N l W) : Below w0.heap.size w0 W := by obtain ⟨r, g, h, _⟩ := h; exact h.bel
theorem Has.same {W' : World} (h : Has w0 N l W) (hb : Below W.heap.size W W') : Has w0 N l W' := by obtain ⟨r, g, h, hl⟩ := h; exact ⟨r, g, h.same hb, hl⟩
theorem Has.congr {l' : Ls} (h : Has w0 N l W) (h0 : l 0 = l' 0) (h1 : l 1 = l' 1) : Has w0 N l' W := by
  obtain ⟨r, g, h, hl⟩ := h
  refine ⟨r, g, h, fun k hk => (hl k hk).trans ?_⟩
  obtain rfl | rfl : k = 0 ∨ k = 1 := by omega
  · exact h0
  · exact h1
theorem map_upd {g : Nat → List Gr} (hl : ∀ k, k < 2 → (g k).map Prod.snd = l k) {k : Nat} {g' : List Gr} {l' : List (List Nat)} (h' : g'.map Prod.snd = l') : ∀ i, i < 2 → (upd g k g' i).map Prod.snd = upd l k l' i := fun i hi => by
  by_cases e : i = k
  · subst e; rw [upd_same, upd_same]; exact h'
  · rw [upd_other _ _ e, upd_other _ _ e]; exact hl i hi
theorem has_new (w : World) : Calls Try.prog 28 #[] w fun e W => ∃ N, e = .returned (.pointer (some ⟨N, 0, none⟩)) ∧ Has w N (fun _ => []) W ∧ Keep5 w W :=
  (new_any w).mono fun e W ⟨N, h1, h2, h3⟩ => ⟨N, h1, ⟨_, _, h2, fun _ _ => rfl⟩, h3⟩
def sent (l : List (List Nat)) (xs : List Nat) : List (List Nat) := (if 64 ≤ l.length then l.eraseIdx 0 else l) ++ [xs]
theorem has_send (h : Has w0 N l W) (k : Nat) (hk : k < 2) (hl : (l k).length ≤ 64) (xs : List Nat) (q : Option Addr) (n c : Nat) (hb : Src w0 W (.slice q n c) xs) (hn : n = xs.length) (hx : xs.length ≤ 600) :
    Calls Try.prog 29 #[.pointer (some ⟨N, 0, none⟩), .int .i64 k, .slice q n c] W fun e W' => e = .returned (.tuple #[.bool (decide (64 ≤ (l k).length)), .int .i64 0]) ∧ Keep5 W W' ∧ Has w0 N (upd l k (sent (l k) xs)) W' := by
  obtain ⟨r, g, h, hg⟩ := h
  have e1 : (g k).length = (l k).length := by rw [← hg k hk, List.length_map]
  refine (send_ok h k hk (by omega) _ xs hb hx q n c rfl hn).mono ?_
  rintro e W' ⟨rfl, h2, r', s, h3⟩
  rw [e1]
  refine ⟨rfl, h2, r', _, h3, map_upd hg ?_⟩
  unfold sent
  rw [e1, List.map_append, ← hg k hk]
  split
  · rw [map_erase]; rfl
  · rfl
theorem has_double (h : Has w0 N l W) (k i : Nat) (hk : k < 2) (hl : (l k).length < 64) (xs : List Nat) (hi : (l k)[i]? = some xs) (hx : xs.length ≤ 600) :
    Calls Try.prog 32 #[.pointer (some ⟨N, 0, none⟩), .int .i64 k, .int .i64 i] W fun e W' => e = .returned (.int .i64 0) ∧ Keep5 W W' ∧ Has w0 N (upd l k (l k ++ [xs])) W' := by
  obtain ⟨r, g, h, hg⟩ := h
  have e1 : (g k).length = (l k).length := by rw [← hg k hk, List.length_map]
  rw [← hg k hk, List.getElem?_map] at hi
  obtain ⟨p, hp, rfl⟩ := Option.map_eq_some_iff.1 hi
  obtain ⟨hi', rfl⟩ := List.getElem?_eq_some_iff.1 hp
  refine (double_ok h k i hk (by omega) hi' hx).mono ?_
  rintro e W' ⟨rfl, h2, r', s, h3⟩
  exact ⟨rfl, h2, r', _, h3, map_upd hg (by rw [List.map_append, ← hg k hk]; rfl)⟩
theorem has_deliver (h : Has w0 N l W) (k i : Nat) (hk : k < 2) (hl : (l k).length ≤ 64) (xs : List Nat) (hi : (l k)[i]? = some xs) :
    Calls Try.prog 33 #[.pointer (some ⟨N, 0, none⟩), .int .i64 k, .int .i64 i] W fun e W' => ∃ q n c, e = .returned (.tuple #[.slice q n c, .int .i64 0]) ∧ n = xs.length ∧ OffRow W' w0.heap.size 5 (.slice q n c) (byts xs) ∧ Keep5 W W' ∧ Has w0 N (upd l k ((l k).eraseIdx i)) W' := by
  obtain ⟨r, g, h, hg⟩ := h
  have e1 : (g k).length = (l k).length := by rw [← hg k hk, List.length_map]
  rw [← hg k hk, List.getElem?_map] at hi
  obtain ⟨p, hp, rfl⟩ := Option.map_eq_some_iff.1 hi
  obtain ⟨hi', hpp⟩ := List.getElem?_eq_some_iff.1 hp
  refine (deliver_ok h k i hk (by omega) hi').mono ?_
  rintro e W' ⟨rfl, h2, r', h3⟩
  rw [hpp]
  have ho := (h.gram k hk p (hpp ▸ List.getElem_mem hi')).keep5 h2
  refine ⟨p.1.1, p.1.2.1, p.1.2.2, rfl, ?_, ho, h2, r', _, h3, map_upd hg (by rw [map_erase, ← hg k hk])⟩
  have := ho.len'' (q := p.1.1) (n := p.1.2.1) (c := p.1.2.2) rfl
  simpa using this
theorem has_flip (h : Has w0 N l W) (k i bit : Nat) (hk : k < 2) (hl : (l k).length ≤ 64) (xs : List Nat) (hi : (l k)[i]? = some xs) (hx : xs.length ≤ 600) (hb : bit < 1048576) (x : Nat) (hD : xs[bit / 8]? = some x) (hy : x ≤ 255) :
    Calls Try.prog 30 #[.pointer (some ⟨N, 0, none⟩), .int .i64 k, .int .i64 i, .int .i64 bit] W fun e W' => e = .returned (.int .i64 0) ∧ KeepF W W' ∧ Has w0 N (upd l k ((l k).set i (xs.set (bit / 8) (x ^^^ 2 ^ (bit % 8))))) W' := by
  obtain ⟨r, g, h, hg⟩ := h
  have e1 : (g k).length = (l k).length := by rw [← hg k hk, List.length_map]
  have hi2 := hi
  rw [← hg k hk, List.getElem?_map] at hi
  obtain ⟨p, hp, rfl⟩ := Option.map_eq_some_iff.1 hi
  refine (flip_ok h k i bit hk (by omega) p hp hx hb x hD hy).mono ?_
  rintro e W' ⟨rfl, kF, h3⟩
  refine ⟨rfl, kF, r, _, h3, map_upd hg ?_⟩
  rw [← hg k hk]
  apply List.ext_getElem?
  intro m
  unfold setGr
  rw [List.getElem?_map, List.getElem?_modify, List.getElem?_set, List.getElem?_map, List.length_map]
  by_cases e : i = m
  · subst e
    have hlt := (List.getElem?_eq_some_iff.1 hp).1
    rw [hp, if_pos rfl, if_pos hlt]
    simp
  · rw [if_neg e]
    cases (g k)[m]? with
    | none => rfl
    | some q => simp [e]
theorem has_flip_high (h : Has w0 N l W) (k i bit : Nat) (hk : k < 2) (hl : (l k).length ≤ 64) (xs : List Nat) (hi : (l k)[i]? = some xs) (hx : xs.length ≤ 600) (hb : bit < 1048576) (hD : xs.length ≤ bit / 8) :
    Calls Try.prog 30 #[.pointer (some ⟨N, 0, none⟩), .int .i64 k, .int .i64 i, .int .i64 bit] W fun e W' => e = .returned (.int .i64 1) ∧ W = W' := by
  obtain ⟨r, g, h, hg⟩ := h
  have e1 : (g k).length = (l k).length := by rw [← hg k hk, List.length_map]
  rw [← hg k hk, List.getElem?_map] at hi
  obtain ⟨p, hp, rfl⟩ := Option.map_eq_some_iff.1 hi
  exact flip_high h k i bit hk (by omega) p hp hx hb hD
theorem has_waits (h : Has w0 N l W) (k : Nat) (hk : k < 2) : Calls Try.prog 34 #[.pointer (some ⟨N, 0, none⟩), .int .i64 k] W fun e W' => e = .returned (.int .i64 (l k).length) ∧ W = W' := by
  obtain ⟨r, g, h, hg⟩ := h
  have e1 : (g k).length = (l k).length := by rw [← hg k hk, List.length_map]
  rw [← e1]
  exact waits_ok h k hk
end

/-! ### string(b) -/
def strN (xs : List Nat) : ByteArray := strOfNums (xs.map fun x : Nat => (x : Int))
theorem conv_cells {W : World} {b o n c : Nat} {xs : List Nat} (hn : n = xs.length) (h : ∀ j u, (byts xs)[j]? = some u → W.cell? ⟨b, o + j, none⟩ = some u) : (convert 68 9 (.slice (some ⟨b, o, none⟩) n c)).run Try.prog W = .ok (.string (strN xs)) W := by
  subst hn
  refine run_convert_bytes_arg W 68 5 Try.underlying68 Try.underlying5 b o _ c (xs.map fun x : Nat => (x : Int)) (by simp) (fun i hi => ?_) 9 Try.underlying9
  have := h i (.int .u8 xs[i]) (by simp [hi])
  rw [this]
  simp [List.getD, hi]
theorem conv_off {W : World} {base : Nat} {q : Option Addr} {n c : Nat} {xs : List Nat} (h : OffRow W base 5 (.slice q n c) (byts xs)) : (convert 68 9 (.slice q n c)).run Try.prog W = .ok (.string (strN xs)) W := by
  have hl := h.len'
  rw [List.length_map] at hl
  rcases h with ⟨h, h0⟩ | ⟨g, o, cap, cur, h1, h2, h3, h4, h5, h6, h7⟩
  · cases h
    simp at h0; subst h0
    exact run_convert_bytes_zero W 68 5 Try.underlying68 Try.underlying5 none 0 9 Try.underlying9
  · cases h1
    refine conv_cells (by simp) fun j u hu => ?_
    simp [World.cell?, h3, h7 j u hu]

/-! ### The example -/
theorem src_new {w0 W : World} (y : Int) (x : Nat) (hy : y = x) (f : Nat × Nat) (c : Nat) : Src w0 (W.alloc (.cells #[.int .u8 y] 5 f)) (.slice (some ⟨W.heap.size, 0, none⟩) 1 c) [x] := by
  subst hy
  have h0 := alloc_new W (.cells #[.int .u8 (x : Int)] 5 f)
  refine ⟨.inr ⟨_, c, rfl, fun j u hu => ?_⟩, fun b e => .inr (.inr ⟨_, _, by cases e; exact h0⟩)⟩
  cases j with
  | zero => simp at hu; subst hu; show (W.alloc (.cells #[.int .u8 (x : Int)] 5 f)).cell? ⟨W.heap.size, 0, none⟩ = _; simp only [World.cell?, h0]; rfl
  | succ j => simp at hu
def tw (a b : List (List Nat)) : Ls := fun k => if k = 0 then a else b
theorem Has.al {w0 W : World} {N : Nat} {l : Ls} (h : Has w0 N l W) (o : Obj) : Has w0 N l (W.alloc o) := h.same ((Below.refl _ _).alloc (Nat.le_refl _) _)
set_option maxRecDepth 100000 in
theorem wakes11 (w : World) : Calls Try.prog 31 #[] w (TruePost w) := by
  have kc := fun (w : World) (C : Array Value) (n c : Nat) => Lib.run_convert_bytes_const (P := Try.prog) w 68 5 C n c Try.underlying68 Try.underlying5
  go_enter Try.func31, Try.ntmps31
  go_wp2_with fail
  refine (has_new _).mono ?_
  rintro e W1 ⟨N, rfl, h1, _⟩
  go_wp2_with fail
  refine (has_send (h1.al _) 0 (by omega) (by simp) [97] _ _ _ (src_new 97 97 rfl _ _) rfl (by simp)).mono ?_
  rintro e W2 ⟨rfl, _, h2⟩
  replace h2 : Has w N (tw [[97]] []) W2 := h2.congr rfl rfl
  go_wp2_with fail
  refine (has_send (h2.al _) 0 (by omega) (by simp [tw]) [98] _ _ _ (src_new 98 98 rfl _ _) rfl (by simp)).mono ?_
  rintro e W3 ⟨rfl, _, h3⟩
  replace h3 : Has w N (tw [[97], [98]] []) W3 := h3.congr rfl rfl
  clear h1 h2
  go_wp2_with fail
  refine (has_double h3 0 0 (by omega) (by simp [tw]) [97] rfl (by simp)).mono ?_
  rintro e W4 ⟨rfl, _, h4⟩
  replace h4 : Has w N (tw [[97], [98], [97]] []) W4 := h4.congr rfl rfl
  go_wp2_with fail
  refine (has_deliver h4 0 1 (by omega) (by simp [tw]) [98] rfl).mono ?_
  rintro e W5 ⟨q1, n1, c1, rfl, -, o1, -, h5⟩
  replace h5 : Has w N (tw [[97], [97]] []) W5 := h5.congr rfl rfl
  go_wp2_with fail
  refine (has_deliver h5 0 1 (by omega) (by simp [tw]) [97] rfl).mono ?_
  rintro e W6 ⟨q2, n2, c2, rfl, -, o2, k6, h6⟩
  replace h6 : Has w N (tw [[97]] []) W6 := h6.congr rfl rfl
  have v1 := conv_off (o1.keep5 k6)
  have v2 := conv_off o2
  have s1 : strN [98] = ⟨#[98]⟩ := rfl
  have s2 : strN [97] = ⟨#[97]⟩ := rfl
  rw [s1] at v1
  rw [s2] at v2
  have A := Lib.hid (has_waits h6 0 (by omega))
  have hb := h6.bel
  clear h3 h4 h5 h6 o1 o2 k6 s1 s2
  go_wp2_with (go_at_call 34; refine A.out.mono ?_; rintro e w' ⟨rfl, rfl⟩)

  go_ret
  exact ⟨rfl, hb⟩
end Go.Proofs.Ytbmhgdfkkiepaaa
