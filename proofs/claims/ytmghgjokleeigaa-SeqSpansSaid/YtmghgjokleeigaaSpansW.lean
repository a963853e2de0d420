/-
  SeqSpans: the walk.
-/
import Derived.Test.YtmghgjokleeigaaSpM
import Derived.Deep.RegionWith
import Derived.Deep.RegionHeld3
import Derived.Deep.CutBlock
namespace Go.Proofs.Ytmghgjokleeigaa
open Go.RowKit Go.Shelf

/-- The walk's own blocks, and what was there. -/
structure St (w : World) (f t x0 x1 : Nat) (v : Value) (W : World) : Prop where
  below : Below w.heap.size w W
  span : W.heap[w.heap.size]? = some (.cells #[.int .u32 f, .int .u32 t] 25 (0, 0))
  have_ : W.heap[w.heap.size + 1]? = some (.cells #[v] 26 (0, 0))
  pair : W.heap[w.heap.size + 2]? = some (.cells #[.int .u32 x0, .int .u32 x1] 35 (0, 0))
theorem St.then {w : World} {f t x0 x1 : Nat} {v : Value} {W W2 : World} (h : St w f t x0 x1 v W) (hb : Below W.heap.size W W2) : St w f t x0 x1 v W2 :=
  ⟨below_then h.below (Nat.le_refl _) hb, (hb.block _ (block_lt h.span)).trans h.span, (hb.block _ (block_lt h.have_)).trans h.have_, (hb.block _ (block_lt h.pair)).trans h.pair⟩
theorem St.like {w : World} {f t x0 x1 : Nat} {v : Value} {W : World} (h : St w f t x0 x1 v W) (n : Nat) : St w f t x0 x1 v (W.drewN n) :=
  ⟨below_drewN h.below n, h.span, h.have_, h.pair⟩
theorem St.drew1 {w : World} {f t x0 x1 : Nat} {v : Value} {W : World} (h : St w f t x0 x1 v W) : St w f t x0 x1 v W.drew :=
  ⟨⟨h.below.os, h.below.tape, h.below.output, h.below.size, h.below.block⟩, h.span, h.have_, h.pair⟩
/-- What region 4 and region 12 load, and the rest. -/
theorem St.lo {w : World} {f t x0 x1 : Nat} {v : Value} {W : World} (h : St w f t x0 x1 v W) :
    W.cell? ⟨w.heap.size, 0, none⟩ = some (.int .u32 f) ∧ W.cell? ⟨w.heap.size, 1, none⟩ = some (.int .u32 t) ∧ W.cell? ⟨w.heap.size + 1, 0, none⟩ = some v ∧ W.cell? ⟨w.heap.size + 2, 0, none⟩ = some (.int .u32 x0) ∧ W.cell? ⟨w.heap.size + 2, 1, none⟩ = some (.int .u32 x1) ∧ St w f t x0 x1 v W :=
  ⟨(two_cell h.span).1, (two_cell h.span).2.1, one_cell h.have_, (two_cell h.pair).1, (two_cell h.pair).2.1, h⟩
theorem st_new (w : World) (f t x0 x1 : Nat) (v : Value) : St w f t x0 x1 v (((w.alloc (.cells #[.int .u32 f, .int .u32 t] 25)).alloc (.cells #[v] 26)).alloc (.cells #[.int .u32 x0, .int .u32 x1] 35)) := by
  refine ⟨(((Below.refl _ _).alloc (Nat.le_refl _) _).alloc (by simp) _).alloc (by simp; omega) _, ?_, ?_, ?_⟩ <;> simp only [alloc_at, World.size_alloc] <;> simp <;> omega

/-- A row that stays. -/
def Keeps (u : Value) (L : List Nat) (W : World) : Prop := ∀ A, Below W.heap.size W A → RowU .u32 A u L
theorem Keeps.at {u : Value} {L : List Nat} {W : World} (h : Keeps u L W) : RowU .u32 W u L := h W (Below.refl _ _)
theorem Keeps.then {u : Value} {L : List Nat} {W W2 : World} (h : Keeps u L W) (hb : Below W.heap.size W W2) : Keeps u L W2 := fun A hA => h A (hb.trans (hA.mono hb.size))
theorem keeps_of {W : World} {base : Nat} {v : Value} {L : List Nat} (h : W.ownsRow base 22 1 v L.length (L.map fun x : Nat => Value.int .u32 x)) : Keeps v L W := fun A hA => rowU_of_owns (owns_below h hA)
/-- What the closure `had` asks. -/
def Had (w : World) (v : Value) (xs : List Nat) (A : World) : Prop := A.heap[w.heap.size + 1]? = some (.cells #[v] 26 (0, 0)) ∧ RowU .u32 A v xs
theorem had_asks (w : World) (v : Value) (xs : List Nat) (hx : xs.length ≤ 1099511627776) (L : List Nat) : Asks 20 #[.pointer (some ⟨w.heap.size + 1, 0, none⟩)] (fun n => decide (n ∈ xs)) (Had w v xs) L :=
  asks_of (fun x W _ h => had_any _ x v xs W h.1 h.2 hx)
theorem St.had {w : World} {f t x0 x1 : Nat} {v : Value} {xs : List Nat} (hV : ∀ W, Below w.heap.size w W → RowU .u32 W v xs) {W : World} (h : St w f t x0 x1 v W) : ∀ A, Below W.heap.size W A → Had w v xs A :=
  fun A hA => ⟨(h.then hA).have_, hV A (h.then hA).below⟩
theorem missL_nil (f k : Nat) : missL f k [] = List.range' f k := by
  unfold missL
  exact List.filter_eq_self.2 (fun _ _ => by simp)

theorem wp_region_class {P : Program} {C : World → Prop} {id : Nat} {Q : Exit → Act → World → Prop} {a : Act} {w : World} {l : List Oper} (hm : P.follows .mixedOrders = true) (hB : Region.lexB .any l.toArray = true) (hC : C w.drew)
    (h : wpQuiet P l.toArray C (fun a' => ∀ w', C w' → Q .normal a' w') l a) : (Code.region id l.toArray true).wp P Q a w :=
  wp_region_quiet (C := C) hm hB hC (by simpa using h)

section
variable {w : World} {f t x0 x1 : Nat} {v : Value} {xs : List Nat}
theorem a15 (hf : f ≤ 4294967295) (ht : t ≤ 4294967295) (hx : xs.length ≤ 1099511627776) (W : World) (s : St w f t x0 x1 v W) :
    Calls Try.prog 15 #[.agg #[.int .u32 f, .int .u32 t], .func (.func 20) #[] #[.pointer (some ⟨w.heap.size + 1, 0, none⟩)]] W fun e W' => ∃ g lb, e = .returned (.func (.func g) #[] lb) ∧ It g lb (missL f (t - f) xs) (Had w v xs) W.heap.size W' ∧ St w f t x0 x1 v W' :=
  (missing_it f t 20 #[.pointer (some ⟨w.heap.size + 1, 0, none⟩)] enters20 hf ht (fun n => decide (n ∈ xs)) (Had w v xs) (had_asks w v xs hx _) W).mono fun e W' ⟨g, lb, h1, h2, h3⟩ => ⟨g, lb, h1, h3, s.then h2⟩
theorem a22 (hV : ∀ W, Below w.heap.size w W → RowU .u32 W v xs) (g n : Nat) (lb : Array Value) (L : List Nat) (m : Nat) (hm : m ≤ 1000) (W : World) (hit : It g lb L (Had w v xs) n W) (s : St w f t x0 x1 v W) :
    Calls Try.prog 22 #[.func (.func g) #[] lb, .int .i64 m] W fun e W' => ∃ u, e = .returned u ∧ Keeps u (L.take m) W' ∧ St w f t x0 x1 v W' :=
  (first_any g n lb L (Had w v xs) W hit (s.had hV) m hm).mono fun e W' ⟨u, h1, h2, h3⟩ => ⟨u, h1, keeps_of h2, s.then h3⟩
theorem a22' (g n : Nat) (lb : Array Value) (L : List Nat) (m : Nat) (hm : m ≤ 1000) (W : World) (hit : It g lb L (fun _ => True) n W) (s : St w f t x0 x1 v W) :
    Calls Try.prog 22 #[.func (.func g) #[] lb, .int .i64 m] W fun e W' => ∃ u, e = .returned u ∧ Keeps u (L.take m) W' ∧ St w f t x0 x1 v W' :=
  (first_any g n lb L (fun _ => True) W hit (fun _ _ => trivial) m hm).mono fun e W' ⟨u, h1, h2, h3⟩ => ⟨u, h1, keeps_of h2, s.then h3⟩
theorem a23 (hf : f ≤ 4294967295) (ht : t ≤ 4294967295) (hx : xs.length ≤ 1099511627776) (hV : ∀ W, Below w.heap.size w W → RowU .u32 W v xs) (W : World) (s : St w f t x0 x1 v W) :
    Calls Try.prog 23 #[.int .u32 f, .int .u32 t, v, .int .i64 50] W fun e W' => ∃ u, e = .returned u ∧ Keeps u ((missL f (t - f) xs).take 50) W' ∧ Below W.heap.size W W' ∧ St w f t x0 x1 v W' :=
  (rmissing_any f t 50 hf ht (by omega) v xs W (fun A hA => hV A (s.then hA).below) hx).mono fun e W' ⟨u, h1, h2, h3⟩ => ⟨u, h1, keeps_of h2, h3, s.then h3⟩
theorem a23n (hf : f ≤ 4294967295) (ht : t ≤ 4294967295) (W : World) (s : St w f t x0 x1 v W) :
    Calls Try.prog 23 #[.int .u32 f, .int .u32 t, .slice none 0 0, .int .i64 50] W fun e W' => ∃ u, e = .returned u ∧ Keeps u ((List.range' f (t - f)).take 50) W' ∧ Below W.heap.size W W' ∧ St w f t x0 x1 v W' :=
  (rmissing_any f t 50 hf ht (by omega) (.slice none 0 0) [] W (fun A hA => ⟨none, 0, rfl, fun h => absurd rfl h⟩) (by simp)).mono fun e W' ⟨u, h1, h2, h3⟩ => ⟨u, h1, by rw [missL_nil] at h2; exact keeps_of h2, h3, s.then h3⟩
theorem a24 (hf : f ≤ 4294967295) (ht : t ≤ 4294967295) (W : World) (s : St w f t x0 x1 v W) :
    Calls Try.prog 24 #[.agg #[.int .u32 f, .int .u32 t]] W fun e W' => ∃ g lb, e = .returned (.func (.func g) #[] lb) ∧ It g lb (List.range' f (t - f)) (fun _ => True) W.heap.size W' ∧ St w f t x0 x1 v W' :=
  (all_it f t hf ht W).mono fun e W' ⟨g, lb, h1, h2, h3⟩ => ⟨g, lb, h1, h3, s.then h2⟩
theorem a16 (u1 u2 : Value) (L : List Nat) (hl : L.length ≤ 1000) (W : World) (k1 : Keeps u1 L W) (k2 : Keeps u2 L W) (s : St w f t x0 x1 v W) :
    Calls Try.prog 16 #[u1, u2] W fun e W' => e = .returned (.bool true) ∧ St w f t x0 x1 v W' :=
  (equal_any u1 u2 L L W k1.at k2.at (by omega) (by omega)).mono fun e W' h => ⟨h.1.trans (ret_bool (by simp)), by obtain ⟨_, n, rfl⟩ := h; exact s.like n⟩
theorem a18 (x : Nat) (b : Bool) (hb : decide (f ≤ x ∧ x < t) = b) (W : World) (s : St w f t x0 x1 v W) :
    Calls Try.prog 18 #[.agg #[.int .u32 f, .int .u32 t], .int .u32 x] W fun e W' => e = .returned (.bool b) ∧ St w f t x0 x1 v W' :=
  (has_any f t x W).mono fun e W' h => ⟨h.1.trans (ret_bool hb), s.then h.2⟩
theorem a25 (h0 : x0 ≤ 4294967295) (h1 : x1 ≤ 4294967295) (W : World) (s : St w f t x0 x1 v W) :
    Calls Try.prog 25 #[.int .u32 x0, .int .u32 x1] W fun e W' => ∃ g lb, e = .returned (.func (.func g) #[] lb) ∧ It g lb (toldL x0 x1) (fun _ => True) W.heap.size W' ∧ St w f t x0 x1 v W' :=
  (told_it x0 x1 h0 h1 W).mono fun e W' ⟨g, lb, h1, h2, h3⟩ => ⟨g, lb, h1, h3, s.then h2⟩
theorem a26 (h0 : x0 ≤ 4294967295) (h1 : x1 ≤ 4294967295) (W : World) (s : St w f t x0 x1 v W) :
    Calls Try.prog 26 #[.int .u32 x0, .int .u32 x1] W fun e W' => ∃ u, e = .returned u ∧ Keeps u (toldL x0 x1) W' ∧ Below W.heap.size W W' ∧ St w f t x0 x1 v W' :=
  (rtold_any x0 x1 h0 h1 W).mono fun e W' ⟨u, h1, h2, h3⟩ => ⟨u, h1, keeps_of h2, h3, s.then h3⟩
theorem a27 (h0 : x0 ≤ 4294967295) (hx : xs.length ≤ 1099511627776) (hV : ∀ W, Below w.heap.size w W → RowU .u32 W v xs) (M : Nat) (hM : maskOf x0 ((behindL x0).filter fun n => decide (n ∈ xs)) = M) (W : World) (s : St w f t x0 x1 v W) :
    Calls Try.prog 27 #[.int .u32 x0, .func (.func 20) #[] #[.pointer (some ⟨w.heap.size + 1, 0, none⟩)]] W fun e W' => e = .returned (.int .u32 M) ∧ St w f t x0 x1 v W' :=
  (mask_any x0 h0 20 #[.pointer (some ⟨w.heap.size + 1, 0, none⟩)] enters20 (fun n => decide (n ∈ xs)) (Had w v xs) (had_asks w v xs hx _) W (s.had hV)).mono fun e W' h => ⟨by rw [← hM]; exact h.1, s.then h.2⟩
theorem a28 (h0 : x0 ≤ 4294967295) (hx : xs.length ≤ 1099511627776) (hV : ∀ W, Below w.heap.size w W → RowU .u32 W v xs) (M : Nat) (hM : maskOf x0 ((behindL x0).filter fun n => decide (n ∈ xs)) = M) (W : World) (s : St w f t x0 x1 v W) :
    Calls Try.prog 28 #[.int .u32 x0, v] W fun e W' => e = .returned (.int .u32 M) ∧ St w f t x0 x1 v W' :=
  (rmask_any x0 h0 v xs W (hV W s.below) hx).mono fun e W' h => ⟨by rw [← hM]; exact h.1, h.2 ▸ s⟩
theorem a19 (W : World) (s : St w f t x0 x1 v W) : Calls Try.prog 19 #[] W fun e W' => e = .returned (.bool true) ∧ St w f t x0 x1 v W' :=
  (wakes_any W).mono fun e W' h => ⟨h.1, s.then h.2⟩
end
theorem row_at {W : World} {q : Option Addr} {n cap : Nat} {xs : List Nat} (h : RowU .u32 W (.slice q n cap) xs) (k : Nat) (hk : k < xs.length) : ∃ b o, q = some ⟨b, o, none⟩ ∧ W.cell? ⟨b, o + k, none⟩ = some (.int .u32 xs[k]) := by
  obtain ⟨q', c, e, h⟩ := h
  cases e
  obtain ⟨b, o, rfl, hc⟩ := h (by intro e; simp [e] at hk)
  exact ⟨b, o, rfl, hc k _ (List.getElem?_eq_getElem hk)⟩

set_option maxRecDepth 100000 in
set_option maxHeartbeats 2000000 in
theorem spans_walk (f t x0 x1 : Nat) (hf : f ≤ 4294967295) (ht : t ≤ 4294967295) (hx0 : x0 ≤ 4294967295) (hx1 : x1 ≤ 4294967295) (q : Option Addr) (len cap : Nat) (xs : List Nat) (w : World)
    (hlen : xs.length = min len 30) (hcap : len ≤ cap) (hcap2 : cap ≤ 9223372036854775807) (hown : ∀ W, Below w.heap.size w W → RowU .u32 W (.slice q xs.length cap) xs) :
    Calls Try.prog 4 #[.agg #[.int .u32 f, .int .u32 t], .slice q len cap, .agg #[.int .u32 x0, .int .u32 x1]] w (TruePost w) := by
  go_enter Try.func4, Try.ntmps4
  go_upto_region 4 with fail
  obtain ⟨n, hn⟩ : ∃ n, n = xs.length := ⟨_, rfl⟩
  obtain ⟨m, hm⟩ : ∃ m, m = t - f := ⟨_, rfl⟩
  have e0 : (if (30 : Int) < (len : Int) then (30 : Int) else (len : Int)) = (n : Int) := by split <;> omega
  have e1 : (if (t : Int) - (f : Int) < 0 then (0 : Int) else (t : Int) - (f : Int)) = (m : Int) := by split <;> omega
  simp only [e0, e1, Int.toNat_natCast]
  have hn30 : n ≤ 30 := by omega
  have hx30 : xs.length ≤ 1099511627776 := by omega
  have hS := st_new w f t x0 x1 (.slice q n cap)
  have hV : Hid (∀ W, Below w.heap.size w W → RowU .u32 W (.slice q n cap) xs) := Lib.hid (by rw [hn]; exact hown)
  have A1 : Hid (∀ W, St w f t x0 x1 (.slice q n cap) W → Calls Try.prog 17 #[.agg #[.int .u32 f, .int .u32 t]] W (fun e W' => e = .returned (.int .i64 m) ∧ St w f t x0 x1 (.slice q n cap) W')) := Lib.hid (fun W s => (len_any f t hf ht W).mono fun e W' h => ⟨h.1.trans (ret_int (by omega)), s.then h.2⟩)
  have HN := Lib.hid hn
  clear e0 e1 hn hm hown hlen
  generalize ((w.alloc (.cells #[.int .u32 f, .int .u32 t] 25)).alloc (.cells #[.slice q n cap] 26)).alloc (.cells #[.int .u32 x0, .int .u32 x1] 35) = w5 at hS ⊢
  go_region_held3 (fun W => W.cell? ⟨w.heap.size, 0, none⟩ = some (.int .u32 f) ∧ W.cell? ⟨w.heap.size, 1, none⟩ = some (.int .u32 t) ∧ W.cell? ⟨w.heap.size + 1, 0, none⟩ = some (.slice q n cap) ∧ W.cell? ⟨w.heap.size + 2, 0, none⟩ = some (.int .u32 x0) ∧ W.cell? ⟨w.heap.size + 2, 1, none⟩ = some (.int .u32 x1) ∧ St w f t x0 x1 (.slice q n cap) W)
    (first | exact s9.lo | exact s8.lo | exact s7.lo | exact s6.lo | exact s5.lo | exact s4.lo | exact s3.lo | exact s2.lo | exact s1.lo | exact hS.drew1.lo)
    (first
      | (go_at_call 16; refine (a16 _ _ _ ?_ _ k3' k4 s8).mono ?_; simp; omega; rintro e v9 ⟨rfl, s9⟩)
      | (go_at_call 23; refine (a23n hf ht _ s7).mono ?_; rintro e v8 ⟨u4, rfl, k4, b8, s8⟩; have k3' := k3.then b8)
      | (go_at_call 22; refine (a22' _ _ _ _ 50 ?_ _ hit2 s6).mono ?_; omega; rintro e v7 ⟨u3, rfl, k3, s7⟩)
      | (go_at_call 24; refine (a24 hf ht _ s5).mono ?_; rintro e v6 ⟨g2, lb2, rfl, hit2, s6⟩)
      | (go_at_call 16; refine (a16 _ _ _ ?_ _ k1' k2 s4).mono ?_; simp; omega; rintro e v5 ⟨rfl, s5⟩)
      | (go_at_call 23; refine (a23 hf ht hx30 hV.out _ s3).mono ?_; rintro e v4 ⟨u2, rfl, k2, b4, s4⟩; have k1' := k1.then b4)
      | (go_at_call 22; refine (a22 hV.out _ _ _ _ 50 ?_ _ hit1 s2).mono ?_; omega; rintro e v3 ⟨u1, rfl, k1, s3⟩)
      | (go_at_call 15; refine (a15 hf ht hx30 _ s1).mono ?_; rintro e v2 ⟨g1, lb1, rfl, hit1, s2⟩)
      | (go_at_call 17; refine (A1.out _ ?_).mono ?_; exact hS.drew1; rintro e v1 ⟨rfl, s1⟩))
  clear k1 k2 k3 k4 k1' k3' b4 b8 hit1 hit2 s1 s2 s3 s4 s5 s6 s7 s8 A1 hS
  rename_i hh; clear hh
  obtain ⟨l0, l1, l2, l3, l4, _⟩ := s9.lo
  go_wp2_with fail
  go_loopw [57] (fun i wr => ∃ k : Nat, k ≤ n ∧ i = .int .i64 k ∧ St w f t x0 x1 (.slice q n cap) wr) (fun i _ => n - (intOf i).toNat)
  case atStart => exact ⟨0, by omega, rfl, s9⟩
  case round =>
    clear l0 l1 l2 l3 l4 s9
    obtain ⟨k, hk, rfl, sr⟩ := hrel
    obtain ⟨l0, l1, l2, l3, l4, _⟩ := sr.lo
    by_cases hlt : k < n
    · obtain ⟨b, o, rfl, hcx⟩ := row_at (hV.out wr sr.below) k (by have := HN.out; omega)
      generalize xs[k]'(by have := HN.out; omega) = x at hcx
      have HSR := Lib.hid sr
      clear sr l0 l1 l2 l3 l4
      have H1 : Hid (∀ W, St w f t x0 x1 (.slice (some ⟨b, o, none⟩) n cap) W → W.cell? ⟨w.heap.size, 0, none⟩ = some (.int .u32 f)) := Lib.hid fun W s => s.lo.1
      have H2 : Hid (∀ W, St w f t x0 x1 (.slice (some ⟨b, o, none⟩) n cap) W → W.cell? ⟨w.heap.size, 1, none⟩ = some (.int .u32 t)) := Lib.hid fun W s => s.lo.2.1
      by_cases g1 : f ≤ x
      · have g1' : decide (f ≤ x) = true := decide_eq_true g1
        by_cases g2 : x < t
        · have g2' : decide (x < t) = true := decide_eq_true g2
          have C1 : Hid (∀ W, St w f t x0 x1 (.slice (some ⟨b, o, none⟩) n cap) W → Calls Try.prog 18 #[.agg #[.int .u32 f, .int .u32 t], .int .u32 x] W fun e W' => e = .returned (.bool true) ∧ St w f t x0 x1 (.slice (some ⟨b, o, none⟩) n cap) W') := Lib.hid fun W s => a18 x true (by simp; omega) W s
          go_upto_region 9 with fail
          refine wp_region_class (C := fun W => St w f t x0 x1 (.slice (some ⟨b, o, none⟩) n cap) W) (by kernel_rfl) (by kernel_rfl) HSR.out.drew1 ?_
          refine BigFrame.wpQuiet_want (by rfl) (fun K hK => ?_)
          refine ⟨.agg #[.int .u32 f, .int .u32 t], fun W hW => ?_, hK _ ?_⟩
          · have d0 := H1.out W hW; have d1 := H2.out W hW; clear hW; go_simp
          clear hK K
          simp only [Act.put, List.setIfInBounds_toArray, List.set_cons_zero, List.set_cons_succ]
          go_big_quiet_step ((intro _; rfl))
          go_big_quiet_step ((intro hW; go_at_call 18; exact C1.out _ hW))
          go_big_quiet_step ((intro _; rfl))
          go_big_quiet_step ((intro _; rfl))
          refine BigFrame.wpQuiet_want (by rfl) (fun K hK => ?_)
          refine ⟨.int .u32 f, fun W hW => ?_, hK _ ?_⟩
          · have d0 := H1.out W hW; clear hW; go_simp
          clear hK K
          simp only [Act.put, List.setIfInBounds_toArray, List.set_cons_zero, List.set_cons_succ]
          go_big_quiet_step ((intro _; rfl))
          go_big_quiet_step ((intro _; rfl))
          go_big_quiet_step ((intro _; rfl))
          go_big_quiet_step ((intro _; rfl))
          refine BigFrame.wpQuiet_want (by rfl) (fun K hK => ?_)
          refine ⟨.int .u32 t, fun W hW => ?_, hK _ ?_⟩
          · have d0 := H2.out W hW; clear hW; go_simp
          clear hK K
          simp only [Act.put, List.setIfInBounds_toArray, List.set_cons_zero, List.set_cons_succ]
          go_big_quiet_step ((intro _; rfl))
          go_big_quiet_step ((intro _; rfl))
          go_big_quiet_step ((intro _; rfl))
          refine wpQuiet_nil ?_
          intro W2 hW2
          clear hcx
          go_wp2_with fail
          exact ⟨⟨k + 1, by omega, by go_num, hW2⟩, by simp [intOf]; omega⟩
        · have g2' : decide (x < t) = false := decide_eq_false g2
          have C1 : Hid (∀ W, St w f t x0 x1 (.slice (some ⟨b, o, none⟩) n cap) W → Calls Try.prog 18 #[.agg #[.int .u32 f, .int .u32 t], .int .u32 x] W fun e W' => e = .returned (.bool false) ∧ St w f t x0 x1 (.slice (some ⟨b, o, none⟩) n cap) W') := Lib.hid fun W s => a18 x false (by simp; omega) W s
          go_upto_region 9 with fail
          refine wp_region_class (C := fun W => St w f t x0 x1 (.slice (some ⟨b, o, none⟩) n cap) W) (by kernel_rfl) (by kernel_rfl) HSR.out.drew1 ?_
          refine BigFrame.wpQuiet_want (by rfl) (fun K hK => ?_)
          refine ⟨.agg #[.int .u32 f, .int .u32 t], fun W hW => ?_, hK _ ?_⟩
          · have d0 := H1.out W hW; have d1 := H2.out W hW; clear hW; go_simp
          clear hK K
          simp only [Act.put, List.setIfInBounds_toArray, List.set_cons_zero, List.set_cons_succ]
          go_big_quiet_step ((intro _; rfl))
          go_big_quiet_step ((intro hW; go_at_call 18; exact C1.out _ hW))
          go_big_quiet_step ((intro _; rfl))
          go_big_quiet_step ((intro _; rfl))
          refine BigFrame.wpQuiet_want (by rfl) (fun K hK => ?_)
          refine ⟨.int .u32 f, fun W hW => ?_, hK _ ?_⟩
          · have d0 := H1.out W hW; clear hW; go_simp
          clear hK K
          simp only [Act.put, List.setIfInBounds_toArray, List.set_cons_zero, List.set_cons_succ]
          go_big_quiet_step ((intro _; rfl))
          go_big_quiet_step ((intro _; rfl))
          go_big_quiet_step ((intro _; rfl))
          go_big_quiet_step ((intro _; rfl))
          refine BigFrame.wpQuiet_want (by rfl) (fun K hK => ?_)
          refine ⟨.int .u32 t, fun W hW => ?_, hK _ ?_⟩
          · have d0 := H2.out W hW; clear hW; go_simp
          clear hK K
          simp only [Act.put, List.setIfInBounds_toArray, List.set_cons_zero, List.set_cons_succ]
          go_big_quiet_step ((intro _; rfl))
          go_big_quiet_step ((intro _; rfl))
          go_big_quiet_step ((intro _; rfl))
          refine wpQuiet_nil ?_
          intro W2 hW2
          clear hcx
          go_wp2_with fail
          exact ⟨⟨k + 1, by omega, by go_num, hW2⟩, by simp [intOf]; omega⟩
      · have g1' : decide (f ≤ x) = false := decide_eq_false g1
        have C1 : Hid (∀ W, St w f t x0 x1 (.slice (some ⟨b, o, none⟩) n cap) W → Calls Try.prog 18 #[.agg #[.int .u32 f, .int .u32 t], .int .u32 x] W fun e W' => e = .returned (.bool false) ∧ St w f t x0 x1 (.slice (some ⟨b, o, none⟩) n cap) W') := Lib.hid fun W s => a18 x false (by simp; omega) W s
        go_upto_region 9 with fail
        refine wp_region_class (C := fun W => St w f t x0 x1 (.slice (some ⟨b, o, none⟩) n cap) W) (by kernel_rfl) (by kernel_rfl) HSR.out.drew1 ?_
        refine BigFrame.wpQuiet_want (by rfl) (fun K hK => ?_)
        refine ⟨.agg #[.int .u32 f, .int .u32 t], fun W hW => ?_, hK _ ?_⟩
        · have d0 := H1.out W hW; have d1 := H2.out W hW; clear hW; go_simp
        clear hK K
        simp only [Act.put, List.setIfInBounds_toArray, List.set_cons_zero, List.set_cons_succ]
        go_big_quiet_step ((intro _; rfl))
        go_big_quiet_step ((intro hW; go_at_call 18; exact C1.out _ hW))
        go_big_quiet_step ((intro _; rfl))
        go_big_quiet_step ((intro _; rfl))
        refine BigFrame.wpQuiet_want (by rfl) (fun K hK => ?_)
        refine ⟨.int .u32 f, fun W hW => ?_, hK _ ?_⟩
        · have d0 := H1.out W hW; clear hW; go_simp
        clear hK K
        simp only [Act.put, List.setIfInBounds_toArray, List.set_cons_zero, List.set_cons_succ]
        go_big_quiet_step ((intro _; rfl))
        go_big_quiet_step ((intro _; rfl))
        go_big_quiet_step ((intro _; rfl))
        go_big_quiet_step ((intro _; rfl))
        go_big_quiet_step ((intro _; rfl))
        go_big_quiet_step ((intro _; rfl))
        go_big_quiet_step ((intro _; rfl))
        go_big_quiet_step ((intro _; rfl))
        refine wpQuiet_nil ?_
        intro W2 hW2
        go_wp2_with fail
        exact ⟨⟨k + 1, by omega, by go_num, hW2⟩, by simp [intOf]; omega⟩
    · obtain ⟨M, hM⟩ : ∃ M, maskOf x0 ((behindL x0).filter fun n => decide (n ∈ xs)) = M := ⟨_, rfl⟩
      have hM' := Lib.hid hM; clear hM
      have T40 : Hid ((toldL x0 x1).take 40 = toldL x0 x1) := Lib.hid (toldL_take x0 x1 40 (by omega))
      have TL := Lib.hid (toldL_len x0 x1)
      go_upto_region 12 with fail
      go_region_held3 (fun W => W.cell? ⟨w.heap.size, 0, none⟩ = some (.int .u32 f) ∧ W.cell? ⟨w.heap.size, 1, none⟩ = some (.int .u32 t) ∧ W.cell? ⟨w.heap.size + 1, 0, none⟩ = some (.slice q n cap) ∧ W.cell? ⟨w.heap.size + 2, 0, none⟩ = some (.int .u32 x0) ∧ W.cell? ⟨w.heap.size + 2, 1, none⟩ = some (.int .u32 x1) ∧ St w f t x0 x1 (.slice q n cap) W)
        (first | exact s7.lo | exact s6.lo | exact s5.lo | exact s4.lo | exact s3.lo | exact s2.lo | exact s1.lo | exact sr.drew1.lo)
        (first
          | (go_at_call 19; refine (a19 _ s6).mono ?_; rintro e v7 ⟨rfl, s7⟩)
          | (go_at_call 28; refine (a28 hx0 hx30 hV.out M hM'.out _ s5).mono ?_; rintro e v6 ⟨rfl, s6⟩)
          | (go_at_call 27; refine (a27 hx0 hx30 hV.out M hM'.out _ s4).mono ?_; rintro e v5 ⟨rfl, s5⟩)
          | (go_at_call 16; refine (a16 _ _ _ ?_ _ k1' k2 s3).mono ?_; (have := TL.out; omega); rintro e v4 ⟨rfl, s4⟩)
          | (go_at_call 26; refine (a26 hx0 hx1 _ s2).mono ?_; rintro e v3 ⟨u2, rfl, k2, b3, s3⟩; have k1' := k1.then b3)
          | (go_at_call 22; refine (a22' _ _ _ _ 40 ?_ _ hit1 s1).mono ?_; omega; rintro e v2 ⟨u1, rfl, k1, s2⟩; rw [T40.out] at k1)
          | (go_at_call 25; refine (a25 hx0 hx1 _ sr.drew1).mono ?_; rintro e v1 ⟨g1, lb1, rfl, hit1, s1⟩))
      go_wp2_with fail
      go_ret
      exact ⟨rfl, s7.below⟩
end Go.Proofs.Ytmghgjokleeigaa
