/-
  CreditBounded: what is on its way comes. Up to 200 acts.
-/
import Derived.Test.YtbmhgdfkkiepaaaBnd2
namespace Go.Proofs.Ytbmhgdfkkiepaaa
open Go.RowKit

theorem OffRow.le {w : World} {base : Nat} {e : TypeId} {q : Option Addr} {n c : Nat} {xs : List Value} (h : OffRow w base e (.slice q n c) xs) : n ≤ c ∧ c ≤ maxLen := by
  rcases h with ⟨h, _⟩ | ⟨g', o', cap, cur, e1, h2, h3, h4, h5, h6, h7⟩
  · cases h; exact ⟨Nat.le_refl _, Nat.zero_le _⟩
  · cases e1; exact ⟨h4, h5⟩
def takeN : Nat → Two → Two
  | 0, x => x
  | j + 1, x => match x.way with
    | [] => x
    | a :: ys => takeN j { x with tk := x.tk + a, way := ys }
theorem takeN_nil (j : Nat) (x : Two) (h : x.way = []) : takeN j x = x := by
  cases j with
  | zero => rfl
  | succ j => unfold takeN; rw [h]
theorem takeN_cons (j a : Nat) (ys : List Nat) (x : Two) (h : x.way = a :: ys) : takeN (j + 1) x = takeN j { x with tk := x.tk + a, way := ys } := by
  show (match x.way with | [] => x | a :: ys => takeN j { x with tk := x.tk + a, way := ys }) = _
  rw [h]

def TakeRel (w0 : World) (X B C most k a r : Nat) (x : Two) (v : Value) (wr : World) : Prop :=
  ∃ (j : Nat) (y : Two) (vw vg : Value), v = .int .i64 ((5 * a + j : Nat) : Int) ∧ j ≤ 4 ∧ Ends w0 X B C most y y.s y.us vw vg wr ∧ Good most k y ∧ takeN j y = takeN r x
theorem TakeRel.step {w0 : World} {X B C most k a r : Nat} {x : Two} {z j : Nat} {y : Two} {v L cp b o : Nat} {ys : List Nat} {vg : Value} {v1 : World} {u : Value} (hj0 : ¬ j = 0) (hz : z = 5 * a + j) (hj : j ≤ 4) (hcons : y.way = v :: ys) (hL : L = ys.length + 1)
    (J : Ends w0 X B C most { y with tk := y.tk + v } y.s y.us (.slice (some ⟨b, o, none⟩) L cp) vg v1) (G2 : Good most k { y with tk := y.tk + v, way := ys }) (ey : takeN j y = takeN r x)
    (hu : (cp = 1 ∧ u = .slice (some ⟨b, o, none⟩) (L - 1) 0) ∨ (¬ cp = 1 ∧ u = .slice (some ⟨b, o + 1, none⟩) (L - 1) (cp - 1))) : TakeRel w0 X B C most k a r x (.int .i64 ((z : Int) - 1)) (v1.setCell ⟨X, 2, none⟩ u) := by
  have hw : OffRow v1 w0.heap.size 3 (.slice (some ⟨b, o, none⟩) L cp) (.int .i64 v :: ints ys) := by have := J.way; simp only [hcons] at this; exact this
  obtain ⟨t1, t2, t3, t4, t5⟩ := hw.tail
  have hr : OffRow v1 w0.heap.size 3 u (ints ys) ∧ u.ownBlock = some b := by
    rcases hu with ⟨e, rfl⟩ | ⟨e, rfl⟩
    · have hl := hw.le.1
      obtain rfl : L = 1 := by omega
      exact ⟨t4 e, rfl⟩
    · have e2 : L - 1 = (ints ys).length := by rw [List.length_map]; omega
      rw [e2]; exact ⟨t5, rfl⟩
  obtain ⟨m, rfl⟩ : ∃ m, j = m + 1 := ⟨j - 1, by omega⟩
  refine ⟨m, { y with tk := y.tk + v, way := ys }, u, vg, by congr 1; omega, by omega, J.pop (n := v) hr.1 hr.2, G2, ?_⟩
  rw [← ey, takeN_cons m v ys y hcons]
set_option maxRecDepth 100000 in
set_option maxHeartbeats 2000000 in
theorem does_take (w0 : World) (X B C most k what a r : Nat) (x : Two) (vw vg : Value) (W : World) (hm : 1 ≤ most) (hm2 : most ≤ 256) (hk : k ≤ 200) (hw : what = 3 ∨ what = 4) (ha : a ≤ 51) (hr : r ≤ 4) (good : Good most k x) (h : Ends w0 X B C most x x.s x.us vw vg W) :
    Calls Try.prog 27 #[.pointer (some ⟨X, 0, none⟩), .agg #[.int .u8 what, .int .u8 ((5 * a + r : Nat) : Int)]] W (fun e W' => Done w0 X B C most (takeN r x) e W' ∧ Good most k (takeN r x)) := by
  have H := Lib.hid h
  have G := Lib.hid good
  clear good h
  obtain ⟨N, hN⟩ : ∃ N, N = 5 * a + r := ⟨_, rfl⟩
  rw [← hN]
  have hN2 : N ≤ 260 := by omega
  have HN := Lib.hid hN
  clear hN
  have ho := Lib.hid (fun o => H.out.alloc o)
  rcases hw with rfl | rfl
  all_goals
    go_enter Try.func27, Try.ntmps27
    go_wp2_with fail
    go_loopw [5] (fun v wr => TakeRel w0 X B C most k a r x v wr) (fun v _ => (intOf v).toNat)
    case atStart => exact ⟨r, x, vw, vg, by rw [HN.out], hr, ho.out _, G.out, rfl⟩
    case round =>
      clear ho HN hN2 G H
      obtain ⟨j, y, vw, vg, rfl, hj, h1, good, ey⟩ := hrel
      have Ey := Lib.hid ey
      have G := Lib.hid good
      obtain ⟨c0, c1, c2, c3, c4, c5, f2, f3, f4, f5⟩ := six_cell h1.xs
      obtain ⟨q, L, cp, e1⟩ := h1.way.form'
      subst e1
      clear ey good
      by_cases hj0 : j = 0
      · subst hj0
        have H1 := Lib.hid h1; clear h1
        have hm5 : ((5 * a + 0 : Nat) : Int) % 5 = 0 := by omega
        go_wp2_with fail
        go_ret
        rw [← Ey.out]
        exact ⟨⟨rfl, _, _, H1.out⟩, G.out⟩
      · obtain ⟨z, hz⟩ : ∃ z, z = 5 * a + j := ⟨_, rfl⟩
        have hz1 : z ≤ 260 := by omega
        have hz2 : (0 : Int) < (z : Int) % 5 := by omega
        have hz3 : 1 ≤ z := by omega
        rw [← hz]
        have Hz := Lib.hid hz; clear hz
        by_cases hnil : y.way = []
        · have hL : L = 0 := by
            rcases h1.way with ⟨e, _⟩ | ⟨_, _, _, _, e, _⟩
            · cases e; rfl
            · cases e; simp [hnil]
          subst hL
          have H1 := Lib.hid h1; clear h1
          have Hnil := Lib.hid hnil; clear hnil
          go_wp2_with fail
          go_ret
          rw [← Ey.out, takeN_nil _ _ Hnil.out]
          exact ⟨⟨rfl, _, _, H1.out⟩, G.out⟩
        · obtain ⟨v, ys, hcons⟩ := List.exists_cons_of_ne_nil hnil
          have hway : OffRow wr w0.heap.size 3 (.slice q L cp) (.int .i64 v :: ints ys) := by have := h1.way; rw [hcons] at this; exact this
          obtain ⟨b, o, c', e1, hc0⟩ := hway.at_ (k := 0) (by simp)
          injection e1 with e1 e2 e3
          subst e1 e3
          have hLs : L = ys.length + 1 := by rw [e2]; simp
          clear e2
          obtain ⟨hv, htk, G2⟩ := G.out.take hcons
          obtain ⟨t1, t2, t3, t4, t5⟩ := hway.tail
          have hb := G.out.bounds
          have hb2 := G.out.sl
          have hb3 := G.out.gu
          have hb4 := G.out.ut
          have hb5 := G.out.st
          simp only [Nat.add_zero, List.getElem_cons_zero] at hc0
          have hle := hway.le
          have hcp : cp ≤ 9223372036854775807 := by have := hle.2; unfold maxLen at this; omega
          have hL1 : 1 ≤ L := by omega
          have hLc : L ≤ cp := hle.1
          have HLs := Lib.hid hLs
          have H1 := Lib.hid h1
          have T4 := Lib.hid t4
          have T5 := Lib.hid t5
          have A1 : Hid (∀ wA : World, wA.heap = wr.heap → (∀ B' x' , Below B' x' wr → Below B' x' wA) → Calls Try.prog 19 #[.pointer (some ⟨C, 0, none⟩), .int .i64 v] wA (fun e W' => e = .returned (.int .i64 0) ∧ Ends w0 X B C most { y with tk := y.tk + v } y.s y.us (.slice (some ⟨b, o, none⟩) L cp) vg W' ∧ W'.cell? ⟨b, o, none⟩ = some (.int .i64 v))) := Lib.hid (by
            intro wA e1 e2
            have E := H1.out.same (e2 _ _ (Below.refl _ _))
            refine (take_ok C most y.g2 y.tk y.us (by omega) (by omega) (by omega) v (by omega) wA E.fg).mono ?_
            rintro e W' ⟨he, hg, hgr⟩
            have E2 := E.gvU hgr hg
            refine ⟨he, E2, ?_⟩
            obtain ⟨b', o', c', e3, hc'⟩ := E2.way.at_ (k := 0) (by simp [hcons])
            cases e3
            simpa [hcons] using hc')
          clear hLs h1 t1 t2 t3 t4 t5 hle hway hnil
          go_wp2_with fail
          go_region_held3 (fun w' => w'.cell? ⟨X, 1, none⟩ = some (.pointer (some ⟨C, 0, none⟩)) ∧ w'.cell? ⟨X, 2, none⟩ = some (.slice (some ⟨b, o, none⟩) L cp) ∧ w'.cell? ⟨b, o, none⟩ = some (.int .i64 v)) (first | go_keep | exact ⟨d1, d2, d3⟩) (first
            | (go_at_call 19; refine (A1.out _ ?_ ?_).mono ?_; rfl; exact (fun _ _ h => ⟨h.os, h.tape, h.output, h.size, h.block⟩); rintro e v1 ⟨rfl, j1, d3⟩; have d1 := (six_cell j1.xs).2.1; have d2 := (six_cell j1.xs).2.2.1))
          have J1 := Lib.hid j1
          have g2 := (six_cell j1.xs).2.2.2.2.2.2.1
          clear j1 c0 c1 c2 c3 c4 c5 f2 f3 f4 f5 hc0 A1 H1
          go_wp2_with fail
          · rename_i h
            exact ⟨TakeRel.step hj0 Hz.out hj hcons HLs.out J1.out G2 Ey.out (.inl ⟨h, rfl⟩), by simp [intOf]; omega⟩
          · rename_i h
            exact ⟨TakeRel.step hj0 Hz.out hj hcons HLs.out J1.out G2 Ey.out (.inr ⟨h, rfl⟩), by simp [intOf]; omega⟩
end Go.Proofs.Ytbmhgdfkkiepaaa
