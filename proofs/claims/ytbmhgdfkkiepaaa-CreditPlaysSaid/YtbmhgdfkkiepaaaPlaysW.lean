/-
  CreditPlays: the walk.
-/
import Derived.Test.YtbmhgdfkkiepaaaCredU
import Derived.Deep.RegionHeld3
import Derived.Deep.CutBlock
import Derived.Deep.RegionWith
import Derived.Deep.DeepCutAuto
namespace Go.Proofs.Ytbmhgdfkkiepaaa
open Go.RowKit

/-- Element i of the calls lies at a's block. -/
def CallAt (W : World) (b o i : Nat) (x n : Int) (t : Nat) : Prop := W.cell? ⟨b, o + i * 3, none⟩ = some (.int .i64 x) ∧ W.cell? ⟨b, o + i * 3 + 1, none⟩ = some (.int .i64 n) ∧ W.cell? ⟨b, o + i * 3 + 2, none⟩ = some (.int .u64 t)

theorem may_yes (n : Int) (h1 : 1 ≤ n) (h2 : n ≤ 8192) (w : World) : Calls Try.prog 13 #[.int .i64 n] w fun e W => e = .returned (.bool true) ∧ w = W :=
  (may_any n w).mono fun e W h => ⟨h.1.trans (ret_bool (decide_eq_true ⟨h1, h2⟩)), h.2⟩
theorem may_no (n : Int) (h1 : n < 1 ∨ 8192 < n) (w : World) : Calls Try.prog 13 #[.int .i64 n] w fun e W => e = .returned (.bool false) ∧ w = W :=
  (may_any n w).mono fun e W h => ⟨h.1.trans (ret_bool (decide_eq_false (by omega))), h.2⟩

/-- Behind k calls: both spenders alike, both givers alike, within their bounds. -/
def Inv (w : World) (B C D E most k : Nat) (W : World) : Prop := ∃ g s g2 tk us : Nat, Sp W B most g s ∧ RSp W D most g s ∧ Gv W C most g2 tk us ∧ RGv W E most g2 tk us ∧
  (s ≤ g ∧ g ≤ s + most ∧ s ≤ 8192 * k ∧ us ≤ tk ∧ tk ≤ g2 ∧ g2 ≤ us + most ∧ tk ≤ 8192 * k) ∧ Below w.heap.size w W

theorem keep2 {w w1 W : World} {b b' : Nat} {o : Obj} (hg : w1.grownBy W (some b')) (h : w.heap[b]? = some o) (e : w1.heap = w.heap) (hne : b ≠ b') : W.heap[b]? = some o :=
  keep_block (w := w1) (by rw [e]; exact h) hg hne
theorem cell_grown {w W : World} {b' F o : Nat} {v : Value} (hg : w.grownBy W (some b')) (hne : F ≠ b') (h : w.cell? ⟨F, o, none⟩ = some v) : W.cell? ⟨F, o, none⟩ = some v :=
  (World.cell?_of_block (a := ⟨F, o, none⟩) (hg.block F (World.block_lt_of_cell? w _ h) (by simpa using hne))).trans h
def Like (a b : World) : Prop := a.heap = b.heap ∧ ∀ n x, Below n x b → Below n x a
theorem inv_s {w : World} {B C D E most k g s g2 tk us : Nat} {w5 wA v1 wB v2 : World} (hB : w.heap.size ≤ B) (hBC : B < C) (hCD : C < D) (hDE : D < E)
    (i3 : Gv w5 C most g2 tk us) (i4 : RGv w5 E most g2 tk us) (i6 : Below w.heap.size w w5) (hg : wA.grownBy v1 (some B)) (j1 : Sp v1 B most g s) (hg2 : wB.grownBy v2 (some D)) (k2 : RSp v2 D most g s)
    (eA : Like wA w5) (eB : Like wB v1)
    (hb : s ≤ g ∧ g ≤ s + most ∧ s ≤ 8192 * (k + 1) ∧ us ≤ tk ∧ tk ≤ g2 ∧ g2 ≤ us + most ∧ tk ≤ 8192 * (k + 1)) : Inv w B C D E most (k + 1) v2 :=
  ⟨g, s, g2, tk, us, keep2 hg2 j1 eB.1 (by omega), k2, keep2 hg2 (keep2 hg i3 eA.1 (by omega)) eB.1 (by omega), keep2 hg2 (keep2 hg i4 eA.1 (by omega)) eB.1 (by omega), hb,
    below_grown (eB.2 _ _ (below_grown (eA.2 _ _ i6) (Nat.le_refl _) hB hg)) (Nat.le_refl _) (by omega) hg2⟩
theorem inv_g {w : World} {B C D E most k g s g2 tk us : Nat} {w5 wA v1 wB v2 : World} (hB : w.heap.size ≤ B) (hBC : B < C) (hCD : C < D) (hDE : D < E)
    (i1 : Sp w5 B most g s) (i2 : RSp w5 D most g s) (i6 : Below w.heap.size w w5) (hg : wA.grownBy v1 (some C)) (j1 : Gv v1 C most g2 tk us) (hg2 : wB.grownBy v2 (some E)) (k2 : RGv v2 E most g2 tk us)
    (eA : Like wA w5) (eB : Like wB v1)
    (hb : s ≤ g ∧ g ≤ s + most ∧ s ≤ 8192 * (k + 1) ∧ us ≤ tk ∧ tk ≤ g2 ∧ g2 ≤ us + most ∧ tk ≤ 8192 * (k + 1)) : Inv w B C D E most (k + 1) v2 :=
  ⟨g, s, g2, tk, us, keep2 hg2 (keep2 hg i1 eA.1 (by omega)) eB.1 (by omega), keep2 hg2 (keep2 hg i2 eA.1 (by omega)) eB.1 (by omega), keep2 hg2 j1 eB.1 (by omega), k2, hb,
    below_grown (eB.2 _ _ (below_grown (eA.2 _ _ i6) (Nat.le_refl _) (by omega) hg)) (Nat.le_refl _) (by omega) hg2⟩
theorem grantedR_bounds (g s most T : Nat) (h1 : s ≤ g) (h2 : g ≤ s + most) : s ≤ (grantedR most g s T).2 ∧ (grantedR most g s T).2 ≤ s + most := by
  unfold grantedR
  split
  · exact ⟨h1, h2⟩
  · exact ⟨by simp; omega, by simp; omega⟩
theorem addR_bounds (c : Int) (g s most : Nat) (n : Int) (h1 : s ≤ g) (h2 : g ≤ s + most) : s ≤ (addR c g s n).2 ∧ (addR c g s n).2 ≤ g := by
  unfold addR
  split
  · exact ⟨Nat.le_refl _, h1⟩
  · split
    · exact ⟨Nat.le_refl _, h1⟩
    · exact ⟨by simp, by simp; omega⟩

set_option maxRecDepth 100000 in
set_option maxHeartbeats 8000000 in
theorem plays_good (most : Nat) (h1 : 1 ≤ most) (h2 : most ≤ 8192) (q : Option Addr) (len cap : Nat) (hlen : len ≤ 9223372036854775807) (w : World) (x n : Nat → Int) (t : Nat → Nat)
    (hx : ∀ i, i < len → ∃ b o, q = some ⟨b, o, none⟩ ∧ b < w.heap.size ∧ CallAt w b o i (x i) (n i) (t i)) (hn : ∀ i, i < len → n i ≤ 9223372036854775807) (ht : ∀ i, i < len → t i ≤ 18446744073709551615) :
    Calls Try.prog 3 #[.int .i64 most, .slice q len cap] w (TruePost w) := by
  have Hx := Lib.hid hx; have Hn := Lib.hid hn; have Ht := Lib.hid ht
  clear hx hn ht
  go_enter Try.func3, Try.ntmps3
  go_wp2_with fail
  refine (news_good most h1 h2 _).mono ?_
  rintro e w1 ⟨B, hB1, rfl, hS, hb1⟩
  go_wp2_with fail
  refine (newg_good most h1 h2 _).mono ?_
  rintro e w2 ⟨C, hC1, rfl, hG, hb2⟩
  have hBC : B < C := by have := block_lt hS; omega
  have hCn : w.heap.size ≤ C := Nat.le_trans hb1.size hC1
  have hCl := block_lt hG
  replace hS : Sp w2 B most most 0 := below_block hS hb2
  replace hb1 := below_then hb1 (Nat.le_refl _) hb2
  clear hb2 hC1
  go_wp2_with (go_at_call 13; refine (may_yes _ (by omega) (by omega) _).mono ?_; rintro e w' ⟨rfl, rfl⟩)
  have hR : RSp ((w2.alloc (.cells #[.int .i64 most, .int .i64 most, .int .i64 0] 34)).alloc (.cells #[.int .i64 most, .int .i64 most, .int .i64 0, .int .i64 0] 37)) w2.heap.size most most 0 := alloc_old _ (alloc_new _ _)
  have hQ : RGv ((w2.alloc (.cells #[.int .i64 most, .int .i64 most, .int .i64 0] 34)).alloc (.cells #[.int .i64 most, .int .i64 most, .int .i64 0, .int .i64 0] 37)) (w2.heap.size + 1) most most 0 0 := by
    have := alloc_new (w2.alloc (.cells #[.int .i64 most, .int .i64 most, .int .i64 0] 34)) (.cells #[.int .i64 most, .int .i64 most, .int .i64 0, .int .i64 0] 37)
    rw [World.size_alloc] at this; exact this
  have hb : Below w.heap.size w ((w2.alloc (.cells #[.int .i64 most, .int .i64 most, .int .i64 0] 34)).alloc (.cells #[.int .i64 most, .int .i64 most, .int .i64 0, .int .i64 0] 37)) := (hb1.alloc hb1.size _).alloc (Nat.le_trans hb1.size (by simp)) _
  have hS' := alloc_old (.cells #[.int .i64 most, .int .i64 most, .int .i64 0, .int .i64 0] 37) (alloc_old (.cells #[.int .i64 most, .int .i64 most, .int .i64 0] 34) hS)
  have hG' := alloc_old (.cells #[.int .i64 most, .int .i64 most, .int .i64 0, .int .i64 0] 37) (alloc_old (.cells #[.int .i64 most, .int .i64 most, .int .i64 0] 34) hG)
  generalize (w2.alloc (.cells #[.int .i64 most, .int .i64 most, .int .i64 0] 34)).alloc (.cells #[.int .i64 most, .int .i64 most, .int .i64 0, .int .i64 0] 37) = w3 at hR hQ hb hS' hG' ⊢
  obtain ⟨D, hD⟩ : ∃ D, D = w2.heap.size := ⟨_, rfl⟩
  obtain ⟨E, hE⟩ : ∃ E, E = w2.heap.size + 1 := ⟨_, rfl⟩
  rw [← hE] at hQ
  rw [← hD] at hR
  simp only [← hE]
  simp only [← hD]
  have hI : Inv w B C D E most 0 w3 := ⟨most, 0, most, 0, 0, hS', hR, hG', hQ, by omega, hb⟩
  have hCD : C < D := by omega
  have hDE : D < E := by omega
  clear hS hG hS' hG' hR hQ hb1 hb hD hE hCl
  go_loopw [64] (fun i wr => ∃ k : Nat, k ≤ len ∧ k ≤ 80 ∧ i = .int .i64 k ∧ Inv w B C D E most k wr) (fun i _ => len - (intOf i).toNat)
  case atStart => exact ⟨0, by omega, by omega, rfl, hI⟩
  case round =>
    clear hI
    obtain ⟨k, hk, hk80, rfl, hI⟩ := hrel
    by_cases hlt : k < len
    · obtain ⟨b, o, rfl, hbw, hc0, hc1, hc2⟩ := Hx.out k hlt
      have hn := Hn.out k hlt
      have ht := Ht.out k hlt
      generalize x k = X at hc0
      generalize n k = N at hc1 hn
      generalize t k = T at hc2 ht
      have HB : Below w.heap.size w wr := by obtain ⟨_, _, _, _, _, _, _, _, _, _, hB⟩ := hI; exact hB
      have hE : E < wr.heap.size := by obtain ⟨_, _, _, _, _, _, _, _, hQ, _⟩ := hI; exact block_lt hQ
      have hc0' := (HB.cell (p := ⟨b, o + k * 3, none⟩) hbw).trans hc0
      have hc1' := (HB.cell (p := ⟨b, o + k * 3 + 1, none⟩) hbw).trans hc1
      have hc2' := (HB.cell (p := ⟨b, o + k * 3 + 2, none⟩) hbw).trans hc2
      have HI := Lib.hid hI
      clear hI hc0 hc1 hc2
      by_cases h80 : k = 80
      · subst h80
        go_wp2_with fail
        refine (wakes9 _).mono ?_
        rintro e x1 ⟨rfl, hx⟩
        have hx1 := below_then (HB.alloc HB.size (.cells #[.int .i64 X, .int .i64 N, .int .u64 T] 40)) (Nat.le_refl _) hx
        clear hx
        go_wp2_with fail
        go_ret
        exact ⟨rfl, hx1⟩
      · have h80' : ((k : Int) == 80) = false := by rw [beq_eq_false_iff_ne]; omega
        go_upto_region 14 with fail
        have hI5 : Inv w B C D E most k (wr.alloc (.cells #[.int .i64 X, .int .i64 N, .int .u64 T] 40)) := by
          obtain ⟨g, s, g2, tk, us, i1, i2, i3, i4, i5, i6⟩ := HI.out
          exact ⟨g, s, g2, tk, us, alloc_old _ i1, alloc_old _ i2, alloc_old _ i3, alloc_old _ i4, i5, i6.alloc i6.size _⟩
        have hF := alloc_new wr (.cells #[.int .i64 X, .int .i64 N, .int .u64 T] 40)
        have hFn : w.heap.size ≤ wr.heap.size := HB.size
        clear hc0' hc1' hc2' HB HI
        generalize wr.alloc (.cells #[.int .i64 X, .int .i64 N, .int .u64 T] 40) = w5 at hI5 hF ⊢
        generalize wr.heap.size = F at hF hE hFn ⊢
        obtain ⟨c0, c1, c2, f0, f1, f2⟩ := three_cell hF
        go_upto_block 2 with fail
        go_cut [13] (fun s13 wx => s13 = .bool true ∧ Inv w B C D E most (k + 1) wx)
        case first =>
          obtain ⟨g, s, g2, tk, us, i1, i2, i3, i4, i5, i6⟩ := hI5
          by_cases hX0 : X = 0
          · subst hX0
            go_wp2_with fail
            have A1 : Hid (∀ wA : World, wA.heap = w5.heap → Calls Try.prog 15 #[.pointer (some ⟨B, 0, none⟩), .int .i64 N] wA (fun e v => UPost wA B (fun s' V => Sp V B most g s') (addR 8 g s N) e v ∧ v.cell? ⟨F, 1, none⟩ = some (.int .i64 N) ∧ v.cell? ⟨F, 2, none⟩ = some (.int .u64 T) ∧ v.heap[D]? = w5.heap[D]?)) := Lib.hid fun wA eA =>
              (spend_u B most g s N (by omega) (by omega) (by omega) hn wA (by unfold Sp Gv at *; rw [eA]; exact i1)).mono fun e v h => ⟨h, (three_cell (keep2 h.2.2 hF eA (by omega))).2.1, (three_cell (keep2 h.2.2 hF eA (by omega))).2.2.1, (keep2 h.2.2 i2 eA (by omega)).trans i2.symm⟩
            have A2 : Hid (∀ wB : World, wB.heap[D]? = w5.heap[D]? → wB.cell? ⟨F, 1, none⟩ = some (.int .i64 N) ∧ wB.cell? ⟨F, 2, none⟩ = some (.int .u64 T) → Calls Try.prog 16 #[.pointer (some ⟨D, 0, none⟩), .int .i64 N] wB (fun e v => UPost wB D (fun s' V => RSp V D most g s') (addR 8 g s N) e v ∧ v.cell? ⟨F, 1, none⟩ = some (.int .i64 N) ∧ v.cell? ⟨F, 2, none⟩ = some (.int .u64 T))) := Lib.hid fun wB eB cB =>
              (rspend_u D most g s N (by omega) (by omega) hn wB (by unfold RSp RGv at *; rw [eB]; exact i2)).mono fun e v h => ⟨h, (cell_grown h.2.2 (by omega) cB.1), (cell_grown h.2.2 (by omega) cB.2)⟩
            have hA := addR_bounds 8 g s most N i5.1 i5.2.1
            have i5' := Lib.hid i5
            have hA' := Lib.hid hA
            clear i5 hA
            go_region_held3 (fun w' => w'.cell? ⟨F, 1, none⟩ = some (.int .i64 N) ∧ w'.cell? ⟨F, 2, none⟩ = some (.int .u64 T)) (first | go_keep | exact ⟨d1, d2⟩ | exact ⟨d3, d4⟩) (first
              | (go_at_call 15; refine (A1.out _ ?_).mono ?_; rfl; rintro e v1 ⟨⟨rfl, j1, hg⟩, d1, d2, j2⟩)
              | (go_at_call 16; refine (A2.out _ ?_ ?_).mono ?_; exact j2; exact ⟨d1, d2⟩; rintro e v2 ⟨⟨rfl, k2, hg2⟩, d3, d4⟩))
            go_wp2_with fail
            go_meet
            exact ⟨rfl, inv_s hB1 hBC hCD hDE i3 i4 i6 hg j1 hg2 k2 ⟨rfl, fun _ _ h => ⟨h.os, h.tape, h.output, h.size, h.block⟩⟩ ⟨rfl, fun _ _ h => ⟨h.os, h.tape, h.output, h.size, h.block⟩⟩ (by have := i5'.out; have := hA'.out; omega)⟩
          by_cases hX1 : X = 1
          · subst hX1
            go_wp2_with fail
            have A1 : Hid (∀ wA : World, wA.heap = w5.heap → Calls Try.prog 15 #[.pointer (some ⟨B, 0, none⟩), .int .i64 N] wA (fun e v => UPost wA B (fun s' V => Sp V B most g s') (addR 8 g s N) e v ∧ v.cell? ⟨F, 1, none⟩ = some (.int .i64 N) ∧ v.cell? ⟨F, 2, none⟩ = some (.int .u64 T) ∧ v.heap[D]? = w5.heap[D]?)) := Lib.hid fun wA eA =>
              (spend_u B most g s N (by omega) (by omega) (by omega) hn wA (by unfold Sp Gv at *; rw [eA]; exact i1)).mono fun e v h => ⟨h, (three_cell (keep2 h.2.2 hF eA (by omega))).2.1, (three_cell (keep2 h.2.2 hF eA (by omega))).2.2.1, (keep2 h.2.2 i2 eA (by omega)).trans i2.symm⟩
            have A2 : Hid (∀ wB : World, wB.heap[D]? = w5.heap[D]? → wB.cell? ⟨F, 1, none⟩ = some (.int .i64 N) ∧ wB.cell? ⟨F, 2, none⟩ = some (.int .u64 T) → Calls Try.prog 16 #[.pointer (some ⟨D, 0, none⟩), .int .i64 N] wB (fun e v => UPost wB D (fun s' V => RSp V D most g s') (addR 8 g s N) e v ∧ v.cell? ⟨F, 1, none⟩ = some (.int .i64 N) ∧ v.cell? ⟨F, 2, none⟩ = some (.int .u64 T))) := Lib.hid fun wB eB cB =>
              (rspend_u D most g s N (by omega) (by omega) hn wB (by unfold RSp RGv at *; rw [eB]; exact i2)).mono fun e v h => ⟨h, (cell_grown h.2.2 (by omega) cB.1), (cell_grown h.2.2 (by omega) cB.2)⟩
            have hA := addR_bounds 8 g s most N i5.1 i5.2.1
            have i5' := Lib.hid i5
            have hA' := Lib.hid hA
            clear i5 hA
            go_region_held3 (fun w' => w'.cell? ⟨F, 1, none⟩ = some (.int .i64 N) ∧ w'.cell? ⟨F, 2, none⟩ = some (.int .u64 T)) (first | go_keep | exact ⟨d1, d2⟩ | exact ⟨d3, d4⟩) (first
              | (go_at_call 15; refine (A1.out _ ?_).mono ?_; rfl; rintro e v1 ⟨⟨rfl, j1, hg⟩, d1, d2, j2⟩)
              | (go_at_call 16; refine (A2.out _ ?_ ?_).mono ?_; exact j2; exact ⟨d1, d2⟩; rintro e v2 ⟨⟨rfl, k2, hg2⟩, d3, d4⟩))
            go_wp2_with fail
            go_meet
            exact ⟨rfl, inv_s hB1 hBC hCD hDE i3 i4 i6 hg j1 hg2 k2 ⟨rfl, fun _ _ h => ⟨h.os, h.tape, h.output, h.size, h.block⟩⟩ ⟨rfl, fun _ _ h => ⟨h.os, h.tape, h.output, h.size, h.block⟩⟩ (by have := i5'.out; have := hA'.out; omega)⟩
          by_cases hX2 : X = 2
          · subst hX2
            go_wp2_with fail
            have A1 : Hid (∀ wA : World, wA.heap = w5.heap → Calls Try.prog 17 #[.pointer (some ⟨B, 0, none⟩), .int .u64 T] wA (fun e v => UPost wA B (fun g' V => Sp V B most g' s) (grantedR most g s T) e v ∧ v.cell? ⟨F, 1, none⟩ = some (.int .i64 N) ∧ v.cell? ⟨F, 2, none⟩ = some (.int .u64 T) ∧ v.heap[D]? = w5.heap[D]?)) := Lib.hid fun wA eA =>
              (granted_u B most g s T (by omega) (by omega) (by omega) (by omega) ht wA (by unfold Sp Gv at *; rw [eA]; exact i1)).mono fun e v h => ⟨h, (three_cell (keep2 h.2.2 hF eA (by omega))).2.1, (three_cell (keep2 h.2.2 hF eA (by omega))).2.2.1, (keep2 h.2.2 i2 eA (by omega)).trans i2.symm⟩
            have A2 : Hid (∀ wB : World, wB.heap[D]? = w5.heap[D]? → wB.cell? ⟨F, 1, none⟩ = some (.int .i64 N) ∧ wB.cell? ⟨F, 2, none⟩ = some (.int .u64 T) → Calls Try.prog 18 #[.pointer (some ⟨D, 0, none⟩), .int .u64 T] wB (fun e v => UPost wB D (fun g' V => RSp V D most g' s) (grantedR most g s T) e v ∧ v.cell? ⟨F, 1, none⟩ = some (.int .i64 N) ∧ v.cell? ⟨F, 2, none⟩ = some (.int .u64 T))) := Lib.hid fun wB eB cB =>
              (rgranted_u D most g s T (by omega) (by omega) (by omega) ht wB (by unfold RSp RGv at *; rw [eB]; exact i2)).mono fun e v h => ⟨h, (cell_grown h.2.2 (by omega) cB.1), (cell_grown h.2.2 (by omega) cB.2)⟩
            have hA := grantedR_bounds g s most T i5.1 i5.2.1
            have i5' := Lib.hid i5
            have hA' := Lib.hid hA
            clear i5 hA
            go_region_held3 (fun w' => w'.cell? ⟨F, 1, none⟩ = some (.int .i64 N) ∧ w'.cell? ⟨F, 2, none⟩ = some (.int .u64 T)) (first | go_keep | exact ⟨d1, d2⟩ | exact ⟨d3, d4⟩) (first
              | (go_at_call 17; refine (A1.out _ ?_).mono ?_; rfl; rintro e v1 ⟨⟨rfl, j1, hg⟩, d1, d2, j2⟩)
              | (go_at_call 18; refine (A2.out _ ?_ ?_).mono ?_; exact j2; exact ⟨d1, d2⟩; rintro e v2 ⟨⟨rfl, k2, hg2⟩, d3, d4⟩))
            go_wp2_with fail
            go_meet
            exact ⟨rfl, inv_s hB1 hBC hCD hDE i3 i4 i6 hg j1 hg2 k2 ⟨rfl, fun _ _ h => ⟨h.os, h.tape, h.output, h.size, h.block⟩⟩ ⟨rfl, fun _ _ h => ⟨h.os, h.tape, h.output, h.size, h.block⟩⟩ (by have := i5'.out; have := hA'.out; omega)⟩
          by_cases hX3 : X = 3
          · subst hX3
            go_wp2_with fail
            have A1 : Hid (∀ wA : World, wA.heap = w5.heap → Calls Try.prog 19 #[.pointer (some ⟨C, 0, none⟩), .int .i64 N] wA (fun e v => UPost wA C (fun t' V => Gv V C most g2 t' us) (addR 7 g2 tk N) e v ∧ v.cell? ⟨F, 1, none⟩ = some (.int .i64 N) ∧ v.cell? ⟨F, 2, none⟩ = some (.int .u64 T) ∧ v.heap[E]? = w5.heap[E]?)) := Lib.hid fun wA eA =>
              (take_u C most g2 tk us N (by omega) (by omega) (by omega) hn wA (by unfold Sp Gv at *; rw [eA]; exact i3)).mono fun e v h => ⟨h, (three_cell (keep2 h.2.2 hF eA (by omega))).2.1, (three_cell (keep2 h.2.2 hF eA (by omega))).2.2.1, (keep2 h.2.2 i4 eA (by omega)).trans i4.symm⟩
            have A2 : Hid (∀ wB : World, wB.heap[E]? = w5.heap[E]? → wB.cell? ⟨F, 1, none⟩ = some (.int .i64 N) ∧ wB.cell? ⟨F, 2, none⟩ = some (.int .u64 T) → Calls Try.prog 20 #[.pointer (some ⟨E, 0, none⟩), .int .i64 N] wB (fun e v => UPost wB E (fun t' V => RGv V E most g2 t' us) (addR 7 g2 tk N) e v ∧ v.cell? ⟨F, 1, none⟩ = some (.int .i64 N) ∧ v.cell? ⟨F, 2, none⟩ = some (.int .u64 T))) := Lib.hid fun wB eB cB =>
              (rtake_u E most g2 tk us N (by omega) (by omega) hn wB (by unfold RSp RGv at *; rw [eB]; exact i4)).mono fun e v h => ⟨h, (cell_grown h.2.2 (by omega) cB.1), (cell_grown h.2.2 (by omega) cB.2)⟩
            have hA := addR_bounds 7 g2 tk most N i5.2.2.2.2.1 (by omega)
            have i5' := Lib.hid i5
            have hA' := Lib.hid hA
            clear i5 hA
            go_region_held3 (fun w' => w'.cell? ⟨F, 1, none⟩ = some (.int .i64 N) ∧ w'.cell? ⟨F, 2, none⟩ = some (.int .u64 T)) (first | go_keep | exact ⟨d1, d2⟩ | exact ⟨d3, d4⟩) (first
              | (go_at_call 19; refine (A1.out _ ?_).mono ?_; rfl; rintro e v1 ⟨⟨rfl, j1, hg⟩, d1, d2, j2⟩)
              | (go_at_call 20; refine (A2.out _ ?_ ?_).mono ?_; exact j2; exact ⟨d1, d2⟩; rintro e v2 ⟨⟨rfl, k2, hg2⟩, d3, d4⟩))
            go_wp2_with fail
            go_meet
            exact ⟨rfl, inv_g hB1 hBC hCD hDE i1 i2 i6 hg j1 hg2 k2 ⟨rfl, fun _ _ h => ⟨h.os, h.tape, h.output, h.size, h.block⟩⟩ ⟨rfl, fun _ _ h => ⟨h.os, h.tape, h.output, h.size, h.block⟩⟩ (by have := i5'.out; have := hA'.out; omega)⟩
          by_cases hX4 : X = 4
          · subst hX4
            go_wp2_with fail
            have A1 : Hid (∀ wA : World, wA.heap = w5.heap → Calls Try.prog 19 #[.pointer (some ⟨C, 0, none⟩), .int .i64 N] wA (fun e v => UPost wA C (fun t' V => Gv V C most g2 t' us) (addR 7 g2 tk N) e v ∧ v.cell? ⟨F, 1, none⟩ = some (.int .i64 N) ∧ v.cell? ⟨F, 2, none⟩ = some (.int .u64 T) ∧ v.heap[E]? = w5.heap[E]?)) := Lib.hid fun wA eA =>
              (take_u C most g2 tk us N (by omega) (by omega) (by omega) hn wA (by unfold Sp Gv at *; rw [eA]; exact i3)).mono fun e v h => ⟨h, (three_cell (keep2 h.2.2 hF eA (by omega))).2.1, (three_cell (keep2 h.2.2 hF eA (by omega))).2.2.1, (keep2 h.2.2 i4 eA (by omega)).trans i4.symm⟩
            have A2 : Hid (∀ wB : World, wB.heap[E]? = w5.heap[E]? → wB.cell? ⟨F, 1, none⟩ = some (.int .i64 N) ∧ wB.cell? ⟨F, 2, none⟩ = some (.int .u64 T) → Calls Try.prog 20 #[.pointer (some ⟨E, 0, none⟩), .int .i64 N] wB (fun e v => UPost wB E (fun t' V => RGv V E most g2 t' us) (addR 7 g2 tk N) e v ∧ v.cell? ⟨F, 1, none⟩ = some (.int .i64 N) ∧ v.cell? ⟨F, 2, none⟩ = some (.int .u64 T))) := Lib.hid fun wB eB cB =>
              (rtake_u E most g2 tk us N (by omega) (by omega) hn wB (by unfold RSp RGv at *; rw [eB]; exact i4)).mono fun e v h => ⟨h, (cell_grown h.2.2 (by omega) cB.1), (cell_grown h.2.2 (by omega) cB.2)⟩
            have hA := addR_bounds 7 g2 tk most N i5.2.2.2.2.1 (by omega)
            have i5' := Lib.hid i5
            have hA' := Lib.hid hA
            clear i5 hA
            go_region_held3 (fun w' => w'.cell? ⟨F, 1, none⟩ = some (.int .i64 N) ∧ w'.cell? ⟨F, 2, none⟩ = some (.int .u64 T)) (first | go_keep | exact ⟨d1, d2⟩ | exact ⟨d3, d4⟩) (first
              | (go_at_call 19; refine (A1.out _ ?_).mono ?_; rfl; rintro e v1 ⟨⟨rfl, j1, hg⟩, d1, d2, j2⟩)
              | (go_at_call 20; refine (A2.out _ ?_ ?_).mono ?_; exact j2; exact ⟨d1, d2⟩; rintro e v2 ⟨⟨rfl, k2, hg2⟩, d3, d4⟩))
            go_wp2_with fail
            go_meet
            exact ⟨rfl, inv_g hB1 hBC hCD hDE i1 i2 i6 hg j1 hg2 k2 ⟨rfl, fun _ _ h => ⟨h.os, h.tape, h.output, h.size, h.block⟩⟩ ⟨rfl, fun _ _ h => ⟨h.os, h.tape, h.output, h.size, h.block⟩⟩ (by have := i5'.out; have := hA'.out; omega)⟩
          by_cases hX5 : X = 5
          · subst hX5
            go_wp2_with fail
            have A1 : Hid (∀ wA : World, wA.heap = w5.heap → Calls Try.prog 21 #[.pointer (some ⟨C, 0, none⟩), .int .i64 N] wA (fun e v => UPost wA C (fun u' V => Gv V C most g2 tk u') (addR 1 tk us N) e v ∧ v.cell? ⟨F, 1, none⟩ = some (.int .i64 N) ∧ v.cell? ⟨F, 2, none⟩ = some (.int .u64 T) ∧ v.heap[E]? = w5.heap[E]?)) := Lib.hid fun wA eA =>
              (use_u C most g2 tk us N (by omega) (by omega) (by omega) hn wA (by unfold Sp Gv at *; rw [eA]; exact i3)).mono fun e v h => ⟨h, (three_cell (keep2 h.2.2 hF eA (by omega))).2.1, (three_cell (keep2 h.2.2 hF eA (by omega))).2.2.1, (keep2 h.2.2 i4 eA (by omega)).trans i4.symm⟩
            have A2 : Hid (∀ wB : World, wB.heap[E]? = w5.heap[E]? → wB.cell? ⟨F, 1, none⟩ = some (.int .i64 N) ∧ wB.cell? ⟨F, 2, none⟩ = some (.int .u64 T) → Calls Try.prog 22 #[.pointer (some ⟨E, 0, none⟩), .int .i64 N] wB (fun e v => UPost wB E (fun u' V => RGv V E most g2 tk u') (addR 1 tk us N) e v ∧ v.cell? ⟨F, 1, none⟩ = some (.int .i64 N) ∧ v.cell? ⟨F, 2, none⟩ = some (.int .u64 T))) := Lib.hid fun wB eB cB =>
              (ruse_u E most g2 tk us N (by omega) (by omega) hn wB (by unfold RSp RGv at *; rw [eB]; exact i4)).mono fun e v h => ⟨h, (cell_grown h.2.2 (by omega) cB.1), (cell_grown h.2.2 (by omega) cB.2)⟩
            have hA := addR_bounds 1 tk us most N (by omega) (by omega)
            have i5' := Lib.hid i5
            have hA' := Lib.hid hA
            clear i5 hA
            go_region_held3 (fun w' => w'.cell? ⟨F, 1, none⟩ = some (.int .i64 N) ∧ w'.cell? ⟨F, 2, none⟩ = some (.int .u64 T)) (first | go_keep | exact ⟨d1, d2⟩ | exact ⟨d3, d4⟩) (first
              | (go_at_call 21; refine (A1.out _ ?_).mono ?_; rfl; rintro e v1 ⟨⟨rfl, j1, hg⟩, d1, d2, j2⟩)
              | (go_at_call 22; refine (A2.out _ ?_ ?_).mono ?_; exact j2; exact ⟨d1, d2⟩; rintro e v2 ⟨⟨rfl, k2, hg2⟩, d3, d4⟩))
            go_wp2_with fail
            go_meet
            exact ⟨rfl, inv_g hB1 hBC hCD hDE i1 i2 i6 hg j1 hg2 k2 ⟨rfl, fun _ _ h => ⟨h.os, h.tape, h.output, h.size, h.block⟩⟩ ⟨rfl, fun _ _ h => ⟨h.os, h.tape, h.output, h.size, h.block⟩⟩ (by have := i5'.out; have := hA'.out; omega)⟩
          by_cases hX6 : X = 6
          · subst hX6
            go_wp2_with fail
            have A1 : Hid (∀ wA : World, wA.heap = w5.heap → Calls Try.prog 21 #[.pointer (some ⟨C, 0, none⟩), .int .i64 N] wA (fun e v => UPost wA C (fun u' V => Gv V C most g2 tk u') (addR 1 tk us N) e v ∧ v.cell? ⟨F, 1, none⟩ = some (.int .i64 N) ∧ v.cell? ⟨F, 2, none⟩ = some (.int .u64 T) ∧ v.heap[E]? = w5.heap[E]?)) := Lib.hid fun wA eA =>
              (use_u C most g2 tk us N (by omega) (by omega) (by omega) hn wA (by unfold Sp Gv at *; rw [eA]; exact i3)).mono fun e v h => ⟨h, (three_cell (keep2 h.2.2 hF eA (by omega))).2.1, (three_cell (keep2 h.2.2 hF eA (by omega))).2.2.1, (keep2 h.2.2 i4 eA (by omega)).trans i4.symm⟩
            have A2 : Hid (∀ wB : World, wB.heap[E]? = w5.heap[E]? → wB.cell? ⟨F, 1, none⟩ = some (.int .i64 N) ∧ wB.cell? ⟨F, 2, none⟩ = some (.int .u64 T) → Calls Try.prog 22 #[.pointer (some ⟨E, 0, none⟩), .int .i64 N] wB (fun e v => UPost wB E (fun u' V => RGv V E most g2 tk u') (addR 1 tk us N) e v ∧ v.cell? ⟨F, 1, none⟩ = some (.int .i64 N) ∧ v.cell? ⟨F, 2, none⟩ = some (.int .u64 T))) := Lib.hid fun wB eB cB =>
              (ruse_u E most g2 tk us N (by omega) (by omega) hn wB (by unfold RSp RGv at *; rw [eB]; exact i4)).mono fun e v h => ⟨h, (cell_grown h.2.2 (by omega) cB.1), (cell_grown h.2.2 (by omega) cB.2)⟩
            have hA := addR_bounds 1 tk us most N (by omega) (by omega)
            have i5' := Lib.hid i5
            have hA' := Lib.hid hA
            clear i5 hA
            go_region_held3 (fun w' => w'.cell? ⟨F, 1, none⟩ = some (.int .i64 N) ∧ w'.cell? ⟨F, 2, none⟩ = some (.int .u64 T)) (first | go_keep | exact ⟨d1, d2⟩ | exact ⟨d3, d4⟩) (first
              | (go_at_call 21; refine (A1.out _ ?_).mono ?_; rfl; rintro e v1 ⟨⟨rfl, j1, hg⟩, d1, d2, j2⟩)
              | (go_at_call 22; refine (A2.out _ ?_ ?_).mono ?_; exact j2; exact ⟨d1, d2⟩; rintro e v2 ⟨⟨rfl, k2, hg2⟩, d3, d4⟩))
            go_wp2_with fail
            go_meet
            exact ⟨rfl, inv_g hB1 hBC hCD hDE i1 i2 i6 hg j1 hg2 k2 ⟨rfl, fun _ _ h => ⟨h.os, h.tape, h.output, h.size, h.block⟩⟩ ⟨rfl, fun _ _ h => ⟨h.os, h.tape, h.output, h.size, h.block⟩⟩ (by have := i5'.out; have := hA'.out; omega)⟩
          by_cases hX7 : X = 7
          · subst hX7
            go_wp2_with fail
            by_cases hdue : us + most - g2 < max (most / 2) 1
            · have er : grantR most g2 us = ((0, false), g2) := if_pos hdue
              refine (grant_u C most g2 tk us (by omega) (by omega) (by omega) (by omega) _ i3).mono ?_
              rintro e v1 ⟨rfl, j1, hg⟩
              rw [er] at j1 ⊢
              have j4 := keep2 hg i4 rfl (by omega)
              go_wp2_with fail
              refine (rgrant_u E most g2 tk us (by omega) (by omega) (by omega) (by omega) _ j4).mono ?_
              rintro e v2 ⟨rfl, k2, hg2⟩
              rw [er] at k2 ⊢
              have hb9 : us + most ≤ 1000000000 := by omega
              have i5' := Lib.hid i5
              clear i5 er
              go_wp2_with fail
              go_meet
              exact ⟨rfl, inv_g hB1 hBC hCD hDE i1 i2 i6 hg j1 hg2 k2 ⟨rfl, fun _ _ h => ⟨h.os, h.tape, h.output, h.size, h.block⟩⟩ ⟨rfl, fun _ _ h => ⟨h.os, h.tape, h.output, h.size, h.block⟩⟩ (by have := i5'.out; omega)⟩
            · have er : grantR most g2 us = ((us + most, true), us + most) := if_neg hdue
              refine (grant_u C most g2 tk us (by omega) (by omega) (by omega) (by omega) _ i3).mono ?_
              rintro e v1 ⟨rfl, j1, hg⟩
              rw [er] at j1 ⊢
              have j4 := keep2 hg i4 rfl (by omega)
              go_wp2_with fail
              refine (rgrant_u E most g2 tk us (by omega) (by omega) (by omega) (by omega) _ j4).mono ?_
              rintro e v2 ⟨rfl, k2, hg2⟩
              rw [er] at k2 ⊢
              have hb9 : us + most ≤ 1000000000 := by omega
              have i5' := Lib.hid i5
              clear i5 er
              go_wp2_with fail
              go_meet
              exact ⟨rfl, inv_g hB1 hBC hCD hDE i1 i2 i6 hg j1 hg2 k2 ⟨rfl, fun _ _ h => ⟨h.os, h.tape, h.output, h.size, h.block⟩⟩ ⟨rfl, fun _ _ h => ⟨h.os, h.tape, h.output, h.size, h.block⟩⟩ (by have := i5'.out; omega)⟩
          have x0 : (X == 0) = false := by rw [beq_eq_false_iff_ne]; exact hX0
          have x1 : (X == 1) = false := by rw [beq_eq_false_iff_ne]; exact hX1
          have x2 : (X == 2) = false := by rw [beq_eq_false_iff_ne]; exact hX2
          have x3 : (X == 3) = false := by rw [beq_eq_false_iff_ne]; exact hX3
          have x4 : (X == 4) = false := by rw [beq_eq_false_iff_ne]; exact hX4
          have x5 : (X == 5) = false := by rw [beq_eq_false_iff_ne]; exact hX5
          have x6 : (X == 6) = false := by rw [beq_eq_false_iff_ne]; exact hX6
          have x7 : (X == 7) = false := by rw [beq_eq_false_iff_ne]; exact hX7
          clear hX0 hX1 hX2 hX3 hX4 hX5 hX6 hX7
          go_wp2_with fail
          go_meet
          exact ⟨rfl, g, s, g2, tk, us, i1, i2, i3, i4, by omega, i6⟩
        case rest =>
          obtain ⟨rfl, hI6⟩ := hcut
          obtain ⟨g, s, g2, tk, us, i1, i2, i3, i4, i5, i6⟩ := hI6
          clear hI5 hF hFn c0 c1 c2 f0 f1 f2 hE
          obtain ⟨rc0, rc1, rc2, _, _, _⟩ := three_cell i2
          obtain ⟨qc0, qc1, qc2, qc3, _, _, _, _⟩ := four_cell i4
          have A1 : Hid (∀ n, Calls Try.prog 25 #[.pointer (some ⟨B, 0, none⟩)] (wc.drewN n) (QuietU (wc.drewN n) (.int .i64 ((g : Int) - s)))) := Lib.hid fun n => left_any B most g s (by omega) (by omega) (by omega) _ i1
          have A2 : Hid (∀ n, Calls Try.prog 26 #[.pointer (some ⟨C, 0, none⟩)] (wc.drewN n) (QuietU (wc.drewN n) (.int .i64 ((tk : Int) - us)))) := Lib.hid fun n => held_any C most g2 tk us (by omega) (by omega) (by omega) _ i3
          have z1 : IntKind.i64.wrap ((g : Int) - s) = (g : Int) - s := IntWalk.i64_in _ (by omega)
          have z2 : IntKind.i64.wrap ((tk : Int) - us) = (tk : Int) - us := IntWalk.i64_in _ (by omega)
          go_wp2_with fail
          go_quiet ((first | (go_at_call 25; exact quiet_u (A1.out _)) | (go_at_call 26; exact quiet_u (A2.out _))))
          clear z1 z2
          go_wp2_with fail
          exact ⟨⟨k + 1, by omega, by omega, by go_num, g, s, g2, tk, us, i1, i2, i3, i4, i5, below_drewN i6 _⟩, by simp [intOf]; omega⟩
    · go_wp2_with fail
      refine (wakes9 _).mono ?_
      rintro e x1 ⟨rfl, hx⟩
      obtain ⟨g, s, g2, tk, us, i1, i2, i3, i4, i5, i6⟩ := hI
      have hx1 := below_then i6 (Nat.le_refl _) hx
      clear hx
      go_wp2_with fail
      go_ret
      exact ⟨rfl, hx1⟩
set_option maxRecDepth 100000 in
theorem plays_bad (n : Int) (hn : n < 1 ∨ 8192 < n) (q : Option Addr) (len cap : Nat) (w : World) : Calls Try.prog 3 #[.int .i64 n, .slice q len cap] w (TruePost w) := by
  have H := Lib.hid hn; clear hn
  go_enter Try.func3, Try.ntmps3
  go_wp2_with fail
  refine (news_bad n H.out _).mono ?_
  rintro e w1 ⟨rfl, hb1⟩
  go_wp2_with fail
  refine (newg_bad n H.out _).mono ?_
  rintro e w2 ⟨rfl, hb2⟩
  replace hb1 := below_then hb1 (Nat.le_refl _) hb2
  clear hb2
  go_wp2_with (go_at_call 13; refine (may_no _ H.out _).mono ?_; rintro e w' ⟨rfl, rfl⟩)
  refine (wakes9 _).mono ?_
  rintro e x1 ⟨rfl, hx⟩
  have hx1 := below_then hb1 (Nat.le_refl _) hx
  clear hx
  go_wp2_with fail
  go_ret
  exact ⟨rfl, hx1⟩
end Go.Proofs.Ytbmhgdfkkiepaaa
