/-
  CreditBounded: the walk.
-/
import Derived.Test.YtbmhgdfkkiepaaaBnd6
import Derived.Test.YtbmhgdfkkiepaaaTail
namespace Go.Proofs.Ytbmhgdfkkiepaaa
open Go.RowKit

/-- Behind at most k acts. -/
def Phase (w : World) (X B C most k : Nat) (W : World) : Prop := ∃ x vw vg, Ends w X B C most x x.s x.us vw vg W ∧ Good most k x
theorem Phase.more {w : World} {X B C most k k' : Nat} {W : World} (h : Phase w X B C most k W) (hk : k ≤ k') : Phase w X B C most k' W := by
  obtain ⟨x, vw, vg, h1, h2⟩ := h; exact ⟨x, vw, vg, h1, h2.more hk⟩
theorem Round.mk {w : World} {X B C most k : Nat} {W : World} (hm : 1 ≤ most) (hm2 : most ≤ 256) (hk : k ≤ 200) (h : Phase w X B C most k W) : ∃ (x : Two) (vw vg : Value) (D l d : Nat), Ends w X B C most x x.s x.us vw vg W ∧
    W.cell? ⟨X, 4, none⟩ = some (.int .i64 x.s) ∧ W.cell? ⟨X, 5, none⟩ = some (.int .i64 x.us) ∧ IntKind.i64.wrap ((x.s : Int) - x.us) = (D : Int) ∧ decide (most < D) = false ∧ decide (most < l) = false ∧ decide (most < d) = false ∧ decide ((l : Int) < 0) = false ∧
    Hid (∀ W, Ends w X B C most x x.s x.us vw vg W → Calls Try.prog 25 #[.pointer (some ⟨B, 0, none⟩)] W (QuietU W (.int .i64 l))) ∧
    Hid (∀ W, Ends w X B C most x x.s x.us vw vg W → Calls Try.prog 26 #[.pointer (some ⟨C, 0, none⟩)] W (QuietU W (.int .i64 d))) ∧ Hid (Good most k x) := by
  obtain ⟨x, vw, vg, h1, h2⟩ := h
  obtain ⟨b1, b2, b3, b4, b5⟩ := h2.bounds
  have b6 := h2.sg
  have b7 := h2.ut
  have b8 := h2.sl
  have b9 := h2.gu
  have b10 := h2.st
  obtain ⟨c0, c1, c2, c3, c4, c5, _⟩ := six_cell h1.xs
  refine ⟨x, vw, vg, x.s - x.us, x.g - x.s, x.tk - x.us, h1, c4, c5, ?_, by simp; omega, by simp; omega, by simp; omega, by simp, Lib.hid fun W E => ?_, Lib.hid fun W E => ?_, Lib.hid h2⟩
  · rw [IntWalk.i64_in _ (by omega)]; omega
  · refine (left_any B most x.g x.s (by omega) (by omega) (by omega) W E.fs).mono ?_
    rintro e W' ⟨he, hE⟩
    exact ⟨he.trans (ret_int (by omega)), hE⟩
  · refine (held_any C most x.g2 x.tk x.us (by omega) (by omega) (by omega) W E.fg).mono ?_
    rintro e W' ⟨he, hE⟩
    exact ⟨he.trans (ret_int (by omega)), hE⟩
theorem OffRow.len {w : World} {base : Nat} {e : TypeId} {q : Option Addr} {n c : Nat} {l : List Nat} (h : OffRow w base e (.slice q n c) (ints l)) : n = l.length := by
  rcases h with ⟨h, h2⟩ | ⟨g', o', cap, cur, e1, _⟩
  · cases h; have := congrArg List.length h2; simp at this; rw [this]; rfl
  · injection e1 with _ h2 _; rw [h2, List.length_map]
/-- How many are on their way. -/
def wayLen (X : Nat) (W : World) : Nat := match W.cell? ⟨X, 2, none⟩ with
  | some (.slice _ n _) => n
  | _ => 0
theorem Ends.wayLen {w0 : World} {X B C most : Nat} {x : Two} {sp ud : Nat} {vw vg : Value} {W : World} (h : Ends w0 X B C most x sp ud vw vg W) : wayLen X W = x.way.length := by
  obtain ⟨q, L, c, rfl⟩ := h.way.form'
  unfold Proofs.Ytbmhgdfkkiepaaa.wayLen
  rw [(six_cell h.xs).2.2.1]
  exact h.way.len
/-- So many times 255 were used. -/
def UsedRel (w : World) (X B C most j : Nat) (W : World) : Prop := ∃ x vw vg, Ends w X B C most x x.s x.us vw vg W ∧ Good most 120 x ∧ x.way = [] ∧ x.tk - x.us ≤ 256 - 255 * j
/-- The first j grants are told. -/
def ToldRel (w : World) (X B C most : Nat) (vg : Value) (G : List Nat) (j : Nat) (W : World) : Prop := ∃ x vw, Ends w X B C most x x.s x.us vw vg W ∧ Good most 121 x ∧ x.s = x.us ∧ x.us + most - x.g2 < max (most / 2) 1 ∧ x.grants = G ∧ ∀ i t, i < j → G[i]? = some t → t ≤ x.g
/-- Element i of the acts. -/
def ActAt (W : World) (b o i : Nat) (x n : Nat) : Prop := W.cell? ⟨b, o + i * 2, none⟩ = some (.int .u8 x) ∧ W.cell? ⟨b, o + i * 2 + 1, none⟩ = some (.int .u8 n)

set_option maxRecDepth 100000 in
set_option maxHeartbeats 8000000 in
theorem bounded_walk (limit : Nat) (hlim : limit ≤ 255) (q : Option Addr) (len cap : Nat) (hlen : len ≤ 9223372036854775807) (w : World) (a n : Nat → Nat)
    (hx : ∀ i, i < len → ∃ b o, q = some ⟨b, o, none⟩ ∧ b < w.heap.size ∧ ActAt w b o i (a i) (n i)) (ha : ∀ i, i < len → a i ≤ 255) (hn : ∀ i, i < len → n i ≤ 255) :
    Calls Try.prog 4 #[.int .u8 limit, .slice q len cap] w (TruePost w) := by
  have Hx := Lib.hid hx; have Hn := Lib.hid hn; have Ha := Lib.hid ha
  clear hx hn ha
  obtain ⟨most, hmost⟩ : ∃ most, most = 1 + limit := ⟨_, rfl⟩
  have hm1 : 1 ≤ most := by omega
  have hm2 : most ≤ 256 := by omega
  have N1 : Hid (∀ w, Calls Try.prog 11 #[.int .i64 (1 + (limit : Int))] w (NewSPost w most)) := Lib.hid fun w => by
    have := news_good most hm1 (by omega) w
    rwa [hmost, show ((1 + limit : Nat) : Int) = 1 + (limit : Int) by omega, ← hmost] at this
  have N2 : Hid (∀ w, Calls Try.prog 12 #[.int .i64 (1 + (limit : Int))] w (NewGPost w most)) := Lib.hid fun w => by
    have := newg_good most hm1 (by omega) w
    rwa [hmost, show ((1 + limit : Nat) : Int) = 1 + (limit : Int) by omega, ← hmost] at this
  go_enter Try.func4, Try.ntmps4
  go_wp2_with fail
  refine (N1.out _).mono ?_
  rintro e w1 ⟨B, hB1, rfl, hS, hb1⟩
  go_wp2_with fail
  refine (N2.out _).mono ?_
  rintro e w2 ⟨C, hC1, rfl, hG, hb2⟩
  have hBC : B < C := by have := block_lt hS; omega
  have hCn : w.heap.size ≤ C := Nat.le_trans hb1.size hC1
  replace hS : Sp w2 B most most 0 := below_block hS hb2
  replace hb1 := below_then hb1 (Nat.le_refl _) hb2
  clear hb2 hC1
  have hE : Ends w w2.heap.size B C most ⟨most, 0, most, 0, 0, [], []⟩ 0 0 (.slice none 0 0) (.slice none 0 0) (w2.alloc (.cells #[.pointer (some ⟨B, 0, none⟩), .pointer (some ⟨C, 0, none⟩), .slice none 0 0, .slice none 0 0, .int .i64 0, .int .i64 0] 55)) :=
    ⟨alloc_old _ hS, alloc_old _ hG, alloc_new _ _, .inl ⟨rfl, rfl⟩, .inl ⟨rfl, rfl⟩, fun k hk => by simp [Value.ownBlock] at hk, hB1, hCn, hb1.size, hb1.alloc hb1.size _⟩
  have e1 : 1 + (limit : Int) = (most : Int) := by omega
  have HE := Lib.hid hE
  clear hE hS hG hb1 hmost N1 N2 hBC
  rw [e1]
  clear e1 hlim
  obtain ⟨X, hX⟩ : ∃ X, X = w2.heap.size := ⟨_, rfl⟩
  go_upto_block 0 with fail
  have hP : Phase w X B C most 0 (w2.alloc (.cells #[.pointer (some ⟨B, 0, none⟩), .pointer (some ⟨C, 0, none⟩), .slice none 0 0, .slice none 0 0, .int .i64 0, .int .i64 0] 55)) := by
    rw [hX]; exact ⟨_, _, _, HE.out, Good.start most⟩
  generalize w2.alloc (.cells #[.pointer (some ⟨B, 0, none⟩), .pointer (some ⟨C, 0, none⟩), .slice none 0 0, .slice none 0 0, .int .i64 0, .int .i64 0] 55) = w3 at hP ⊢
  rw [← hX]
  clear HE hX
  go_cut [41] (fun _ wx => Phase w X B C most 120 wx)
  case first =>
    go_wp2_with fail
    go_loopw [41] (fun i wr => ∃ k : Nat, k ≤ len ∧ k ≤ 120 ∧ i = .int .i64 k ∧ Phase w X B C most k wr) (fun i _ => len - (intOf i).toNat)
    case atStart => exact ⟨0, by omega, by omega, rfl, hP⟩
    case round =>
      clear hP
      obtain ⟨k, hk, hk120, rfl, hP⟩ := hrel
      by_cases hlt : k < len
      · obtain ⟨b, o, rfl, hbw, hc0, hc1⟩ := Hx.out k hlt
        have hn := Hn.out k hlt
        have ha := Ha.out k hlt
        generalize a k = A at hc0 ha
        generalize n k = N at hc1 hn
        have HB : Below w.heap.size w wr := by obtain ⟨_, _, _, h, _⟩ := hP; exact h.bel
        have hc0' := (HB.cell (p := ⟨b, o + k * 2, none⟩) hbw).trans hc0
        have hc1' := (HB.cell (p := ⟨b, o + k * 2 + 1, none⟩) hbw).trans hc1
        have HP := Lib.hid hP
        clear hP hc0 hc1
        by_cases h120 : k = 120
        · subst h120
          go_wp2_with fail
          go_meet
          obtain ⟨x, vw, vg, h1, h2⟩ := HP.out
          exact ⟨x, vw, vg, h1.alloc _, h2⟩
        · have h120' : ((k : Int) == 120) = false := by rw [beq_eq_false_iff_ne]; omega
          go_upto_region 11 with fail
          have hP5 : Phase w X B C most k (wr.alloc (.cells #[.int .u8 A, .int .u8 N] 57)) := by
            obtain ⟨x, vw, vg, h1, h2⟩ := HP.out
            exact ⟨x, vw, vg, h1.alloc _, h2⟩
          have hF : (wr.alloc (.cells #[.int .u8 A, .int .u8 N] 57)).heap[wr.heap.size]? = some (.cells #[.int .u8 A, .int .u8 N] 57 (0, 0)) := alloc_new _ _
          clear hc0' hc1' HB HP
          generalize wr.alloc (.cells #[.int .u8 A, .int .u8 N] 57) = w5 at hP5 hF ⊢
          generalize wr.heap.size = F at hF ⊢
          have c0 : w5.cell? ⟨F, 0, none⟩ = some (.int .u8 A) := by simp [World.cell?, hF]
          have c1 : w5.cell? ⟨F, 1, none⟩ = some (.int .u8 N) := by simp [World.cell?, hF]
          have D1 : Hid (Calls Try.prog 27 #[.pointer (some ⟨X, 0, none⟩), .agg #[.int .u8 A, .int .u8 N]] w5.drew (fun e W => e = .returned (.bool true) ∧ Phase w X B C most (k + 1) W)) := Lib.hid (by
            obtain ⟨x, vw, vg, h1, h2⟩ := hP5
            exact (does_any w X B C most k A N x vw vg _ hm1 hm2 (by omega) ha hn h2 h1.drew).mono fun e W h => ⟨h.1, h.2⟩)
          clear hP5 hF
          refine wp_region_any (by kernel_rfl) ?_
          change wpAny _ _ _ _ _ _ _ (World.drew _)
          refine wpAny_take (i := 0) (v := .pointer (some ⟨X, 0, none⟩)) rfl (by kernel_rfl) (by kernel_rfl) (by kernel_rfl) (fun _ _ _ h => h) (Or.inl ⟨by rfl, fun _ => by rfl⟩) ?_
          refine wpAny_ready (rs := [1]) (by kernel_rfl) (by simp) ?_
          refine AllReady.cons rfl (fun K hK => ?_) AllReady.nil
          go_simp
          refine hK _ _ ?_
          clear hK K
          refine wpAny_ready (rs := [2]) (by kernel_rfl) (by simp) ?_
          refine AllReady.cons rfl (fun K hK => ?_) AllReady.nil
          go_simp
          refine D1.out.mono ?_
          rintro e v1 ⟨rfl, hp1⟩
          dsimp only
          refine hK _ _ ?_
          clear hK K D1
          obtain ⟨x, vw, vg, D, l, d, HE, c4, c5, z1, z2, z3, z4, z5, A2, A3, HG⟩ := Round.mk hm1 hm2 (by omega) hp1
          clear hp1
          have HE' := Lib.hid HE
          clear HE
          refine wpAny_tail3 (by rfl) (by kernel_rfl) (by kernel_rfl) ?_
          repeat (go_big_quiet_step ((first | (go_at_call 25; exact quiet_u (A2.out _ (HE'.out.drewN _))) | (go_at_call 26; exact quiet_u (A3.out _ (HE'.out.drewN _))))))
          refine wpQuiet_nil ?_
          rintro _ ⟨nq, rfl⟩
          clear z1 z2 z3 z4 z5
          go_wp2_with fail
          exact ⟨⟨k + 1, by omega, by omega, by go_num, x, vw, vg, HE'.out.drewN _, HG.out⟩, by simp [intOf]; omega⟩
      · go_wp2_with fail
        go_meet
        exact hP.more (by omega)
  case rest =>
    clear hP
    obtain ⟨x, vw, vg, h1, g1⟩ := hcut
    go_wp2_with fail
    go_loopw [83] (fun _ wr => Phase w X B C most 120 wr) (fun _ wr => wayLen X wr)
    case atStart => exact ⟨x, vw, vg, h1, g1⟩
    case round =>
      clear h1 g1
      obtain ⟨x, vw, vg, h1, g1⟩ := hrel
      obtain ⟨q1, L, cp, e1⟩ := h1.way.form'
      subst e1
      have hL : L = x.way.length := h1.way.len
      have hm0 := h1.wayLen
      obtain ⟨c0, c1, c2, c3, c4, c5, _⟩ := six_cell h1.xs
      have D1 : Hid (∀ W, Ends w X B C most x x.s x.us (.slice q1 L cp) vg W → Calls Try.prog 27 #[.pointer (some ⟨X, 0, none⟩), .agg #[.int .u8 3, .int .u8 4]] W (DrainPost w X B C most 120 x.way.length)) := Lib.hid fun W E => drain_any w X B C most 120 x _ vg W hm1 hm2 (by omega) g1 E
      have H1 := Lib.hid h1
      have HL := Lib.hid hL
      have Hm0 := Lib.hid hm0
      clear h1 hL hm0
      by_cases hp : 0 < L
      · go_wp2_with (go_at_call 27; refine (D1.out _ H1.out).mono ?_; rintro e v1 ⟨rfl, hp1⟩)
        obtain ⟨x2, vw2, vg2, h2, g2, l2⟩ := hp1
        have hm2 := h2.wayLen
        exact ⟨⟨x2, vw2, vg2, h2, g2⟩, by rw [hm2, l2, Hm0.out, ← HL.out]; omega⟩
      · have hw0 : x.way = [] := List.eq_nil_of_length_eq_zero (by have := HL.out; omega)
        have hE0 : UsedRel w X B C most 0 wr := ⟨x, _, _, H1.out, g1, hw0, by have := g1.bounds; omega⟩
        clear D1 HL Hm0 hw0 H1 g1 c0 c1 c3 c4 c5
        go_wp2_with fail
        clear c2
        go_loopw [13] (fun i wr => ∃ j : Nat, j ≤ 2 ∧ i = .int .i64 j ∧ UsedRel w X B C most j wr) (fun i _ => 3 - (intOf i).toNat)
        case atStart => exact ⟨0, by omega, rfl, hE0⟩
        case round =>
          clear hE0
          obtain ⟨j, hj, rfl, x, vw, vg, h1, g1, w1, u1⟩ := hrel
          obtain ⟨d, hd⟩ : ∃ d, d = x.tk - x.us := ⟨_, rfl⟩
          have D1 : Hid (∀ W, Ends w X B C most x x.s x.us vw vg W → Calls Try.prog 27 #[.pointer (some ⟨X, 0, none⟩), .agg #[.int .u8 5, .int .u8 255]] W (UsedPost w X B C most 120 d)) := Lib.hid fun W E => by rw [hd]; exact used_any w X B C most 120 x _ _ W hm1 hm2 (by omega) g1 E w1
          have A3 : Hid (∀ W, Ends w X B C most x x.s x.us vw vg W → Calls Try.prog 26 #[.pointer (some ⟨C, 0, none⟩)] W (QuietU W (.int .i64 d))) := Lib.hid fun W E => by
            have b1 := g1.ut; have b2 := g1.st; have b3 := g1.sl
            exact (held_any C most x.g2 x.tk x.us (by omega) (by omega) (by omega) W E.fg).mono fun e W' h => ⟨h.1.trans (ret_int (by omega)), h.2⟩
          have H1 := Lib.hid h1
          rw [← hd] at u1
          have Hd := Lib.hid hd
          clear h1 hd
          by_cases hp : 0 < d
          · have h9 : ((j : Int) == 9) = false := by rw [beq_eq_false_iff_ne]; omega
            go_wp2_with fail
            refine (A3.out _ H1.out).mono ?_
            rintro e v1 ⟨rfl, n1, rfl⟩
            go_wp2_with fail
            refine (D1.out _ (H1.out.drewN _)).mono ?_
            rintro e v2 ⟨rfl, x2, vw2, vg2, h2, g2, w2, u2⟩
            go_wp2_with fail
            exact ⟨⟨j + 1, by omega, by go_num, x2, vw2, vg2, h2, g2, w2, by omega⟩, by simp [intOf]; omega⟩
          · have u0 : d = 0 := by omega
            have L1 : Hid (∀ W, Ends w X B C most x x.s x.us vw vg W → Calls Try.prog 27 #[.pointer (some ⟨X, 0, none⟩), .agg #[.int .u8 7, .int .u8 0]] W (LastPost w X B C most 121)) := Lib.hid fun W E => last_any w X B C most 120 x _ _ W hm1 hm2 (by omega) g1 E w1 (by rw [← Hd.out]; exact u0)
            subst u0
            clear D1 Hd u1 hp
            go_wp2_with fail
            refine (A3.out _ H1.out).mono ?_
            rintro e v1 ⟨rfl, n1, rfl⟩
            go_wp2_with fail
            refine (L1.out _ (H1.out.drewN _)).mono ?_
            rintro e v2 ⟨rfl, x2, vw2, vg2, h2, g2, s2, d2⟩
            clear H1 A3 L1 g1 w1
            obtain ⟨q1, L, cp, e1⟩ := h2.gr.form'
            subst e1
            obtain ⟨c0, c1, c2, c3, c4, c5, _⟩ := six_cell h2.xs
            have hL : L = x2.grants.length := h2.gr.len
            have hgl := g2.gl
            rw [← hL] at hgl
            have HL := Lib.hid hL
            obtain ⟨G, hG⟩ : ∃ G, G = x2.grants := ⟨_, rfl⟩
            have hR0 : ToldRel w X B C most (.slice q1 L cp) G 0 v2 := ⟨x2, vw2, h2, g2, s2, d2, hG.symm, fun i t hi => absurd hi (by omega)⟩
            rw [← hG] at HL
            clear hG h2 g2 s2 d2 hL
            go_wp2_with fail
            go_loopw [114] (fun i wr => ∃ j : Nat, j ≤ L ∧ i = .int .i64 j ∧ ToldRel w X B C most (.slice q1 L cp) G j wr) (fun i _ => L - (intOf i).toNat)
            case atStart => exact ⟨0, by omega, rfl, hR0⟩
            case round =>
              clear hR0 c0 c1 c2 c3 c4 c5
              obtain ⟨j, hj, rfl, y, vw, h1, g1, s1, d1, eG, ht⟩ := hrel
              have hgl2 := HL.out
              by_cases hlt : j < L
              · have hjl : j < (ints y.grants).length := by rw [List.length_map, eG]; omega
                obtain ⟨b, o, c', e1, hc⟩ := h1.gr.at_ hjl
                injection e1 with e1 e2 e3
                subst e1
                clear e2 e3
                have hjy : j < y.grants.length := by rw [eG]; omega
                obtain ⟨t, et⟩ : ∃ t, y.grants[j]? = some t := ⟨_, List.getElem?_eq_getElem hjy⟩
                have ev : (ints y.grants)[j] = .int .i64 t := by
                  have := (List.getElem?_eq_some_iff.1 et).2
                  simp [this]
                rw [ev] at hc
                obtain ⟨ht1, ht2⟩ := g1.granted (List.mem_of_getElem? et)
                have hb1 := g1.bounds
                have hb2 := g1.sl
                have A1 : Hid (Calls Try.prog 17 #[.pointer (some ⟨B, 0, none⟩), .int .u64 t] wr (fun e W' => e = .returned (.int .i64 0) ∧ ToldRel w X B C most (.slice (some ⟨b, o, none⟩) L cp) G (j + 1) W')) := Lib.hid (by
                  refine (granted_ok B most y.g y.s (by omega) (by omega) (by omega) (by omega) t (by omega) ht1 wr h1.fs).mono ?_
                  rintro e W' ⟨he, hg, hgr⟩
                  refine ⟨he, { y with g := max y.g t }, _, h1.spU hgr hg, ht2, s1, d1, eG, fun i u hi hu => ?_⟩
                  by_cases hij : i = j
                  · subst hij
                    rw [← eG, et] at hu
                    cases hu
                    exact Nat.le_max_right _ _
                  · exact Nat.le_trans (ht i u (by omega) hu) (Nat.le_max_left _ _))
                have ht4 : t ≤ 1000000 := by omega
                clear h1 g1 ht ht1 ht2 hb1 hb2 et ev hjl hjy eG s1 d1 hgl2
                go_wp2_with fail
                refine A1.out.mono ?_
                rintro e v3 ⟨rfl, hT⟩
                clear hc
                go_wp2_with fail
                exact ⟨⟨j + 1, by omega, by go_num, hT⟩, by simp [intOf]; omega⟩
              · obtain ⟨e1, e2, e3⟩ := end_any hm1 g1 s1 d1 (fun t h => by
                  obtain ⟨i, hi, rfl⟩ := List.getElem_of_mem h
                  rw [eG] at hi
                  exact ht i _ (by omega) (by rw [← eG]; exact List.getElem?_eq_getElem (by rw [eG]; exact hi)))
                obtain ⟨l, hl⟩ : ∃ l, l = y.g - y.s := ⟨_, rfl⟩
                obtain ⟨h, hh⟩ : ∃ h, h = most / 2 := ⟨_, rfl⟩
                have hb1 := g1.bounds
                have hb2 := g1.sl
                obtain ⟨c0, c1, c2, c3, c4, c5, _⟩ := six_cell h1.xs
                have z0 : ((y.s : Int) == (y.us : Int)) = true := by rw [s1]; simp
                have z1 : IntKind.i64.wrap ((most : Int) / 2) = (h : Int) := by rw [IntWalk.i64_in _ (by omega)]; omega
                have z2 : IntKind.i64.wrap ((h : Int) - 1) = (h : Int) - 1 := IntWalk.i64_in _ (by omega)
                have z3 : (h : Int) - 1 < (l : Int) := by omega
                have z3' : decide ((h : Int) - 1 < (l : Int)) = true := by simpa using z3
                have z4 : (1 : Int) ≤ (l : Int) := by omega
                have z4' : decide ((1 : Int) ≤ (l : Int)) = true := by simpa using z4
                have A2 : Hid (∀ W, Ends w X B C most y y.s y.us vw (.slice q1 L cp) W → Calls Try.prog 25 #[.pointer (some ⟨B, 0, none⟩)] W (fun e W' => e = .returned (.int .i64 l) ∧ Ends w X B C most y y.s y.us vw (.slice q1 L cp) W')) := Lib.hid fun W E => by
                  refine (left_any B most y.g y.s (by omega) (by omega) (by omega) W E.fs).mono ?_
                  rintro e W' hq
                  obtain ⟨he, hE⟩ := E.quiet hq
                  exact ⟨he.trans (ret_int (by omega)), hE⟩
                have A3 : Hid (∀ W, Ends w X B C most y y.s y.us vw (.slice q1 L cp) W → Calls Try.prog 14 #[] W (fun e W' => e = .returned (.bool true) ∧ Ends w X B C most y y.s y.us vw (.slice q1 L cp) W')) := Lib.hid fun W E =>
                  (wakes9 W).mono fun e W' h => ⟨h.1, E.same h.2⟩
                have H1 := Lib.hid h1
                clear h1 g1 s1 d1 eG ht hgl2 e1 e2 e3 hb1 hb2 hl hh c0 c1 c2 c3
                go_upto_region 29 with fail
                go_region_held3 (fun w' => w'.cell? ⟨X, 4, none⟩ = some (.int .i64 y.s) ∧ w'.cell? ⟨X, 5, none⟩ = some (.int .i64 y.us)) (first | exact ⟨f4, f5⟩ | exact ⟨m4, m5⟩ | exact ⟨k4, k5⟩ | go_keep) (first
                  | (go_at_call 14; refine (A3.out _ J2).mono ?_; rintro e v3 ⟨rfl, J3⟩; have f4 := (six_cell J3.xs).2.2.2.2.1; have f5 := (six_cell J3.xs).2.2.2.2.2.1)
                  | (go_at_call 25; refine (A2.out _ J1).mono ?_; rintro e v2 ⟨rfl, J2⟩; have m4 := (six_cell J2.xs).2.2.2.2.1; have m5 := (six_cell J2.xs).2.2.2.2.2.1)
                  | (go_at_call 25; refine (A2.out _ H1.out.drew).mono ?_; rintro e v1 ⟨rfl, J1⟩; have k4 := (six_cell J1.xs).2.2.2.2.1; have k5 := (six_cell J1.xs).2.2.2.2.2.1))
                clear z0 z1 z2 z3 z3' z4 z4'
                go_wp2_with fail
                go_ret
                exact ⟨rfl, J3.bel⟩
end Go.Proofs.Ytbmhgdfkkiepaaa
