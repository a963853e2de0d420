/-
  NetNothing: the walk.
-/
import Derived.Test.YtbmhgdfkkiepaaaNothT
import Derived.Test.YtbmhgdfkkiepaaaTail
import Derived.Test.YtbmhgdfkkiepaaaInRound
import Derived.StillTailTactics
namespace Go.Proofs.Ytbmhgdfkkiepaaa
open Go.RowKit Go.Shelf
attribute [local go_sem] Oper.semAt_some wide_fn_eq wide_depth

theorem wpAny_tail0 {P : Program} {l : List Oper} {Q : Exit → Act → World → Prop} {fuel : Nat} {listed : Array Bool} {a : Act} {w : World} (hf : fuel = l.length)
    (hs : Region.noSelect (List.toArray l) = true) (hB : Region.lexFrom .any (List.toArray l) l.length 0 listed = true)
    (h : wpQuiet P (List.toArray l) (fun w' => ∃ n, w' = w.drewN n) (fun a' => ∀ w', (∃ n, w' = w.drewN n) → Q .normal a' w') l a) : wpAny P .any (List.toArray l) Q fuel listed a w :=
  wpAny_tail 0 hf (fun j => by simp) hs hB h
theorem noth_waits {w : World} {N Mb Wb : Nat} {M : Nat → Nat} {S k : Nat} {d : Nat → Dg} {F : Nat → Nat → Nat} {Ds : List Nat} {W : World} (h : Noth w N Mb Wb M S k d F Ds W) (i : Nat) (hi : i < 2) (n : Nat) :
    Calls Try.prog 34 #[.pointer (some ⟨N, 0, none⟩), .int .i64 i] (W.drewN n) fun e W' => e = .returned (.int .i64 ((d i).length : Nat)) ∧ W.drewN n = W' := by
  have := has_waits (h.has.same (W' := W.drewN n) ⟨rfl, rfl, rfl, Nat.le_refl _, fun _ _ => rfl⟩) i hi
  rwa [show (encD d i).length = (d i).length from List.length_map ..] at this

theorem noth_leave {w : World} {N Mb Wb : Nat} {M : Nat → Nat} {S k : Nat} {d : Nat → Dg} {F : Nat → Nat → Nat} {Ds : List Nat} {W W5 : World} {tmps : Array Value} {e : Exit} (h : Noth w N Mb Wb M S k d F Ds W) (hw : Below W.heap.size W W5) (he : e = .normal ∨ e = .ret)
    (hr : tmps.getD 2 undef = .bool true) : bodyPostM Fence.wide 0 Try.prog Try.f8 (TruePost w) e { tmps := tmps, defers := marks Ds } W5 := by
  have hm := h.mks
  refine leave_marks he Ds hm.1 (fun D hD => (hw.block D (block_lt (hm.2 D hD).2)).trans (hm.2 D hD).2) (v := .bool true) ?_ ⟨rfl, ?_⟩
  · rw [results_tmp (t := 2) rfl, hr]
  · exact unmark_below Ds W5 w (h.has.bel.trans (hw.mono h.has.bel.size)) (fun D hD => (hm.2 D hD).1)

set_option maxRecDepth 100000 in
set_option maxHeartbeats 8000000 in
theorem nothing_walk (q : Option Addr) (len cap : Nat) (hlen : len ≤ 9223372036854775807) (w : World) (x n : Nat → Nat) (dn : Nat → Bool)
    (hx : ∀ i, i < len → (∃ b o, q = some ⟨b, o, none⟩ ∧ b < w.heap.size ∧ Act3 w b o i (x i) (n i) (dn i)) ∧ x i ≤ 255 ∧ n i ≤ 255) : Calls Try.prog 8 #[.slice q len cap] w (TruePost w) := by
  have Hx := Lib.hid hx
  clear hx
  have hmm := @run_makeMap Try.prog
  refine (callsIn_wide (n := 0)).1 (callsIn_of_wp_marks Try.func8 rfl trivial ?_)
  refine wpIn_wide.2 ?_
  simp only [Try.ntmps8, List.size_toArray, List.length_cons, List.length_nil, Nat.reduceAdd, Nat.reduceSub, Array.replicate_succ, Array.replicate_zero, List.push_toArray, List.append_toArray, List.nil_append, List.cons_append]
  go_wp2_with fail
  refine (has_new _).mono ?_
  rintro e w1 ⟨N, rfl, h1, k1⟩
  go_wp2_with fail
  have hw1 := h1.bel.size
  have h0 : Noth w N (w1.heap.size + 1 + 1) (w1.heap.size + 1 + 1 + 1) (fun i => w1.heap.size + i) 0 0 (fun _ => []) (fun _ _ => 0) [] ((((w1.alloc (.map #[] 0)).alloc (.map #[] 0)).alloc (.cells #[.map (some w1.heap.size), .map (some (w1.heap.size + 1))] 81)).alloc (.cells #[.int .i64 0, .int .i64 0] 82)) := by
    refine ⟨((((h1.congr rfl rfl).al _).al _).al _).al _, Good.start, Nat.le_refl _, ?_, ?_, fun i hi => ?_, MarksIn.nil _ _, by simp, by omega, by omega, fun i hi => by omega⟩
    · simp only [alloc_at, World.size_alloc]; repeat (first | rfl | rw [if_pos (by omega)] | rw [if_neg (by omega)])
    · simp only [alloc_at, World.size_alloc]; repeat (first | rfl | rw [if_pos (by omega)] | rw [if_neg (by omega)])
    · obtain rfl | rfl : i = 0 ∨ i = 1 := by omega
      · refine (MapF.made w1).same ?_
        simp only [alloc_at, World.size_alloc]; repeat (first | rfl | rw [if_pos (by omega)] | rw [if_neg (by omega)])
      · have := MapF.made (w1.alloc (.map #[] 0))
        rw [World.size_alloc] at this
        refine this.same ?_
        simp only [alloc_at, World.size_alloc]; repeat (first | rfl | rw [if_pos (by omega)] | rw [if_neg (by omega)])
  generalize ((((w1.alloc (.map #[] 0)).alloc (.map #[] 0)).alloc (.cells #[.map (some w1.heap.size), .map (some (w1.heap.size + 1))] 81)).alloc (.cells #[.int .i64 0, .int .i64 0] 82)) = w2 at h0 ⊢
  obtain ⟨M, hM⟩ : ∃ M : Nat → Nat, M = fun i => w1.heap.size + i := ⟨_, rfl⟩
  rw [← hM] at h0
  generalize w1.heap.size + 1 + 1 + 1 = Wb at h0 ⊢
  generalize w1.heap.size + 1 + 1 = Mb at h0 ⊢
  clear h1 k1 hw1 hM
  refine wp_loop_marks (NothI q len cap w N Mb Wb M) len [] ⟨0, 0, _, _, by omega, by omega, by omega, h0, rfl, rfl, rfl, rfl, rfl, rfl, rfl, rfl, rfl, rfl⟩ ?_
  clear h0
  rintro num Ds t wr ⟨S, k, d, F, hnum, hk, hk200, hN, hfr⟩ K hK
  obtain ⟨u, rfl⟩ := hfr.lit
  clear hfr
  by_cases hlt : k < len
  · obtain ⟨⟨b, o, rfl, hb, a0, a1, a2⟩, hx5, hn5⟩ := Hx.out k hlt
    generalize x k = X at a0 hx5
    generalize n k = A at a1 hn5
    generalize dn k = B at a2
    replace a0 := (hN.has.bel.cell (p := ⟨b, o + k * 3, none⟩) hb).trans a0
    replace a1 := (hN.has.bel.cell (p := ⟨b, o + k * 3 + 1, none⟩) hb).trans a1
    replace a2 := (hN.has.bel.cell (p := ⟨b, o + k * 3 + 2, none⟩) hb).trans a2
    have HN := Lib.hid hN
    have HK := Lib.hid hK
    have Hnum := Lib.hid hnum
    clear hN hK hnum
    by_cases h200 : k = 200
    · subst h200
      have HN6 := Lib.hid (HN.out.al (.cells #[.int .u8 X, .int .u8 A, .bool B] 84))
      clear hmm HN Hx
      go_wp2_with fail
      refine (wakes11 _).mono ?_
      rintro e W5 ⟨rfl, hw⟩
      go_wp2
      exact noth_leave HN6.out hw (.inr rfl) rfl
    · have h200' : ((k : Int) == 200) = false := by rw [beq_eq_false_iff_ne]; omega
      go_upto_region 9 with fail
      have hN5 := HN.out.al (.cells #[.int .u8 X, .int .u8 A, .bool B] 84)
      have hF : (wr.alloc (.cells #[.int .u8 X, .int .u8 A, .bool B] 84)).heap[wr.heap.size]? = some (.cells #[.int .u8 X, .int .u8 A, .bool B] 84 (0, 0)) := alloc_new _ _
      generalize wr.alloc (.cells #[.int .u8 X, .int .u8 A, .bool B] 84) = w5 at hN5 hF ⊢
      generalize wr.heap.size = Fb at hF ⊢
      have c0 : w5.cell? ⟨Fb, 0, none⟩ = some (.int .u8 X) := by simp [World.cell?, hF]
      have c1 : w5.cell? ⟨Fb, 1, none⟩ = some (.int .u8 A) := by simp [World.cell?, hF]
      have c2 : w5.cell? ⟨Fb, 2, none⟩ = some (.bool B) := by simp [World.cell?, hF]
      clear a0 a1 a2 HN hF
      have HN := Lib.hid hN5
      clear hN5 Hx hb
      go_upto_if 36 with fail
      go_cut [9] from 9 to 9 (fun v wx => wx = w5 ∧ ∃ wy : Nat, wy < 2 ∧ v = .int .i64 wy)
      case first =>
        cases B
        · go_wp2_with fail
          go_meet
          exact ⟨rfl, 0, by omega, rfl⟩
        · go_wp2_with fail
          go_meet
          exact ⟨rfl, 1, by omega, rfl⟩
      case rest =>
        obtain ⟨rfl, wy, hwy, rfl⟩ := hcut
        clear c2
        go_upto_region 12 with fail
        rename_i K2 hK2 K1 hK1 K0 hK0
        have TL : Hid (∀ (S' : Nat) (d' : Nat → Dg) (F' : Nat → Nat → Nat) (Ds' : List Nat) (t : Array Value) (W' : World), Noth w N Mb Wb M S' (k + 1) d' F' Ds' W' → Frm (some ⟨b, o, none⟩) len cap N Mb Wb S' k t → K1 { tmps := t, defers := marks Ds' } W') := by
          refine Lib.hid ?_
          clear hK0 K0 HN c0 c1 u
          intro S' d' F' Ds' t W' hN hfr
          obtain ⟨u, rfl⟩ := hfr.lit
          clear hfr
          have hN' : Noth w N Mb Wb M S' (k + 1) d' F' Ds' W'.drew := hN.below ⟨rfl, rfl, rfl, Nat.le_refl _, fun _ _ => rfl⟩
          have A0 : Hid (∀ n, Calls Try.prog 34 #[.pointer (some ⟨N, 0, none⟩), .int .i64 0] (W'.drew.drewN n) fun e W'' => e = .returned (.int .i64 ((d' 0).length : Nat)) ∧ W'.drew.drewN n = W'') := Lib.hid fun n => noth_waits hN' 0 (by omega) n
          have A1 : Hid (∀ n, Calls Try.prog 34 #[.pointer (some ⟨N, 0, none⟩), .int .i64 1] (W'.drew.drewN n) fun e W'' => e = .returned (.int .i64 ((d' 1).length : Nat)) ∧ W'.drew.drewN n = W'') := Lib.hid fun n => noth_waits hN' 1 (by omega) n
          have w0 : W'.drew.cell? ⟨Wb, 0, none⟩ = some (.int .i64 ((d' 0).length : Nat)) := (hN'.cellW (i := 0) (by omega)).1
          have w1 : W'.drew.cell? ⟨Wb, 1, none⟩ = some (.int .i64 ((d' 1).length : Nat)) := (hN'.cellW (i := 1) (by omega)).1
          have HN := Lib.hid hN'
          clear hN hN'
          go_wp2_with fail
          have HK2 := Lib.hid hK2
          clear hK2
          refine wp_region_any (by kernel_rfl) ?_
          change wpAny _ _ _ _ _ _ _ (World.drew _)
          generalize W'.drew = wq at A0 A1 w0 w1 HN ⊢
          refine wpAny_tail0 (by rfl) (by kernel_rfl) (by kernel_rfl) ?_
          obtain ⟨L0, hL0⟩ : ∃ L0, L0 = (d' 0).length := ⟨_, rfl⟩
          obtain ⟨L1, hL1⟩ : ∃ L1, L1 = (d' 1).length := ⟨_, rfl⟩
          rw [← hL0] at A0 w0
          rw [← hL1] at A1 w1
          clear hL0 hL1 hmm
          go_big_quiet_step ((first | (go_at_call 34; exact quiet_same (A0.out _)) | (go_at_call 34; exact quiet_same (A1.out _))))
          go_big_quiet_step ((first | (go_at_call 34; exact quiet_same (A0.out _)) | (go_at_call 34; exact quiet_same (A1.out _))))
          go_big_quiet_step ((first | (go_at_call 34; exact quiet_same (A0.out _)) | (go_at_call 34; exact quiet_same (A1.out _))))
          go_big_quiet_step ((first | (go_at_call 34; exact quiet_same (A0.out _)) | (go_at_call 34; exact quiet_same (A1.out _))))
          go_big_quiet_step ((first | (go_at_call 34; exact quiet_same (A0.out _)) | (go_at_call 34; exact quiet_same (A1.out _))))
          go_big_quiet_step ((first | (go_at_call 34; exact quiet_same (A0.out _)) | (go_at_call 34; exact quiet_same (A1.out _))))
          refine BigFrame.wpQuiet_want (by kernel_rfl) (fun K hK => ?_)
          refine BigFrame.quiet_move _ rfl (hK _ ?_)
          clear hK K
          simp only [Act.put, List.setIfInBounds_toArray, List.set_cons_zero, List.set_cons_succ]
          refine BigFrame.wpQuiet_want (by kernel_rfl) (fun K hK => ?_)
          refine ⟨.int .i64 L1, fun W hW => ?_, hK _ ?_⟩
          · obtain ⟨n, rfl⟩ := hW
            go_simp
            go_at_call 34
            exact quiet_same (A1.out _)
          clear hK K
          simp only [Act.put, List.setIfInBounds_toArray, List.set_cons_zero, List.set_cons_succ]
          refine BigFrame.wpQuiet_want (by kernel_rfl) (fun K hK => ?_)
          refine ⟨.pointer (some ⟨Wb, 1, none⟩), fun W hW => ?_, hK _ ?_⟩
          · go_simp
          clear hK K
          simp only [Act.put, List.setIfInBounds_toArray, List.set_cons_zero, List.set_cons_succ]
          refine BigFrame.wpQuiet_want (by kernel_rfl) (fun K hK => ?_)
          refine ⟨.int .i64 L1, fun W hW => ?_, hK _ ?_⟩
          · obtain ⟨n, rfl⟩ := hW
            go_simp
          clear hK K
          simp only [Act.put, List.setIfInBounds_toArray, List.set_cons_zero, List.set_cons_succ]
          refine BigFrame.wpQuiet_want (by kernel_rfl) (fun K hK => ?_)
          refine ⟨.bool false, fun W hW => ?_, hK _ ?_⟩
          · go_simp
          clear hK K
          simp only [Act.put, List.setIfInBounds_toArray, List.set_cons_zero, List.set_cons_succ]
          go_big_quiet_step (fail)
          refine wpQuiet_nil ?_
          rintro _ ⟨nq, rfl⟩
          have hK2 := HK2.out
          clear HK2 A0 A1 w0 w1
          go_wp2_with fail
          exact HK.out (len - (k + 1)) Ds' _ _ (by have := Hnum.out; omega) ⟨S', k + 1, d', F', rfl, by omega, by omega, HN.out.below ⟨rfl, rfl, rfl, Nat.le_refl _, fun _ _ => rfl⟩, rfl, rfl, rfl, rfl, rfl, rfl, rfl, rfl, rfl, by go_num⟩
        clear hK1
        have HN6 := Lib.hid (HN.out.al (.cells #[.int .i64 A] 3))
        have hFl : Fb < wc.heap.size := by have := World.block_lt_of_cell? wc _ c0; exact this
        have d0 : (wc.alloc (.cells #[.int .i64 A] 3)).cell? ⟨Fb, 0, none⟩ = some (.int .u8 X) := cell_below ((Below.refl _ _).alloc (Nat.le_refl _) _) _ _ c0
        have hAb := alloc_new wc (.cells #[.int .i64 A] 3)
        generalize wc.alloc (.cells #[.int .i64 A] 3) = w6 at HN6 d0 hAb ⊢
        generalize wc.heap.size = Ab at hAb ⊢
        have dA : w6.cell? ⟨Ab, 0, none⟩ = some (.int .i64 A) := by simp [World.cell?, hAb]
        clear HN c0 c1 hFl hmm
        by_cases hX4 : X = 4
        · subst hX4
          have n0 : wy < 2 := hwy
          obtain ⟨r7, g7, hn, hg7⟩ := HN6.out.has
          have h70 := hg7 wy hwy
          have hgl : (g7 wy).length = (d wy).length := by have := congrArg List.length h70; simpa [encD] using this
          have hl64 := HN6.out.good.len wy hwy
          have hgx : ∀ p ∈ g7 wy, p.2.length ≤ 600 := fun p hp => by
            have h1 : p.2 ∈ encD d wy := by rw [← h70]; exact List.mem_map.2 ⟨p, hp, rfl⟩
            obtain ⟨q, _, h2⟩ := List.mem_map.1 h1
            rw [← h2]; simp
          have IT := all50 w N r7 g7 wy (w6.heap.size + 1) (w6.heap.size + 2) hwy (by omega) hgx
          rw [h70] at IT
          have HIT := Lib.hid IT
          have Hn := Lib.hid hn
          clear IT hn hg7 h70 hgl hgx hl64
          go_wp2_with fail
          refine (all36 _ ⟨_, rfl⟩ wy _).mono ?_
          rintro e w' ⟨rfl, rfl⟩
          go_wp2_with fail
          refine (safe35 _ _ _).mono ?_
          rintro e w' ⟨rfl, rfl⟩
          go_wp2_with fail
          obtain ⟨Ib, hIb⟩ : ∃ Ib, Ib = w6.heap.size := ⟨_, rfl⟩
          obtain ⟨lo, hlo⟩ : ∃ lo, lo = (((d wy)[A]?).map Prod.fst).getD 0 := ⟨_, rfl⟩
          obtain ⟨iv, hiv⟩ : ∃ iv : Nat → Nat, iv = fun n => if A < n then lo else 0 := ⟨_, rfl⟩
          have I0 : Below Ib w6 (((w6.alloc (.cells #[.int .i64 0] 3)).alloc (.cells #[.pointer (some ⟨N, 0, none⟩)] 70)).alloc (.cells #[.int .i64 (wy : Int)] 3)) := by
            subst hIb; exact (((Below.refl _ _).alloc (Nat.le_refl _) _).alloc (by simp) _).alloc (by simp only [World.size_alloc]; omega) _
          have I1 : (((w6.alloc (.cells #[.int .i64 0] 3)).alloc (.cells #[.pointer (some ⟨N, 0, none⟩)] 70)).alloc (.cells #[.int .i64 (wy : Int)] 3)).heap[Ib]? = some (.cells #[.int .i64 0] 3 (0, 0)) := by
            rw [hIb]; simp only [alloc_at, World.size_alloc]; repeat (first | rfl | rw [if_pos (by omega)] | rw [if_neg (by omega)])
          have I2 : (((w6.alloc (.cells #[.int .i64 0] 3)).alloc (.cells #[.pointer (some ⟨N, 0, none⟩)] 70)).alloc (.cells #[.int .i64 (wy : Int)] 3)).heap[Ib + 1]? = some (.cells #[.pointer (some ⟨N, 0, none⟩)] 70 (0, 0)) := by
            rw [hIb]; simp only [alloc_at, World.size_alloc]; repeat (first | rfl | rw [if_pos (by omega)] | rw [if_neg (by omega)])
          have I3 : (((w6.alloc (.cells #[.int .i64 0] 3)).alloc (.cells #[.pointer (some ⟨N, 0, none⟩)] 70)).alloc (.cells #[.int .i64 (wy : Int)] 3)).heap[Ib + 2]? = some (.cells #[.int .i64 (wy : Int)] 3 (0, 0)) := by
            rw [hIb]; simp only [alloc_at, World.size_alloc]; repeat (first | rfl | rw [if_pos (by omega)] | rw [if_neg (by omega)])
          have I4 : (((w6.alloc (.cells #[.int .i64 0] 3)).alloc (.cells #[.pointer (some ⟨N, 0, none⟩)] 70)).alloc (.cells #[.int .i64 (wy : Int)] 3)).heap.size = Ib + 3 := by rw [hIb]; simp only [World.size_alloc]
          rw [← hIb] at HIT
          rw [← hIb]
          generalize ((w6.alloc (.cells #[.int .i64 0] 3)).alloc (.cells #[.pointer (some ⟨N, 0, none⟩)] 70)).alloc (.cells #[.int .i64 (wy : Int)] 3) = W8 at I0 I1 I2 I3 I4 ⊢
          have hIb6 : Ib ≤ w6.heap.size ∧ Ib ≤ W8.heap.size := by omega
          have hAbl : Ab < Ib := by rw [hIb]; exact block_lt hAb
          have HIb := Lib.hid hIb
          have Hlo := Lib.hid hlo
          have Hiv := Lib.hid hiv
          clear hIb hlo hiv
          refine (wpIn_wide (n := 0)).1 ?_
          refine wp_range (gf := 50) rfl enters50 (fun B x => RY_stb _ B x) HIT.out (fun _ => by rfl)
            (fun pre W => Below Ib w6 W ∧ W.heap[Ib]? = some (.cells #[.int .i64 (iv pre.length : Nat)] 3 (0, 0)) ∧ W.heap[Ib + 1]? = some (.cells #[.pointer (some ⟨N, 0, none⟩)] 70 (0, 0)) ∧ W.heap[Ib + 2]? = some (.cells #[.int .i64 (wy : Int)] 3 (0, 0)))
            (fun c pre W => False)
            (fun _ => (Stb.below (by omega) (by omega)).and ((Stb.block _ _ _ rfl).and ((Stb.block _ _ _ rfl).and (Stb.block _ _ _ rfl))))
            (fun c pre => Stb.pure _ _) ?pre ⟨I0, by rw [Hiv.out]; exact I1, I2, I3⟩ ?a3 ?assign ?body ?done ?stop
          case pre =>
            rintro pre W ⟨hB, _, h1, h2⟩
            exact ⟨by simp [World.cell?, h1], by simp [World.cell?, h2], Hn.out.same (HIb.out ▸ hB)⟩
          case assign =>
            intro l' x W' K hK
            simp only [encY, encS]
            gi_wp2
            exact hK
          case stop =>
            rintro D c pre rest W hD hS hF
            exact hF.elim
          case body =>
            rintro l' pre ⟨i, ⟨sq, sl, sc⟩, bs⟩ rest W hS hl ⟨_, hr⟩ ⟨hB, hI, h1, h2⟩ ⟨B0, hB0, hRY⟩
            obtain ⟨lo', fl, hi, hq, hbs⟩ := allS_at hS
            obtain rfl : i = pre.length := hi
            obtain rfl : bs = [wy, 0, lo', fl] := hbs
            have hRY' : OffRow W B0 5 (.slice sq sl sc) (byts [wy, 0, lo', fl]) := hRY
            obtain rfl : sl = 4 := hRY'.len'
            obtain ⟨p7, r7, rfl⟩ := hRY'.addr (by simp)
            have e1 : W.cell? ⟨p7, r7 + 1, none⟩ = some (.int .u8 0) := hRY'.cellG 1 (by simp)
            have e2 : W.cell? ⟨p7, r7 + 2, none⟩ = some (.int .u8 lo') := hRY'.cellG 2 (by simp)
            have hlo2 := HN6.out.good.low wy hwy _ (List.mem_of_getElem? hq)
            have g2 := or_zero lo' (by have := hlo2.1; omega)
            have dA2 : W.cell? ⟨Ab, 0, none⟩ = some (.int .i64 A) := (hB.cell (p := ⟨Ab, 0, none⟩) hAbl).trans dA
            have i0 : W.cell? ⟨Ib, 0, none⟩ = some (.int .i64 (iv pre.length : Nat)) := by simp [World.cell?, hI]
            have f0 : W.frozen? ⟨Ib, 0, none⟩ = false := by simp [World.frozen?, hI]
            have hpl : pre.length ≤ 64 := by
              have := (List.getElem?_eq_some_iff.1 hq).1
              have := HN6.out.good.len wy hwy
              omega
            clear hRY hRY' dA d0 hAb hr
            by_cases hpA : pre.length = A
            · have hpA' : ((pre.length : Int) == (A : Int)) = true := by rw [beq_iff_eq]; omega
              gi_wp2_with fail
              refine still_round_n l' (calm_all _ (by kernel_rfl)) 10 (by kernel_rfl) (by kernel_rfl) ?_
              change wpStill _ _ (World.drew W) (fun a' => wpList _ _ _ _ a' (World.drew W)) _ _
              have e1' : W.drew.cell? ⟨p7, r7 + 1, none⟩ = some (.int .u8 0) := e1
              have e2' : W.drew.cell? ⟨p7, r7 + 2, none⟩ = some (.int .u8 lo') := e2
              have i0' : W.drew.cell? ⟨Ib, 0, none⟩ = some (.int .i64 (iv pre.length : Nat)) := i0
              have f0' : W.drew.frozen? ⟨Ib, 0, none⟩ = false := f0
              obtain ⟨Wd, HWd', HWd⟩ : ∃ Wd, Wd = W.drew ∧ Wd.heap = W.heap := ⟨_, rfl, rfl⟩
              rw [← HWd'] at e1' e2' i0' f0' ⊢
              replace HWd' := Lib.hid HWd'
              replace HWd := Lib.hid HWd
              simp only [List.take_succ_cons, List.take_zero, List.drop_succ_cons, List.drop_zero]
              repeat still_step
              refine wpStill_nil ?_
              go_wp2
              rw [show (0 : Int) * 256 = 0 from rfl, g2, HWd'.out]
              refine ⟨rfl, ?_⟩
              have hiv1 : iv (pre.length + 1) = lo' := by
                rw [Hiv.out]; simp only
                rw [if_pos (by omega), Hlo.out, ← hpA, hq]; rfl
              have HIV := Lib.hid hiv1
              clear hiv1 e1' e2' i0' f0' HWd HWd'
              gi_wp2
              refine ⟨(KeepBk.drew _ _).trans (KeepBk.setCell _ _ _ _ (fun o ho => by rw [show W.drew.heap = W.heap from rfl, hI] at ho; cases ho; rfl)), (hB.drew).setCell (Nat.le_refl _) _, ?_, ?_, ?_⟩
              · rw [set_cells (w := W.drew) hI, List.length_append, List.length_singleton, HIV.out]; rfl
              · rw [Below.heap_setCell _ _ _ _ (by show Ib + 1 ≠ Ib; omega)]; exact h1
              · rw [Below.heap_setCell _ _ _ _ (by show Ib + 2 ≠ Ib; omega)]; exact h2
            · have hpA' : ((pre.length : Int) == (A : Int)) = false := by rw [beq_eq_false_iff_ne]; omega
              have hiv : iv (pre.length + 1) = iv pre.length := by rw [Hiv.out]; simp only; by_cases h : A < pre.length; rw [if_pos h, if_pos (by omega)]; rw [if_neg h, if_neg (by omega)]
              have HIV := Lib.hid hiv
              clear hiv
              gi_wp2
              refine ⟨KeepBk.refl _ _, hB, ?_, h1, h2⟩
              rw [List.length_append, List.length_singleton, HIV.out]; exact hI
          case done =>
            rintro D xs W9 hD hS ⟨hB, hI, h1, h2⟩ hK
            have hxl : xs.length = (d wy).length := by
              have := congrArg List.length hS
              rw [List.length_map, zips_len] at this
              simpa [encD] using this
            have B9 : Below w6.heap.size w6 W9 := HIb.out ▸ hB
            have hN9 := HN6.out.below B9
            have hD6 : w6.heap.size ≤ D := by have := HIb.out; omega
            have hmk : MarksIn w.heap.size (D :: Ds) W9 := hN9.mks.more (Nat.le_trans HN6.out.has.bel.size hD6) hK (fun hm => by have := block_lt (HN6.out.mks.2 D hm).2; omega)
            have HM9 := Lib.hid (Noth.marked hN9 hmk)
            have dA9 : W9.cell? ⟨Ab, 0, none⟩ = some (.int .i64 A) := (hB.cell (p := ⟨Ab, 0, none⟩) hAbl).trans dA
            have hAb9 := (hB.block Ab hAbl).trans hAb
            have i9 : W9.cell? ⟨Ib, 0, none⟩ = some (.int .i64 (iv (d wy).length : Nat)) := by rw [← hxl]; simp [World.cell?, hI]
            have hxL := Lib.hid hxl
            clear hN9 hmk hS hxl h1 h2 d0 dA hAb I0 I1 I2 I3
            obtain ⟨L, hL⟩ : ∃ L, L = (d wy).length := ⟨_, rfl⟩
            have HL := Lib.hid hL
            have hL64 : L ≤ 64 := by have := HN6.out.good.len wy hwy; omega
            by_cases hAL : A < L
            · by_cases h64 : L = 64
              · have DV := Lib.hid (noth_full HM9.out wy hwy A (by omega) (by omega))
                have H64 := Lib.hid h64
                have hwyI : (wy : Int) < 2 := by omega
                clear hL h64
                go_wp2_with fail
                refine DV.out.mono ?_
                rintro e w' ⟨rfl, rfl⟩
                have BH : Behind w N Mb Wb M k d d F wy Ab A W9 W9 := ⟨HM9.out.seen wy hwy (fun _ _ h _ => h), fun _ _ h _ => h, HM9.out.has, dA9⟩
                have B1 := Lib.hid (BH.drewN 1)
                have HN7 := Lib.hid (HM9.out.below (W' := W9.drew) ⟨rfl, rfl, rfl, Nat.le_refl _, fun _ _ => rfl⟩)
                clear BH dA9 hAb9 i9 DV HM9 HN6 Hn HIT
                go_wp2_with fail
                refine wp_region_any (by kernel_rfl) ?_
                change wpAny _ _ _ _ _ _ _ (World.drew _)
                change Hid (Behind w N Mb Wb M k d d F wy Ab A W9 W9.drew) at B1
                generalize W9.drew = wq at B1 HN7 ⊢
                have c1 : wq.cell? ⟨Wb, wy, none⟩ = some (.int .i64 L) := by rw [HL.out]; exact B1.out.sn.cw
                have c2 := B1.out.dA
                refine wpAny_tail0 (by rfl) (by kernel_rfl) (by kernel_rfl) ?_
                go_big_quiet_step (fail)
                go_big_quiet_step (fail)
                go_big_quiet_step (fail)
                go_big_quiet_step (fail)
                go_big_quiet_step (fail)
                go_big_quiet_step (fail)
                go_big_quiet_step (fail)
                go_big_quiet_step (fail)
                try simp only [show decide (A < L) = true from decide_eq_true hAL]
                try simp only [show decide ((A : Int) < (L : Int)) = true from decide_eq_true (by omega)]
                refine BigFrame.wpQuiet_want (by kernel_rfl) (fun K hK => ?_)
                refine BigFrame.quiet_move _ rfl (hK _ ?_)
                clear hK K
                simp only [Act.put, List.setIfInBounds_toArray, List.set_cons_zero, List.set_cons_succ]
                refine BigFrame.wpQuiet_want (by kernel_rfl) (fun K hK => ?_)
                refine ⟨.pointer (some ⟨Wb, wy, none⟩), fun W hW => ?_, hK _ ?_⟩
                · go_simp
                clear hK K
                simp only [Act.put, List.setIfInBounds_toArray, List.set_cons_zero, List.set_cons_succ]
                refine BigFrame.wpQuiet_want (by kernel_rfl) (fun K hK => ?_)
                refine ⟨.int .i64 L, fun W hW => ?_, hK _ ?_⟩
                · obtain ⟨n, rfl⟩ := hW
                  go_simp
                clear hK K
                simp only [Act.put, List.setIfInBounds_toArray, List.set_cons_zero, List.set_cons_succ]
                refine BigFrame.wpQuiet_want (by kernel_rfl) (fun K hK => ?_)
                refine ⟨.bool false, fun W hW => ?_, hK _ ?_⟩
                · have : (64 : Int) ≤ (L : Int) := by have := H64.out; omega
                  go_simp
                clear hK K
                simp only [Act.put, List.setIfInBounds_toArray, List.set_cons_zero, List.set_cons_succ]
                go_big_quiet_step (fail)
                go_big_quiet_step (fail)
                refine wpQuiet_nil ?_
                rintro _ ⟨nq, rfl⟩
                clear c1 c2
                have HN9 := Lib.hid (HN7.out.below (W' := wq.drewN nq) ⟨rfl, rfl, rfl, Nat.le_refl _, fun _ _ => rfl⟩)
                clear B1 HN7
                go_wp2_with fail
                refine TL.out S d F (D :: Ds) _ _ (HN9.out.next (by omega)) ?_
                exact ⟨rfl, rfl, rfl, rfl, rfl, rfl, rfl, rfl, rfl, rfl⟩
              · have hL4 : L < 64 := by omega
                obtain ⟨⟨lq, fl⟩, hq7⟩ : ∃ q, (d wy)[A]? = some q := ⟨_, List.getElem?_eq_getElem (by omega)⟩
                have DV := Lib.hid (noth_double HM9.out wy hwy A (by omega) (lq, fl) hq7)
                have hlow := HM9.out.good.low wy hwy _ (List.mem_of_getElem? hq7)
                have hlq : lq ≤ 200 := hlow.1
                have hivL : iv (d wy).length = lq := by rw [Hiv.out]; simp only; rw [if_pos (by omega), Hlo.out, hq7]; rfl
                have hgood := HM9.out.good.double wy A hwy (by omega) (lq, fl) hq7
                have HGd := Lib.hid hgood
                have HQ7 := Lib.hid hq7
                have hI9 : W9.heap[Ib]? = some (Obj.cells #[Value.int IntKind.i64 (lq : Nat)] 3) := by rw [hI, hxL.out, hivL]
                have HI9 := Lib.hid hI9
                have hwyI : (wy : Int) < 2 := by omega
                clear hL h64 hgood hq7 hlow hivL hI hI9
                go_wp2_with fail
                refine DV.out.mono ?_
                rintro e W1 ⟨rfl, k5, h1⟩
                have k5' : ∀ (b : Nat) (o : Obj), W9.heap[b]? = some o → (∀ c t f, o = Obj.cells c t f → t = 81 ∨ t = 82) → W1.heap[b]? = some o := k5.noth
                have hAb1 := k5.cells hAb9 (by decide)
                have hI1 := k5.cells HI9.out (by decide)
                have BH : Behind w N Mb Wb M k d (upd d wy (d wy ++ [(lq, fl)])) F wy Ab A W9 W1 := ⟨HM9.out.seen wy hwy k5', k5', h1, by simp [World.cell?, hAb1]⟩
                have i1 : W1.cell? ⟨Ib, 0, none⟩ = some (.int .i64 (lq : Nat)) := by simp [World.cell?, hI1]
                have B1 := Lib.hid (BH.drewN 1)
                have J1 : Hid (W1.drew.cell? ⟨Ib, 0, none⟩ = some (.int .i64 (lq : Nat))) := Lib.hid i1
                clear BH dA9 hAb9 i9 DV HN6 Hn HIT k5 k5' h1 hAb1 hI1 HI9 i1
                go_wp2_with fail
                refine wp_region_any (by kernel_rfl) ?_
                change wpAny _ _ _ _ _ _ _ (World.drew _)
                change Hid (Behind w N Mb Wb M k d (upd d wy (d wy ++ [(lq, fl)])) F wy Ab A W9 W1.drew) at B1
                generalize W1.drew = wq at B1 J1 ⊢
                have c1 : wq.cell? ⟨Wb, wy, none⟩ = some (.int .i64 L) := by rw [HL.out]; exact B1.out.sn.cw
                have c2 := B1.out.dA
                refine wpAny_tail0 (by rfl) (by kernel_rfl) (by kernel_rfl) ?_
                go_big_quiet_step (fail)
                go_big_quiet_step (fail)
                go_big_quiet_step (fail)
                go_big_quiet_step (fail)
                go_big_quiet_step (fail)
                go_big_quiet_step (fail)
                go_big_quiet_step (fail)
                go_big_quiet_step (fail)
                try simp only [show decide (A < L) = true from decide_eq_true hAL]
                try simp only [show decide ((A : Int) < (L : Int)) = true from decide_eq_true (by omega)]
                refine BigFrame.wpQuiet_want (by kernel_rfl) (fun K hK => ?_)
                refine BigFrame.quiet_move _ rfl (hK _ ?_)
                clear hK K
                simp only [Act.put, List.setIfInBounds_toArray, List.set_cons_zero, List.set_cons_succ]
                refine BigFrame.wpQuiet_want (by kernel_rfl) (fun K hK => ?_)
                refine ⟨.pointer (some ⟨Wb, wy, none⟩), fun W hW => ?_, hK _ ?_⟩
                · go_simp
                clear hK K
                simp only [Act.put, List.setIfInBounds_toArray, List.set_cons_zero, List.set_cons_succ]
                refine BigFrame.wpQuiet_want (by kernel_rfl) (fun K hK => ?_)
                refine ⟨.int .i64 L, fun W hW => ?_, hK _ ?_⟩
                · obtain ⟨n, rfl⟩ := hW
                  go_simp
                clear hK K
                simp only [Act.put, List.setIfInBounds_toArray, List.set_cons_zero, List.set_cons_succ]
                refine BigFrame.wpQuiet_want (by kernel_rfl) (fun K hK => ?_)
                refine ⟨.bool true, fun W hW => ?_, hK _ ?_⟩
                · have : (L : Int) < 64 := by omega
                  go_simp
                clear hK K
                simp only [Act.put, List.setIfInBounds_toArray, List.set_cons_zero, List.set_cons_succ]
                go_big_quiet_step (fail)
                go_big_quiet_step (fail)
                refine wpQuiet_nil ?_
                rintro _ ⟨nq, rfl⟩
                clear c1 c2
                have B2 := Lib.hid (B1.out.drewN nq)
                have J2 : Hid ((wq.drewN nq).cell? ⟨Ib, 0, none⟩ = some (.int .i64 (lq : Nat))) := J1
                clear B1 J1
                generalize wq.drewN nq = wr2 at B2 J2 ⊢
                go_wp2_with fail
                replace B2 := Lib.hid (B2.out.drewN 1)
                change Hid (Behind w N Mb Wb M k d (upd d wy (d wy ++ [(lq, fl)])) F wy Ab A W9 wr2.drew) at B2
                replace J2 : Hid (wr2.drew.cell? ⟨Ib, 0, none⟩ = some (.int .i64 (lq : Nat))) := J2
                obtain ⟨W2, hupd, hm2, hg2⟩ := B2.out.sn.mp.update (by omega) lq (F wy lq + 1) (by omega) (by have := HM9.out.good.bnd wy hwy lq; omega)
                have hlook := B2.out.sn.mp.look lq (by omega)
                obtain ⟨c5, f5, _⟩ := B2.out.sn.behind rfl hg2
                have c2 := B2.out.sn.cm
                have i2 := J2.out
                rw [← HL.out] at c5
                obtain ⟨Mw, hMw⟩ : ∃ Mw, Mw = M wy := ⟨_, rfl⟩
                obtain ⟨cf, hcf⟩ : ∃ cf, cf = F wy lq := ⟨_, rfl⟩
                have hcf2 : cf ≤ 300 := by have := HM9.out.good.bnd wy hwy lq; omega
                rw [← hMw] at c2 hupd hlook
                rw [← hcf] at hupd hlook
                push_cast at hupd hlook
                have HMw := Lib.hid hMw
                have HC := Lib.hid hcf
                have HM2 := Lib.hid hm2
                have HG2 := Lib.hid hg2
                clear hMw hcf hm2 hg2
                refine wp_region_still_tail 6 (by kernel_rfl) (by kernel_rfl) ?_
                change wpStill _ _ (World.drew wr2) (fun a' => wpList _ _ _ _ a' (World.drew wr2)) _ _
                generalize wr2.drew = wq2 at B2 J2 c2 i2 hlook hupd HG2 ⊢
                simp only [List.take_succ_cons, List.take_zero, List.drop_succ_cons, List.drop_zero]
                repeat still_step
                refine wpStill_nil ?_
                have hlen1 : ((upd d wy (d wy ++ [(lq, fl)]) wy).length : Int) = (L : Int) + 1 := by
                  have := HL.out
                  rw [upd_same, List.length_append, List.length_singleton]
                  omega
                have HS1 := Lib.hid hlen1
                clear hlen1
                go_wp2_with fail
                rw [hupd]
                go_wp2_with fail
                have hN9 := HM9.out.count wy hwy B2.out.has B2.out.k5 HM2.out HG2.out HGd.out (S' := S) (by have := HM9.out.sk; omega) (by omega) (fun i _ e => by rw [upd_other _ _ e]) (W2.setCell ⟨Wb, wy, none⟩ (.int .i64 ((L : Int) + 1))) (Or.inl (by rw [HS1.out]))
                refine TL.out S _ _ (D :: Ds) _ _ hN9 ?_
                exact ⟨rfl, rfl, rfl, rfl, rfl, rfl, rfl, rfl, rfl, rfl⟩
            · have DV := Lib.hid (noth_gone HM9.out wy hwy A (by omega))
              clear hL
              go_wp2_with fail
              refine (double_err _ wy A _ ⟨_, rfl⟩ 6 (by omega) _ DV.out).mono ?_
              rintro e w' ⟨rfl, rfl⟩
              have BH : Behind w N Mb Wb M k d d F wy Ab A W9 W9 := ⟨HM9.out.seen wy hwy (fun _ _ h _ => h), fun _ _ h _ => h, HM9.out.has, dA9⟩
              have B1 := Lib.hid (BH.drewN 1)
              have HN7 := Lib.hid (HM9.out.below (W' := W9.drew) ⟨rfl, rfl, rfl, Nat.le_refl _, fun _ _ => rfl⟩)
              clear BH dA9 hAb9 i9 DV HM9 HN6 Hn HIT
              go_wp2_with fail
              refine wp_region_any (by kernel_rfl) ?_
              change wpAny _ _ _ _ _ _ _ (World.drew _)
              change Hid (Behind w N Mb Wb M k d d F wy Ab A W9 W9.drew) at B1
              generalize W9.drew = wq at B1 HN7 ⊢
              have c1 : wq.cell? ⟨Wb, wy, none⟩ = some (.int .i64 L) := by rw [HL.out]; exact B1.out.sn.cw
              have c2 := B1.out.dA
              refine wpAny_tail0 (by rfl) (by kernel_rfl) (by kernel_rfl) ?_
              go_big_quiet_step (fail)
              go_big_quiet_step (fail)
              go_big_quiet_step (fail)
              go_big_quiet_step (fail)
              go_big_quiet_step (fail)
              go_big_quiet_step (fail)
              go_big_quiet_step (fail)
              go_big_quiet_step (fail)
              refine BigFrame.wpQuiet_skip (by kernel_rfl) ?_
              simp only [Act.put, List.setIfInBounds_toArray, List.set_cons_zero, List.set_cons_succ]
              refine BigFrame.wpQuiet_skip (by kernel_rfl) ?_
              simp only [Act.put, List.setIfInBounds_toArray, List.set_cons_zero, List.set_cons_succ]
              refine BigFrame.wpQuiet_skip (by kernel_rfl) ?_
              simp only [Act.put, List.setIfInBounds_toArray, List.set_cons_zero, List.set_cons_succ]
              refine BigFrame.wpQuiet_skip (by kernel_rfl) ?_
              simp only [Act.put, List.setIfInBounds_toArray, List.set_cons_zero, List.set_cons_succ]
              go_big_quiet_step (fail)
              go_big_quiet_step (fail)
              refine wpQuiet_nil ?_
              rintro _ ⟨nq, rfl⟩
              clear c1 c2
              have HN9 := Lib.hid (HN7.out.below (W' := wq.drewN nq) ⟨rfl, rfl, rfl, Nat.le_refl _, fun _ _ => rfl⟩)
              clear B1 HN7
              go_wp2_with fail
              refine TL.out S d F (D :: Ds) _ _ (HN9.out.next (by omega)) ?_
              exact ⟨rfl, rfl, rfl, rfl, rfl, rfl, rfl, rfl, rfl, rfl⟩
        · skip
          by_cases hX0 : X = 0 ∨ X = 1
          · have hL64 := HN6.out.good.len wy hwy
            have hwyI : (wy : Int) < 2 := by omega
            have hS : S ≤ 199 := by have := HN6.out.sk; omega
            rcases hX0 with rfl | rfl
            all_goals
              go_wp2_with fail
              refine (noth_send HN6.out wy hwy hS _ _ _ rfl).mono ?_
              rintro e W1 ⟨rfl, k5, h1⟩
              have sn := HN6.out.seen wy hwy k5.noth
              obtain ⟨W2, hupd, hm2, hg2⟩ := sn.mp.update (by omega) (S + 1) (F wy (S + 1) + 1) (by omega) (by have := HN6.out.good.bnd wy hwy (S + 1); omega)
              have hlook := sn.mp.look (S + 1) (by omega)
              obtain ⟨c5, f5, _⟩ := sn.behind rfl hg2
              have c1 := sn.cw
              have c2 := sn.cm
              obtain ⟨L, hL⟩ : ∃ L, L = (d wy).length := ⟨_, rfl⟩
              obtain ⟨Mw, hMw⟩ : ∃ Mw, Mw = M wy := ⟨_, rfl⟩
              obtain ⟨cf, hcf⟩ : ∃ cf, cf = F wy (S + 1) := ⟨_, rfl⟩
              have hcf2 : cf ≤ 300 := by have := HN6.out.good.bnd wy hwy (S + 1); omega
              rw [← hL] at c1 c5 hL64 ⊢
              rw [← hMw] at c2 hupd hlook
              rw [← hcf] at hupd hlook
              push_cast at hupd hlook
              have HL := Lib.hid hL
              have HM := Lib.hid hMw
              have HC := Lib.hid hcf
              have K5 := Lib.hid k5
              have H1 := Lib.hid h1
              have HM2 := Lib.hid hm2
              have HG2 := Lib.hid hg2
              clear hL hMw hcf k5 h1 hm2 hg2 sn
              by_cases h64 : L = 64
              · have h65 : 64 ≤ L := by omega
                rw [show decide (64 ≤ L) = true from decide_eq_true h65]
                go_wp2_with fail
                have hs0 : (upd d wy (sentD (d wy) (S + 1, 0)) wy).length = (d wy).length := by
                  have := HL.out
                  rw [upd_same, sentD, if_pos (by omega), List.length_append, List.length_eraseIdx, if_pos (by omega)]
                  simp; omega
                have hN9 := HN6.out.count wy hwy H1.out K5.out.noth HM2.out HG2.out (HN6.out.good.send wy (S + 1) (by omega)) (S' := S + 1) (by have := HN6.out.sk; omega) (by omega) (fun i _ e => by rw [upd_other _ _ e]) W2 (Or.inr ⟨rfl, hs0⟩)
                refine TL.out (S + 1) _ _ Ds _ _ hN9 ?_
                exact ⟨rfl, rfl, rfl, rfl, rfl, rfl, rfl, rfl, rfl, rfl⟩
              · have h65 : L < 64 := by omega
                have hs1 : ((upd d wy (sentD (d wy) (S + 1, 0)) wy).length : Int) = (L : Int) + 1 := by
                  have := HL.out
                  rw [upd_same, sentD, if_neg (by omega), List.length_append]
                  simp; omega
                have HS1 := Lib.hid hs1
                clear hs1
                have h67 : ((L : Int) == 64) = false := by rw [beq_eq_false_iff_ne]; omega
                rw [show decide (64 ≤ L) = false from decide_eq_false (by omega)]
                go_wp2_with fail
                have hN9 := HN6.out.count wy hwy H1.out K5.out.noth HM2.out HG2.out (HN6.out.good.send wy (S + 1) (by omega)) (S' := S + 1) (by have := HN6.out.sk; omega) (by omega) (fun i _ e => by rw [upd_other _ _ e]) (W2.setCell ⟨Wb, wy, none⟩ (.int .i64 ((L : Int) + 1))) (Or.inl (by rw [HS1.out]))
                have tl := fun t => TL.out (S + 1) _ _ Ds t _ hN9
                refine tl _ ?_
                exact ⟨rfl, rfl, rfl, rfl, rfl, rfl, rfl, rfl, rfl, rfl⟩
          · by_cases hX2 : X = 2 ∨ X = 3
            · have n0 : ((X : Int) == 0) = false := by rw [beq_eq_false_iff_ne]; omega
              have n1 : ((X : Int) == 1) = false := by rw [beq_eq_false_iff_ne]; omega
              have hwyI : (wy : Int) < 2 := by omega
              obtain ⟨L, hL⟩ : ∃ L, L = (d wy).length := ⟨_, rfl⟩
              have hL64 : L ≤ 64 := by have := HN6.out.good.len wy hwy; omega
              by_cases hAL : A < L
              · have DV := Lib.hid (noth_deliver HN6.out wy hwy A (by omega))
                have HL := Lib.hid hL
                clear hL hX0
                rcases hX2 with rfl | rfl
                all_goals
                  go_wp2_with fail
                  refine DV.out.mono ?_
                  rintro e W1 ⟨qv, cv, lo, fl, hq, hlo, hfl, rfl, ho, k5, h1⟩
                  have BH : Behind w N Mb Wb M k d (upd d wy ((d wy).eraseIdx A)) F wy Ab A w6 W1 := ⟨HN6.out.seen wy hwy k5.noth, k5.noth, h1, by have := k5.cells hAb (by decide); simp [World.cell?, this]⟩
                  have BO := Lib.hid ho
                  have B1 := Lib.hid (BH.drewN 1)
                  clear BH ho k5 h1
                  go_wp2_with fail
                  refine wp_region_any (by kernel_rfl) ?_
                  change wpAny _ _ _ _ _ _ _ (World.drew _)
                  have BO' : Hid (OffRow W1.drew w.heap.size 5 (.slice qv 4 cv) (byts [wy, 0, lo, fl])) := BO
                  change Hid (Behind w N Mb Wb M k d (upd d wy ((d wy).eraseIdx A)) F wy Ab A w6 W1.drew) at B1
                  clear BO
                  generalize W1.drew = wq at B1 BO' ⊢
                  have c1 : wq.cell? ⟨Wb, wy, none⟩ = some (.int .i64 L) := by rw [HL.out]; exact B1.out.sn.cw
                  have c2 := B1.out.dA
                  refine wpAny_tail0 (by rfl) (by kernel_rfl) (by kernel_rfl) ?_
                  repeat (go_big_quiet_step (fail))
                  refine wpQuiet_nil ?_
                  rintro _ ⟨nq, rfl⟩
                  clear c1 c2
                  have B2 := Lib.hid (B1.out.drewN nq)
                  have BO2 : Hid (OffRow (wq.drewN nq) w.heap.size 5 (.slice qv 4 cv) (byts [wy, 0, lo, fl])) := BO'
                  clear B1 BO'
                  generalize wq.drewN nq = wr2 at B2 BO2 ⊢
                  obtain ⟨p7, r7, rfl⟩ := BO2.out.addr (by simp)
                  have e0 : wr2.cell? ⟨p7, r7, none⟩ = some (.int .u8 wy) := BO2.out.cellG 0 (by simp)
                  have e1 : wr2.cell? ⟨p7, r7 + 1, none⟩ = some (.int .u8 0) := BO2.out.cellG 1 (by simp)
                  have e2 : wr2.cell? ⟨p7, r7 + 2, none⟩ = some (.int .u8 lo) := BO2.out.cellG 2 (by simp)
                  have e3 : wr2.cell? ⟨p7, r7 + 3, none⟩ = some (.int .u8 fl) := BO2.out.cellG 3 (by simp)
                  have g1 := and254 fl hfl
                  have g2 := or_zero lo (by omega)
                  go_wp2_with fail
                  refine wp_region_any (by kernel_rfl) ?_
                  change wpAny _ _ _ _ _ _ _ (World.drew _)
                  replace B2 := Lib.hid (B2.out.drewN 1)
                  change Hid (Behind w N Mb Wb M k d (upd d wy ((d wy).eraseIdx A)) F wy Ab A w6 wr2.drew) at B2
                  replace e1 : wr2.drew.cell? ⟨p7, r7 + 1, none⟩ = some (.int .u8 0) := e1
                  replace e2 : wr2.drew.cell? ⟨p7, r7 + 2, none⟩ = some (.int .u8 lo) := e2
                  clear e0 e3 BO2
                  generalize wr2.drew = wq at B2 e1 e2 ⊢
                  refine wpAny_tail0 (by rfl) (by kernel_rfl) (by kernel_rfl) ?_
                  repeat (go_big_quiet_step (fail))
                  refine wpQuiet_nil ?_
                  rintro _ ⟨nq, rfl⟩
                  clear e1 e2
                  have B3 := Lib.hid (B2.out.drewN nq)
                  clear B2
                  generalize wq.drewN nq = wr3 at B3 ⊢
                  have c1 : wr3.cell? ⟨Wb, wy, none⟩ = some (.int .i64 L) := by rw [HL.out]; exact B3.out.sn.cw
                  have c2 := B3.out.sn.cm
                  obtain ⟨hF1, hgood⟩ := HN6.out.good.deliver wy A hwy (lo, fl) hq
                  obtain ⟨W2, hupd, hm2, hg2⟩ := B3.out.sn.mp.update (by omega) lo (F wy lo - 1) (by omega) (by have := HN6.out.good.bnd wy hwy lo; omega)
                  have hlook := B3.out.sn.mp.look lo (by omega)
                  have hlook2 := hm2.look lo (by omega)
                  rw [upd_same] at hlook2
                  obtain ⟨c5, f5, c6⟩ := B3.out.sn.behind rfl hg2
                  rw [← HL.out] at c5
                  obtain ⟨cf, hcf⟩ : ∃ cf, F wy lo = cf + 1 := ⟨F wy lo - 1, by have : 1 ≤ F wy lo := hF1; omega⟩
                  obtain ⟨Mw, hMw⟩ : ∃ Mw, Mw = M wy := ⟨_, rfl⟩
                  have hcf2 : cf ≤ 300 := by have := HN6.out.good.bnd wy hwy lo; omega
                  rw [hcf, Nat.add_sub_cancel] at hupd hlook2
                  rw [hcf] at hlook
                  rw [← hMw] at c2 c6 hupd hlook hlook2
                  push_cast at hlook
                  have hL1 : 1 ≤ L := by omega
                  have hlen1 : ((upd d wy ((d wy).eraseIdx A) wy).length : Int) = (L : Int) - 1 := by
                    have := HL.out
                    rw [upd_same, List.length_eraseIdx, if_pos (by omega)]
                    omega
                  have HS1 := Lib.hid hlen1
                  have HM2 := Lib.hid hm2
                  have HG2 := Lib.hid hg2
                  have HGd := Lib.hid hgood
                  clear hcf hMw hlen1 hm2 hg2 hgood hF1 hq g1 g2
                  go_wp2_with fail
                  have hN9 := HN6.out.count wy hwy B3.out.has B3.out.k5 HM2.out HG2.out (HGd.out.more (by omega)) (S' := S) (by have := HN6.out.sk; omega) (by omega) (fun i _ e => by rw [upd_other _ _ e]) (W2.setCell ⟨Wb, wy, none⟩ (.int .i64 ((L : Int) - 1))) (Or.inl (by rw [HS1.out]))
                  refine TL.out S _ _ Ds _ _ hN9 ?_
                  exact ⟨rfl, rfl, rfl, rfl, rfl, rfl, rfl, rfl, rfl, rfl⟩
              · have DV := Lib.hid (noth_gone HN6.out wy hwy A (by omega))
                have HL := Lib.hid hL
                have dA' := dA
                clear hL hX0
                rcases hX2 with rfl | rfl
                all_goals
                  go_wp2_with fail
                  refine (deliver_err _ wy A _ ⟨_, rfl⟩ 6 (by omega) _ DV.out).mono ?_
                  rintro e W1 ⟨rfl, rfl⟩
                  have BH : Behind w N Mb Wb M k d d F wy Ab A w6 w6 := ⟨HN6.out.seen wy hwy (fun _ _ h _ => h), fun _ _ h _ => h, HN6.out.has, dA⟩
                  have B1 := Lib.hid (BH.drewN 1)
                  have HN7 := Lib.hid (HN6.out.below (W' := w6.drew) ⟨rfl, rfl, rfl, Nat.le_refl _, fun _ _ => rfl⟩)
                  clear BH dA d0 hAb DV HN6
                  go_wp2_with fail
                  refine wp_region_any (by kernel_rfl) ?_
                  change wpAny _ _ _ _ _ _ _ (World.drew _)
                  change Hid (Behind w N Mb Wb M k d d F wy Ab A w6 w6.drew) at B1
                  generalize w6.drew = wq at B1 HN7 ⊢
                  have c1 : wq.cell? ⟨Wb, wy, none⟩ = some (.int .i64 L) := by rw [HL.out]; exact B1.out.sn.cw
                  have c2 := B1.out.dA
                  refine wpAny_tail0 (by rfl) (by kernel_rfl) (by kernel_rfl) ?_
                  repeat (go_big_quiet_step (fail))
                  refine wpQuiet_nil ?_
                  rintro _ ⟨nq, rfl⟩
                  clear c1 c2
                  have hN9 := HN7.out.below (W' := wq.drewN nq) ⟨rfl, rfl, rfl, Nat.le_refl _, fun _ _ => rfl⟩
                  have HN9 := Lib.hid hN9
                  clear hN9 B1 HN7
                  go_wp2_with fail
                  refine TL.out S d F Ds _ _ (HN9.out.next (by omega)) ?_
                  exact ⟨rfl, rfl, rfl, rfl, rfl, rfl, rfl, rfl, rfl, rfl⟩
            · · by_cases hX5 : X = 5
                · subst hX5
                  have hwyI : (wy : Int) < 2 := by omega
                  obtain ⟨L, hL⟩ : ∃ L, L = (d wy).length := ⟨_, rfl⟩
                  have hL64 : L ≤ 64 := by have := HN6.out.good.len wy hwy; omega
                  have HL := Lib.hid hL
                  by_cases hAL : A < L
                  · have DV := Lib.hid (noth_flip HN6.out wy hwy A (by omega))
                    clear hL hX0 hX2
                    go_wp2_with fail
                    refine DV.out.mono ?_
                    rintro e W1 ⟨rfl, d', hN7, hl7, hA7⟩
                    have hAb7 := hA7 Ab _ hAb (fun c t f e => by cases e; decide)
                    have BH : Behind w N Mb Wb M k d' d' F wy Ab A W1 W1 := ⟨hN7.seen wy hwy (fun _ _ h _ => h), fun _ _ h _ => h, hN7.has, by simp [World.cell?, hAb7]⟩
                    have B1 := Lib.hid (BH.drewN 1)
                    have HN7 := Lib.hid (hN7.below (W' := W1.drew) ⟨rfl, rfl, rfl, Nat.le_refl _, fun _ _ => rfl⟩)
                    have HL7 := Lib.hid hl7
                    clear BH dA d0 hAb DV HN6 hN7 hl7 hA7 hAb7
                    go_wp2_with fail
                    refine wp_region_any (by kernel_rfl) ?_
                    change wpAny _ _ _ _ _ _ _ (World.drew _)
                    change Hid (Behind w N Mb Wb M k d' d' F wy Ab A W1 W1.drew) at B1
                    have c1 : W1.drew.cell? ⟨Wb, wy, none⟩ = some (.int .i64 L) := by rw [HL.out, ← HL7.out]; exact B1.out.sn.cw
                    have c2 := B1.out.dA
                    clear B1
                    generalize W1.drew = wq at c1 c2 HN7 ⊢
                    refine wpAny_tail0 (by rfl) (by kernel_rfl) (by kernel_rfl) ?_
                    repeat (go_big_quiet_step (fail))
                    refine wpQuiet_nil ?_
                    rintro _ ⟨nq, rfl⟩
                    clear c1 c2
                    have HN9 := Lib.hid (HN7.out.below (W' := wq.drewN nq) ⟨rfl, rfl, rfl, Nat.le_refl _, fun _ _ => rfl⟩)
                    clear HN7
                    go_wp2_with fail
                    refine TL.out S d' F Ds _ _ (HN9.out.next (by omega)) ?_
                    exact ⟨rfl, rfl, rfl, rfl, rfl, rfl, rfl, rfl, rfl, rfl⟩
                  · have DV := Lib.hid (noth_gone HN6.out wy hwy A (by omega))
                    clear hL hX0 hX2
                    go_wp2_with fail
                    refine (flip_err _ wy A 24 _ ⟨_, rfl⟩ 6 (by omega) _ DV.out).mono ?_
                    rintro e W1 ⟨rfl, rfl⟩
                    have BH : Behind w N Mb Wb M k d d F wy Ab A w6 w6 := ⟨HN6.out.seen wy hwy (fun _ _ h _ => h), fun _ _ h _ => h, HN6.out.has, dA⟩
                    have B1 := Lib.hid (BH.drewN 1)
                    have HN7 := Lib.hid (HN6.out.below (W' := w6.drew) ⟨rfl, rfl, rfl, Nat.le_refl _, fun _ _ => rfl⟩)
                    clear BH dA d0 hAb DV HN6
                    go_wp2_with fail
                    refine wp_region_any (by kernel_rfl) ?_
                    change wpAny _ _ _ _ _ _ _ (World.drew _)
                    change Hid (Behind w N Mb Wb M k d d F wy Ab A w6 w6.drew) at B1
                    generalize w6.drew = wq at B1 HN7 ⊢
                    have c1 : wq.cell? ⟨Wb, wy, none⟩ = some (.int .i64 L) := by rw [HL.out]; exact B1.out.sn.cw
                    have c2 := B1.out.dA
                    refine wpAny_tail0 (by rfl) (by kernel_rfl) (by kernel_rfl) ?_
                    repeat (go_big_quiet_step (fail))
                    refine wpQuiet_nil ?_
                    rintro _ ⟨nq, rfl⟩
                    clear c1 c2
                    have HN9 := Lib.hid (HN7.out.below (W' := wq.drewN nq) ⟨rfl, rfl, rfl, Nat.le_refl _, fun _ _ => rfl⟩)
                    clear B1 HN7
                    go_wp2_with fail
                    refine TL.out S d F Ds _ _ (HN9.out.next (by omega)) ?_
                    exact ⟨rfl, rfl, rfl, rfl, rfl, rfl, rfl, rfl, rfl, rfl⟩
                · have n0 : ((X : Int) == 0) = false := by rw [beq_eq_false_iff_ne]; omega
                  have n1 : ((X : Int) == 1) = false := by rw [beq_eq_false_iff_ne]; omega
                  have n2 : ((X : Int) == 2) = false := by rw [beq_eq_false_iff_ne]; omega
                  have n3 : ((X : Int) == 3) = false := by rw [beq_eq_false_iff_ne]; omega
                  have n4 : ((X : Int) == 4) = false := by rw [beq_eq_false_iff_ne]; omega
                  have n5 : ((X : Int) == 5) = false := by rw [beq_eq_false_iff_ne]; omega
                  clear hX0 hX2 hX5
                  go_wp2_with fail
                  exact TL.out S d F Ds _ _ (HN6.out.next (by omega)) ⟨rfl, rfl, rfl, rfl, rfl, rfl, rfl, rfl, rfl, rfl⟩
  · obtain rfl : k = len := by omega
    have HN6 := Lib.hid hN
    clear hmm hN Hx hK hnum
    go_wp2_with fail
    refine (wakes11 _).mono ?_
    rintro e W5 ⟨rfl, hw⟩
    go_wp2
    exact noth_leave HN6.out hw (.inr rfl) rfl
end Go.Proofs.Ytbmhgdfkkiepaaa
