/-
  IntakeOrder: the walk.
-/
import Derived.Test.YtmghgjokleeigaaOrS
import Derived.Test.YtmghgjokleeigaaInKnW
import Derived.Shelf.RegionOpen
import Derived.Laws.EntriesVeiled
import Derived.Lib.SlBytesConst
namespace Go.Proofs.Ytmghgjokleeigaa
open Go.RowKit Go.Shelf Go.Maps
attribute [local go_sem] Oper.semAt_some wide_fn_eq wide_depth
theorem ord_start {w w1 : World} {I M : Nat} (h1 : Kept (w.alloc (.cells #[.bool false] 4)) I M 0 0 (fun _ => none) (fun _ => False) w1) (b1 : Below (w.alloc (.cells #[.bool false] 4)).heap.size (w.alloc (.cells #[.bool false] 4)) w1) :
    OrdF w I M (w1.heap.size + 1 + 1) w.heap.size w1.heap.size (w1.heap.size + 1) (w1.heap.size + 1 + 1 + 1) (w1.heap.size + 1 + 1 + 1 + 1) 0 0 (fun _ => none)
      (((((w1.alloc (.cells #[.pointer (some ⟨I, 0, none⟩)] 63)).alloc (.cells #[.int .u32 0] 22)).alloc (.map #[] 0)).alloc (.cells #[.map (some (w1.heap.size + 1 + 1))] 65)).alloc (.cells #[.func (.func 46) #[] #[.pointer (some ⟨w1.heap.size, 0, none⟩), .pointer (some ⟨w1.heap.size + 1 + 1 + 1, 0, none⟩), .pointer (some ⟨w1.heap.size + 1, 0, none⟩)]] 75)) := by
  have hk : Kept w I M 0 0 (fun _ => none) (fun _ => True) w1 := (h1.rebase ((Below.refl _ _).alloc (Nat.le_refl _) _)).mono (fun _ _ => trivial) (Nat.le_refl _)
  have hsz := b1.size
  simp only [World.size_alloc] at hsz
  have hlt := hk.lt
  have hM0 := MapU.made ((w1.alloc (.cells #[.pointer (some ⟨I, 0, none⟩)] 63)).alloc (.cells #[.int .u32 0] 22))
  simp only [World.size_alloc] at hM0
  have hb2 : w1.heap[w.heap.size]? = some (.cells #[.bool false] 4 (0, 0)) := (b1.block _ (by simp)).trans (alloc_new _ _)
  refine ⟨⟨((((hk.al _).al _).al _).al _).al _, win_none 0, fun _ _ e => (by cases e), by omega, fun _ e => absurd rfl e, ⟨[], hM0.same ?_, fun j => by simp⟩, ?_, ?_, ?_, by omega, by omega, by omega⟩, ⟨.bool false, Eq.trans ?_ hb2⟩, ?_, Nat.le_refl _⟩
  all_goals (simp only [alloc_at, World.size_alloc]; repeat (first | rfl | rw [if_pos (by omega)] | rw [if_neg (by omega)]))
theorem results_cell {fn : Func} {a : Tmp} {W : World} {C : Nat} {v : Value} (h : fn.results = #[.cell a 4]) (tmps : Array Value) (ht : tmps.getD a undef = .pointer (some ⟨C, 0, none⟩)) (hc : W.heap[C]? = some (.cells #[v] 4 (0, 0))) : (results fn tmps).run Try.prog W = .ok v W := by
  have c := one_cell hc
  have ht2 : tmps[a]?.getD undef = .pointer (some ⟨C, 0, none⟩) := by simpa using ht
  simp [results, h, ht2, loadVar, asAddr, c, go_sem, Try.underlying4]
theorem ord_leave {w : World} {I M T C2 C3 C4 C5 C6 n fl : Nat} {q : Qv} {W : World} {Ds : List Nat} {tmps : Array Value} {v2 : Value} (h : OrdF w I M T C2 C3 C4 C5 C6 n fl q W) (hm : MarksIn w.heap.size Ds W) (hb : W.heap[C2]? = some (.cells #[v2] 4 (0, 0))) (hr : tmps.getD 2 undef = .pointer (some ⟨C2, 0, none⟩)) :
    bodyPostM Fence.wide 0 Try.prog Try.f9 (TruePost w) .ret { tmps := tmps, defers := marks Ds } (W.setCell ⟨C2, 0, none⟩ (.bool true)) := by
  have hne : ∀ D ∈ Ds, D ≠ C2 := fun D hD e => by
    have := (hm.2 D hD).2
    rw [e, hb] at this
    cases this
  refine leave_marks (.inr rfl) Ds hm.1 (fun D hD => (setCell_heap_other (hne D hD)).trans (hm.2 D hD).2) (v := .bool true) ?_ ⟨rfl, ?_⟩
  · refine results_cell (a := 2) rfl _ hr ?_
    rw [unmark_other Ds _ (fun hD => hne _ hD rfl)]
    exact one_setCell hb
  · exact unmark_below Ds _ w (h.s.kp.bel.setCell h.lo2 _) (fun D hD => (hm.2 D hD).1)
set_option maxRecDepth 100000 in
set_option maxHeartbeats 8000000 in
theorem inorder_walk (a : Option Addr) (len cap : Nat) (hlen : len ≤ 9223372036854775807) (w : World) (x : Nat → Nat)
    (hx : ∀ i, i < len → (∃ b o, a = some ⟨b, o, none⟩ ∧ b < w.heap.size ∧ w.cell? ⟨b, o + i, none⟩ = some (.int .u8 (x i))) ∧ x i ≤ 255) : Calls Try.prog 9 #[.slice a len cap] w (TruePost w) := by
  have Hx := Lib.hid hx
  clear hx
  have hmm := @run_makeMap Try.prog
  refine (callsIn_wide (n := 0)).1 (callsIn_of_wp_marks Try.func9 rfl trivial ?_)
  refine wpIn_wide.2 ?_
  simp only [Try.ntmps9, List.size_toArray, List.length_cons, List.length_nil, Nat.reduceAdd, Nat.reduceSub, Array.replicate_succ, Array.replicate_zero, List.push_toArray, List.append_toArray, List.nil_append, List.cons_append]
  go_wp2_with fail
  refine (kept_new _).mono ?_
  rintro e w1 ⟨I, M, rfl, h1, b1⟩
  go_wp2_with fail
  have h0 := ord_start h1 b1
  have hb1 : w.heap.size + 1 ≤ w1.heap.size := by have := b1.size; simpa using this
  generalize (((((w1.alloc (.cells #[.pointer (some ⟨I, 0, none⟩)] 63)).alloc (.cells #[.int .u32 0] 22)).alloc (.map #[] 0)).alloc (.cells #[.map (some (w1.heap.size + 1 + 1))] 65)).alloc (.cells #[.func (.func 46) #[] #[.pointer (some ⟨w1.heap.size, 0, none⟩), .pointer (some ⟨w1.heap.size + 1 + 1 + 1, 0, none⟩), .pointer (some ⟨w1.heap.size + 1, 0, none⟩)]] 75)) = w2 at h0 ⊢
  clear h1 b1 hb1
  generalize w1.heap.size = C3 at h0 ⊢
  obtain ⟨C2, hC2⟩ : ∃ C2, C2 = w.heap.size := ⟨_, rfl⟩
  rw [← hC2] at h0 ⊢
  have H0 := Lib.hid h0
  clear h0 hC2
  go_wp2_with fail
  rename_i K hK
  have HC : ∀ (t : Array Value) (wx : World) (n fl : Nat) (q : Qv), n ≤ 120 → OrdF w I M (C3 + 1 + 1) C2 C3 (C3 + 1) (C3 + 1 + 1 + 1) (C3 + 1 + 1 + 1 + 1) n fl q wx → FrmA C2 C3 (C3 + 1) (C3 + 1 + 1 + 1) (C3 + 1 + 1 + 1 + 1) t → K { tmps := t, defers := [] } wx := by
    clear Hx H0
    intro t wx n fl q hn hS hfr
    obtain ⟨C6, hC6⟩ : ∃ C6, C6 = C3 + 1 + 1 + 1 + 1 := ⟨_, rfl⟩
    obtain ⟨C5, hC5⟩ : ∃ C5, C5 = C3 + 1 + 1 + 1 := ⟨_, rfl⟩
    obtain ⟨T, hT⟩ : ∃ T, T = C3 + 1 + 1 := ⟨_, rfl⟩
    obtain ⟨C4, hC4⟩ : ∃ C4, C4 = C3 + 1 := ⟨_, rfl⟩
    rw [← hC6, ← hC5, ← hT, ← hC4] at hS
    rw [← hC6, ← hC5, ← hC4] at hfr
    clear hC6 hC5 hT hC4
    obtain ⟨u, rfl⟩ := hfr.lit
    refine hK _ _ ?_
    clear hK K hfr
    have HS := Lib.hid hS
    clear hS
    go_wp2_with fail
    refine wp_loop_marks (OrdI w I M T C2 C3 C4 C5 C6) 50 [] ⟨0, n, fl, q, rfl, by omega, by omega, .inl (by omega), HS.out, MarksIn.nil _ _, rfl, rfl, rfl, rfl, rfl, rfl, rfl⟩ ?_
    clear HS hn
    rintro num Ds t wr ⟨k, n, fl, q, hnum, hk, hn, hkf, hS, hM, hfr⟩ K hK
    obtain ⟨u, rfl⟩ := hfr.lit
    clear hfr
    have HK := Lib.hid hK
    have HS := Lib.hid hS
    have HM := Lib.hid hM
    have hfl := hS.s.f40
    have c3 := one_cell hS.s.b3
    clear hS hM hK
    by_cases hlt : k < 50
    · have hlti : decide ((k : Int) < 50) = true := decide_eq_true (by omega)
      go_wp2_with fail
      refine (kept_told HS.out.s.kp (by omega)).mono ?_
      rintro e W3 ⟨rfl, b3⟩
      have HS3 := Lib.hid (HS.out.below b3)
      have HM3 := Lib.hid (HM.out.keep fun D e => (b3.block D (block_lt e)).trans e)
      have hz3 := HS3.out.s.kp.bel.size
      clear b3 HS HM c3
      have hml := maskQ_lt q fl (by omega)
      go_wp2_with fail
      have J0 : Below W3.heap.size W3 ((W3.alloc (.map #[] 0)).alloc (.cells #[.map (some W3.heap.size)] 65)) :=
        ((Below.refl _ _).alloc (Nat.le_refl _) _).alloc (by simp) _
      have J1 : MapU W3.heap.size 0 [] ((W3.alloc (.map #[] 0)).alloc (.cells #[.map (some W3.heap.size)] 65)) := (MapU.made W3).same (by
        simp only [alloc_at, World.size_alloc]; repeat (first | rfl | rw [if_pos (by omega)] | rw [if_neg (by omega)]))
      have J2 : ((W3.alloc (.map #[] 0)).alloc (.cells #[.map (some W3.heap.size)] 65)).heap[W3.heap.size + 1]? = some (.cells #[.map (some W3.heap.size)] 65 (0, 0)) := by
        simp only [alloc_at, World.size_alloc]; repeat (first | rfl | rw [if_pos (by omega)] | rw [if_neg (by omega)])
      generalize (W3.alloc (.map #[] 0)).alloc (.cells #[.map (some W3.heap.size)] 65) = W4 at J0 J1 J2 ⊢
      have hz4 := block_lt J2
      refine (told_it fl (maskQ q fl) (by omega) hml _).mono ?_
      rintro e W12 ⟨gt, lbt, rfl, b12, hit⟩
      rw [toldL_ids HS3.out.s.wn (by omega)] at hit
      have HIT := Lib.hid hit
      have J0' := J0.trans (b12.mono J0.size)
      have J1' := J1.same (b12.block _ J1.lt)
      have J2' := (b12.block _ hz4).trans J2
      have hz12 := b12.size
      clear hit b12 J0 J1 J2
      go_wp2_with fail
      refine (safe_any _ _ _).mono ?_
      rintro e w' ⟨rfl, rfl⟩
      go_wp2_with fail
      refine (wpIn_wide (n := 0)).1 ?_
      refine wp_range (gf := gt) rfl HIT.out.ent HIT.out.it (fun _ => by rfl)
        (fun pre W => Below W3.heap.size W3 W ∧ MapU W3.heap.size pre.length pre W ∧ W.heap[W3.heap.size + 1]? = some (.cells #[.map (some W3.heap.size)] 65 (0, 0)) ∧ (Lies W4.heap.size W12.heap.size W12 W ∧ W12.heap.size ≤ W.heap.size))
        (fun c pre W => False)
        (fun _ => (Stb.below (Nat.le_refl _) (by omega)).and (Stb.mapU.and ((Stb.block _ _ _ rfl).and (Stb.lies (Nat.le_refl _) (Nat.le_refl _)))))
        (fun c pre => Stb.pure _ _) ?pre ⟨J0', J1', J2', Lies.refl _ _ _, Nat.le_refl _⟩ ?a3 ?assign ?body ?done ?stop
      case pre =>
        rintro pre W ⟨_, _, _, h, _⟩
        exact ⟨h, trivial⟩
      case assign =>
        intro l' x W' K hK
        gi_wp2
        exact hK
      case stop =>
        rintro D c pre rest W hD hS hF
        exact hF.elim
      case body =>
        rintro l' pre x rest W hS hl ⟨_, hr⟩ ⟨hB, hU, h1, h2, h3⟩
        have hx40 : x < 40 := HS3.out.s.forty x ((mem_idsQ HS3.out.s.wn x).1 (by rw [← hS]; simp))
        have hlen15 := len_idsQ q fl
        rw [← hS] at hlen15
        simp only [List.length_append, List.length_cons] at hlen15
        have hnot : x ∉ pre := fun hm => by
          have hnd := nodup_idsQ q fl
          rw [← hS, List.nodup_append] at hnd
          exact hnd.2.2 x hm x (by simp) rfl
        obtain ⟨W', hupd, hm', ht'⟩ := hU.put (by omega) x (by omega)
        rw [addN, if_neg hnot] at hm'
        have c1 := one_cell h1
        have HB := Lib.hid hB; have H1 := Lib.hid h1; have H2 := Lib.hid h2; have HM := Lib.hid hm'; have HT := Lib.hid ht'
        obtain ⟨es0, k0, hobj⟩ := hU.obj
        have HO := Lib.hid hobj
        have hltU := hU.lt
        clear hB h1 h2 hm' ht' hU hr hS hnot hobj J0' J1' J2'
        gi_wp2
        have hk := turned_block HT.out
        refine ⟨⟨Nat.le_of_eq (turned_size HT.out).symm, fun k' o hB hko hbk => (hk k' ?_).trans hko⟩, HB.out.grown HT.out.grown HB.out.size (fun j e => by cases e; exact Nat.le_refl _), by rw [List.length_append, List.length_singleton]; exact HM.out, (hk _ (by omega)).trans H1.out, ⟨fun k' h5 h6 => (hk k' (by omega)).trans (H2.out k' h5 h6), by rw [turned_size HT.out]; exact h3⟩⟩
        rintro rfl
        rw [HO.out] at hko; cases hko; cases hbk
      case done =>
        rintro D xs W13 hD rfl ⟨hB, hU, h1, h2, h3⟩ hKD
        have hS13 := HS3.out.below hB
        have hM13 : MarksIn w.heap.size (D :: Ds) W13 := (HM3.out.keep fun D' e => (hB.block D' (block_lt e)).trans e).more (by omega) hKD (fun hm => by have := block_lt (HM3.out.2 D hm).2; omega)
        have HU := Lib.hid hU; have H1 := Lib.hid h1; have HS13 := Lib.hid hS13; have HM13 := Lib.hid hM13
        have hlt4 : I < W3.heap.size ∧ M < W3.heap.size ∧ T < W3.heap.size ∧ C4 < W3.heap.size := by
          obtain ⟨ks, k1, _⟩ := HS3.out.s.tk
          exact ⟨HS3.out.s.kp.lt.1, HS3.out.s.kp.lt.2, k1.lt, block_lt HS3.out.s.b4⟩
        have hz13 := block_lt h1
        clear hB hU h1 h2 h3 hKD hS13 hM13 HS3 HM3 J0' J1' J2' HIT
        go_wp2_with fail
        obtain ⟨tz, htz⟩ : ∃ tz, tz = min (fl + 16) 40 := ⟨_, rfl⟩
        have hmin : min ((fl : Int) + 16) 40 = (tz : Int) := by omega
        have htz1 : tz ≤ fl + 16 ∧ tz ≤ 40 := by omega
        have htz2 : fl < 40 → fl < tz := by omega
        rw [hmin]
        clear hmin htz
        refine (missing_it fl tz 49 #[.pointer (some ⟨W3.heap.size + 1, 0, none⟩)] enters49 (by omega) (by omega) _ _ (asks49 W3.heap.size (W3.heap.size + 1) (idsQ q fl).length (idsQ q fl) _ (fun x hx => by rw [List.mem_range'_1] at hx; omega)) W13).mono ?_
        rintro e W14 ⟨g2, lb2, rfl, b14, hit2⟩
        have HIT2 : Hid (It g2 lb2 (missL2 q fl tz) (fun W => MapU W3.heap.size (idsQ q fl).length (idsQ q fl) W ∧ W.heap[W3.heap.size + 1]? = some (.cells #[.map (some W3.heap.size)] 65 (0, 0))) W13.heap.size W14) := Lib.hid hit2
        have hz14 := b14.size
        have HR : Hid (OrdR w I M T C2 C3 C4 C5 C6 n fl W3.heap.size W13.heap.size (idsQ q fl) W14 (D :: Ds) [] W14) :=
          Lib.hid ⟨⟨n, fl, q, HS13.out.below b14, by omega, Nat.le_refl _, fun j hj => by simp at hj⟩, HU.out.same (b14.block _ HU.out.lt), (b14.block _ hz13).trans H1.out, Lies.refl _ _ _, Nat.le_refl _, HM13.out.keep fun D' e => (b14.block D' (block_lt e)).trans e⟩
        have hDs : ∀ D' ∈ D :: Ds, D' < W14.heap.size := fun D' hD' => Nat.lt_of_lt_of_le (block_lt (HM13.out.2 D' hD').2) hz14
        have HDs := Lib.hid hDs
        have hw14 : w.heap.size ≤ W14.heap.size := Nat.le_trans HS13.out.s.kp.bel.size hz14
        have HWN := Lib.hid HS13.out.s.wn
        clear hit2 b14 HS13 HM13 HU H1 hDs
        go_wp2_with fail
        refine (safe_any _ _ _).mono ?_
        rintro e w' ⟨rfl, rfl⟩
        go_wp2_with fail
        refine (wpIn_wide (n := 0)).1 ?_
        refine wp_range (gf := g2) rfl HIT2.out.ent HIT2.out.it (fun _ => by rfl)
          (fun pre W => OrdR w I M T C2 C3 C4 C5 C6 n fl W3.heap.size W13.heap.size (idsQ q fl) W14 (D :: Ds) pre W)
          (fun c pre W => False)
          (fun pre => OrdR.stb pre hw14 (Nat.le_refl _) HDs.out)
          (fun c pre => Stb.pure _ _) ?pre2 HR.out ?a4 ?assign2 ?body2 ?done2 ?stop2
        case pre2 =>
          rintro pre W h
          exact ⟨h.l, h.u, h.c⟩
        case assign2 =>
          intro l' x W' K hK
          gi_wp2
          exact hK
        case stop2 =>
          rintro D c pre rest W hD hS hF
          exact hF.elim
        case body2 =>
          rintro l' pre x rest W hS hl ⟨_, hr⟩ hR
          obtain ⟨n', fl', q', hF, hn', hfl', hpre⟩ := hR.s
          have hx := missL2_in (x := x) (q := q) (fl := fl) (tz := tz) (by rw [← hS]; simp)
          have hlen := missL2_len q fl tz
          rw [← hS] at hlen
          simp only [List.length_append, List.length_cons] at hlen
          have d6 := one_cell hF.b6
          have HF := Lib.hid hF; have HRR := Lib.hid hR; have HP := Lib.hid hpre
          have B0 : Below W.heap.size W W.drew := ⟨rfl, rfl, rfl, Nat.le_refl _, fun _ _ => rfl⟩
          have P44 : ∀ A : World, Below W.heap.size W A → Calls Try.prog 44 #[.int .u32 x] A fun e B => ∃ p l c, e = .returned (.slice p l c) ∧ Below W.heap.size W B ∧ Rd B (.slice p l c) (byts (payloadL x)) ∧ (payloadL x).length = l ∧ B.cell? ⟨C6, 0, none⟩ = some (.func (.func 46) #[] #[.pointer (some ⟨C3, 0, none⟩), .pointer (some ⟨C5, 0, none⟩), .pointer (some ⟨C4, 0, none⟩)]) := by
            intro A hA
            refine (payload44 x (by omega) A).mono ?_
            rintro e B ⟨v, rfl, ho, hb⟩
            obtain ⟨p, l, c, rfl⟩ := ho.form'
            have hAB := hA.trans (hb.mono hA.size)
            exact ⟨p, l, c, rfl, hAB, ho.rd, by have := ho.len'; rw [List.length_map] at this; exact this.symm, (hAB.cell (World.block_lt_of_cell? _ _ d6)).trans d6⟩
          have P46 : ∀ (A : World) (p : Option Addr) (l c : Nat), Below W.heap.size W A → Rd A (.slice p l c) (byts (payloadL x)) → (payloadL x).length = l → Calls Try.prog 46 #[.int .u32 x, .slice p l c, .pointer (some ⟨C3, 0, none⟩), .pointer (some ⟨C5, 0, none⟩), .pointer (some ⟨C4, 0, none⟩)] A fun e B => e = .returned (.bool true) ∧ KeepBk W14.heap.size W B ∧ OrdR w I M T C2 C3 C4 C5 C6 n fl W3.heap.size W13.heap.size (idsQ q fl) W14 (D :: Ds) (pre ++ [x]) B := by
            intro A p l c hA hrd hpl
            refine (on46 (HF.out.below hA).s x (by omega) (by omega) p l c (by have := payloadL_len x; omega) (.inr ⟨hrd, hpl⟩)).mono ?_
            intro e B ho
            exact HRR.out.next hA hlt4 hz13 hz14 HF.out hn' hfl' HP.out (by omega) ho
          have hmx : Try.prog.follows .mixedOrders = true := by kernel_rfl
          clear hr hS hR hF hpre HR HIT2
          gi_wp2_with fail
          gi_region_with_o (first | (gi_at_call 44; refine (CallsIn.inRound l' ((callsIn_wide (n := 0)).2 (P44 _ (by assumption)))).mono ?_; rintro e w' ⟨p, l, c, rfl, hb, hr1, hr2, hc⟩) | (gi_at_call 46; refine (CallsIn.inRound l' ((callsIn_wide (n := 0)).2 (P46 _ _ _ _ (by assumption) (by assumption) (by assumption)))).mono ?_; rintro e w' ⟨rfl, hgood⟩))
          all_goals gi_wp2
          all_goals exact hgood
        case done2 =>
          rintro D2 xs W15 hD2 rfl hR hKD2
          obtain ⟨n', fl', q', hF, hn', hfl', hpre⟩ := hR.s
          have hlen := missL2_len q fl tz
          have hM15 : MarksIn w.heap.size (D2 :: D :: Ds) W15 := hR.m.more (by omega) hKD2 (fun hm => by have := HDs.out D2 hm; omega)
          have hprog : k + 1 ≤ fl' ∨ fl' = 40 := by
            have hf40 := hF.s.f40
            by_cases h40 : fl < 40
            · have hin := hpre fl (missL2_first HWN.out (htz2 h40))
              rcases hin with hin | hin
              · rcases hkf with h | h <;> omega
              · have := hF.s.wn.lo fl hin; omega
            · omega
          have HF := Lib.hid hF; have HM15 := Lib.hid hM15
          clear hR hKD2 hF hM15 hpre HR HIT2
          go_wp2_with fail
          exact HK.out (50 - (k + 1)) (D2 :: D :: Ds) _ _ (by omega) ⟨k + 1, n', fl', q', rfl, by omega, by omega, hprog, HF.out, HM15.out, rfl, rfl, rfl, rfl, rfl, rfl, rfl⟩
    · obtain rfl : fl = 40 := by omega
      have e0 : idsQ q 40 = [] := List.eq_nil_iff_forall_not_mem.2 fun j hj => by
        have h1 := (mem_idsQ HS.out.s.wn j).1 hj
        have := HS.out.s.wn.lo j h1
        have := HS.out.s.forty j h1
        omega
      have hlti : decide ((k : Int) < 50) = false := decide_eq_false (by omega)
      have c4 := one_cell HS.out.s.b4
      have PW := kept_waits HS.out.s.kp
      have PB := kept_bytes HS.out.s.kp HS.out.s.wn (by omega)
      have eS : sumQ q 40 = 0 := by unfold sumQ; rw [e0]; rfl
      rw [e0] at PW
      rw [eS] at PB
      clear e0 eS
      go_wp2_with fail
      refine PW.mono ?_
      rintro e w' ⟨rfl, rfl⟩
      go_wp2_with fail
      refine PB.mono ?_
      rintro e W5 ⟨rfl, b5⟩
      have HS5 := Lib.hid (HS.out.below b5)
      have HM5 := Lib.hid (HM.out.keep fun D e => (b5.block D (block_lt e)).trans e)
      clear b5 HS HM c3 c4 PW PB
      go_wp2_with fail
      refine (wakes45 _).mono ?_
      rintro e W6 ⟨rfl, b6⟩
      have HS6 := Lib.hid (HS5.out.below b6)
      have HM6 := Lib.hid (HM5.out.keep fun D e => (b6.block D (block_lt e)).trans e)
      obtain ⟨v2, hb2⟩ := HS6.out.b2
      have d2 := one_cell hb2
      have f2 := one_free hb2
      have HB2 := Lib.hid hb2
      clear b6 HS5 HM5 hb2
      go_wp2
      exact ord_leave HS6.out HM6.out HB2.out rfl
  have HCC := Lib.hid HC
  clear HC hK
  go_loopw [21] (fun iv wr => ∃ (k n fl : Nat) (q : Qv), k ≤ len ∧ k ≤ 120 ∧ iv = .int .i64 k ∧ n ≤ k ∧ OrdF w I M (C3 + 1 + 1) C2 C3 (C3 + 1) (C3 + 1 + 1 + 1) (C3 + 1 + 1 + 1 + 1) n fl q wr) (fun iv _ => len - (intOf iv).toNat)
  case atStart => exact ⟨0, 0, 0, _, by omega, by omega, rfl, by omega, H0.out⟩
  case round =>
    obtain ⟨k, n, fl, q, hk, hk120, rfl, hnk, hS⟩ := hrel
    clear H0
    by_cases hlt : k < len
    · obtain ⟨⟨b, o, rfl, hb, a0⟩, hx5⟩ := Hx.out k hlt
      generalize x k = X at a0 hx5
      replace a0 := (hS.s.kp.bel.cell (p := ⟨b, o + k, none⟩) hb).trans a0
      have HS := Lib.hid hS
      clear hS Hx hb
      by_cases h120 : k = 120
      · subst h120
        go_wp2_with fail
        exact HCC.out _ _ n fl q (by omega) HS.out ⟨rfl, rfl, rfl, rfl, rfl, rfl⟩
      · have h120' : ((k : Int) == 120) = false := by rw [beq_eq_false_iff_ne]; omega
        obtain ⟨N, hN⟩ : ∃ N, N = X % 40 := ⟨_, rfl⟩
        have hN40 : N < 40 := by omega
        have hm1 : (X : Int) % 40 = (N : Int) := by omega
        have hm2 : (X : Int).tmod 40 = (N : Int) := by rw [hN]; rfl
        clear hN
        go_wp2_with fail
        refine (payload44 N (by omega) _).mono ?_
        rintro e w5 ⟨v5, rfl, o5, b5⟩
        obtain ⟨p5, l5, c5, rfl⟩ := o5.form'
        have hl5 : (payloadL N).length = l5 := by have := o5.len'; rw [List.length_map] at this; exact this.symm
        have hl5' : l5 ≤ 256 := by rw [payloadL_len] at hl5; omega
        have HS5 := Lib.hid (HS.out.below b5)
        have HR5 := Lib.hid o5.rd
        have HL5 := Lib.hid hl5
        obtain ⟨ks, hks, hks2⟩ := HS5.out.s.tk
        have hlook := hks.look N (by omega)
        obtain ⟨sv, hsv⟩ : ∃ sv : Int, sv = if N ∈ ks then 1 else 0 := ⟨_, rfl⟩
        rw [← hsv] at hlook
        have HSV := Lib.hid hsv
        clear hsv
        have d5 := one_cell HS5.out.s.b5
        have HKS := Lib.hid hks2
        clear o5 b5 hl5 a0 hks hks2 HS
        go_upto_if 36 with fail
        generalize hbv : decide ((0 : Int) < sv) = bv
        have HBV := Lib.hid hbv
        clear hbv
        go_cut [10] from 37 to 38 (fun v wx => PaySl N fl q v wx ∧ OrdF w I M (C3 + 1 + 1) C2 C3 (C3 + 1) (C3 + 1 + 1 + 1) (C3 + 1 + 1 + 1 + 1) n fl q wx)
        case first =>
          by_cases hm : N ∈ ks
          · have hsv := HSV.out
            rw [if_pos hm] at hsv
            obtain rfl : bv = true := HBV.out.symm.trans (decide_eq_true (by omega))
            have Hseen := Lib.hid ((HKS.out N).1 hm)
            clear hm hsv
            have hconv := Lib.run_convert_bytes_const (P := Try.prog) w5 62 5 #[.int .u8 111, .int .u8 116, .int .u8 104, .int .u8 101, .int .u8 114] 5 5 Try.underlying62 Try.underlying5
            go_wp2_with fail
            go_meet
            exact ⟨⟨_, _, _, rfl, by omega, .inl Hseen.out⟩, HS5.out.below ((Below.refl _ _).alloc (Nat.le_refl _) _)⟩
          · have hsv := HSV.out
            rw [if_neg hm] at hsv
            obtain rfl : bv = false := HBV.out.symm.trans (decide_eq_false (by omega))
            clear hm hsv
            go_wp2_with fail
            go_meet
            exact ⟨⟨_, _, _, rfl, hl5', .inr ⟨HR5.out, HL5.out⟩⟩, HS5.out⟩
        case rest =>
          obtain ⟨⟨p6, l6, c6, rfl, hl6, hor⟩, hS6⟩ := hcut
          clear HSV HBV
          have HO6 := Lib.hid hor; have HS6 := Lib.hid hS6
          have d6 := one_cell HS6.out.b6
          clear hor hS6 HS5 HR5 HL5 HKS hlook d5
          go_wp2_with fail
          refine (on46 HS6.out.s N hN40 (by omega) p6 l6 c6 hl6 HO6.out).mono ?_
          rintro e w7 ⟨rfl, n', fl', q', hs7, hn7, _, _, _, ho7⟩
          have HS7 := Lib.hid (HS6.out.oth hs7 ho7)
          clear hs7 ho7
          go_wp2_with fail
          go_roundw
          case rel => exact ⟨k + 1, n', fl', q', by omega, by omega, rfl, by omega, HS7.out⟩
          case measure => simp [intOf]; omega
    · obtain rfl : k = len := by omega
      have HS := Lib.hid hS
      clear hS Hx
      go_wp2_with fail
      exact HCC.out _ _ n fl q (by omega) HS.out ⟨rfl, rfl, rfl, rfl, rfl, rfl⟩
end Go.Proofs.Ytmghgjokleeigaa
