/-
  SeqAsked: the walk.
-/
import Derived.Test.YtmghgjokleeigaaAsk1
namespace Go.Proofs.Ytmghgjokleeigaa
open Go.RowKit Go.Shelf
attribute [local go_sem] Oper.semAt_some wide_fn_eq wide_depth

theorem enters13 : Enters 13 := fun _ _ => (enters_of Try.func13 (by kernel_rfl) rfl) _ _

/-- The row that is wanted, behind k numbers. -/
def WantRel (W : World) (fr had K : Nat) (v i : Value) (wr : World) : Prop := ∃ k, k ≤ K ∧ i = .int .u32 ((fr + k : Nat) : Int) ∧ OffRow wr W.heap.size 22 v (uns (missF fr had k)) ∧ Below W.heap.size W wr
theorem WantRel.push {W : World} {fr had K k n : Nat} {v' : Value} {W4 : World} (hk : k + 1 ≤ K) (hn : n = fr + k) (e7 : missF fr had (k + 1) = missF fr had k ++ [fr + k]) (r1 : OffRow W4 W.heap.size 22 v' (uns (missF fr had k) ++ [.int .u32 n])) (hb : Below W.heap.size W W4) :
    WantRel W fr had K v' (.int .u32 ((n : Int) + 1)) W4 :=
  ⟨k + 1, hk, by congr 1; omega, by rw [e7, ← hn]; simp only [uns, List.map_append, List.map_cons, List.map_nil]; exact r1, hb⟩
theorem WantRel.skip {W : World} {fr had K k n : Nat} {v' : Value} {W4 : World} (hk : k + 1 ≤ K) (hn : n = fr + k) (e7 : missF fr had (k + 1) = missF fr had k) (r1 : OffRow W4 W.heap.size 22 v' (uns (missF fr had k))) (hb : Below W.heap.size W W4) :
    WantRel W fr had K v' (.int .u32 ((n : Int) + 1)) W4 :=
  ⟨k + 1, hk, by congr 1; omega, by rw [e7]; exact r1, hb⟩
theorem bit_of (fr had n : Nat) (hh : had ≤ 18446744073709551615) : bits BinOp.and IntKind.u64 ((had : Int) / 2 ^ ((n - fr) % 64)) 1 = if notHad fr had n then 0 else 1 := by
  have e1 := and_one_bit had ((n - fr) % 64) hh
  have e2 : ((had / 2 ^ ((n - fr) % 64) : Nat) : Int) = (had : Int) / 2 ^ ((n - fr) % 64) := by simp
  rw [e2] at e1
  rw [e1]
  unfold notHad
  cases had.testBit ((n - fr) % 64) <;> rfl

set_option maxRecDepth 100000 in
set_option maxHeartbeats 4000000 in
theorem asked_walk (from_ many had stop : Nat) (hf : from_ ≤ 4294967295) (hm : many ≤ 255) (hh : had ≤ 18446744073709551615) (hs : stop ≤ 255) (w : World) :
    Calls Try.prog 3 #[.int .u32 from_, .int .u8 many, .int .u64 had, .int .u8 stop] w (TruePost w) := by
  obtain ⟨i0, hi, hz0, hz1, hz2⟩ := info_parts Try.info22
  refine (callsIn_wide (n := 0)).1 (callsIn_of_wp_marks Try.func3 rfl trivial ?_)
  simp only [Try.ntmps3, List.size_toArray, List.length_cons, List.length_nil, Nat.reduceAdd, Nat.reduceSub, Array.replicate_succ, Array.replicate_zero, List.push_toArray, List.append_toArray, List.nil_append, List.cons_append]
  obtain ⟨fr, hfr⟩ : ∃ fr, fr = from_ % 2147483648 := ⟨_, rfl⟩
  obtain ⟨m, hmm⟩ : ∃ m, m = many % 61 := ⟨_, rfl⟩
  have e1 : (from_ : Int) % 2147483648 = (fr : Int) := by omega
  have e2 : (many : Int) % 61 = (m : Int) := by omega
  have hfr2 : fr ≤ 2147483647 := by omega
  have hm60 : m ≤ 60 := by omega
  clear hfr hmm
  obtain ⟨up, hup⟩ : ∃ up, up = fr + m := ⟨_, rfl⟩
  have e3 : (fr : Int) + (m : Int) = (up : Int) := by omega
  have hup2 : up ≤ 2147483707 := by omega
  have Hup := Lib.hid hup
  clear hup
  gi_wp2_with (first | (gi_at_call 15; refine ((callsIn_wide (n := 0)).2 (spanMissing_any _ _ _ _ _)).mono ?_; rintro e w' ⟨rfl, rfl⟩) | (gi_at_call 14; refine ((callsIn_wide (n := 0)).2 (safe_any _ _ _)).mono ?_; rintro e w' ⟨rfl, rfl⟩))
  obtain ⟨B10, h10⟩ : ∃ B, B = w.heap.size + 1 + 1 + 1 + 1 + 1 + 1 + 4 := ⟨_, rfl⟩
  obtain ⟨B9, h9⟩ : ∃ B, B = w.heap.size + 1 + 1 + 1 + 1 + 1 + 1 + 3 := ⟨_, rfl⟩
  obtain ⟨B8, h8⟩ : ∃ B, B = w.heap.size + 1 + 1 + 1 + 1 + 1 + 1 + 2 := ⟨_, rfl⟩
  obtain ⟨B7, h7⟩ : ∃ B, B = w.heap.size + 1 + 1 + 1 + 1 + 1 + 1 + 1 := ⟨_, rfl⟩
  obtain ⟨Bm, hm_⟩ : ∃ B, B = w.heap.size + 1 + 1 + 1 + 1 + 1 := ⟨_, rfl⟩
  obtain ⟨Ba, ha_⟩ : ∃ B, B = w.heap.size + 1 + 1 + 1 + 1 := ⟨_, rfl⟩
  obtain ⟨Bp, hp_⟩ : ∃ B, B = w.heap.size + 1 + 1 + 1 := ⟨_, rfl⟩
  obtain ⟨Bs, hs_⟩ : ∃ B, B = w.heap.size + 1 + 1 := ⟨_, rfl⟩
  obtain ⟨Bh, hh_⟩ : ∃ B, B = w.heap.size + 1 := ⟨_, rfl⟩
  obtain ⟨Bf, hf_⟩ : ∃ B, B = w.heap.size := ⟨_, rfl⟩
  simp only [← h10, ← h9, ← h8, ← h7]
  simp only [← hm_]
  simp only [← ha_]
  simp only [← hp_]
  simp only [← hs_]
  simp only [← hh_]
  simp only [← hf_]
  generalize hW1 : (((((((((((w.alloc (.cells #[.int .u32 fr] 22)).alloc (.cells #[.int .u64 had] 23)).alloc (.cells #[.int .u8 stop] 5)).alloc (.cells #[.int .u32 fr, .int .u32 up] 25)).alloc (.cells #[.slice none 0 0] 26)).alloc (.cells #[.slice none 0 0] 26)).alloc (.cells #[.int .u32 fr, .int .u32 up] 25)).alloc
    (.cells #[.func (.func 13) #[] #[.pointer (some ⟨Ba, 0, none⟩), .pointer (some ⟨Bh, 0, none⟩), .pointer (some ⟨Bf, 0, none⟩)]] 27)).alloc (.cells #[.int .u32 fr, .int .u32 up] 25)).alloc (.cells #[.func (.func 65) #[] #[.pointer (some ⟨B8, 0, none⟩)]] 28)).alloc (.cells #[.func (.func 60) #[] #[.pointer (some ⟨B7, 0, none⟩)]] 27)) = W1
  have hsz : W1.heap.size = w.heap.size + 11 := by rw [← hW1]; simp only [World.size_alloc]
  have g8 : W1.heap[B8]? = some (.cells #[.int .u32 fr, .int .u32 up] 25 (0, 0)) := by rw [← hW1, h8]; simp only [alloc_at, World.size_alloc]; repeat (first | rfl | rw [if_pos (by omega)] | rw [if_neg (by omega)])
  have g9 : W1.heap[B9]? = some (.cells #[.func (.func 65) #[] #[.pointer (some ⟨B8, 0, none⟩)]] 28 (0, 0)) := by rw [← hW1, h9]; simp only [alloc_at, World.size_alloc]; repeat (first | rfl | rw [if_pos (by omega)] | rw [if_neg (by omega)])
  have g10 : W1.heap[B10]? = some (.cells #[.func (.func 60) #[] #[.pointer (some ⟨B7, 0, none⟩)]] 27 (0, 0)) := by rw [← hW1, h10]; simp only [alloc_at, World.size_alloc]; repeat (first | rfl | rw [if_pos (by omega)] | rw [if_neg (by omega)])
  have g7 : W1.heap[B7]? = some (.cells #[.func (.func 13) #[] #[.pointer (some ⟨Ba, 0, none⟩), .pointer (some ⟨Bh, 0, none⟩), .pointer (some ⟨Bf, 0, none⟩)]] 27 (0, 0)) := by rw [← hW1, h7]; simp only [alloc_at, World.size_alloc]; repeat (first | rfl | rw [if_pos (by omega)] | rw [if_neg (by omega)])
  have hst : AskSt w Ba Bm Bf Bh Bs Bp W1.heap.size fr up had stop [] [] (.slice none 0 0) (.slice none 0 0) W1 := by
    refine ⟨?_, ?_, ?_, ?_, ?_, ?_, OffRow.nil_ _ _ _, OffRow.nil_ _ _ _, fun k hk => by simp [Value.ownBlock] at hk, by omega, by omega, by omega, ?_, Nat.le_refl _⟩
    case refine_7 =>
      rw [← hW1]
      exact (((((((((((Below.refl _ _).alloc (Nat.le_refl _) _).alloc (by simp) _).alloc (by simp only [World.size_alloc]; omega) _).alloc (by simp only [World.size_alloc]; omega) _).alloc (by simp only [World.size_alloc]; omega) _).alloc (by simp only [World.size_alloc]; omega) _).alloc (by simp only [World.size_alloc]; omega) _).alloc (by simp only [World.size_alloc]; omega) _).alloc (by simp only [World.size_alloc]; omega) _).alloc (by simp only [World.size_alloc]; omega) _).alloc (by simp only [World.size_alloc]; omega) _
    all_goals (rw [← hW1]; simp only [ha_, hm_, hf_, hh_, hs_, hp_, alloc_at, World.size_alloc]; repeat (first | rfl | rw [if_pos (by omega)] | rw [if_neg (by omega)]))
  have hB : w.heap.size ≤ W1.heap.size := by omega
  have hlt7 : B7 ≤ B7 ∧ B7 < W1.heap.size ∧ B7 ≤ B8 ∧ B8 < W1.heap.size ∧ B7 ≤ B9 ∧ B9 < W1.heap.size ∧ B7 ≤ B10 ∧ B10 < W1.heap.size := by omega
  have hBa : Ba < B7 ∧ Bm < B7 := by omega
  clear hW1 hsz h10 h9 h8 h7 hm_ ha_ hp_ hs_ hh_ hf_
  refine wp_range2 (gf := 80) rfl enters80 (those_iters2 B9 B10 65 60 #[.pointer (some ⟨B8, 0, none⟩)] #[.pointer (some ⟨B7, 0, none⟩)] enters65 enters60 (· = List.range' fr (up - fr)) _ (all1 B8 fr up (by omega) (by omega))) (fun _ => by rfl)
    (fun pre W => (∃ va vm, AskSt w Ba Bm Bf Bh Bs Bp W1.heap.size fr up had stop pre (pre.filter (notHad fr had)) va vm W) ∧ (pre.filter (notHad fr had)).length ≤ stop % 20 ∧ Lies B7 W1.heap.size W1 W ∧ W1.heap.size ≤ W.heap.size)
    (fun pre x W => ((∃ va vm, AskSt w Ba Bm Bf Bh Bs Bp W1.heap.size fr up had stop (pre ++ [x]) (pre.filter (notHad fr had)) va vm W) ∧ (pre.filter (notHad fr had)).length ≤ stop % 20 ∧ notHad fr had x = true) ∧ Lies B7 W1.heap.size W1 W ∧ W1.heap.size ≤ W.heap.size)
    (fun c pre W => (c = .exit 0 ∧ (∃ pre0 x, pre = pre0 ++ [x] ∧ (pre0.filter (notHad fr had)).length ≤ stop % 20 ∧ stop % 20 < (pre.filter (notHad fr had)).length)) ∧ ∃ va vm, AskSt w Ba Bm Bf Bh Bs Bp W1.heap.size fr up had stop pre (pre.filter (notHad fr had)) va vm W)
    (fun pre => (Stb.ex fun va => Stb.ex fun vm => AskSt.stb _ hB).and ((Stb.pure _ _).and (Stb.lies (Nat.le_refl _) (Nat.le_refl _))))
    (fun pre x => ((Stb.ex fun va => Stb.ex fun vm => AskSt.stb _ hB).and ((Stb.pure _ _).and (Stb.pure _ _))).and (Stb.lies (Nat.le_refl _) (Nat.le_refl _)))
    (fun c pre => (Stb.pure _ _).and (Stb.ex fun va => Stb.ex fun vm => AskSt.stb _ hB))
    (fun pre W h => ?pre) ⟨⟨_, _, hst⟩, by simp, Lies.refl _ _ _, Nat.le_refl _⟩
    (fun x => { tmps := #[.int .u32 from_, .int .u8 many, .int .u64 had, .int .u8 stop, .pointer (some ⟨Bf, 0, none⟩), undef, .pointer (some ⟨Bh, 0, none⟩), .pointer (some ⟨Bs, 0, none⟩), .bool false, .pointer (some ⟨Bp, 0, none⟩), .pointer (some ⟨Ba, 0, none⟩), .pointer (some ⟨Bm, 0, none⟩), Value.func (.func 13) #[] #[.pointer (some ⟨Ba, 0, none⟩), .pointer (some ⟨Bh, 0, none⟩), .pointer (some ⟨Bf, 0, none⟩)], .int .u32 x, undef, undef, undef, undef, .int .u32 from_, .int .u32 fr, .int .u32 fr, .int .u32 fr, .int .u8 many, .int .u8 m, .int .u32 m, .int .u32 up, .agg #[.int .u32 fr, .int .u32 up], Value.func (.func 13) #[] #[.pointer (some ⟨Ba, 0, none⟩), .pointer (some ⟨Bh, 0, none⟩), .pointer (some ⟨Bf, 0, none⟩)], .agg #[.int .u32 fr, .int .u32 up], Value.func (.func 13) #[] #[.pointer (some ⟨Ba, 0, none⟩), .pointer (some ⟨Bh, 0, none⟩), .pointer (some ⟨Bf, 0, none⟩)], Value.func (.func 80) #[] #[.pointer (some ⟨B9, 0, none⟩), .pointer (some ⟨B10, 0, none⟩)], Value.func (.func 80) #[] #[.pointer (some ⟨B9, 0, none⟩), .pointer (some ⟨B10, 0, none⟩)], .int .u32 x, undef, undef, undef, undef, undef, undef, undef, undef, undef, undef, undef, undef, undef, undef, undef, undef, undef, undef, undef, undef, undef, undef, undef, undef, undef, undef, undef, undef, undef, undef, undef, undef, undef, undef, undef, undef, undef, undef, undef, undef, undef, undef, undef, undef, undef, undef, undef, undef, undef, undef, undef, undef, undef, undef, undef, undef, undef, undef, undef, undef, undef, undef, undef, undef, undef, undef, undef, undef, undef, undef, undef, undef, undef, undef, undef, undef, undef, undef, undef, undef, undef, undef, undef, undef, undef, undef], defers := [] }) ?assign ?ask ?body ?done ?stop
  case pre =>
    obtain ⟨_, _, hL, _⟩ := h
    have q8 := hL.block hlt7.2.2.1 hlt7.2.2.2.1 g8
    exact ⟨⟨by simp [World.cell?, q8], by simp [World.cell?, q8]⟩, hL.block hlt7.2.2.2.2.1 hlt7.2.2.2.2.2.1 g9, hL.block hlt7.2.2.2.2.2.2.1 hlt7.2.2.2.2.2.2.2 g10⟩
  case assign =>
    intro l' x W' K hK
    gi_wp2
    exact hK
  case ask =>
    rintro pre x rest W hS ⟨⟨va, vm, hA⟩, hlen, hL, hsz⟩
    have hpl : pre.length ≤ 60 := by
      have := congrArg List.length hS
      simp only [List.length_append, List.length_cons, List.length_range'] at this
      have := Hup.out; omega
    have hx : fr ≤ x ∧ x ≤ 4294967295 := by
      have : x ∈ List.range' fr (up - fr) := by rw [← hS]; simp
      rw [List.mem_range'_1] at this
      omega
    refine CallsIn.mono (missing1 B7 13 x _ enters13 W (hL.block hlt7.1 hlt7.2.1 g7) (fun b W2 => b = (!notHad fr had x) ∧ (∃ va, AskSt w Ba Bm Bf Bh Bs Bp W1.heap.size fr up had stop (pre ++ [x]) (pre.filter (notHad fr had)) va vm W2) ∧ (∀ b, KeepBk b W W2) ∧ ∀ k, k < W.heap.size → k < W1.heap.size → k ≠ Ba → W2.heap[k]? = W.heap[k]?)
      (callsIn_wide.2 ((asked1 w Ba Bm Bf Bh Bs Bp W1.heap.size fr up had stop pre _ va vm x W hA (by omega) hx.1 hx.2 hh).mono ?_))) ?_
    · rintro e W2 ⟨rfl, h1, h2, h3⟩
      exact ⟨_, rfl, rfl, h1, h2, h3⟩
    · rintro e W2 ⟨b, rfl, rfl, ⟨va', h1⟩, h2, h3⟩
      have hL2 : Lies B7 W1.heap.size W1 W2 := fun k hk1 hk2 => (h3 k (by omega) hk2 (by omega)).trans (hL k hk1 hk2)
      have hsz2 := Nat.le_trans hsz (h2 0).size
      rw [Bool.not_not]
      cases hn : notHad fr had x with
      | true => exact .inr ⟨rfl, h2 _, ⟨⟨va', vm, h1⟩, hlen, rfl⟩, hL2, hsz2⟩
      | false =>
        have e4 : (pre ++ [x]).filter (notHad fr had) = pre.filter (notHad fr had) := by simp [List.filter_append, hn]
        refine .inl ⟨rfl, h2 _, ⟨va', vm, ?_⟩, ?_, hL2, hsz2⟩
        · rw [e4]; exact h1
        · rw [e4]; exact hlen
  case body =>
    rintro l' pre x rest W hS hl _ ⟨⟨⟨va, vm, hA⟩, hlen, hn⟩, hL, hsz⟩
    have e4 : (pre ++ [x]).filter (notHad fr had) = pre.filter (notHad fr had) ++ [x] := by simp [List.filter_append, hn]
    have hnew : (W.alloc (.cells #[.int .u32 x] 22)).cell? ⟨W.heap.size, 0, none⟩ = some (.int .u32 x) := one_cell (alloc_new _ _)
    have Hnew := Lib.hid hnew
    have hll : (uns (pre.filter (notHad fr had))).length ≤ stop % 20 := by rw [List.length_map]; exact hlen
    have hll2 : (uns (pre.filter (notHad fr had))).length ≤ 19 := by omega
    have c1 := one_cell hA.fm
    obtain ⟨q, L, cp, e1'⟩ := hA.rm.form'
    subst e1'
    have H1 := Lib.hid (hA.alloc (.cells #[.int .u32 x] 22))
    have E4 := Lib.hid e4
    have Hn := Lib.hid hn
    have Hlen := Lib.hid hlen
    clear hnew hA e4 hn hlen hS
    gi_wp2_with (gi_at_builtin; refine wpListIn_append_off _ rfl (.tmp 33) (.tmp 35) 26 rfl W1.heap.size 22 i0 (.int .u32 0) 4 Try.underlying26 hi hz0 hz1 hz2 rfl (.slice q L cp) (uns _) rfl H1.out.rm ⟨W.heap.size, 0, none⟩ 1 (.int .u32 x) rfl Hnew.out rfl (by unfold maxLen; omega) (by omega) (by simp only [World.size_alloc]; omega) ?_; intro v' W4 r1 r2 r3; obtain ⟨q', L', c', e'⟩ := r1.form'; subst e'; obtain ⟨k1, k2, k3, k4⟩ := H1.out.pushM r1 r2 r3; have d1 := one_cell k1; have d2 := one_free k1; have d3 := one_cell k2.fs; have d4 := one_cell k2.fm)
    all_goals have hL' : L' = (List.filter (notHad fr had) pre).length + 1 := by have := r1.len'; simpa using this
    · refine ⟨(KeepBk.alloc _ _ _).trans (k3 _), ⟨rfl, pre, x, rfl, Hlen.out, by rw [E4.out]; simp; omega⟩, _, _, by rw [E4.out]; exact k2⟩
    · refine ⟨(KeepBk.alloc _ _ _).trans (k3 _), ⟨_, _, by rw [E4.out]; exact k2⟩, by rw [E4.out]; simp; omega, fun k hk1 hk2 => (k4 k (by simp; omega) hk2 (by omega)).trans ((Below.heap_alloc _ _ k (by omega)).trans (hL k hk1 hk2)), Nat.le_trans hsz (Nat.le_trans (by simp) (k3 0).size)⟩
  case' done =>
    rintro D xs W hD rfl ⟨⟨va, vm, hA⟩, hlen, hL, hsz⟩ hK
    have em : up - fr = m := by have := Hup.out; omega
    rw [em] at hA hlen
    have hStop : Stops fr had m (stop % 20) m := ⟨Nat.le_refl _, .inl rfl, fun k hk => Nat.le_trans (missF_mono fr had (by omega)) hlen⟩
    obtain ⟨K, hK1, hK2⟩ : ∃ K, K = m ∧ (missF fr had K).length ≤ stop % 20 := ⟨m, rfl, hlen⟩
    have hA' : AskSt w Ba Bm Bf Bh Bs Bp W1.heap.size fr up had stop (List.range' fr K) (missF fr had K) va vm W := by rw [hK1]; exact hA
    have hStop' : Stops fr had m (stop % 20) K := by rw [hK1]; exact hStop
    have hsz' := hA.sz
    clear hA hStop hL hlen hsz em
    obtain ⟨qa, La, ca, ea⟩ := hA'.ra.form'
    subst ea
    obtain ⟨qm, Lm, cm, em_⟩ := hA'.rm.form'
    subst em_
    have hLa : La = K := by have := hA'.ra.len'; simpa using this
    have HLa := Lib.hid hLa
    clear hLa
    have c4 := one_cell hA'.ff
    have H2 := Lib.hid hA'
    have Hst := Lib.hid hStop'
    clear hA' hStop'
    gi_wp2
    gi_loopw [14, 15] (fun v i wr => WantRel W fr had K v i wr) (fun _ i _ => up + 1 - (intOf i).toNat)
    case' atStart => exact ⟨0, by omega, rfl, OffRow.nil_ _ _ _, Below.refl _ _⟩
    case' round =>
      clear c4
      obtain ⟨k, hk, rfl, hrow, hbw⟩ := hrel
      obtain ⟨n, hn⟩ : ∃ n, n = fr + k := ⟨_, rfl⟩
      rw [← hn]
      have HA := Lib.hid (H2.out.same hbw)
      have c4 := one_cell HA.out.ff
      have c5 := two_cell HA.out.fp
      obtain ⟨c5, c6, -⟩ := c5
      have c7 := one_cell HA.out.fh
      have c8 := one_cell HA.out.fs
      have hlen := missF_len fr had k
      have hup' := Hup.out
      have C17 : Hid (∀ W, Calls Try.prog 17 #[.agg #[.int .u32 fr, .int .u32 up]] W (fun e W' => e = .returned (.int .i64 m) ∧ Below W.heap.size W W')) := Lib.hid fun W => (len_any fr up (by omega) (by omega) W).mono fun e W' h => ⟨h.1.trans (ret_int (by have := Hup.out; omega)), h.2⟩
      have C18 : Hid (∀ W x b, decide (fr ≤ x ∧ x < up) = b → Calls Try.prog 18 #[.agg #[.int .u32 fr, .int .u32 up], .int .u32 x] W (fun e W' => e = .returned (.bool b) ∧ Below W.heap.size W W')) := Lib.hid fun W x b hb => (has_any fr up x W).mono fun e W' h => ⟨h.1.trans (ret_bool hb), h.2⟩
      by_cases hlt : k < K
      · have hnu : n < up := by omega
        have hbit := bit_of fr had n hh
        have hm1 := Nat.le_trans (missF_mono fr had (show k + 1 ≤ K by omega)) hK2
        have S1 : Hid (notHad fr had (fr + k) = true → missF fr had (k + 1) = missF fr had k ++ [fr + k]) := Lib.hid (missF_in fr had k)
        have S2 : Hid (notHad fr had (fr + k) = false → missF fr had (k + 1) = missF fr had k) := Lib.hid (missF_out fr had k)
        have hsw := hbw.size
        obtain ⟨q, L, cp, e1'⟩ := hrow.form'
        subst e1'
        have hnf : fr ≤ n := by omega
        have hll : (uns (missF fr had k)).length ≤ 60 := by rw [List.length_map]; omega
        cases hb : notHad fr had n with
        | true =>
          rw [hb, if_pos rfl] at hbit
          have e7 := S1.out (by rw [← hn]; exact hb)
          rw [e7, List.length_append] at hm1
          have E7 := Lib.hid e7
          have Hn := Lib.hid hn
          have Hb := Lib.hid hb
          have Hm1 := Lib.hid hm1
          have Hbw := Lib.hid hbw
          have Hrow := Lib.hid (hrow.alloc (.cells #[.int .u32 n] 22))
          have Hnew : Hid ((wr.alloc (.cells #[.int .u32 n] 22)).cell? ⟨wr.heap.size, 0, none⟩ = some (.int .u32 n)) := Lib.hid (one_cell (alloc_new _ _))
          clear e7 hn hb hm1 hrow hbw hup'
          gi_wp2_with (gi_at_builtin; refine wpListIn_append_off _ rfl (.tmp 58) (.tmp 60) 26 rfl W.heap.size 22 i0 (.int .u32 0) 4 Try.underlying26 hi hz0 hz1 hz2 rfl (.slice q L cp) (uns _) rfl Hrow.out ⟨wr.heap.size, 0, none⟩ 1 (.int .u32 n) rfl Hnew.out rfl (by unfold maxLen; omega) (by omega) (by simp only [World.size_alloc]; omega) ?_; intro v' W4 r1 r2 r3; obtain ⟨q', L', c', e'⟩ := r1.form'; subst e'; have hL' : L' ≤ stop % 20 := (by have := r1.len'; have := Hm1.out; simp at *; omega); have hb4 := Lib.hid ((Hbw.out.alloc hsw _).grown r2 (by simp; omega) (fun b e => (Hrow.out.own e).1)); have d8 := one_cell (H2.out.same hb4.out).fs)
          exact ⟨WantRel.push (by omega) Hn.out E7.out r1 hb4.out, by simp [intOf]; omega⟩
        | false =>
          rw [hb, if_neg (by simp)] at hbit
          have e7 := S2.out (by rw [← hn]; exact hb)
          have E7 := Lib.hid e7
          have Hn := Lib.hid hn
          have Hb := Lib.hid hb
          have Hbw := Lib.hid hbw
          have Hrow := Lib.hid hrow
          clear e7 hn hb hm1 hrow hbw hup'
          gi_wp2
          exact ⟨WantRel.skip (by omega) Hn.out E7.out Hrow.out Hbw.out, by simp [intOf]; omega⟩
      · obtain rfl : k = K := by omega
        have hnu : ¬ n < up := by omega
        have hnf : fr ≤ n := by omega
        have hn4 : n ≤ 2147483800 := by omega
        obtain ⟨q', L', c', e'⟩ := hrow.form'
        subst e'
        have R1 : Hid (OffRow wr W.heap.size 22 (.slice q' L' c') (uns (missF fr had k))) := Lib.hid hrow
        have HBX := Lib.hid hbw
        have H3 := HA
        have E16 : Hid (Calls Try.prog 16 #[.slice qm Lm cm, .slice q' L' c'] wr (QuietU wr (.bool true))) := Lib.hid ((equal_any _ _ _ _ _ H3.out.rm.rowU R1.out.rowU (by have := missF_len fr had k; omega) (by have := missF_len fr had k; omega)).mono fun e W' h => ⟨h.1.trans (ret_bool (by simp)), h.2⟩)
        have b10 := one_cell H3.out.fa
        have b11 := one_cell H3.out.fm
        have hne : ((La : Int) != ((n : Int) - (fr : Int))) = false := by have := HLa.out; rw [bne_eq_false_iff_eq]; omega
        clear hn hrow hbw hup' hK1
        gi_wp2_with (first | (gi_at_call 16; refine ((callsIn_wide (n := 0)).2 (E16.out)).mono ?_; rintro e w5 ⟨rfl, n5, rfl⟩) | (gi_at_call 17; refine ((callsIn_wide (n := 0)).2 (C17.out _)).mono ?_; rintro e w6 ⟨rfl, hb6⟩; have H6 := Lib.hid ((H3.out.drewN n5).same hb6); have HB6 := Lib.hid ((below_drewN HBX.out n5).trans (hb6.mono HBX.out.size)); clear hb6; have x10 := one_cell H6.out.fa; have x4 := one_cell H6.out.ff; have x9 := two_cell H6.out.fp))
        have hLa60 : La ≤ 60 := by have := HLa.out; have := Hst.out.le; omega
        gi_loopw [93] (fun i wr2 => ∃ j : Nat, j ≤ La ∧ i = .int .i64 j ∧ AskSt w Ba Bm Bf Bh Bs Bp W1.heap.size fr up had stop (List.range' fr k) (missF fr had k) (.slice qa La ca) (.slice qm Lm cm) wr2 ∧ Below W.heap.size W wr2) (fun i _ => La - (intOf i).toNat)
        case atStart => exact ⟨0, by omega, rfl, H6.out, HB6.out⟩
        case round =>
          clear x10 x4 x9 e1 e2 e3
          obtain ⟨j, hj, rfl, h7, hb7⟩ := hrel
          have y4 := one_cell h7.ff
          obtain ⟨y9, y9', -⟩ := two_cell h7.fp
          have H7 := Lib.hid h7
          have HB7 := Lib.hid hb7
          clear h7 hb7
          by_cases hjl : j < La
          · have hjk : j < (uns (List.range' fr k)).length := by simp; have := HLa.out; omega
            obtain ⟨b, o, c2, e8, hc8⟩ := H7.out.ra.at_ hjk
            injection e8 with e8 e9 e10
            subst e8
            clear e9 e10
            have ev : (uns (List.range' fr k))[j] = .int .u32 ((fr + j : Nat) : Int) := by simp
            rw [ev] at hc8
            obtain ⟨z, hz⟩ : ∃ z, z = fr + j := ⟨_, rfl⟩
            rw [← hz] at hc8
            have hne2 : ((z : Int) != ((fr : Int) + (j : Int))) = false := by rw [bne_eq_false_iff_eq]; omega
            have D18 := Lib.hid (fun W => C18.out W z true (by have := Hup.out; have := HLa.out; have := Hst.out.le; simp; omega))
            clear ev hjk hz
            gi_wp2_with (gi_at_call 18; refine ((callsIn_wide (n := 0)).2 (D18.out _)).mono ?_; rintro e w8 ⟨rfl, hb8⟩)
            exact ⟨⟨j + 1, by omega, by go_num, H7.out.same hb8, HB7.out.trans (hb8.mono HB7.out.size)⟩, by simp [intOf]; omega⟩
          · have D18 := Lib.hid (fun W => C18.out W up false (by simp))
            gi_wp2_with (first | (gi_at_call 18; refine ((callsIn_wide (n := 0)).2 (D18.out _)).mono ?_; rintro e w8 ⟨rfl, hb8⟩) | (gi_at_call 19; refine ((callsIn_wide (n := 0)).2 (wakes_any _)).mono ?_; rintro e w9 ⟨rfl, hb9⟩))
            have hb10 := (HB7.out.trans (hb8.mono HB7.out.size)).trans (hb9.mono (Nat.le_trans HB7.out.size hb8.size))
            have hK10 : w9.heap[D]? = some (.deferred (some [])) := (hb10.block D (block_lt hK)).trans hK
            exact leave_mark (.inr rfl) hK10 (results_tmp rfl _ _ _) ⟨rfl, below_leave ((H7.out.same hb8).same hb9).bel (Nat.le_refl _) (by omega)⟩
  case' stop =>
    rintro D c pre rest W hD hS ⟨⟨rfl, pre0, x, rfl, hl1, hl2⟩, va, vm, hA⟩ hK
    have em : up - fr = m := by have := Hup.out; omega
    rw [em] at hS
    obtain ⟨K, hK1⟩ : ∃ K, K = (pre0 ++ [x]).length := ⟨_, rfl⟩
    have hKm : K ≤ m := by have := congrArg List.length hS; simp at this; simp at hK1; omega
    have e5 : pre0 ++ [x] = List.range' fr K := by
      have h5 := congrArg (List.take K) hS
      rw [List.take_append_of_le_length (by omega), List.take_of_length_le (by omega)] at h5
      rw [h5, show m = K + (m - K) by omega, ← List.range'_append_1, List.take_append_of_le_length (by simp), List.take_of_length_le (by simp)]
    have e6 : pre0 = List.range' fr (K - 1) := by
      have h6 := congrArg (List.take (K - 1)) e5
      rw [List.take_append_of_le_length (by simp at hK1; omega), List.take_of_length_le (by simp at hK1; omega)] at h6
      obtain ⟨j, rfl⟩ : ∃ j, K = j + 1 := ⟨K - 1, by simp at hK1; omega⟩
      rw [h6, List.range'_concat, List.take_append_of_le_length (by simp), List.take_of_length_le (by simp)]
      simp
    rw [e5] at hA hl2
    rw [e6] at hl1
    have hK2 : stop % 20 < (missF fr had K).length := hl2
    have hK3 : (missF fr had (K - 1)).length ≤ stop % 20 := hl1
    have hA' : AskSt w Ba Bm Bf Bh Bs Bp W1.heap.size fr up had stop (List.range' fr K) (missF fr had K) va vm W := hA
    have hStop' : Stops fr had m (stop % 20) K := ⟨hKm, .inr hK2, fun k hk => Nat.le_trans (missF_mono fr had (by omega)) hK3⟩
    have hsz' := hA.sz
    have hKp : 1 ≤ K := by simp at hK1; omega
    clear hA hl1 hl2 e5 e6 hS em hK1
    obtain ⟨qa, La, ca, ea⟩ := hA'.ra.form'
    subst ea
    obtain ⟨qm, Lm, cm, em_⟩ := hA'.rm.form'
    subst em_
    have hLa : La = K := by have := hA'.ra.len'; simpa using this
    have HLa := Lib.hid hLa
    clear hLa
    have c4 := one_cell hA'.ff
    have H2 := Lib.hid hA'
    have Hst := Lib.hid hStop'
    clear hA' hStop'
    gi_wp2
    gi_loopw [14, 15] (fun v i wr => WantRel W fr had (K - 1) v i wr) (fun _ i _ => up + 1 - (intOf i).toNat)
    case' atStart => exact ⟨0, by omega, rfl, OffRow.nil_ _ _ _, Below.refl _ _⟩
    case' round =>
      clear c4
      obtain ⟨k, hk, rfl, hrow, hbw⟩ := hrel
      obtain ⟨n, hn⟩ : ∃ n, n = fr + k := ⟨_, rfl⟩
      rw [← hn]
      have HA := Lib.hid (H2.out.same hbw)
      have c4 := one_cell HA.out.ff
      have c5 := two_cell HA.out.fp
      obtain ⟨c5, c6, -⟩ := c5
      have c7 := one_cell HA.out.fh
      have c8 := one_cell HA.out.fs
      have hlen := missF_len fr had k
      have hup' := Hup.out
      have C17 : Hid (∀ W, Calls Try.prog 17 #[.agg #[.int .u32 fr, .int .u32 up]] W (fun e W' => e = .returned (.int .i64 m) ∧ Below W.heap.size W W')) := Lib.hid fun W => (len_any fr up (by omega) (by omega) W).mono fun e W' h => ⟨h.1.trans (ret_int (by have := Hup.out; omega)), h.2⟩
      have C18 : Hid (∀ W x b, decide (fr ≤ x ∧ x < up) = b → Calls Try.prog 18 #[.agg #[.int .u32 fr, .int .u32 up], .int .u32 x] W (fun e W' => e = .returned (.bool b) ∧ Below W.heap.size W W')) := Lib.hid fun W x b hb => (has_any fr up x W).mono fun e W' h => ⟨h.1.trans (ret_bool hb), h.2⟩
      have hnu : n < up := by omega
      have hbit := bit_of fr had n hh
      have S1 : Hid (notHad fr had (fr + k) = true → missF fr had (k + 1) = missF fr had k ++ [fr + k]) := Lib.hid (missF_in fr had k)
      have S2 : Hid (notHad fr had (fr + k) = false → missF fr had (k + 1) = missF fr had k) := Lib.hid (missF_out fr had k)
      have hsw := hbw.size
      obtain ⟨q, L, cp, e1'⟩ := hrow.form'
      subst e1'
      have hnf : fr ≤ n := by omega
      have hll : (uns (missF fr had k)).length ≤ 60 := by rw [List.length_map]; omega
      by_cases hlast : k + 1 < K
      · have hm1 := Nat.le_trans (missF_mono fr had (show k + 1 ≤ K - 1 by omega)) hK3
        cases hb : notHad fr had n with
        | true =>
          rw [hb, if_pos rfl] at hbit
          have e7 := S1.out (by rw [← hn]; exact hb)
          rw [e7, List.length_append] at hm1
          have E7 := Lib.hid e7
          have Hn := Lib.hid hn
          have Hb := Lib.hid hb
          have Hm1 := Lib.hid hm1
          have Hbw := Lib.hid hbw
          have Hrow := Lib.hid (hrow.alloc (.cells #[.int .u32 n] 22))
          have Hnew : Hid ((wr.alloc (.cells #[.int .u32 n] 22)).cell? ⟨wr.heap.size, 0, none⟩ = some (.int .u32 n)) := Lib.hid (one_cell (alloc_new _ _))
          clear e7 hn hb hm1 hrow hbw hup'
          gi_wp2_with (gi_at_builtin; refine wpListIn_append_off _ rfl (.tmp 58) (.tmp 60) 26 rfl W.heap.size 22 i0 (.int .u32 0) 4 Try.underlying26 hi hz0 hz1 hz2 rfl (.slice q L cp) (uns _) rfl Hrow.out ⟨wr.heap.size, 0, none⟩ 1 (.int .u32 n) rfl Hnew.out rfl (by unfold maxLen; omega) (by omega) (by simp only [World.size_alloc]; omega) ?_; intro v' W4 r1 r2 r3; obtain ⟨q', L', c', e'⟩ := r1.form'; subst e'; have hL' : L' ≤ stop % 20 := (by have := r1.len'; have := Hm1.out; simp at *; omega); have hb4 := Lib.hid ((Hbw.out.alloc hsw _).grown r2 (by simp; omega) (fun b e => (Hrow.out.own e).1)); have d8 := one_cell (H2.out.same hb4.out).fs)
          exact ⟨WantRel.push (by omega) Hn.out E7.out r1 hb4.out, by simp [intOf]; omega⟩
        | false =>
          rw [hb, if_neg (by simp)] at hbit
          have e7 := S2.out (by rw [← hn]; exact hb)
          have E7 := Lib.hid e7
          have Hn := Lib.hid hn
          have Hb := Lib.hid hb
          have Hbw := Lib.hid hbw
          have Hrow := Lib.hid hrow
          clear e7 hn hb hm1 hrow hbw hup'
          gi_wp2
          exact ⟨WantRel.skip (by omega) Hn.out E7.out Hrow.out Hbw.out, by simp [intOf]; omega⟩
      · obtain ⟨K', rfl⟩ : ∃ K', K = K' + 1 := ⟨K - 1, by omega⟩
        obtain rfl : k = K' := by omega
        have hb : notHad fr had n = true := by
          cases hb : notHad fr had n with
          | true => rfl
          | false =>
            have e7 := S2.out (by rw [← hn]; exact hb)
            rw [e7] at hK2
            simp only [Nat.add_sub_cancel] at hK3
            omega
        rw [hb, if_pos rfl] at hbit
        have e7 := S1.out (by rw [← hn]; exact hb)
        rw [e7, List.length_append] at hK2
        have E7 := Lib.hid e7
        have Hn := Lib.hid hn
        have Hb := Lib.hid hb
        have Hm1 := Lib.hid hK2
        have Hbw := Lib.hid hbw
        have Hrow := Lib.hid (hrow.alloc (.cells #[.int .u32 n] 22))
        have Hnew : Hid ((wr.alloc (.cells #[.int .u32 n] 22)).cell? ⟨wr.heap.size, 0, none⟩ = some (.int .u32 n)) := Lib.hid (one_cell (alloc_new _ _))
        have hne : ((La : Int) != ((n : Int) + 1 - (fr : Int))) = false := by have := HLa.out; rw [bne_eq_false_iff_eq]; omega
        clear e7 hn hb hK2 hK3 hrow hbw hup'
        gi_wp2_with (first | (gi_at_builtin; refine wpListIn_append_off _ rfl (.tmp 58) (.tmp 60) 26 rfl W.heap.size 22 i0 (.int .u32 0) 4 Try.underlying26 hi hz0 hz1 hz2 rfl (.slice q L cp) (uns _) rfl Hrow.out ⟨wr.heap.size, 0, none⟩ 1 (.int .u32 n) rfl Hnew.out rfl (by unfold maxLen; omega) (by omega) (by simp only [World.size_alloc]; omega) ?_; intro v' W4 r1 r2 r3; obtain ⟨q', L', c', e'⟩ := r1.form'; subst e'; have hL' : stop % 20 < L' := (by have := r1.len'; have := Hm1.out; simp at *; omega); have hb4 := Lib.hid ((Hbw.out.alloc hsw _).grown r2 (by simp; omega) (fun b e => (Hrow.out.own e).1)); have H3 := Lib.hid (H2.out.same hb4.out); have d8 := one_cell H3.out.fs; have d4 := one_cell H3.out.ff; have HBX := hb4; have R1 : Hid (OffRow W4 W.heap.size 22 (.slice q' L' c') (uns (missF fr had (k + 1)))) := Lib.hid (by rw [E7.out, ← Hn.out]; simp only [uns, List.map_append, List.map_cons, List.map_nil]; exact r1); have E16 : Hid (Calls Try.prog 16 #[.slice qm Lm cm, .slice q' L' c'] W4 (QuietU W4 (.bool true))) := Lib.hid ((equal_any _ _ _ _ _ H3.out.rm.rowU R1.out.rowU (by have := missF_len fr had (k + 1); omega) (by have := missF_len fr had (k + 1); omega)).mono fun e W' h => ⟨h.1.trans (ret_bool (by simp)), h.2⟩); have b10 := one_cell H3.out.fa; have b11 := one_cell H3.out.fm; have b9 := two_cell H3.out.fp) | (gi_at_call 16; refine ((callsIn_wide (n := 0)).2 (E16.out)).mono ?_; rintro e w5 ⟨rfl, n5, rfl⟩) | (gi_at_call 17; refine ((callsIn_wide (n := 0)).2 (C17.out _)).mono ?_; rintro e w6 ⟨rfl, hb6⟩; have H6 := Lib.hid ((H3.out.drewN n5).same hb6); have HB6 := Lib.hid ((below_drewN HBX.out n5).trans (hb6.mono HBX.out.size)); clear hb6; have x10 := one_cell H6.out.fa; have x4 := one_cell H6.out.ff; have x9 := two_cell H6.out.fp))
        have hLa60 : La ≤ 60 := by have := HLa.out; have := Hst.out.le; omega
        gi_loopw [93] (fun i wr2 => ∃ j : Nat, j ≤ La ∧ i = .int .i64 j ∧ AskSt w Ba Bm Bf Bh Bs Bp W1.heap.size fr up had stop (List.range' fr (k + 1)) (missF fr had (k + 1)) (.slice qa La ca) (.slice qm Lm cm) wr2 ∧ Below W.heap.size W wr2) (fun i _ => La - (intOf i).toNat)
        case atStart => exact ⟨0, by omega, rfl, H6.out, HB6.out⟩
        case round =>
          clear x10 x4 x9 e1 e2 e3
          obtain ⟨j, hj, rfl, h7, hb7⟩ := hrel
          have y4 := one_cell h7.ff
          obtain ⟨y9, y9', -⟩ := two_cell h7.fp
          have H7 := Lib.hid h7
          have HB7 := Lib.hid hb7
          clear h7 hb7
          by_cases hjl : j < La
          · have hjk : j < (uns (List.range' fr (k + 1))).length := by simp; have := HLa.out; omega
            obtain ⟨b, o, c2, e8, hc8⟩ := H7.out.ra.at_ hjk
            injection e8 with e8 e9 e10
            subst e8
            clear e9 e10
            have ev : (uns (List.range' fr (k + 1)))[j] = .int .u32 ((fr + j : Nat) : Int) := by simp
            rw [ev] at hc8
            obtain ⟨z, hz⟩ : ∃ z, z = fr + j := ⟨_, rfl⟩
            rw [← hz] at hc8
            have hne2 : ((z : Int) != ((fr : Int) + (j : Int))) = false := by rw [bne_eq_false_iff_eq]; omega
            have D18 := Lib.hid (fun W => C18.out W z true (by have := Hup.out; have := HLa.out; have := Hst.out.le; simp; omega))
            clear ev hjk hz
            gi_wp2_with (gi_at_call 18; refine ((callsIn_wide (n := 0)).2 (D18.out _)).mono ?_; rintro e w8 ⟨rfl, hb8⟩)
            exact ⟨⟨j + 1, by omega, by go_num, H7.out.same hb8, HB7.out.trans (hb8.mono HB7.out.size)⟩, by simp [intOf]; omega⟩
          · have D18 := Lib.hid (fun W => C18.out W up false (by simp))
            gi_wp2_with (first | (gi_at_call 18; refine ((callsIn_wide (n := 0)).2 (D18.out _)).mono ?_; rintro e w8 ⟨rfl, hb8⟩) | (gi_at_call 19; refine ((callsIn_wide (n := 0)).2 (wakes_any _)).mono ?_; rintro e w9 ⟨rfl, hb9⟩))
            have hb10 := (HB7.out.trans (hb8.mono HB7.out.size)).trans (hb9.mono (Nat.le_trans HB7.out.size hb8.size))
            have hK10 : w9.heap[D]? = some (.deferred (some [])) := (hb10.block D (block_lt hK)).trans hK
            exact leave_mark (.inr rfl) hK10 (results_tmp rfl _ _ _) ⟨rfl, below_leave ((H7.out.same hb8).same hb9).bel (Nat.le_refl _) (by omega)⟩
end Go.Proofs.Ytmghgjokleeigaa
