/-
  NetKnown: the walk.
-/
import Derived.Test.YtbmhgdfkkiepaaaAll
import Derived.LoopN
import Derived.Laws.MakeOwn
import Derived.Laws.OwnMore
namespace Go.Proofs.Ytbmhgdfkkiepaaa
open Go.RowKit Go.Shelf
attribute [local go_sem] Oper.semAt_some wide_fn_eq wide_depth

section
variable {w0 W : World} {N : Nat} {l : Ls}
theorem Has.bad (h : Has w0 N l W) (k : Int) (hk : k < 0 ∨ 2 ≤ k) : Calls Try.prog 45 #[.pointer (some ⟨N, 0, none⟩), .int .i64 k] W fun e W' => e = .returned (.tuple #[.pointer none, .int .i64 1]) ∧ W = W' := by
  obtain ⟨r, g, h, _⟩ := h; exact way_bad h k hk
theorem Has.good (h : Has w0 N l W) (k : Nat) (hk : k < 2) : Calls Try.prog 45 #[.pointer (some ⟨N, 0, none⟩), .int .i64 k] W fun e W' => e = .returned (.tuple #[.pointer (some ⟨N, 1 + k, none⟩), .int .i64 0]) ∧ W = W' := by
  obtain ⟨r, g, h, _⟩ := h; exact way_ok h k hk
theorem Has.gone (h : Has w0 N l W) (k : Nat) (i : Int) (hk : k < 2) (hi : i < 0 ∨ (l k).length ≤ i) (hl : (l k).length ≤ 64) :
    Calls Try.prog 48 #[.pointer (some ⟨N, 0, none⟩), .int .i64 k, .int .i64 i] W fun e W' => e = .returned (.tuple #[.pointer (some ⟨N, 1 + k, none⟩), .int .i64 6]) ∧ W = W' := by
  obtain ⟨r, g, h, hg⟩ := h
  have e1 : (g k).length = (l k).length := by rw [← hg k hk, List.length_map]
  exact at_none h k i hk (by omega) (by omega)
theorem Has.low (h : Has w0 N l W) (k i : Nat) (bit : Int) (hk : k < 2) (hl : (l k).length ≤ 64) (hi : i < (l k).length) (hb : bit < 0) :
    Calls Try.prog 30 #[.pointer (some ⟨N, 0, none⟩), .int .i64 k, .int .i64 i, .int .i64 bit] W fun e W' => e = .returned (.int .i64 1) ∧ W = W' := by
  obtain ⟨r, g, h, hg⟩ := h
  have e1 : (g k).length = (l k).length := by rw [← hg k hk, List.length_map]
  exact flip_low h k i bit hk (by omega) (by omega) hb
theorem Has.full (h : Has w0 N l W) (k i : Nat) (hk : k < 2) (hl : (l k).length = 64) (hi : i < (l k).length) :
    Calls Try.prog 32 #[.pointer (some ⟨N, 0, none⟩), .int .i64 k, .int .i64 i] W fun e W' => e = .returned (.int .i64 7) ∧ W = W' := by
  obtain ⟨r, g, h, hg⟩ := h
  have e1 : (g k).length = (l k).length := by rw [← hg k hk, List.length_map]
  exact double_full h k i hk (by omega) (by omega) (by omega)
end
def made (n : Nat) : Array Value := madeCells #[.int .u8 0] n
theorem mk_bytes (y : Int) (n : Nat) (hy : y = n) (hn : n ≤ 601) (W : World) : (Instr.makeSlice 68 (.int .i64 y) (.int .i64 y)).run Try.prog W = .ok (.slice (some ⟨W.heap.size, 0, none⟩) n n) (W.alloc (.cells (made n) 5)) := by
  subst hy
  obtain ⟨i0, hi, hz0, hz1, hz2⟩ := info_parts Try.info5
  have := run_makeSlice (P := Try.prog) W 68 5 i0 (.int .u8 0) Try.underlying68 hi hz0 .i64 .i64 n n (by omega) (by omega) (by rw [hz1]; simp; omega) (by rw [hz2]; omega) (by omega)
  rw [hz1, Int.toNat_natCast, Nat.mul_one] at this
  exact this
theorem src_made {w0 W : World} (n c : Nat) : Src w0 (W.alloc (.cells (made n) 5)) (.slice (some ⟨W.heap.size, 0, none⟩) n c) (List.replicate n 0) := by
  have h0 := alloc_new W (.cells (made n) 5)
  refine ⟨.inr ⟨⟨W.heap.size, 0, none⟩, c, by simp, fun j u hu => ?_⟩, fun b e => .inr (.inr ⟨_, _, by cases e; exact h0⟩)⟩
  rw [Addr.add_lit]
  simp only [World.cell?, h0]
  have hu' : (List.replicate n (Value.int .u8 0))[j]? = some u := by
    have e : byts (List.replicate n 0) = List.replicate n (Value.int .u8 0) := List.map_replicate
    rwa [e] at hu
  show (made n)[0 + j]? = some u
  rw [← Array.getElem?_toList, made, toList_madeCells_one, Nat.zero_add]
  exact hu'
theorem src_nil2 (w0 W : World) : Src w0 W (.slice none 0 0) [] := ⟨.inl ⟨rfl, rfl⟩, fun b e => by simp [Value.ownBlock] at e⟩
theorem OffRow.below_ {W W' : World} {base : Nat} {e : TypeId} {v : Value} {xs : List Value} (h : OffRow W base e v xs) (hb : Below W.heap.size W W') : OffRow W' base e v xs := h.same fun b e => hb.block b (block_lt (h.own e).2.choose_spec)
theorem res9 (tmps : Array Value) (g : Nat) (v : Value) (w : World) (hp : tmps.getD 0 undef = .pointer (some ⟨g, 0, none⟩)) (hc : w.cell? ⟨g, 0, none⟩ = some v) : (results Try.f9 tmps).run Try.prog w = .ok v w := by
  have h : Try.f9.results = #[.cell 0 4] := rfl
  have hp' : tmps[0]?.getD undef = .pointer (some ⟨g, 0, none⟩) := by simpa using hp
  simp only [results, h]
  simp [hp', asAddr]
  go_simp
def ups (k : Nat) : List (List Nat) := (List.range k).map fun j => [j]

theorem ups_len (k : Nat) : (ups k).length = k := by simp [ups]
theorem ups_succ (k : Nat) : ups (k + 1) = ups k ++ [[k]] := by simp [ups, List.range_succ]
def zs600 : List Nat := List.replicate 600 0
def Tl : List (List Nat) := (List.range 61).map (fun j => [j + 3]) ++ [zs600]
theorem Tl_len : Tl.length = 62 := by simp [Tl]
theorem ups_64 : ups 64 = [0] :: [1] :: [2] :: (List.range 61).map (fun j => [j + 3]) := by decide +kernel
theorem sent_64 : sent (ups 64) zs600 = [1] :: [2] :: Tl := by
  unfold sent
  rw [if_pos (by rw [ups_len]; omega), ups_64]
  rfl
theorem known_step {w0 W : World} {N k : Nat} (h : Has w0 N (tw (ups k) []) W) (hk : k < 64) (q c : Nat) (f : Nat × Nat) (hq : q = W.heap.size) :
    Calls Try.prog 29 #[.pointer (some ⟨N, 0, none⟩), .int .i64 0, .slice (some ⟨q, 0, none⟩) 1 c] (W.alloc (.cells #[.int .u8 k] 5 f)) fun e W' => e = .returned (.tuple #[.bool false, .int .i64 0]) ∧ Has w0 N (tw (ups (k + 1)) []) W' := by
  subst hq
  have hl : ((tw (ups k) []) 0).length = k := ups_len k
  refine (has_send (h.al _) 0 (by omega) (by omega) [k] _ _ _ (src_new k k rfl f c) rfl (by simp)).mono ?_
  rintro e W' ⟨rfl, _, h2⟩
  refine ⟨?_, h2.congr ?_ rfl⟩
  · rw [hl, decide_eq_false (by omega)]
  · show sent (ups k) [k] = ups (k + 1)
    unfold sent
    rw [if_neg (by rw [ups_len]; omega), ups_succ]

theorem known_last {w0 W : World} {N : Nat} (h : Has w0 N (tw (ups 64) []) W) (q c : Nat) (hq : q = W.heap.size) :
    Calls Try.prog 29 #[.pointer (some ⟨N, 0, none⟩), .int .i64 0, .slice (some ⟨q, 0, none⟩) 600 c] (W.alloc (.cells (made 600) 5)) fun e W' => e = .returned (.tuple #[.bool true, .int .i64 0]) ∧ Has w0 N (tw ([1] :: [2] :: Tl) []) W' := by
  subst hq
  have hl : ((tw (ups 64) []) 0).length = 64 := ups_len 64
  refine (has_send (h.al _) 0 (by omega) (by omega) zs600 _ _ _ (src_made 600 c) List.length_replicate.symm (by rw [zs600, List.length_replicate]; omega)).mono ?_
  rintro e W' ⟨rfl, _, h2⟩
  refine ⟨?_, h2.congr ?_ rfl⟩
  · rw [hl, decide_eq_true (by omega)]
  · exact sent_64

set_option maxRecDepth 100000 in
set_option maxHeartbeats 4000000 in
theorem known11 (w : World) : Calls Try.prog 9 #[] w (TruePost w) := by
  refine (callsIn_wide (n := 0)).1 (callsIn_of_wp_marks Try.func9 rfl trivial ?_)
  simp only [Try.ntmps9, List.size_toArray, List.length_cons, List.length_nil, Nat.reduceAdd, Nat.reduceSub, Array.replicate_succ, Array.replicate_zero, List.push_toArray, List.append_toArray, List.nil_append, List.cons_append]
  gi_wp2_with fail
  obtain ⟨w1, hw1⟩ : ∃ w1, w1 = (w.alloc (.cells #[.bool false] 4)).alloc (.cells #[.bool false, .slice none 0 0, .slice none 0 0] 93) := ⟨_, rfl⟩
  obtain ⟨Rs, hRs⟩ : ∃ x, x = w.heap.size := ⟨_, rfl⟩
  obtain ⟨Z, hZs⟩ : ∃ x, x = w.heap.size + 1 := ⟨_, rfl⟩
  have hR : w1.heap[Rs]? = some (.cells #[.bool false] 4 (0, 0)) := by rw [hw1, hRs]; exact (Below.heap_alloc _ _ _ (by simp)).trans (alloc_new _ _)
  have hZ : w1.heap[Z]? = some (.cells #[.bool false, .slice none 0 0, .slice none 0 0] 93 (0, 0)) := by have := alloc_new (w.alloc (.cells #[.bool false] 4)) (.cells #[.bool false, .slice none 0 0, .slice none 0 0] 93); rw [hw1, hZs]; rwa [World.size_alloc] at this
  have hb1 : Below w.heap.size w w1 := by rw [hw1]; exact ((Below.refl _ _).alloc (Nat.le_refl _) _).alloc (by simp) _
  have cZ : w1.cell? ⟨Z, 0, none⟩ = some (.bool false) := by simp [World.cell?, hZ]
  have hRw : w.heap.size ≤ Rs := by omega
  have hRl : Rs < w1.heap.size := block_lt hR
  rw [← hw1, ← hZs, ← hRs]
  clear hw1 hRs hZs hZ
  refine ((callsIn_wide (n := 0)).2 (send_err _ 0 2 _ _ _ (.inr rfl) _ (way_nil 0 _))).mono ?_
  rintro e w' ⟨rfl, rfl⟩
  gi_wp2_with fail
  refine ((callsIn_wide (n := 0)).2 (deliver_err _ 0 0 _ ⟨_, rfl⟩ 2 (by omega) _ (at_err _ 0 0 2 (.inr rfl) _ (way_zero Z 0 _ cZ)))).mono ?_
  rintro e w' ⟨rfl, rfl⟩
  gi_wp2_with fail
  refine ((callsIn_wide (n := 0)).2 (all36 _ ⟨_, rfl⟩ 0 _)).mono ?_
  rintro e w' ⟨rfl, rfl⟩
  gi_wp2_with fail
  refine ((callsIn_wide (n := 0)).2 (safe35 _ _ _)).mono ?_
  rintro e w' ⟨rfl, rfl⟩
  gi_wp2_with fail
  refine wp_range (gf := 50) rfl enters50 (fun B x => RY_stb _ B x) (all50_nil w1.heap.size (w1.heap.size + 1) 0) (fun _ => by rfl)
    (fun pre W => Below (w1.heap.size + 2) ((w1.alloc (.cells #[.pointer none] 70)).alloc (.cells #[.int .i64 0] 3)) W)
    (fun c pre W => False)
    (fun _ => Stb.below (by simp) (by simp)) (fun c pre => Stb.pure _ _) ?pre (Below.refl _ _) ?a1 ?assign ?body ?done ?stop
  case pre =>
    rintro pre W hB
    have g1 := hB.cell (p := ⟨w1.heap.size, 0, none⟩) (by show w1.heap.size < _; omega)
    have g2 := hB.cell (p := ⟨w1.heap.size + 1, 0, none⟩) (by show w1.heap.size + 1 < _; omega)
    rw [g1, g2]
    refine ⟨?_, ?_⟩
    · have := (Below.heap_alloc (w1.alloc (.cells #[.pointer none] 70)) (.cells #[.int .i64 0] 3) w1.heap.size (by simp)).trans (alloc_new w1 _)
      simp [World.cell?, this]
    · have := alloc_new (w1.alloc (.cells #[.pointer none] 70)) (.cells #[.int .i64 0] 3)
      rw [World.size_alloc] at this
      simp only [World.cell?, this]
      rfl
  case assign =>
    intro l' x W' K hK
    simp only [encY, encS]
    gi_wp2
    exact hK
  case body =>
    rintro l pre x rest W hS
    have := congrArg List.length hS
    simp [zips] at this
  case stop =>
    rintro D c pre rest W hD hS hF
    exact hF.elim
  case done =>
    rintro D xs w2 hD hS hB hK
    have hb2 : Below w.heap.size w w2 := by
      have h3 : Below w.heap.size w ((w1.alloc (.cells #[.pointer none] 70)).alloc (.cells #[.int .i64 0] 3)) := (hb1.alloc hb1.size _).alloc (by have := hb1.size; simp; omega) _
      exact h3.trans (hB.mono (by have := hb1.size; omega))
    have hR2 : w2.heap[Rs]? = some (.cells #[.bool false] 4 (0, 0)) := by
      rw [hB.block Rs (by omega), Below.heap_alloc _ _ _ (by simp; omega), Below.heap_alloc _ _ _ (by omega)]; exact hR
    have cZ2 : w2.cell? ⟨Z, 0, none⟩ = some (.bool false) := by
      have hZl := World.block_lt_of_cell? w1 _ cZ
      simp only at hZl
      rw [hB.cell (p := ⟨Z, 0, none⟩) (by show Z < _; omega), World.cell?_of_block (w := w1) (a := ⟨Z, 0, none⟩) (by rw [Below.heap_alloc _ _ _ (by simp; omega), Below.heap_alloc _ _ _ (by omega)])]; exact cZ
    have hDs : D < w2.heap.size := block_lt hK
    have hDw : w.heap.size ≤ D := by have := hb1.size; simp only [World.size_alloc] at hD; omega
    clear hB hD hS hR cZ hb1
    gi_wp2_with fail
    refine ((callsIn_wide (n := 0)).2 (double_err _ 9 9 _ ⟨_, rfl⟩ 2 (by omega) _ (at_err _ 9 9 2 (.inr rfl) _ (way_nil 9 _)))).mono ?_
    rintro e w' ⟨rfl, rfl⟩
    gi_wp2_with fail
    refine ((callsIn_wide (n := 0)).2 (flip_err _ 0 0 0 _ ⟨_, rfl⟩ 2 (by omega) _ (at_err _ 0 0 2 (.inr rfl) _ (way_zero Z 0 _ cZ2)))).mono ?_
    rintro e w' ⟨rfl, rfl⟩
    gi_wp2_with fail
    refine ((callsIn_wide (n := 0)).2 (waits_err _ 0 2 (.inr rfl) _ (way_nil 0 _))).mono ?_
    rintro e w' ⟨rfl, rfl⟩
    clear cZ2
    gi_wp2_with fail
    refine ((callsIn_wide (n := 0)).2 (has_new _)).mono ?_
    rintro e w3 ⟨N, rfl, h3, _⟩
    gi_wp2_with fail
    refine ((callsIn_wide (n := 0)).2 (send_err _ 2 1 _ _ _ (.inl rfl) _ (h3.bad 2 (.inr (by omega))))).mono ?_
    rintro e w' ⟨rfl, rfl⟩
    have mk601 := mk_bytes 601 601 rfl (by omega) w3
    gi_wp2_with fail
    refine ((callsIn_wide (n := 0)).2 (send_long N 0 _ 601 _ (by omega) _ ((h3.al _).good 0 (by omega)))).mono ?_
    rintro e w' ⟨rfl, rfl⟩
    clear mk601
    replace h3 := h3.al (.cells (made 601) 5)
    generalize w3.alloc (.cells (made 601) 5) = w4 at h3 ⊢
    generalize w3.heap.size = q3
    gi_wp2_with fail
    refine ((callsIn_wide (n := 0)).2 (deliver_err _ (-1) 0 _ ⟨_, rfl⟩ 1 (by omega) _ (at_err _ (-1) 0 1 (.inl rfl) _ (h3.bad (-1) (.inl (by omega)))))).mono ?_
    rintro e w' ⟨rfl, rfl⟩
    gi_wp2_with fail
    refine ((callsIn_wide (n := 0)).2 (deliver_err _ 1 0 _ ⟨_, rfl⟩ 6 (by omega) _ (h3.gone 1 0 (by omega) (.inr (by simp)) (by simp)))).mono ?_
    rintro e w' ⟨rfl, rfl⟩
    have hL : Has w2 N (tw (ups 0) []) w4 := h3.congr rfl rfl
    have hD4 := hL.bel.size
    clear h3
    gi_wp2_with fail
    gi_loopw [83] (fun i wr => ∃ k : Nat, k ≤ 64 ∧ i = .int .i64 k ∧ Has w2 N (tw (ups k) []) wr) (fun i _ => 64 - (intOf i).toNat)
    case atStart => exact ⟨0, by omega, rfl, hL⟩
    case round =>
      clear hL hD4
      obtain ⟨k, hk, rfl, hL⟩ := hrel
      by_cases hlt : k < 64
      · have S1 := Lib.hid fun (q c : Nat) (f : Nat × Nat) (hq : q = wr.heap.size) => known_step hL hlt q c f hq
        clear hL
        gi_wp2_with (gi_at_call 29; refine ((callsIn_wide (n := 0)).2 (S1.out _ _ _ rfl)).mono ?_; rintro e W5 ⟨rfl, h5⟩)
        go_roundw
        case rel => exact ⟨k + 1, by omega, by go_num, h5⟩
        case measure => simp [intOf]; omega
      · obtain rfl : k = 64 := by omega
        have mk600 := mk_bytes 600 600 rfl (by omega) wr
        have HL := Lib.hid hL
        clear hL
        gi_wp2_with fail
        refine ((callsIn_wide (n := 0)).2 (known_last HL.out _ _ rfl)).mono ?_
        rintro e W6 ⟨rfl, h6⟩
        clear mk600 HL
        generalize wr.heap.size = q6
        gi_wp2_with fail
        refine ((callsIn_wide (n := 0)).2 (h6.full 0 0 (by omega) (by simp [tw, Tl_len]) (by simp [tw]))).mono ?_
        rintro e w' ⟨rfl, rfl⟩
        gi_wp2_with fail
        refine ((callsIn_wide (n := 0)).2 (has_deliver h6 0 0 (by omega) (by simp [tw, Tl_len]) [1] rfl)).mono ?_
        rintro e W7 ⟨q7, n7, c7, rfl, hn7, o7, _, h7⟩
        obtain rfl : n7 = 1 := hn7
        replace h7 : Has w2 N (tw ([2] :: Tl) []) W7 := h7.congr rfl rfl
        clear h6
        gi_wp2_with fail
        refine ((callsIn_wide (n := 0)).2 (all36 _ ⟨_, rfl⟩ 0 _)).mono ?_
        rintro e w' ⟨rfl, rfl⟩
        gi_wp2_with fail
        refine ((callsIn_wide (n := 0)).2 (safe35 _ _ _)).mono ?_
        rintro e w' ⟨rfl, rfl⟩
        gi_wp2_with fail
        obtain ⟨r7, g7, hn, hg7⟩ := h7
        have h70 := hg7 0 (by omega)
        have hgl : (g7 0).length = 63 := by have := congrArg List.length h70; simpa [tw, Tl_len] using this
        have hgx : ∀ p ∈ g7 0, p.2.length ≤ 600 := fun p hp => by
          have h1 : p.2 ∈ (tw ([2] :: Tl) []) 0 := by rw [← h70]; exact List.mem_map.2 ⟨p, hp, rfl⟩
          have h2 : p.2 ∈ [2] :: Tl := h1
          rw [Tl, List.mem_cons, List.mem_append, List.mem_map, List.mem_singleton] at h2
          rcases h2 with h2 | ⟨j, _, h2⟩ | h2
          · rw [h2]; simp
          · rw [← h2]; simp
          · rw [h2, zs600, List.length_replicate]; omega
        have hyl : ((g7 0).map Prod.snd).length = 63 := by rw [List.length_map, hgl]
        obtain ⟨X, hX⟩ : ∃ X, X = W7.heap.size := ⟨_, rfl⟩
        have H7 : Hid (Has w2 N (tw ([2] :: Tl) []) W7) := Lib.hid ⟨r7, g7, hn, hg7⟩
        have O7 := Lib.hid o7
        have IT := all50 w2 N r7 g7 0 (X + 1) (X + 2) (by omega) (by omega) hgx
        generalize (g7 0).map Prod.snd = ys at IT hyl
        have I0 : Below X W7 (((W7.alloc (.cells #[.int .i64 0] 3)).alloc (.cells #[.pointer (some ⟨N, 0, none⟩)] 70)).alloc (.cells #[.int .i64 0] 3)) := by
          subst hX; exact (((Below.refl _ _).alloc (Nat.le_refl _) _).alloc (by simp) _).alloc (by simp only [World.size_alloc]; omega) _
        have I1 : (((W7.alloc (.cells #[.int .i64 0] 3)).alloc (.cells #[.pointer (some ⟨N, 0, none⟩)] 70)).alloc (.cells #[.int .i64 0] 3)).heap[X]? = some (.cells #[.int .i64 0] 3 (0, 0)) := by
          rw [hX]; simp only [alloc_at, World.size_alloc]; repeat (first | rfl | rw [if_pos (by omega)] | rw [if_neg (by omega)])
        have I2 : (((W7.alloc (.cells #[.int .i64 0] 3)).alloc (.cells #[.pointer (some ⟨N, 0, none⟩)] 70)).alloc (.cells #[.int .i64 0] 3)).heap[X + 1]? = some (.cells #[.pointer (some ⟨N, 0, none⟩)] 70 (0, 0)) := by
          rw [hX]; simp only [alloc_at, World.size_alloc]; repeat (first | rfl | rw [if_pos (by omega)] | rw [if_neg (by omega)])
        have I3 : (((W7.alloc (.cells #[.int .i64 0] 3)).alloc (.cells #[.pointer (some ⟨N, 0, none⟩)] 70)).alloc (.cells #[.int .i64 0] 3)).heap[X + 2]? = some (.cells #[.int .i64 0] 3 (0, 0)) := by
          rw [hX]; simp only [alloc_at, World.size_alloc]; repeat (first | rfl | rw [if_pos (by omega)] | rw [if_neg (by omega)])
        have I4 : (((W7.alloc (.cells #[.int .i64 0] 3)).alloc (.cells #[.pointer (some ⟨N, 0, none⟩)] 70)).alloc (.cells #[.int .i64 0] 3)).heap.size = X + 3 := by rw [hX]; simp only [World.size_alloc]
        rw [← hX]
        generalize ((W7.alloc (.cells #[.int .i64 0] 3)).alloc (.cells #[.pointer (some ⟨N, 0, none⟩)] 70)).alloc (.cells #[.int .i64 0] 3) = W8 at I0 I1 I2 I3 I4 ⊢
        have HX := Lib.hid hX
        have hX7 : X ≤ W7.heap.size ∧ X ≤ W8.heap.size := by omega
        clear hX
        refine wp_range (gf := 50) rfl enters50 (fun B x => RY_stb _ B x) IT (fun _ => by rfl)
          (fun pre W => Below X W7 W ∧ W.heap[X]? = some (.cells #[.int .i64 (pre.length : Nat)] 3 (0, 0)) ∧ W.heap[X + 1]? = some (.cells #[.pointer (some ⟨N, 0, none⟩)] 70 (0, 0)) ∧ W.heap[X + 2]? = some (.cells #[.int .i64 0] 3 (0, 0)) ∧ pre.length ≤ 4)
          (fun c pre W => c = .exit 4 ∧ Below X W7 W ∧ W.heap[X]? = some (.cells #[.int .i64 5] 3 (0, 0)))
          (fun _ => (Stb.below (by omega) (by omega)).and ((Stb.block _ _ _ rfl).and ((Stb.block _ _ _ rfl).and ((Stb.block _ _ _ rfl).and (Stb.pure _ _)))))
          (fun c pre => (Stb.pure _ _).and ((Stb.below (by omega) (by omega)).and (Stb.block _ _ _ rfl))) ?pre ⟨I0, I1, I2, I3, by simp⟩ ?a2 ?assign ?body ?done ?stop
        case pre =>
          rintro pre W ⟨hB, _, h1, h2, _⟩
          exact ⟨by simp [World.cell?, h1], by simp [World.cell?, h2], hn.same (HX.out ▸ hB)⟩
        case assign =>
          intro l' x W' K hK
          simp only [encY, encS]
          gi_wp2
          exact hK
        case body =>
          rintro l' pre x rest W hS hl ⟨_, hr⟩ ⟨hB, h0, h1, h2, hlen⟩ _
          have c0 : W.cell? ⟨X, 0, none⟩ = some (.int .i64 pre.length) := by simp [World.cell?, h0]
          have f0 : W.frozen? ⟨X, 0, none⟩ = false := by simp [World.frozen?, h0]
          have hw : IntKind.i64.wrap ((pre.length : Int) + 1) = (pre.length : Int) + 1 := IntWalk.i64_in _ (by omega)
          clear hn hg7 h70 hgx IT I0 I1 I2 I3
          by_cases h4 : pre.length = 4
          · gi_wp2
            refine ⟨KeepBk.setCell _ _ _ _ (fun o ho => by rw [h0] at ho; cases ho; rfl), rfl, hB.setCell (Nat.le_refl _) _, ?_⟩
            rw [set_cells h0]
            simp [h4]
          · gi_wp2
            refine ⟨KeepBk.setCell _ _ _ _ (fun o ho => by rw [h0] at ho; cases ho; rfl), hB.setCell (Nat.le_refl _) _, ?_, ?_, ?_, by simp; omega⟩
            · rw [set_cells h0]; simp
            · rw [Below.heap_setCell _ _ _ _ (by show X + 1 ≠ X; omega)]; exact h1
            · rw [Below.heap_setCell _ _ _ _ (by show X + 2 ≠ X; omega)]; exact h2
        case done =>
          rintro D2 xs2 W hD2 hS ⟨_, _, _, _, hlen⟩
          have := congrArg List.length hS
          rw [List.length_map, zips_len] at this
          omega
        case stop =>
          rintro D2 c pre rest W9 hD2 hS ⟨rfl, hB, h0⟩ hK2
          clear IT hn hg7 h70 hgx
          have B9 := HX.out ▸ hB
          have H9 := Lib.hid (H7.out.same B9)
          have hD2 : D2 < W9.heap.size := block_lt hK2
          have hDw2 : w.heap.size ≤ D2 := by have := H7.out.bel.size; have := HX.out; have := hb2.size; omega
          have hDD : D2 ≠ D := by have := H7.out.bel.size; have := HX.out; omega
          have O9 := Lib.hid (OffRow.below_ O7.out B9)
          have S10 := Lib.hid (has_send H9.out 1 (by omega) (by simp [tw]) [] none 0 0 (src_nil2 _ _) rfl (by simp))
          clear H7 O7 hB B9
          gi_wp2_with fail
          refine ((callsIn_wide (n := 0)).2 S10.out).mono ?_
          rintro e W10 ⟨rfl, k10, h10⟩
          replace h10 : Has w2 N (tw ([2] :: Tl) [[]]) W10 := h10.congr rfl rfl
          have hX10 : W10.cell? ⟨X, 0, none⟩ = some (.int .i64 5) := by have := k10.cells h0 (by decide); simp [World.cell?, this]
          have hK10 : W10.heap[D2]? = some (.deferred (some [])) := k10 _ _ hK2 (fun _ _ _ e => by cases e)
          have hK10' : W10.heap[D]? = some (.deferred (some [])) := (h10.bel.block D hDs).trans hK
          have hR10 : W10.heap[Rs]? = some (.cells #[.bool false] 4 (0, 0)) := (h10.bel.block Rs (block_lt hR2)).trans hR2
          have o10 := O9.out.keep5 k10
          obtain ⟨p7, r7, rfl⟩ := o10.addr (by simp)
          have c10 : W10.cell? ⟨p7, r7, none⟩ = some (.int .u8 1) := o10.cellG 0 (by simp)
          have F1 := Lib.hid (has_flip_high h10 1 0 0 (by omega) (by simp [tw]) [] rfl (by simp) (by omega) (by simp))
          have F2 := Lib.hid (has_flip_high h10 0 0 8 (by omega) (by simp [tw, Tl_len]) [2] rfl (by simp) (by omega) (by simp))
          have F3 := Lib.hid (h10.low 0 0 (-1) (by omega) (by simp [tw, Tl_len]) (by simp [tw]) (by omega))
          have F4 := Lib.hid (has_waits h10 0 (by omega))
          have e63 : ((tw ([2] :: Tl) [[]] 0).length : Int) = 63 := by simp [tw, Tl_len]
          have hb10 := h10.bel
          clear S10 H9 O9 o10 k10 h10 hK hK2 hR2
          gi_wp2_with fail
          refine ((callsIn_wide (n := 0)).2 F1.out).mono ?_
          rintro e w' ⟨rfl, rfl⟩
          gi_wp2_with fail
          refine ((callsIn_wide (n := 0)).2 F2.out).mono ?_
          rintro e w' ⟨rfl, rfl⟩
          gi_wp2_with fail
          refine ((callsIn_wide (n := 0)).2 F3.out).mono ?_
          rintro e w' ⟨rfl, rfl⟩
          gi_wp2_with fail
          refine ((callsIn_wide (n := 0)).2 F4.out).mono ?_
          rintro e w' ⟨rfl, rfl⟩
          rw [e63]
          gi_wp2_with fail
          refine ((callsIn_wide (n := 0)).2 (wakes11 _)).mono ?_
          rintro e W11 ⟨rfl, hb11⟩
          have hb10w : Below w.heap.size w2 W10 := hb10.mono hb2.size
          have hb11w : Below w.heap.size W10 W11 := hb11.mono (Nat.le_trans hb2.size hb10.size)
          have hR11 : W11.heap[Rs]? = some (.cells #[.bool false] 4 (0, 0)) := (hb11.block Rs (block_lt hR10)).trans hR10
          have hK11 := (hb11.block D2 (block_lt hK10)).trans hK10
          have hK11' := (hb11.block D (block_lt hK10')).trans hK10'
          have i11 : (W11.cell? ⟨Rs, 0, none⟩) = some (.bool false) := by simp [World.cell?, hR11]
          have f11 : W11.frozen? ⟨Rs, 0, none⟩ = false := by simp [World.frozen?, hR11]
          gi_wp2
          have nR : ∀ x, x ≠ Rs → (W11.setCell ⟨Rs, 0, none⟩ (.bool true)).heap[x]? = W11.heap[x]? := fun x hx => Below.heap_setCell _ _ _ _ hx
          have n1 : D2 ≠ Rs := by rintro rfl; rw [hR11] at hK11; cases hK11
          have n2 : D ≠ Rs := by rintro rfl; rw [hR11] at hK11'; cases hK11'
          have hRf := set_cells (o := 0) (x := .bool true) hR11
          refine leave_mark2 (.inr rfl) ((nR _ n1).trans hK11) ((nR _ n2).trans hK11') (Ne.symm hDD) (v := .bool true) (res9 _ Rs _ _ rfl ?_) ⟨rfl, ?_⟩
          · have : (((W11.setCell ⟨Rs, 0, none⟩ (.bool true)).putObj D2 (.deferred none)).putObj D (.deferred none)).heap[Rs]? = some (.cells #[.bool true] 4 (0, 0)) := (World.putObj_heap_other (Ne.symm n2)).trans ((World.putObj_heap_other (Ne.symm n1)).trans hRf)
            simp [World.cell?, this]
          · have hw2 : w.heap.size ≤ D2 ∧ w.heap.size ≤ D := ⟨hDw2, hDw⟩
            exact ((((hb2.trans hb10w).trans hb11w).setCell hRw _).grown (grownBy_putObj0 _ _ _) (by have := hb2.size; have := hb10.size; have := hb11.size; simp [World.setCell]; omega) (fun r e => by cases e; exact hDw2)).grown (grownBy_putObj0 _ _ _) (by have := hb2.size; have := hb10.size; have := hb11.size; simp [World.setCell]; omega) (fun r e => by cases e; exact hDw)
end Go.Proofs.Ytbmhgdfkkiepaaa
