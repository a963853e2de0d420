/-
  The document's Has, Missing, Told, Mask, each by its contract; the law's had.
-/
import Derived.Test.YtmghgjokleeigaaKnown
import Derived.Laws.AppendOwn
import Derived.OwnWalk
import Derived.Deep.DeepCutAuto
namespace Go.Proofs.Ytmghgjokleeigaa
open Go.RowKit Go.Shelf

theorem rhas_any (v : Value) (xs : List Nat) (y : Nat) (w : World) (hv : RowU .u32 w v xs) (hx : xs.length ≤ 1099511627776) :
    Calls Try.prog 64 #[v, .int .u32 y] w fun e W => e = .returned (.bool (decide (y ∈ xs))) ∧ w = W := by
  obtain ⟨q1, c1, rfl, hv⟩ := hv
  have Hv := Lib.hid hv; clear hv
  go_enter Try.func64, Try.ntmps64
  go_wp2_with fail
  go_loop [5] (fun i => ∃ k : Nat, k ≤ xs.length ∧ i = .int .i64 k ∧ y ∉ xs.take k) (fun i => xs.length - (intOf i).toNat)
  case atStart => exact ⟨0, Nat.zero_le _, rfl, by simp⟩
  case round =>
    obtain ⟨k, hk, rfl, heq⟩ := hrel
    have Heq := Lib.hid heq; clear heq
    by_cases hlt : k < xs.length
    · obtain ⟨b1, o1, rfl, hc1⟩ := Hv.out (by intro e; simp [e] at hlt)
      have f1 := hc1 k xs[k] (by simp)
      obtain ⟨x, ex⟩ : ∃ x, x = xs[k] := ⟨_, rfl⟩
      rw [← ex] at f1
      have Ex := Lib.hid ex
      clear hc1 ex Hv
      by_cases he : x = y
      · have he' : ((x : Int) == (y : Int)) = true := by rw [he]; simp
        have He := Lib.hid he; clear he
        go_wp2_with fail
        go_ret
        exact ⟨ret_bool (decide_eq_true (by rw [← He.out, Ex.out]; simp)).symm, rfl⟩
      · have he' : ((x : Int) == (y : Int)) = false := by rw [beq_eq_false_iff_ne]; omega
        have He := Lib.hid he; clear he
        go_wp2_with fail
        refine ⟨⟨k + 1, by omega, by go_num, ?_⟩, by simp [intOf]; omega⟩
        rw [List.take_succ_eq_append_getElem hlt, List.mem_append]
        rintro (h | h)
        · exact Heq.out h
        · rw [List.mem_singleton, ← Ex.out] at h; exact He.out h.symm
    · go_wp2_with fail
      go_ret
      have h := Heq.out
      rw [List.take_of_length_le (by omega)] at h
      exact ⟨ret_bool (decide_eq_false h).symm, rfl⟩

theorem enters20 : Enters 20 := fun _ _ => (enters_of Try.func20 (by kernel_rfl) rfl) _ _
theorem had_any (B x : Nat) (v : Value) (xs : List Nat) (w : World) (hB : w.heap[B]? = some (.cells #[v] 26 (0, 0))) (hv : RowU .u32 w v xs) (hx : xs.length ≤ 1099511627776) :
    Calls Try.prog 20 #[.int .u32 x, .pointer (some ⟨B, 0, none⟩)] w fun e W => e = .returned (.bool (decide (x ∈ xs))) ∧ w = W := by
  have hc := one_cell hB
  obtain ⟨q, c, rfl, hv'⟩ := hv
  have Hv : Hid (RowU .u32 w (.slice q xs.length c) xs) := Lib.hid ⟨q, c, rfl, hv'⟩
  clear hv'
  go_enter Try.func20, Try.ntmps20
  go_wp2_with (go_at_call 21; refine (contains_any _ _ _ _ Hv.out hx).mono ?_; rintro e w' ⟨rfl, rfl⟩)
  go_ret
  exact ⟨rfl, rfl⟩
theorem own_ge {W : World} {base k : Nat} {e : TypeId} {size : Nat} {v : Value} {n : Nat} {xs : List Value} (h : W.ownsRow base e size v n xs) (he : v.ownBlock = some k) : base ≤ k := by
  rcases h.2 with ⟨rfl, _⟩ | ⟨g, cap, cur, rfl, hb, _⟩
  · simp [Value.ownBlock] at he
  · simp [Value.ownBlock] at he; omega
/-- Behind k numbers: the list so far. -/
def missL (f k : Nat) (hv : List Nat) : List Nat := (List.range' f k).filter fun n => !decide (n ∈ hv)
theorem missL_succ_in (f k : Nat) (hv : List Nat) (h : f + k ∈ hv) : missL f (k + 1) hv = missL f k hv := by
  unfold missL
  rw [List.range'_concat, List.filter_append]
  simp [h]
theorem missL_succ_out (f k : Nat) (hv : List Nat) (h : f + k ∉ hv) : missL f (k + 1) hv = missL f k hv ++ [f + k] := by
  unfold missL
  rw [List.range'_concat, List.filter_append]
  simp [h]
theorem missL_take (f k m most : Nat) (hv : List Nat) (hk : k ≤ m) (h : (missL f k hv).length = most) : (missL f m hv).take most = missL f k hv := by
  unfold missL at h ⊢
  obtain ⟨d, rfl⟩ : ∃ d, m = k + d := ⟨m - k, by omega⟩
  rw [← List.range'_append_1, List.filter_append, List.take_append_of_le_length (by omega), List.take_of_length_le (by omega)]

set_option maxRecDepth 100000 in
set_option maxHeartbeats 400000 in
theorem rmissing_any (f t most : Nat) (hf : f ≤ 4294967295) (ht : t ≤ 4294967295) (hm : most ≤ 1000) (u : Value) (hv : List Nat) (w : World) (hu : ∀ A, Below w.heap.size w A → RowU .u32 A u hv) (hx : hv.length ≤ 1099511627776) :
    Calls Try.prog 23 #[.int .u32 f, .int .u32 t, u, .int .i64 most] w (FirstPost (missL f (t - f) hv) most w) := by
  obtain ⟨i0, hi, hz0, hz1, hz2⟩ := info_parts Try.info22
  have HU := Lib.hid hu; clear hu
  go_enter Try.func23, Try.ntmps23
  go_wp2_with fail
  go_loopw [9, 10] (fun v i wr => ∃ k : Nat, f + k ≤ max f t ∧ i = .int .u64 ((f + k : Nat) : Int) ∧ wr.ownsRow w.heap.size 22 1 v (missL f k hv).length ((missL f k hv).map fun x : Nat => Value.int .u32 x) ∧ (missL f k hv).length ≤ most ∧ Below w.heap.size w wr) (fun _ i _ => t - (intOf i).toNat)
  case atStart => exact ⟨0, by omega, rfl, World.ownsRow_nil _ _ _ _, by simp [missL], Below.refl _ _⟩
  case round =>
    obtain ⟨k, hk, rfl, hrow, hlen, hB⟩ := hrel
    have HU1 := Lib.hid (HU.out wr hB)
    clear HU
    have S1 : Hid (f + k ∈ hv → missL f (k + 1) hv = missL f k hv) := Lib.hid (missL_succ_in f k hv)
    have S2 : Hid (f + k ∉ hv → missL f (k + 1) hv = missL f k hv ++ [f + k]) := Lib.hid (missL_succ_out f k hv)
    have S3 : Hid (k ≤ t - f → (missL f k hv).length = most → (missL f (t - f) hv).take most = missL f k hv) := Lib.hid (missL_take f k (t - f) most hv)
    have S4 : Hid (k = t - f → missL f (t - f) hv = missL f k hv) := Lib.hid (fun h => by rw [h])
    have hpost : Hid (∀ L, (missL f (t - f) hv).take most = L → ∀ e W, (∃ v, e = .returned v ∧ W.ownsRow w.heap.size 22 1 v L.length (L.map fun x : Nat => Value.int .u32 x) ∧ Below w.heap.size w W) → FirstPost (missL f (t - f) hv) most w e W) := Lib.hid (fun L hL e W h => by subst hL; exact h)
    obtain ⟨n, hn⟩ : ∃ n, n = f + k := ⟨_, rfl⟩
    rw [← hn] at hk S1 S2 ⊢
    have Hn := Lib.hid hn; clear hn
    generalize missL f k hv = L at hrow hlen S1 S2 S3 S4 hpost
    obtain ⟨q, c, rfl⟩ := owns_slice hrow
    have Hrow := Lib.hid hrow; clear hrow
    obtain ⟨l, hl⟩ : ∃ l, l = L.length := ⟨_, rfl⟩
    rw [← hl] at hlen ⊢
    have Hl := Lib.hid hl; clear hl
    have hl1 : l ≤ 1000 := by omega
    by_cases hlt : n < t
    · have hlt' : decide (n < t) = true := decide_eq_true hlt
      by_cases hfull : l < most
      · by_cases hin : n ∈ hv
        · have C1 : Hid (Calls Try.prog 64 #[u, .int .u32 n] wr fun e W => e = .returned (.bool true) ∧ wr = W) := Lib.hid ((rhas_any u hv n wr HU1.out hx).mono fun e W h => ⟨h.1.trans (ret_bool (decide_eq_true hin)), h.2⟩)
          have Hin := Lib.hid hin; clear hin
          go_wp2_with (go_at_call 64; refine C1.out.mono ?_; rintro e w' ⟨rfl, rfl⟩)
          refine ⟨⟨k + 1, by have := Hn.out; omega, by have := Hn.out; congr 1; omega, ?_, ?_, hB⟩, by simp [intOf]; omega⟩
          · rw [S1.out Hin.out, Hl.out]; exact Hrow.out
          · rw [S1.out Hin.out]; have := Hl.out; omega
        · have C1 : Hid (Calls Try.prog 64 #[u, .int .u32 n] wr fun e W => e = .returned (.bool false) ∧ wr = W) := Lib.hid ((rhas_any u hv n wr HU1.out hx).mono fun e W h => ⟨h.1.trans (ret_bool (decide_eq_false hin)), h.2⟩)
          have Hin := Lib.hid hin; clear hin
          have hrow : wr.ownsRow w.heap.size 22 1 (.slice q l c) l (L.map fun x : Nat => Value.int .u32 x) := by rw [Hl.out]; exact Hrow.out
          have hsz := hB.size
          go_wp2_with (first | (go_at_call 64; refine C1.out.mono ?_; rintro e w' ⟨rfl, rfl⟩) | (at_builtin; refine wpList_append_own _ rfl _ _ 26 rfl w.heap.size 22 i0 (.int .u32 0) 1 4 Try.underlying26 hi hz0 hz1 hz2 rfl (by decide) _ _ _ rfl (hrow.alloc _) ⟨wr.heap.size, 0, none⟩ 1 1 [.int .u32 n] rfl rfl (cell_one_new _ _ _) (by simp [Value.oneCell']) (by unfold maxLen; omega) (by omega) (by simp; omega) ?_; intro v' w1 hown' hgrow _; obtain ⟨g', cap', rfl⟩ := ownsRow_succ hown'))
          refine ⟨⟨k + 1, by have := Hn.out; omega, by have := Hn.out; congr 1; omega, ?_, ?_, ?_⟩, by simp [intOf]; omega⟩
          · rw [S2.out Hin.out]; simpa [Hl.out] using hown'
          · rw [S2.out Hin.out]; have := Hl.out; simp; omega
          · exact (hB.alloc hB.size _).grown hgrow (by simp; omega) (fun kk e => own_ge hrow e)
      · go_wp2_with fail
        go_ret
        exact hpost.out L (S3.out (by have := Hn.out; omega) (by have := Hl.out; omega)) _ _ ⟨_, rfl, by rw [Hl.out]; exact Hrow.out, hB⟩
    · have hlt' : decide (n < t) = false := decide_eq_false hlt
      go_wp2_with fail
      go_ret
      have e1 := S4.out (by have := Hn.out; omega)
      exact hpost.out L (by rw [e1]; exact List.take_of_length_le (by have := Hl.out; omega)) _ _ ⟨_, rfl, by rw [Hl.out]; exact Hrow.out, hB⟩

/-! ### Told -/
/-- Of the numbers behind an ack, the first k: those that the mask tells. -/
def tellL (ack mask k : Nat) : List Nat := (List.range' (ack + 1) (min k (4294967295 - ack))).filter fun n => mask.testBit (n - ack - 1)
theorem tellL_32 (ack mask : Nat) : tellL ack mask 32 = toldL ack mask := rfl
theorem tellL_succ_in (ack mask k : Nat) (h : mask.testBit k = true ∧ ack + 1 + k ≤ 4294967295) : tellL ack mask (k + 1) = tellL ack mask k ++ [ack + 1 + k] := by
  unfold tellL
  rw [Nat.min_eq_left (by omega), Nat.min_eq_left (by omega), List.range'_concat, List.filter_append]
  have e : ack + 1 + k - ack - 1 = k := by omega
  simp [h.1, e]
theorem tellL_succ_out (ack mask k : Nat) (h : ¬ (mask.testBit k = true ∧ ack + 1 + k ≤ 4294967295)) : tellL ack mask (k + 1) = tellL ack mask k := by
  unfold tellL
  by_cases h1 : ack + 1 + k ≤ 4294967295
  · have h2 : mask.testBit k = false := by cases e : mask.testBit k with | false => rfl | true => exact (h ⟨e, h1⟩).elim
    rw [Nat.min_eq_left (by omega), Nat.min_eq_left (by omega), List.range'_concat, List.filter_append]
    have e : ack + 1 + k - ack - 1 = k := by omega
    simp [h2, e]
  · rw [Nat.min_eq_right (by omega), Nat.min_eq_right (by omega)]
theorem tellL_len (ack mask k : Nat) : (tellL ack mask k).length ≤ k := by
  unfold tellL
  refine Nat.le_trans (List.length_filter_le _ _) ?_
  rw [List.length_range']; omega
def RToldPost (L : List Nat) (w : World) (e : Ending) (W : World) : Prop := ∃ v, e = .returned v ∧ W.ownsRow w.heap.size 22 1 v L.length (L.map fun x : Nat => Value.int .u32 x) ∧ Below w.heap.size w W
theorem half_bit (mask k : Nat) : if mask.testBit k = true then ((mask / 2 ^ k : Nat) : Int) % 2 = 1 else ((mask / 2 ^ k : Nat) : Int) % 2 = 0 := by
  rw [Nat.testBit_eq_decide_div_mod_eq]
  generalize mask / 2 ^ k = M
  by_cases h : M % 2 = 1
  · rw [if_pos (by simpa using h)]; omega
  · rw [if_neg (by simpa using h)]; omega

set_option maxRecDepth 100000 in
set_option maxHeartbeats 400000 in
theorem rtold_any (ack mask : Nat) (ha : ack ≤ 4294967295) (hm : mask ≤ 4294967295) (w : World) :
    Calls Try.prog 26 #[.int .u32 ack, .int .u32 mask] w (RToldPost (toldL ack mask) w) := by
  obtain ⟨i0, hi, hz0, hz1, hz2⟩ := info_parts Try.info22
  go_enter Try.func26, Try.ntmps26
  go_wp2_with fail
  go_loopw [1, 5, 6, 7] (fun m v n i wr => ∃ k : Nat, k ≤ 32 ∧ i = .int .i64 k ∧ m = .int .u32 ((mask / 2 ^ k : Nat) : Int) ∧ n = .int .u64 ((ack + k : Nat) : Int) ∧ wr.ownsRow w.heap.size 22 1 v (tellL ack mask k).length ((tellL ack mask k).map fun x : Nat => Value.int .u32 x) ∧ Below w.heap.size w wr) (fun _ _ _ i _ => 32 - (intOf i).toNat)
  case atStart => exact ⟨0, by omega, rfl, by simp, by simp, World.ownsRow_nil _ _ _ _, Below.refl _ _⟩
  case round =>
    obtain ⟨k, hk, rfl, rfl, rfl, hrow, hB⟩ := hrel
    have Hbit := Lib.hid (half_bit mask k)
    have S1 : Hid (mask.testBit k = true ∧ ack + 1 + k ≤ 4294967295 → tellL ack mask (k + 1) = tellL ack mask k ++ [ack + 1 + k]) := Lib.hid (tellL_succ_in ack mask k)
    have S2 : Hid (¬ (mask.testBit k = true ∧ ack + 1 + k ≤ 4294967295) → tellL ack mask (k + 1) = tellL ack mask k) := Lib.hid (tellL_succ_out ack mask k)
    have S4 : Hid (k = 32 → toldL ack mask = tellL ack mask k) := Lib.hid (fun h => by rw [h, tellL_32])
    have hlen := tellL_len ack mask k
    have hM : mask / 2 ^ k ≤ 4294967295 := Nat.le_trans (Nat.div_le_self _ _) hm
    have E2 : Hid (mask / 2 ^ (k + 1) = mask / 2 ^ k / 2) := Lib.hid (by rw [Nat.pow_succ, Nat.div_div_eq_div_mul])
    generalize mask / 2 ^ k = M at Hbit hM E2 ⊢
    generalize tellL ack mask k = L at hrow hlen S1 S2 S4
    obtain ⟨q, c, rfl⟩ := owns_slice hrow
    have Hrow := Lib.hid hrow; clear hrow
    obtain ⟨l, hl⟩ : ∃ l, l = L.length := ⟨_, rfl⟩
    rw [← hl] at hlen ⊢
    have Hl := Lib.hid hl; clear hl
    obtain ⟨n, hn⟩ : ∃ n, n = ack + k := ⟨_, rfl⟩
    rw [← hn]
    have hn1 : n ≤ 4294967400 := by omega
    have Hn := Lib.hid hn; clear hn
    obtain ⟨N, hN⟩ : ∃ N, N = n + 1 := ⟨_, rfl⟩
    have hz : IntKind.u64.wrap ((n : Int) + 1) = (N : Int) := by simp [IntKind.wrap, IntKind.bits, IntKind.signed]; omega
    have hN2 : N ≤ 4294967500 := by omega
    have HN := Lib.hid hN; clear hN hn1
    by_cases hlt : k < 32
    · by_cases hb : mask.testBit k = true
      · have hb' : (M : Int) % 2 = 1 := by have := Hbit.out; rwa [if_pos hb] at this
        by_cases hin : N ≤ 4294967295
        · have hrow : wr.ownsRow w.heap.size 22 1 (.slice q l c) l (L.map fun x : Nat => Value.int .u32 x) := by rw [Hl.out]; exact Hrow.out
          have hsz := hB.size
          have Hb := Lib.hid hb; clear hb hN2
          go_wp2_with (at_builtin; refine wpList_append_own _ rfl _ _ 26 rfl w.heap.size 22 i0 (.int .u32 0) 1 4 Try.underlying26 hi hz0 hz1 hz2 rfl (by decide) _ _ _ rfl (hrow.alloc _) ⟨wr.heap.size, 0, none⟩ 1 1 [.int .u32 N] rfl rfl (cell_one_new _ _ _) (by simp [Value.oneCell']) (by unfold maxLen; omega) (by omega) (by simp; omega) ?_; intro v' w1 hown' hgrow _; obtain ⟨g', cap', rfl⟩ := ownsRow_succ hown')
          have e1 := S1.out ⟨Hb.out, by have := Hn.out; have := HN.out; omega⟩
          refine ⟨⟨k + 1, by omega, by go_num, by rw [E2.out]; congr 1, by have := Hn.out; have := HN.out; congr 1; omega, ?_, ?_⟩, by simp [intOf]; omega⟩
          · rw [e1, show ack + 1 + k = N by have := Hn.out; have := HN.out; omega]
            simpa [Hl.out] using hown'
          · exact (hB.alloc hB.size _).grown hgrow (by simp; omega) (fun kk e => own_ge hrow e)
        · have Hb := Lib.hid hb; clear hb
          go_wp2_with fail
          have e1 := S2.out (by have := Hn.out; have := HN.out; omega)
          refine ⟨⟨k + 1, by omega, by go_num, by rw [E2.out]; congr 1, by have := Hn.out; have := HN.out; congr 1; omega, ?_, hB⟩, by simp [intOf]; omega⟩
          rw [e1, Hl.out]; exact Hrow.out
      · have hb' : (M : Int) % 2 = 0 := by have := Hbit.out; rwa [if_neg hb] at this
        have Hb := Lib.hid hb; clear hb
        go_wp2_with fail
        have e1 := S2.out (by have := Hb.out; simp [this])
        refine ⟨⟨k + 1, by omega, by go_num, by rw [E2.out]; congr 1, by have := Hn.out; have := HN.out; congr 1; omega, ?_, hB⟩, by simp [intOf]; omega⟩
        rw [e1, Hl.out]; exact Hrow.out
    · go_wp2_with fail
      go_ret
      rw [S4.out (by omega)]
      exact ⟨_, rfl, by rw [← Hl.out]; exact (by rw [Hl.out]; exact Hrow.out), hB⟩
end Go.Proofs.Ytmghgjokleeigaa
