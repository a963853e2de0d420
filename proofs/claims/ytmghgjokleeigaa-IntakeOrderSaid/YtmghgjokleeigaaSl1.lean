/-
  slices.Equal, Index, Contains, IsSorted at []uint32, wherever the slices lie. Lengths up to 2^40.
-/
import Derived.Test.YtmghgjokleeigaaSeq3
import Derived.BigQuiet
import Derived.Deep.QuietTactic
import Derived.WalkLawsBesides
import Derived.WalkSpells
import Derived.Outline
namespace Go.Proofs.Ytmghgjokleeigaa
open Go.RowKit Go.Shelf

/-- The slice v reads as xs. -/
def RowU (k : IntKind) (W : World) (v : Value) (xs : List Nat) : Prop :=
  ∃ q c, v = .slice q xs.length c ∧ (xs ≠ [] → ∃ b off, q = some ⟨b, off, none⟩ ∧ ∀ (i x : Nat), xs[i]? = some x → W.cell? ⟨b, off + i, none⟩ = some (.int k x))

/-- The answer r, and draws alone. -/
def QuietU (w : World) (r : Value) (e : Ending) (W : World) : Prop := e = .returned r ∧ ∃ n, w.drewN n = W

theorem ret_bool {a b : Bool} (h : a = b) : Ending.returned (.bool a) = .returned (.bool b) := by rw [h]
theorem ret_int {k : IntKind} {a b : Int} (h : a = b) : Ending.returned (.int k a) = .returned (.int k b) := by rw [h]

set_option maxHeartbeats 1000000 in
theorem equal_any (v u : Value) (xs ys : List Nat) (w : World) (hv : RowU .u32 w v xs) (hu : RowU .u32 w u ys) (hx : xs.length ≤ 1099511627776) (hy : ys.length ≤ 1099511627776) :
    Calls Try.prog 16 #[v, u] w (QuietU w (.bool (decide (xs = ys)))) := by
  obtain ⟨q1, c1, rfl, hv⟩ := hv
  obtain ⟨q2, c2, rfl, hu⟩ := hu
  have Hv := Lib.hid hv; have Hu := Lib.hid hu; clear hv hu
  by_cases hl : xs.length = ys.length
  · have Hl := Lib.hid hl
    have hl' : ((xs.length : Int) != (ys.length : Int)) = false := by rw [hl]; simp
    clear hl
    go_enter Try.func16, Try.ntmps16
    go_wp2
    clear hl'
    go_loopw [5, 13] (fun _ i wr => ∃ k : Nat, k ≤ xs.length ∧ i = .int .i64 k ∧ xs.take k = ys.take k ∧ ∃ n, wr = w.drewN n) (fun _ i _ => xs.length - (intOf i).toNat)
    case atStart => exact ⟨0, Nat.zero_le _, rfl, rfl, 0, rfl⟩
    case round =>
      obtain ⟨k, hk, rfl, heq, n, rfl⟩ := hrel
      have Heq := Lib.hid heq; clear heq
      by_cases hlt : k < xs.length
      · have hlt2 : k < ys.length := by rw [← Hl.out]; exact hlt
        obtain ⟨b1, o1, rfl, hc1⟩ := Hv.out (by intro e; simp [e] at hlt)
        obtain ⟨b2, o2, rfl, hc2⟩ := Hu.out (by intro e; simp [e] at hlt2)
        have f1 := hc1 k xs[k] (by simp)
        have f2 := hc2 k ys[k] (by simp)
        obtain ⟨x, ex⟩ : ∃ x, x = xs[k] := ⟨_, rfl⟩
        obtain ⟨y, ey⟩ : ∃ y, y = ys[k] := ⟨_, rfl⟩
        rw [← ex] at f1; rw [← ey] at f2
        have Ex := Lib.hid ex; have Ey := Lib.hid ey
        clear hc1 hc2 ex ey Hv Hu
        by_cases he : x = y
        · have he' : ((x : Int) != (y : Int)) = false := by rw [he]; simp
          have He := Lib.hid he; clear he
          go_wp2
          go_quiet (fail)
          go_wp2
          go_roundw
          case rel => exact ⟨k + 1, by omega, by go_num, by rw [List.take_succ_eq_append_getElem hlt, List.take_succ_eq_append_getElem hlt2, Heq.out, ← Ex.out, ← Ey.out, He.out], n + nq, by simp⟩
          case measure => simp [intOf]; omega
        · have he' : ((x : Int) != (y : Int)) = true := by rw [bne_iff_ne]; omega
          have He := Lib.hid he; clear he
          go_wp2
          go_quiet (fail)
          go_wp2
          go_ret
          refine ⟨ret_bool (decide_eq_false ?_).symm, n + nq, by simp⟩
          intro e
          subst e
          exact He.out (Ex.out.trans Ey.out.symm)
      · go_wp2
        go_ret
        refine ⟨ret_bool (decide_eq_true ?_).symm, _, rfl⟩
        have h := Heq.out
        rw [List.take_of_length_le (by omega), List.take_of_length_le (by rw [← Hl.out]; omega)] at h
        exact h
  · have hl' : ((xs.length : Int) != (ys.length : Int)) = true := by rw [bne_iff_ne]; omega
    go_enter Try.func16, Try.ntmps16
    go_wp2
    go_ret
    exact ⟨ret_bool (decide_eq_false (by rintro rfl; exact hl rfl)).symm, 0, rfl⟩

def IndexPost (xs : List Nat) (y : Nat) (w : World) (e : Ending) (W : World) : Prop := ∃ n : Int, e = .returned (.int .i64 n) ∧ (0 ≤ n ↔ y ∈ xs) ∧ -1 ≤ n ∧ n ≤ xs.length ∧ w = W

set_option maxHeartbeats 1000000 in
theorem index_any (v : Value) (xs : List Nat) (y : Nat) (w : World) (hv : RowU .u32 w v xs) (hx : xs.length ≤ 1099511627776) :
    Calls Try.prog 63 #[v, .int .u32 y] w (IndexPost xs y w) := by
  obtain ⟨q1, c1, rfl, hv⟩ := hv
  have Hv := Lib.hid hv; clear hv
  go_enter Try.func63, Try.ntmps63
  go_wp2
  go_loop [5, 8] (fun _ i => ∃ k : Nat, k ≤ xs.length ∧ i = .int .i64 k ∧ y ∉ xs.take k) (fun _ i => xs.length - (intOf i).toNat)
  case atStart => exact ⟨0, Nat.zero_le _, rfl, by simp⟩
  case round =>
    obtain ⟨k, hk, rfl, heq⟩ := hrel
    have Heq := Lib.hid heq; clear heq
    by_cases hlt : k < xs.length
    · obtain ⟨b1, o1, rfl, hc1⟩ := Hv.out (by intro e; simp [e] at hlt)
      have f1 := hc1 k xs[k] (by simp)
      obtain ⟨x, ex⟩ : ∃ x, x = xs[k] := ⟨_, rfl⟩
      rw [← ex] at f1
      have Ex := Lib.hid ex
      clear hc1 ex Hv
      by_cases he : y = x
      · have he' : ((y : Int) == (x : Int)) = true := by rw [he]; simp
        have He := Lib.hid he; clear he
        go_wp2
        go_ret
        refine ⟨k, rfl, ⟨fun _ => ?_, fun _ => by omega⟩, by omega, by omega, rfl⟩
        rw [He.out, Ex.out]; simp
      · have he' : ((y : Int) == (x : Int)) = false := by rw [beq_eq_false_iff_ne]; omega
        have He := Lib.hid he; clear he
        go_wp2
        refine ⟨⟨k + 1, by omega, by go_num, ?_⟩, by simp [intOf]; omega⟩
        rw [List.take_succ_eq_append_getElem hlt, List.mem_append]
        rintro (h | h)
        · exact Heq.out h
        · rw [List.mem_singleton, ← Ex.out] at h; exact He.out h
    · go_wp2
      go_ret
      have h := Heq.out
      rw [List.take_of_length_le (by omega)] at h
      exact ⟨-1, rfl, ⟨fun h' => by omega, fun h' => (h h').elim⟩, by omega, by omega, rfl⟩

theorem contains_any (v : Value) (xs : List Nat) (y : Nat) (w : World) (hv : RowU .u32 w v xs) (hx : xs.length ≤ 1099511627776) :
    Calls Try.prog 21 #[v, .int .u32 y] w fun e W => e = .returned (.bool (decide (y ∈ xs))) ∧ w = W := by
  go_enter Try.func21, Try.ntmps21
  go_wp2_with (go_at_call 63; refine (index_any _ _ _ _ hv hx).mono ?_; rintro e w' ⟨n, rfl, h1, h2, h3, rfl⟩)
  go_ret
  exact ⟨ret_bool (decide_eq_decide.2 (by rw [← h1])), rfl⟩

theorem nan_any (x : Nat) (w : World) : Calls Try.prog 82 #[.int .u32 x] w fun e W => e = .returned (.bool false) ∧ w = W := by
  have h : ((x : Int) != (x : Int)) = false := by simp
  go_enter Try.func82, Try.ntmps82
  go_wp2
  go_ret
  exact ⟨rfl, rfl⟩

theorem less_any (x y : Nat) (w : World) (h : ¬ x < y) : Calls Try.prog 68 #[.int .u32 x, .int .u32 y] w fun e W => e = .returned (.bool false) ∧ w = W := by
  go_enter Try.func68, Try.ntmps68
  go_wp2_with (go_at_call 82; refine (nan_any _ _).mono ?_; rintro e w' ⟨rfl, rfl⟩)
  go_ret
  exact ⟨rfl, rfl⟩

set_option maxHeartbeats 1000000 in
theorem sorted_any (v : Value) (xs : List Nat) (w : World) (hv : RowU .u32 w v xs) (hx : xs.length ≤ 1099511627776) (hs : ∀ i x y, xs[i]? = some x → xs[i + 1]? = some y → ¬ y < x) :
    Calls Try.prog 30 #[v] w (QuietU w (.bool true)) := by
  obtain ⟨q1, c1, rfl, hv⟩ := hv
  have Hv := Lib.hid hv; clear hv
  have Hs := Lib.hid hs; clear hs
  go_enter Try.func30, Try.ntmps30
  go_wp2
  go_loopw [3] (fun i wr => ∃ j : Int, -1 ≤ j ∧ j < xs.length ∧ i = .int .i64 j ∧ ∃ n, wr = w.drewN n) (fun i _ => (intOf i + 1).toNat)
  case atStart => exact ⟨(xs.length : Int) - 1, by omega, by omega, rfl, 0, rfl⟩
  case round =>
    obtain ⟨j, hj1, hj2, rfl, n, hn⟩ := hrel
    have Hn := Lib.hid hn
    clear hn
    by_cases hlt : 0 < j
    · obtain ⟨k, rfl⟩ : ∃ k : Nat, j = (k : Int) + 1 := ⟨(j - 1).toNat, by omega⟩
      have hk : k + 1 < xs.length := by omega
      obtain ⟨b1, o1, rfl, hc1⟩ := Hv.out (by intro e; simp [e] at hk)
      have f1 : wr.cell? ⟨b1, o1 + k, none⟩ = some (.int .u32 xs[k]) := by rw [Hn.out]; exact hc1 k xs[k] (by simp)
      have f2 : wr.cell? ⟨b1, o1 + (k + 1), none⟩ = some (.int .u32 xs[k+1]) := by rw [Hn.out]; exact hc1 (k + 1) xs[k+1] (by simp)
      have hs := Hs.out k xs[k] xs[k+1] (by simp) (by simp)
      generalize xs[k] = x at f1 hs
      generalize xs[k+1] = y at f2 hs
      clear hc1 Hv
      go_wp2
      have a0 : (k : Int) < (xs.length : Int) := by omega
      have a1 : (0 : Int) ≤ (k : Int) + 1 := by omega
      have a2 : (k : Int) + 1 < (xs.length : Int) := by omega
      have a3 : ((k : Int) + 1).toNat = k + 1 := by omega
      have a4 : IntKind.i64.wrap (k : Int) = (k : Int) := IntWalk.i64_in _ (by omega)
      go_quiet ((go_at_call 68; exact Calls.quiet_of_same ((less_any _ _ _ hs).mono (fun _ _ h => ⟨h.1, h.2.symm⟩))))
      clear a1 a3 a4
      go_wp2
      go_roundw
      case rel => exact ⟨k, by omega, by omega, by go_num, n + nq, by rw [Hn.out]; simp⟩
      case measure => simp [intOf]; omega
    · go_wp2
      go_ret
      exact ⟨rfl, n, Hn.out.symm⟩
end Go.Proofs.Ytmghgjokleeigaa
