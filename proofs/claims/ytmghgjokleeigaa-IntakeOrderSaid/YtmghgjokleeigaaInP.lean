/-
  The payload of a number; bytes.Repeat at one byte, at most six times. Numbers below 256.
-/
import Derived.Test.YtmghgjokleeigaaInB
import Derived.Test.YtmghgjokleeigaaIn2
import Derived.Lib.SlBuf
import Derived.Lib.MakeNoZero
import Derived.Laws.Externs
import Derived.Deep.RegionHeld3
import Derived.IntWalk
namespace Go.Proofs.Ytmghgjokleeigaa
open Go.RowKit Go.Shelf

theorem mul90 (y : Int) (hy : y = 1 ∨ y = 2 ∨ y = 3 ∨ y = 4 ∨ y = 5 ∨ y = 6) (w : World) : Calls Try.prog 90 #[.int .u64 1, .int .u64 y] w fun e w' => e = .returned (.tuple #[.int .u64 0, .int .u64 y]) ∧ w = w' := by
  rcases hy with rfl | rfl | rfl | rfl | rfl | rfl
  all_goals
    go_enter Try.func90, Try.ntmps90
    go_wp2
    go_ret2
    exact ⟨rfl, rfl⟩
theorem mul86 (y : Int) (hy : y = 1 ∨ y = 2 ∨ y = 3 ∨ y = 4 ∨ y = 5 ∨ y = 6) (w : World) : Calls Try.prog 86 #[.int .u64 1, .int .u64 y] w fun e w' => e = .returned (.tuple #[.int .u64 0, .int .u64 y]) ∧ w = w' := by
  have A := Lib.hid (mul90 y hy w)
  clear hy
  go_enter Try.func86, Try.ntmps86
  go_wp2_with (go_at_call 90; refine A.out.mono ?_; rintro e w' ⟨rfl, rfl⟩)
  go_ret2
  exact ⟨rfl, rfl⟩

/-- A buffer of the call's own that is filled from the front. -/
structure Bf (w0 wr : World) (h N k : Nat) : Prop where
  below : Below h w0 wr
  there : ∀ j, j < N → (wr.cell? ⟨h, j, none⟩).isSome = true
  free : ∀ j, j < N → wr.frozen? ⟨h, j, none⟩ = false
  holds : ∀ j, j < k → wr.cell? ⟨h, j, none⟩ = some (.int .u8 120)
  fits : k ≤ N
theorem Bf.drew {w0 wr : World} {h N k : Nat} (b : Bf w0 wr h N k) : Bf w0 wr.drew h N k := ⟨b.below.trans ⟨rfl, rfl, rfl, Nat.le_refl _, fun _ _ => rfl⟩, b.there, b.free, b.holds, b.fits⟩
theorem bf_start (w : World) (cs : Array Value) (N q : Nat) (hN : N ≤ cs.size) : Bf w ((w.alloc (.cells cs 5)).drewN q) w.heap.size N 0 := by
  have h := Lib.Buf.start w cs 5 N q hN
  exact ⟨h.below, h.there, h.free, fun j hj => by omega, Nat.zero_le _⟩
theorem Try.one5 : (Try.prog.info? 5).map (·.size) = some 1 := by kernel_rfl
theorem bf_copy {w0 wr : World} {h N k : Nat} (b : Bf w0 wr h N k) (a : Addr) (m c q : Nat) (hk : k < N) (hq : q = min m (N - k)) (hsrc : ∀ j, j < q → wr.cell? (a.add j) = some (.int .u8 120)) (ty : TypeId) :
    ∃ wr', (Builtin.copy_ #[62, 62] ty #[.slice (some ⟨h, k, none⟩) (N - k) (N - k), .slice (some a) m c]).run Try.prog wr = .ok (.int .i64 q) wr' ∧ Bf w0 wr' h N (k + q) := by
  obtain ⟨vs, hvs⟩ : ∃ vs, vs = List.replicate q (Value.int .u8 120) := ⟨_, rfl⟩
  have hl : vs.length = q := by rw [hvs, List.length_replicate]
  have hv : ∀ j u, vs[j]? = some u → j < q ∧ u = .int .u8 120 := fun j u hu => by
    rw [hvs, List.getElem?_replicate] at hu
    split at hu
    · next hj => cases hu; exact ⟨hj, rfl⟩
    · cases hu
  have hr := run_copy_cells (P := Try.prog) wr 62 62 ty 5 h k (N - k) (N - k) a m c vs Try.underlying62 Try.one5 (by rw [hl, hq])
    (fun j u hu => by obtain ⟨h1, rfl⟩ := hv j u hu; exact hsrc j h1) (fun j hj => by rw [hl] at hj; exact b.there _ (by omega)) (fun j hj => by rw [hl] at hj; exact b.free _ (by omega)) (fun u hu => by rw [hvs] at hu; rw [(List.mem_replicate.1 hu).2]; rfl)
  rw [hl] at hr
  have hin := World.cell?_setCells_in h vs k wr (fun j hj => by rw [hl] at hj; exact b.there _ (by omega))
  have hout := World.cell?_setCells_out h vs k wr
  have hget : ∀ d, d < q → (wr.setCells h k vs).cell? ⟨h, k + d, none⟩ = some (.int .u8 120) := fun d hd => by
    have hd' : d < vs.length := by omega
    rw [hin d hd']
    have h1 := (hv d vs[d] (List.getElem?_eq_getElem hd')).2
    rw [h1]
  refine ⟨_, hr, ⟨Lib.below_setCells h (Nat.le_refl _) _ _ b.below, fun j hj => ?_, fun j hj => by rw [World.frozen?_setCells]; exact b.free j hj, fun j hj => ?_, by omega⟩⟩
  · by_cases h1 : k ≤ j ∧ j < k + q
    · obtain ⟨d, rfl⟩ : ∃ d, j = k + d := ⟨j - k, by omega⟩
      rw [hget d (by omega)]; rfl
    · rw [hout ⟨h, j, none⟩ (fun _ _ => by rw [hl]; show j < _ ∨ _ ≤ j; omega)]
      exact b.there j hj
  · by_cases h1 : j < k
    · rw [hout ⟨h, j, none⟩ (fun _ _ => Or.inl h1)]
      exact b.holds j h1
    · obtain ⟨d, rfl⟩ : ∃ d, j = k + d := ⟨j - k, by omega⟩
      exact hget d (by omega)
theorem step_copy_run {P : Program} (w : World) {ops : Array Oper} {o : Oper} {a : Act} {K : Act → World → Prop} {Q : Exit → Act → World → Prop} {E : Prop} (hgd : o.guard = none) (d s : Operand) (t t' : TypeId)
    (ho : o.op = .call { callee := .builtin .copy, args := #[d, s], argTypes := #[t, t'] }) (v u : Value) (hd : a.eval d = v) (hs : a.eval s = u) {v' : Value} {w' : World}
    (hr : (Builtin.copy_ #[t, t'] o.type #[v, u]).run P w = .ok v' w') (h : K (a.put o.dst v') w') : if Region.wanted o (yielded ops a.tmps) = true then Oper.wp P o a w K Q else E := by
  have hw : Region.wanted o (yielded ops a.tmps) = true := by simp [Region.wanted, hgd]
  rw [if_pos hw]
  exact Lib.wp_copy_run w d s t t' ho v u hd hs hr h

/-- So many of them. -/
def RepPost (r : Nat) (w : World) (e : Ending) (W : World) : Prop := ∃ ad c, e = .returned (.slice (some ad) r c) ∧ Below w.heap.size w W ∧ ∀ j, j < r → W.cell? (ad.add j) = some (.int .u8 120)
theorem repeat_none (A : Nat) (w : World) : Calls Try.prog 76 #[.slice (some ⟨A, 0, none⟩) 1 1, .int .i64 0] w (RepPost 0 w) := by
  go_enter Try.func76, Try.ntmps76
  go_wp2
  go_ret
  exact ⟨_, _, rfl, (Below.refl _ _).alloc (Nat.le_refl _) _, fun j hj => by omega⟩
set_option maxRecDepth 100000 in
set_option maxHeartbeats 2000000 in
theorem repeat_some (A r : Nat) (h1 : 1 ≤ r) (h6 : r ≤ 6) (w : World) (hA : w.cell? ⟨A, 0, none⟩ = some (.int .u8 120)) : Calls Try.prog 76 #[.slice (some ⟨A, 0, none⟩) 1 1, .int .i64 r] w (RepPost r w) := by
  have M := Lib.hid (mul86 (r : Int) (by omega) w)
  obtain ⟨cs, hrunM, hle, _⟩ := Lib.run_makeNoZero (P := Try.prog) w #[3] 62 5 Try.underlying62 r (by omega)
  have hcall : (callFunc 87 #[.int .i64 (r : Int)]).run Try.prog w = .ok (.value (.slice (some ⟨w.heap.size, 0, none⟩) r cs.size)) ((w.alloc (.cells cs 5)).drewN 2) := by
    rw [run_callFunc_extern Try.func87 (by kernel_rfl) (by kernel_rfl) (by kernel_rfl) (e := Extern.BytealgMakeNoZero.makeNoZero #[3] #[62]) (by kernel_rfl), hrunM]
    rfl
  clear hrunM
  have i0 : (0 : Int) ≤ (r : Int) := by omega
  have i1 : (r : Int) ≤ (cs.size : Int) := by omega
  have b0 := bf_start w cs r 2 hle
  have hlt := World.block_lt_of_cell? w _ hA
  obtain ⟨w1, hr1, b1⟩ := bf_copy b0 ⟨A, 0, none⟩ 1 1 1 (by omega) (by omega) (fun j hj => by
    obtain rfl : j = 0 := by omega
    exact Lib.Below.cellOf b0.below hA (Nat.le_refl _)) 3
  rw [Nat.sub_zero] at hr1
  have B1 := Lib.hid b1
  have H1 := Lib.hid h1
  clear b0 b1 hA hlt
  go_enter Try.func76, Try.ntmps76
  go_wp2_with (first | (go_at_call 86; refine M.out.mono ?_; rintro e w' ⟨rfl, rfl⟩) | fail)
  have Hw := Lib.hid hcall
  clear hcall hr1 M
  go_loopw [10] (fun bp wr => ∃ k : Nat, 1 ≤ k ∧ k ≤ r ∧ bp = .int .i64 k ∧ Bf w wr w.heap.size r k) (fun bp _ => r - (intOf bp).toNat)
  case atStart => exact ⟨1, by omega, H1.out, rfl, B1.out⟩
  case round =>
    obtain ⟨k, hk1, hk, rfl, hb⟩ := hrel
    by_cases hlt : k < r
    · have hm : min (k : Int) (r : Int) = (k : Int) := by omega
      obtain ⟨h, hh⟩ : ∃ h, h = w.heap.size := ⟨_, rfl⟩
      have hs1 : ∀ W, (Instr.slice 62 (.slice (some ⟨w.heap.size, 0, none⟩) r r) (some (.int .i64 (k : Int))) none none).run Try.prog W = .ok (.slice (some ⟨w.heap.size, k, none⟩) (r - k) (r - k)) W := fun W => by
        have := Lib.run_slice_tailV (P := Try.prog) W 62 5 Try.underlying62 (fun _ => by kernel_rfl) w.heap.size r k (by omega)
        unfold Lib.tailV at this
        rwa [if_neg (by omega)] at this
      obtain ⟨q, hq⟩ : ∃ q, q = min k (r - k) := ⟨_, rfl⟩
      obtain ⟨w2, hr2, b2⟩ := bf_copy hb.drew ⟨w.heap.size, 0, none⟩ k r q hlt hq (fun j hj => by rw [Addr.add_lit, Nat.zero_add]; exact hb.drew.holds j (by omega)) 3
      have hqk : 1 ≤ q ∧ k + q ≤ r := by omega
      have B2 := Lib.hid b2
      clear b2 hq hb B1 Hw
      go_wp2_with fail
      have j0 : (0 : Int) ≤ (k : Int) := by omega
      have j1 : (k : Int) ≤ (r : Int) := by omega
      have hwr : IntKind.i64.wrap ((k : Int) + (q : Int)) = (k : Int) + (q : Int) := IntWalk.i64_in _ (by omega)
      go_region_held3 (fun _ => True) (trivial) ((refine step_copy_run _ (by rfl) (.tmp 70) (.tmp 73) 62 62 (by rfl) _ _ (by rfl) (by rfl) hr2 ?_))
      all_goals
        clear hwr
        go_wp2_with fail
        go_roundw
        case rel => exact ⟨k + q, by omega, by omega, by go_num, B2.out⟩
        case measure => simp [intOf]; omega
    · obtain rfl : k = r := by omega
      have HB := Lib.hid hb
      clear hb B1 Hw
      go_wp2
      go_ret
      exact ⟨_, _, rfl, HB.out.below, fun j hj => by rw [Addr.add_lit, Nat.zero_add]; exact HB.out.holds j hj⟩

def payloadL (n : Nat) : List Nat := [0, n] ++ List.replicate (n % 7) 120
theorem payloadL_len (n : Nat) : (payloadL n).length = 2 + n % 7 := by simp [payloadL]; omega
theorem repeat76 (A r : Nat) (h6 : r ≤ 6) (w : World) (hA : w.cell? ⟨A, 0, none⟩ = some (.int .u8 120)) : Calls Try.prog 76 #[.slice (some ⟨A, 0, none⟩) 1 1, .int .i64 r] w (RepPost r w) := by
  by_cases h : 1 ≤ r
  · exact repeat_some A r h h6 w hA
  · obtain rfl : r = 0 := by omega
    exact repeat_none A w
theorem payload44 (n : Nat) (hn : n ≤ 255) (w : World) : Calls Try.prog 44 #[.int .u32 n] w (ClonePost 5 (byts (payloadL n)) w) := by
  obtain ⟨i0, hi, hz0, hz1, hz2⟩ := info_parts Try.info5
  have hsh : (n : Int) / 256 = 0 := by omega
  obtain ⟨r, hr⟩ : ∃ r, r = n % 7 := ⟨_, rfl⟩
  have hr6 : r ≤ 6 := by omega
  have hmod : (n : Int) % 7 = (r : Int) := by omega
  have hmod2 : (n : Int).tmod 7 = (r : Int) := by rw [hr]; rfl
  have R : Hid (∀ W A, W.cell? ⟨A, 0, none⟩ = some (.int .u8 120) → Calls Try.prog 76 #[.slice (some ⟨A, 0, none⟩) 1 1, .int .i64 r] W (RepPost r W)) := Lib.hid fun W A hA => repeat76 A r hr6 W hA
  have HR := Lib.hid hr
  clear hr
  go_enter Try.func44, Try.ntmps44
  go_wp2_with fail
  have hn2 := alloc_new (w.alloc (.cells #[.int .u8 0, .int .u8 n] 5)) (.cells #[.int .u8 120] 5)
  rw [World.size_alloc] at hn2
  have hbw : Below w.heap.size w ((w.alloc (.cells #[.int .u8 0, .int .u8 n] 5)).alloc (.cells #[.int .u8 120] 5)) := ((Below.refl _ _).alloc (Nat.le_refl _) _).alloc (by simp) _
  have hown0 : ((w.alloc (.cells #[.int .u8 0, .int .u8 n] 5)).alloc (.cells #[.int .u8 120] 5)).ownsRow w.heap.size 5 1 (.slice (some ⟨w.heap.size, 0, none⟩) 2 2) 2 [.int .u8 0, .int .u8 n] :=
    World.ownsRow.alloc ⟨by simp, .inr ⟨w.heap.size, 2, #[.int .u8 0, .int .u8 n], rfl, Nat.le_refl _, alloc_new w _, Nat.le_refl _, by unfold maxLen; omega, rfl, by simp⟩⟩ _
  generalize (w.alloc (.cells #[.int .u8 0, .int .u8 n] 5)).alloc (.cells #[.int .u8 120] 5) = W1 at hn2 hbw hown0 ⊢
  refine (R.out W1 _ (one_cell hn2)).mono ?_
  rintro e W2 ⟨ad, c, rfl, hb2, hc2⟩
  have hown := hown0.kept (row := none) (w' := W2) (Below.grown0 hb2) (.inr (by simp [Value.ownBlock]))
  have Hc : Hid (∀ j u, (byts (List.replicate r 120))[j]? = some u → W2.cell? (ad.add j) = some u) := Lib.hid fun j u hu => by
    rw [List.getElem?_map, List.getElem?_replicate] at hu
    split at hu
    · next hj => simp at hu; subst hu; exact hc2 j hj
    · simp at hu
  have H1 : Hid (∀ u ∈ byts (List.replicate r 120), u.oneCell' = true) := Lib.hid (by intro u hu; obtain ⟨x, _, rfl⟩ := List.mem_map.1 hu; rfl)
  have hsz := hbw.size
  have hsz2 := hb2.size
  have HB := Lib.hid (hbw.trans (hb2.mono hbw.size))
  clear hc2 hown0 hn2 hbw hb2
  go_wp2_with (at_builtin; refine wpList_append_own _ rfl (.tmp 8) (.tmp 13) 62 rfl w.heap.size 5 i0 (.int .u8 0) 1 1 Try.underlying62 hi hz0 hz1 hz2 rfl (by decide) (.slice (some ⟨w.heap.size, 0, none⟩) 2 2) 2 [.int .u8 0, .int .u8 n] rfl hown ad r c (byts (List.replicate r 120)) rfl (by simp) Hc.out H1.out (by unfold maxLen; omega) (by omega) (by omega) ?_; intro v' w1 hown' hgrow hnil)
  go_ret
  have hp : byts (payloadL n) = [.int .u8 0, .int .u8 n] ++ byts (List.replicate r 120) := by
    rw [HR.out]; simp [payloadL]
  refine ⟨v', rfl, by rw [hp]; exact OffRow.of_owns hown', ?_⟩
  exact HB.out.grown hgrow (by omega) (by intro k hk; simp [Value.ownBlock] at hk; omega)
end Go.Proofs.Ytmghgjokleeigaa
