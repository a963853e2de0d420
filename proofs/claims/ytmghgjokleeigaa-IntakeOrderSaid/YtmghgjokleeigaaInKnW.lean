/-
  IntakeKnown: the walk. A closed statement.
-/
import Derived.Test.YtmghgjokleeigaaInE
import Derived.Laws.MakeOwn
import Derived.Laws.OwnMore
namespace Go.Proofs.Ytmghgjokleeigaa
open Go.RowKit Go.Shelf Go.Maps

section
variable {w0 : World} {I M n fl : Nat} {q : Qv} {S : Nat → Prop} {W : World}
theorem Kept.rebase {w : World} (h : Kept w0 I M n fl q S W) (hb : Below w.heap.size w w0) : Kept w I M n fl q S W := by
  obtain ⟨v, h1, h2, h3⟩ := h
  exact ⟨v, ⟨h1.box, h1.map, fun id g e => (h1.gr id g e).mono hb.size, Nat.le_trans hb.size h1.hI, Nat.le_trans hb.size h1.hM, hb.trans (h1.bel.mono hb.size)⟩, h2, h3⟩
/-- Another intake turns. -/
theorem Kept.still {J L : Nat} {W' : World} {n' fl' : Nat} {q' : Qv} {S' : Nat → Prop} (h : Kept w0 J L n fl q S W) (k : Kept w0 I M n' fl' q' S' W) (hst : Still I M W W') (hJ : J ≠ I ∧ J ≠ M) (hL : L ≠ I ∧ L ≠ M) : Kept w0 J L n fl q S W' := by
  obtain ⟨⟨cs, hI⟩, es, kk, hM⟩ := k.boxes
  refine h.keep (fun b o e ho => ?_) (h.bel.trans ⟨hst.os.1, hst.os.2.1, hst.os.2.2, hst.size, fun b hb => hst.same b (Nat.lt_of_lt_of_le hb h.bel.size) (by have := k.lo; omega) (by have := k.lo; omega)⟩)
  refine (hst.same b (block_lt e) ?_ ?_).trans e
  · rcases ho with rfl | rfl | ⟨_, cs', f, rfl⟩
    · exact hJ.1
    · exact hL.1
    · rintro rfl; rw [hI] at e; cases e
  · rcases ho with rfl | rfl | ⟨_, cs', f, rfl⟩
    · exact hJ.2
    · exact hL.2
    · rintro rfl; rw [hM] at e; cases e
end
def made (n : Nat) : Array Value := madeCells #[.int .u8 0] n
theorem mk_bytes (y : Int) (n : Nat) (hy : y = n) (hn : n ≤ 601) (W : World) : (Instr.makeSlice 62 (.int .i64 y) (.int .i64 y)).run Try.prog W = .ok (.slice (some ⟨W.heap.size, 0, none⟩) n n) (W.alloc (.cells (made n) 5)) := by
  subst hy
  obtain ⟨i0, hi, hz0, hz1, hz2⟩ := info_parts Try.info5
  have := run_makeSlice (P := Try.prog) W 62 5 i0 (.int .u8 0) Try.underlying62 hi hz0 .i64 .i64 n n (by omega) (by omega) (by rw [hz1]; simp; omega) (by rw [hz2]; omega) (by omega)
  rw [hz1, Int.toNat_natCast, Nat.mul_one] at this
  exact this
theorem rd_made {W : World} (n c : Nat) : Rd (W.alloc (.cells (made n) 5)) (.slice (some ⟨W.heap.size, 0, none⟩) n c) (byts (List.replicate n 0)) := by
  have h0 := alloc_new W (.cells (made n) 5)
  refine .inr ⟨⟨W.heap.size, 0, none⟩, c, by simp, fun j u hu => ?_⟩
  rw [Addr.add_lit]
  simp only [World.cell?, h0]
  have hu' : (List.replicate n (Value.int .u8 0))[j]? = some u := by
    have e : byts (List.replicate n 0) = List.replicate n (Value.int .u8 0) := List.map_replicate
    rwa [e] at hu
  show (made n)[0 + j]? = some u
  rw [← Array.getElem?_toList, made, toList_madeCells_one, Nat.zero_add]
  exact hu'
theorem rd_nil (W : World) : Rd W (.slice none 0 0) (byts []) := .inl ⟨rfl, rfl⟩
def zs256 : List Nat := List.replicate 256 0
theorem zs256_len : zs256.length = 256 := List.length_replicate ..
/-- What is kept when the numbers above k have come. -/
def qk (k : Nat) : Qv := fun j => if k < j ∧ j ≤ 14 then some [] else if j = 15 then some zs256 else none
theorem qk_put (k : Nat) (h1 : 1 ≤ k) (h2 : k ≤ 14) : upd (qk k) k (some []) = qk (k - 1) := by
  funext j
  unfold upd qk
  by_cases e : j = k
  · rw [if_pos e, if_pos (by omega)]
  · rw [if_neg e]
    by_cases h : k < j ∧ j ≤ 14
    · rw [if_pos h, if_pos (by omega)]
    · rw [if_neg h, if_neg (c := k - 1 < j ∧ j ≤ 14) (by omega)]
theorem qk_top : upd (fun _ => none) 15 (some zs256) = qk 14 := by
  funext j
  unfold upd qk
  by_cases e : j = 15
  · simp only [e, if_true]; rfl
  · rw [if_neg e]; rw [if_neg (by omega)]
theorem runs_top : RunsQ (upd (fun _ => none) 15 (some zs256)) 0 [] := ⟨fun i h => by simp at h, rfl⟩
theorem runs_k (k : Nat) (h1 : 1 ≤ k) (h2 : k ≤ 14) : RunsQ (upd (qk k) k (some [])) 0 [] := ⟨fun i h => by simp at h, by
  rw [qk_put k h1 h2]
  show qk (k - 1) 0 = none
  unfold qk
  rw [if_neg (by omega), if_neg (by omega)]⟩
def outs : List (List Nat) := List.replicate 15 [] ++ [zs256]
theorem outs_len : outs.length = 16 := rfl
theorem runs_all : RunsQ (upd (qk 0) 0 (some [])) 0 outs := by
  refine ⟨fun i hi => ?_, rfl⟩
  rw [outs_len] at hi
  rw [Nat.zero_add]
  by_cases e : i = 15
  · subst e; rfl
  · have h1 : upd (qk 0) 0 (some []) i = some [] := by
      unfold upd qk
      by_cases e0 : i = 0
      · rw [if_pos e0]
      · rw [if_neg e0, if_pos (by omega)]
    rw [h1]
    have h2 : outs[i]? = some [] := by
      unfold outs
      rw [List.getElem?_append_left (by simp; omega), List.getElem?_replicate, if_pos (by omega)]
    rw [← List.getElem?_eq_getElem, h2]
theorem maskK : maskQ (qk 0) 0 = 32767 := by decide +kernel
theorem lenK : (idsQ (qk 0) 0).length = 15 := by decide +kernel
theorem lenE : (idsQ (restQ (upd (qk 0) 0 (some [])) 0 16) 16).length = 0 := by decide +kernel

set_option maxRecDepth 100000 in
set_option maxHeartbeats 4000000 in
theorem inKnown_walk (w : World) : Calls Try.prog 11 #[] w (TruePost w) := by
  have hmk := mk_bytes 257 257 rfl (by omega)
  have hmk2 := mk_bytes 256 256 rfl (by omega)
  go_enter Try.func11, Try.ntmps11
  go_wp2_with fail
  refine (take43_no (.inl rfl) 0 none 0 0).mono ?_
  rintro e W' ⟨rfl, rfl⟩
  have hbz : Below w.heap.size w (w.alloc (.cells #[.int .u32 0, .map none] 80)) := (Below.refl _ _).alloc (Nat.le_refl _) _
  have hcz : (w.alloc (.cells #[.int .u32 0, .map none] 80)).cell? ⟨w.heap.size, 1, none⟩ = some (.map none) := by simp only [World.cell?, alloc_new]; rfl
  generalize w.alloc (.cells #[.int .u32 0, .map none] 80) = wz at hbz hcz ⊢
  have NZ : NoIn (.pointer (some ⟨w.heap.size, 0, none⟩)) wz := .inr ⟨_, rfl, hcz⟩
  have HZ := Lib.hid NZ
  have HBZ := Lib.hid hbz
  clear NZ hbz hcz
  go_wp2_with fail
  refine (take43_no HZ.out 0 none 0 0).mono ?_
  rintro e W' ⟨rfl, rfl⟩
  go_wp2_with fail
  refine (told40_no (.inl rfl)).mono ?_
  rintro e W' ⟨rfl, rfl⟩
  go_wp2_with fail
  refine (floor48_no (.inl rfl)).mono ?_
  rintro e W' ⟨rfl, rfl⟩
  go_wp2_with fail
  refine (waits41_no HZ.out).mono ?_
  rintro e W' ⟨rfl, rfl⟩
  go_wp2_with fail
  refine (bytes42_no (.inl rfl)).mono ?_
  rintro e W' ⟨rfl, rfl⟩
  go_wp2_with fail
  refine (copy51_no HZ.out).mono ?_
  rintro e W' ⟨rfl, rfl⟩
  go_wp2_with fail
  refine (kept_new _).mono ?_
  rintro e W1 ⟨I, M, rfl, h1, -⟩
  have H1 : Hid (Kept w I M 0 0 (fun _ => none) (fun _ => True) W1) := Lib.hid ((h1.rebase HBZ.out).mono (fun _ _ => trivial) (Nat.le_refl _))
  clear h1 HBZ HZ
  go_wp2_with fail
  refine (kept_long (H1.out.al _) 0 _ 257 _ (by omega) (by omega)).mono ?_
  rintro e W' ⟨rfl, rfl⟩
  have H2 := Lib.hid (H1.out.al (.cells (made 257) 5))
  generalize W1.alloc (.cells (made 257) 5) = W2 at H2 ⊢
  clear H1 hmk
  go_wp2_with fail
  refine (kept_go (H2.out.al _) (win_none 0) 15 (by omega) _ 256 _ (by omega) rfl (by omega) (by omega) (by omega) (by omega) zs256 (rd_made 256 _) zs256_len [] runs_top).mono ?_
  rintro e W3 ⟨p3, c3, G3, rfl, -, -, -, h3, w3, -⟩
  have H3 : Hid (Kept w I M 1 0 (qk 14) (fun _ => True) W3) := Lib.hid (by have := h3.mono (S' := fun _ => True) (fun _ _ => trivial) (Nat.le_refl _); rwa [List.length_nil, restQ_zero, qk_top] at this)
  have HW3 : Hid (Win (qk 14) 0) := Lib.hid (by rwa [List.length_nil, restQ_zero, qk_top] at w3)
  clear h3 w3 H2 hmk2
  go_wp2_with fail
  refine (kept_far H3.out HW3.out 16 (by omega) none 0 0 (by omega) (by omega) (by omega)).mono ?_
  rintro e W' ⟨rfl, rfl⟩
  go_wp2_with fail
  refine (kept_far H3.out HW3.out 4294967295 (by omega) none 0 0 (by omega) (by omega) (by omega)).mono ?_
  rintro e W' ⟨rfl, rfl⟩
  go_wp2_with fail
  go_loopw [24] (fun n wr => ∃ k : Nat, k ≤ 14 ∧ n = .int .u32 k ∧ Kept w I M (15 - k) 0 (qk k) (fun _ => True) wr ∧ Win (qk k) 0) (fun n _ => (intOf n).toNat)
  case atStart => exact ⟨14, by omega, rfl, H3.out, HW3.out⟩
  case round =>
    clear H3 HW3
    obtain ⟨k, hk, rfl, h4, w4⟩ := hrel
    have H4 := Lib.hid h4; have HW4 := Lib.hid w4
    clear h4 w4
    by_cases hk0 : 1 ≤ k
    · go_wp2_with fail
      refine (kept_go H4.out HW4.out k (by omega) none 0 0 (by omega) ?_ (by omega) (by omega) (by omega) (by omega) [] (rd_nil _) rfl [] (runs_k k hk0 hk)).mono ?_
      · unfold qk; rw [if_neg (by omega), if_neg (by omega)]
      rintro e W5 ⟨p5, c5, G5, rfl, -, -, -, h5, w5, -⟩
      have H5 : Hid (Kept w I M (15 - (k - 1)) 0 (qk (k - 1)) (fun _ => True) W5) := Lib.hid (by have := h5.mono (S' := fun _ => True) (n' := 15 - (k - 1)) (fun _ _ => trivial) (by omega); rwa [List.length_nil, restQ_zero, qk_put k hk0 hk] at this)
      have HW5 : Hid (Win (qk (k - 1)) 0) := Lib.hid (by rwa [List.length_nil, restQ_zero, qk_put k hk0 hk] at w5)
      clear h5 w5 H4 HW4
      go_wp2_with fail
      go_roundw
      case rel => exact ⟨k - 1, by omega, by go_num, H5.out, HW5.out⟩
      case measure => simp [intOf]; omega
    · obtain rfl : k = 0 := by omega
      clear hk0 hk
      go_wp2_with fail
      refine (kept_told H4.out (by omega)).mono ?_
      rintro e W5 ⟨rfl, b5⟩
      rw [maskK]
      have H5 := Lib.hid (H4.out.same b5)
      clear b5 H4
      go_wp2_with fail
      refine (kept_copy H5.out).mono ?_
      rintro e W6 ⟨J, L, rfl, hc6, b6, hJ6, hL6⟩
      have hlt5 := H5.out.lt
      have H6 := Lib.hid (H5.out.same b6)
      have HC6 := Lib.hid hc6
      clear hc6 b6 H5
      go_wp2_with fail
      refine (kept_go H6.out HW4.out 0 (by omega) none 0 0 (by omega) rfl (by omega) (by omega) (by omega) (by omega) [] (rd_nil _) rfl outs runs_all).mono ?_
      rintro e W7 ⟨p7, c7, G7, rfl, hG7, o7, g7, h7, w7, s7⟩
      have H7 : Hid (Kept w I M 16 16 (restQ (upd (qk 0) 0 (some [])) 0 16) (fun _ => True) W7) := Lib.hid (h7.mono (fun _ _ => trivial) (Nat.le_refl _))
      have HC7 := Lib.hid (HC6.out.still H6.out s7 (by omega) (by omega))
      have hl7 : G7.length = 16 := by have := congrArg List.length hG7; rwa [List.length_map] at this
      have hg15 : (G7[15]'(by omega)).2 = zs256 := by
        have h1 : (G7.map Prod.snd)[15]? = outs[15]? := by rw [hG7]
        rw [List.getElem?_map, List.getElem?_eq_getElem (by omega)] at h1
        have h2 : outs[15]? = some zs256 := rfl
        rw [h2] at h1
        simpa using h1
      obtain ⟨gq, gl, gc, eg⟩ : ∃ q l c, encG (G7[15]'(by omega)) = .slice q l c := ⟨_, _, _, rfl⟩
      obtain rfl : gl = 256 := by
        have := (g7 _ (List.getElem_mem (by omega : 15 < G7.length))).len'' eg
        rw [hg15, List.length_map, zs256_len] at this
        exact this
      obtain ⟨pb, ro, rfl⟩ := o7.addr (by rw [List.length_map]; omega)
      have e15 : W7.cell? ⟨pb, ro + 15, none⟩ = some (.slice gq 256 gc) := by
        have := o7.cellG 15 (by rw [List.length_map]; omega)
        rw [this, List.getElem_map, eg]
      rw [outs_len]
      clear h7 w7 s7 g7 o7 hG7 hg15 eg HC6 H6 hl7 hJ6 hL6 hlt5
      have HB7 := Lib.hid H7.out.bel
      have n0 : ((idsQ (restQ (upd (qk 0) 0 (some [])) 0 16) 16).length : Int) = 0 := by rw [lenE]; rfl
      have n1 : ((idsQ (qk 0) 0).length : Int) = 15 := by rw [lenK]; rfl
      have A1 := Lib.hid (kept_waits H7.out)
      have A2 := Lib.hid (kept_floor H7.out)
      have A3 := Lib.hid (kept_waits HC7.out)
      have A4 := Lib.hid (kept_floor HC7.out)
      rw [n0] at A1
      rw [n1] at A3
      clear n0 n1 H7 HC7 HW4
      go_wp2_with fail
      refine A1.out.mono ?_
      rintro e W' ⟨rfl, rfl⟩
      go_wp2_with fail
      refine A2.out.mono ?_
      rintro e W' ⟨rfl, rfl⟩
      go_wp2_with fail
      refine A3.out.mono ?_
      rintro e W' ⟨rfl, rfl⟩
      go_wp2_with fail
      refine A4.out.mono ?_
      rintro e W' ⟨rfl, rfl⟩
      clear A1 A2 A3 A4
      go_wp2_with fail
      refine (wakes45 _).mono ?_
      rintro e W8 ⟨rfl, b8⟩
      have B8 := Lib.hid (HB7.out.trans (b8.mono HB7.out.size))
      clear b8 HB7
      go_wp2
      go_ret
      exact ⟨rfl, B8.out⟩
end Go.Proofs.Ytmghgjokleeigaa
