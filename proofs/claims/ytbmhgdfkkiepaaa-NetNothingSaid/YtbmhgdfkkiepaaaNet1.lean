/-
  slices.Clone, slices.Delete at the net's types; at, Waits. Rows of up to 2^20.
-/
import Derived.Test.YtbmhgdfkkiepaaaNetM
namespace Go.Proofs.Ytbmhgdfkkiepaaa
open Go.RowKit Go.Shelf

/-- A slice reads as these cells, wherever it lies; nil is nothing. -/
def Rd (W : World) (v : Value) (xs : List Value) : Prop :=
  (v = .slice none 0 0 ∧ xs = []) ∨ ∃ ad c, v = .slice (some ad) xs.length c ∧ ∀ j u, xs[j]? = some u → W.cell? (ad.add j) = some u
theorem OffRow.rd {w : World} {base : Nat} {e : TypeId} {v : Value} {xs : List Value} (h : OffRow w base e v xs) : Rd w v xs := by
  rcases h with h | ⟨g, o, cap, cur, rfl, h2, h3, h4, h5, h6, h7⟩
  · exact .inl h
  · refine .inr ⟨_, _, rfl, fun j u hu => ?_⟩
    have := h7 j u hu
    rw [Addr.add_lit]
    simp [World.cell?, h3, this]
theorem OffRow.form' {w : World} {base : Nat} {e : TypeId} {v : Value} {xs : List Value} (h : OffRow w base e v xs) : ∃ q L c, v = .slice q L c := by obtain ⟨q, c, rfl⟩ := h.form; exact ⟨_, _, _, rfl⟩
theorem OffRow.len' {w : World} {base : Nat} {e : TypeId} {q : Option Addr} {n c : Nat} {xs : List Value} (h : OffRow w base e (.slice q n c) xs) : n = xs.length := by obtain ⟨q', c', e⟩ := h.form; cases e; rfl
theorem OffRow.len'' {w : World} {base : Nat} {e : TypeId} {v : Value} {q : Option Addr} {n c : Nat} {xs : List Value} (h : OffRow w base e v xs) (hv : v = .slice q n c) : n = xs.length := by subst hv; exact h.len'
theorem Rd.keep {w w' : World} {v : Value} {xs : List Value} (h : Rd w v xs) (hk : ∀ a u, w.cell? a = some u → w'.cell? a = some u) : Rd w' v xs := by
  rcases h with h | ⟨ad, c, rfl, h⟩
  · exact .inl h
  · exact .inr ⟨ad, c, rfl, fun j u hu => hk _ _ (h j u hu)⟩
theorem cell_below {w w' : World} (h : Below w.heap.size w w') (a : Addr) (u : Value) (hc : w.cell? a = some u) : w'.cell? a = some u := by
  have hlt := World.block_lt_of_cell? w _ hc
  exact (h.cell (p := a) hlt).trans hc
theorem Rd.below {w w' : World} {v : Value} {xs : List Value} (h : Rd w v xs) (hb : Below w.heap.size w w') : Rd w' v xs := h.keep (cell_below hb)

theorem Try.info5 : (Try.prog.info? 5).map (fun i => (i.zero, i.size, i.bytes)) = some (some (.int .u8 0), 1, 1) := by kernel_rfl
theorem Try.info68 : (Try.prog.info? 68).map (fun i => (i.zero, i.size, i.bytes)) = some (some (.slice none 0 0), 1, 24) := by kernel_rfl

/-- A copy of its own. -/
def ClonePost (e : TypeId) (xs : List Value) (w : World) (en : Ending) (W : World) : Prop := ∃ v, en = .returned v ∧ OffRow W w.heap.size e v xs ∧ Below w.heap.size w W
theorem clone8_any (v : Value) (xs : List Nat) (w : World) (h : Rd w v (byts xs)) (hx : xs.length ≤ 1048576) : Calls Try.prog 47 #[v] w (ClonePost 5 (byts xs) w) := by
  obtain ⟨i0, hi, hz0, hz1, hz2⟩ := info_parts Try.info5
  rcases h with ⟨rfl, h0⟩ | ⟨ad, c, rfl, hc⟩
  · have q := fun W : World => Lib.run_eql_slice_nil (P := Try.prog) W 68 5 none 0 0 0 0 Try.underlying68
    have H0 := Lib.hid h0
    clear h0
    go_enter Try.func47, Try.ntmps47
    go_wp2
    go_ret
    exact ⟨_, rfl, by rw [H0.out]; exact OffRow.nil_ _ _ _, Below.refl _ _⟩
  · have q := fun (W : World) (n : Nat) => Lib.run_eql_slice_nil (P := Try.prog) W 68 5 (some ad) n c 0 0 Try.underlying68
    have hl : (byts xs).length ≤ 1048576 := by rw [List.length_map]; exact hx
    have Hc : Hid (∀ j u, (byts xs)[j]? = some u → (w.alloc (.cells #[] 5)).cell? (ad.add j) = some u) := Lib.hid fun j u hu => cell_below ((Below.refl _ _).alloc (Nat.le_refl _) _) _ _ (hc j u hu)
    have H1 : Hid (∀ u ∈ byts xs, u.oneCell' = true) := Lib.hid (by intro u hu; obtain ⟨x, _, rfl⟩ := List.mem_map.1 hu; rfl)
    obtain ⟨L, hL⟩ : ∃ L, L = (byts xs).length := ⟨_, rfl⟩
    rw [← hL] at hl ⊢
    have HL := Lib.hid hL
    clear hc hL hx
    go_enter Try.func47, Try.ntmps47
    go_wp2_with (at_builtin; refine wpList_append_own _ rfl (.tmp 5) (.tmp 6) 68 rfl w.heap.size 5 i0 (.int .u8 0) 1 1 Try.underlying68 hi hz0 hz1 hz2 rfl (by decide) (.slice (some ⟨w.heap.size, 0, none⟩) 0 0) 0 [] rfl (World.ownsRow_made w #[] 0 (Nat.le_refl _) (Nat.zero_le _) rfl) ad L c (byts xs) rfl (by rw [HL.out]; simp) Hc.out H1.out (by unfold maxLen; omega) (by omega) (by simp) ?_; intro v' w1 hown hgrow hnil)
    go_ret
    refine ⟨v', rfl, by simpa using OffRow.of_owns hown, ?_⟩
    exact ((Below.refl _ w).alloc (Nat.le_refl _) _).grown hgrow (by simp) (by intro k hk; simp [Value.ownBlock] at hk; omega)
theorem cloneR_any (v : Value) (xs : List Value) (w : World) (h : Rd w v xs) (hx : xs.length ≤ 1048576) (h1 : ∀ u ∈ xs, u.oneCell' = true) : Calls Try.prog 51 #[v] w (ClonePost 68 xs w) := by
  obtain ⟨i0, hi, hz0, hz1, hz2⟩ := info_parts Try.info68
  have H1 := Lib.hid h1
  clear h1
  rcases h with ⟨rfl, h0⟩ | ⟨ad, c, rfl, hc⟩
  · have q := fun W : World => Lib.run_eql_slice_nil (P := Try.prog) W 90 68 none 0 0 0 0 Try.underlying90
    have H0 := Lib.hid h0
    clear h0
    go_enter Try.func51, Try.ntmps51
    go_wp2
    go_ret
    exact ⟨_, rfl, by rw [H0.out]; exact OffRow.nil_ _ _ _, Below.refl _ _⟩
  · have q := fun (W : World) (n : Nat) => Lib.run_eql_slice_nil (P := Try.prog) W 90 68 (some ad) n c 0 0 Try.underlying90
    have Hc : Hid (∀ j u, xs[j]? = some u → (w.alloc (.cells #[] 68)).cell? (ad.add j) = some u) := Lib.hid fun j u hu => cell_below ((Below.refl _ _).alloc (Nat.le_refl _) _) _ _ (hc j u hu)
    obtain ⟨L, hL⟩ : ∃ L, L = xs.length := ⟨_, rfl⟩
    rw [← hL] at hx ⊢
    have HL := Lib.hid hL
    clear hc hL
    go_enter Try.func51, Try.ntmps51
    go_wp2_with (at_builtin; refine wpList_append_own _ rfl (.tmp 5) (.tmp 6) 90 rfl w.heap.size 68 i0 (.slice none 0 0) 1 24 Try.underlying90 hi hz0 hz1 hz2 rfl (by decide) (.slice (some ⟨w.heap.size, 0, none⟩) 0 0) 0 [] rfl (World.ownsRow_made w #[] 0 (Nat.le_refl _) (Nat.zero_le _) rfl) ad L c xs rfl (by rw [HL.out]; simp) Hc.out H1.out (by unfold maxLen; omega) (by omega) (by simp) ?_; intro v' w1 hown hgrow hnil)
    go_ret
    refine ⟨v', rfl, by simpa using OffRow.of_owns hown, ?_⟩
    exact ((Below.refl _ w).alloc (Nat.le_refl _) _).grown hgrow (by simp) (by intro k hk; simp [Value.ownBlock] at hk; omega)

/-! ### slices.Delete -/
def ren : Ren := ⟨fun f => if f = 45 then 46 else f, fun t => if t = 22 then 90 else if t = 23 then 68 else t, fun g => g⟩
theorem bears46 : Bears Try.prog (ren.f 45) (SlBodyN.n45 ren) := ⟨"slices.Delete[[][]byte,[]byte]", by decide, by kernel_rfl⟩
theorem lay46 : SlLaysE.n45 Try.prog ren where
  mixed := by kernel_rfl
  f45 := bears46
  t0 := by kernel_rfl
  a0 := fun _ => by kernel_rfl
  z0 := fun _ => by kernel_rfl
  v0 := fun _ => by kernel_rfl
  t3 := by kernel_rfl
  a3 := fun _ => by kernel_rfl
  z3 := fun _ => by kernel_rfl
  v3 := fun _ => by kernel_rfl
  t4 := by kernel_rfl
  a4 := fun _ => by kernel_rfl
  z4 := fun _ => by kernel_rfl
  v4 := fun _ => by kernel_rfl
  t22 := by kernel_rfl
  a22 := fun _ => by kernel_rfl
  z22 := fun _ => by kernel_rfl
  v22 := fun _ => by kernel_rfl
  a23 := fun _ => by kernel_rfl
  z23 := fun _ => by kernel_rfl

/-- One is taken out of a row. -/
def DeletePost (base : Nat) (v : Value) (l : List Value) (w : World) (e : Ending) (W : World) : Prop :=
  ∃ v' b, e = .returned v' ∧ v.ownBlock = some b ∧ v'.ownBlock = some b ∧ OffRow W base 68 v' l ∧ w.grownBy W (some b)
set_option maxRecDepth 100000 in
theorem delete_any (base : Nat) (v : Value) (rs : List Sl) (w : World) (h : OffRow w base 68 v (rs.map encS)) (i : Nat) (hi : i < rs.length) :
    Calls Try.prog 46 #[v, .int .i64 i, .int .i64 ((i + 1 : Nat) : Int)] w (DeletePost base v ((rs.eraseIdx i).map encS) w) := by
  rcases h with ⟨_, h0⟩ | ⟨g, o, cap, cur, rfl, h2, h3, h4, h5, h6, h7⟩
  · simp at h0; subst h0; simp at hi
  · rw [List.length_map] at h4 ⊢
    have hone : OneCell encS := fun x => rfl
    have hget : ∀ j, j < rs.length → cur[o + j]? = some (encS rs.toArray[j]!) := fun j hj => by
      rw [h7 j (encS rs.toArray[j]!) (by simp [hj])]
    have hH : Sort.Holds encS w g o rs.toArray := fun j hj => by
      simp only [List.size_toArray] at hj
      exact ⟨by simp [World.cell?, h3, hget j hj], by simp [World.frozen?, h3]⟩
    obtain ⟨i0, hi0, _, hz1, _⟩ := info_parts Try.info68
    refine (AnyE.slices_Delete (P := Try.prog) (ρ := ren) lay46 encS hone (none, 0, 0) (fun _ => by kernel_rfl) i0 hi0 hz1 g o cap i (i + 1) rs.toArray w hH (by simpa using h4) (by unfold maxLen at h5; omega) (by omega) (by simp; omega)).mono ?_
    rintro e W ⟨he, q, rfl⟩
    have hnew : (Sort.putRow encS (Sort.ahead w q) g o (rs.take i ++ rs.drop (i + 1) ++ List.replicate (i + 1 - i) ((none, 0, 0) : Sl)).toArray).heap[g]? = some (.cells (Sort.putCells encS o (rs.take i ++ rs.drop (i + 1) ++ List.replicate (i + 1 - i) ((none, 0, 0) : Sl)).toArray cur) 68 (0, 0)) := by
      simp [Sort.putRow, Sort.mapBlock, Sort.ahead, Array.getElem?_modify, h3, Sort.onCells]
    have he1 : rs.take i ++ rs.drop (i + 1) = rs.eraseIdx i := (List.eraseIdx_eq_take_drop_succ rs i).symm
    have hl : (rs.eraseIdx i).length = rs.length - 1 := by rw [List.length_eraseIdx, if_pos hi]
    refine ⟨_, g, he, rfl, rfl, ?_, ?_⟩
    · refine .inr ⟨g, o, cap, _, ?_, h2, hnew, by rw [List.length_map, hl]; omega, h5, ?_, fun j u hj => ?_⟩
      · rw [List.length_map, hl]
        simp
      · simpa [Sort.putCells] using h6
      · have hjl : j < (rs.eraseIdx i).length := by
          have := (List.getElem?_eq_some_iff.1 hj).1
          simpa using this
        have hcl : o + j < cur.size := by omega
        simp only [Sort.putCells, Array.getElem?_mapIdx, Array.getElem?_eq_getElem hcl, Option.map_some]
        rw [if_pos (by simp [he1, hl]; omega)]
        have e2 : o + j - o = j := by omega
        rw [e2]
        rw [he1]
        rw [List.getElem?_map, List.getElem?_eq_getElem hjl] at hj
        simp at hj
        rw [← hj]
        congr 2
        simp [hjl]
        rw [List.getElem?_append_left hjl, List.getElem?_eq_getElem hjl]
        rfl
    · refine ⟨rfl, rfl, rfl, by simp [Sort.putRow, Sort.mapBlock, Sort.ahead], fun k hk hne => ?_⟩
      simp only [Sort.putRow, Sort.mapBlock, Sort.ahead, Array.getElem?_modify]
      rw [if_neg (fun e => hne (by rw [e]))]

/-! ### at, Waits -/
theorem at_ok {w0 : World} {N : Nat} {r : Nat → Value} {g : Nat → List Gr} {W : World} (h : NetIs w0 N r g W) (k i : Nat) (hk : k < 2) (hi : i < (g k).length) (hl : (g k).length ≤ 1048576) :
    Calls Try.prog 48 #[.pointer (some ⟨N, 0, none⟩), .int .i64 k, .int .i64 i] W fun e W' => e = .returned (.tuple #[.pointer (some ⟨N, 1 + k, none⟩), .int .i64 0]) ∧ W = W' := by
  have c1 := h.cellAt hk
  obtain ⟨q, L, c, e1⟩ := (h.row k hk).form'
  rw [e1] at c1
  have hL : L = (g k).length := by have := (h.row k hk).len'' e1; simpa using this
  have A1 : Hid (Calls Try.prog 45 #[.pointer (some ⟨N, 0, none⟩), .int .i64 k] W fun e W' => e = .returned (.tuple #[.pointer (some ⟨N, 1 + k, none⟩), .int .i64 0]) ∧ W = W') := Lib.hid (way_ok h k hk)
  have hiL : i < L := by omega
  have hL2 : L ≤ 1048576 := by omega
  clear h e1 hL hl hi
  go_enter Try.func48, Try.ntmps48
  go_wp2_with (go_at_call 45; refine A1.out.mono ?_; rintro e w' ⟨rfl, rfl⟩)
  go_ret2
  exact ⟨rfl, rfl⟩
theorem at_none {w0 : World} {N : Nat} {r : Nat → Value} {g : Nat → List Gr} {W : World} (h : NetIs w0 N r g W) (k : Nat) (i : Int) (hk : k < 2) (hi : i < 0 ∨ (g k).length ≤ i) (hl : (g k).length ≤ 1048576) :
    Calls Try.prog 48 #[.pointer (some ⟨N, 0, none⟩), .int .i64 k, .int .i64 i] W fun e W' => e = .returned (.tuple #[.pointer (some ⟨N, 1 + k, none⟩), .int .i64 6]) ∧ W = W' := by
  have c1 := h.cellAt hk
  obtain ⟨q, L, c, e1⟩ := (h.row k hk).form'
  rw [e1] at c1
  have hL : L = (g k).length := by have := (h.row k hk).len'' e1; simpa using this
  have A1 : Hid (Calls Try.prog 45 #[.pointer (some ⟨N, 0, none⟩), .int .i64 k] W fun e W' => e = .returned (.tuple #[.pointer (some ⟨N, 1 + k, none⟩), .int .i64 0]) ∧ W = W') := Lib.hid (way_ok h k hk)
  rw [← hL] at hi hl
  clear h e1 hL
  rcases hi with hi | hi
  · go_enter Try.func48, Try.ntmps48
    go_wp2_with (go_at_call 45; refine A1.out.mono ?_; rintro e w' ⟨rfl, rfl⟩)
    go_ret2
    exact ⟨rfl, rfl⟩
  · have hi' : ¬ i < 0 := by omega
    go_enter Try.func48, Try.ntmps48
    go_wp2_with (go_at_call 45; refine A1.out.mono ?_; rintro e w' ⟨rfl, rfl⟩)
    go_ret2
    exact ⟨rfl, rfl⟩
/-- Where there is no way, there is no datagram: the same error. -/
theorem at_err (p : Value) (k i : Int) (c : Int) (hc : c = 1 ∨ c = 2) (W : World) (A : Calls Try.prog 45 #[p, .int .i64 k] W fun e W' => e = .returned (.tuple #[.pointer none, .int .i64 c]) ∧ W = W') :
    Calls Try.prog 48 #[p, .int .i64 k, .int .i64 i] W fun e W' => e = .returned (.tuple #[.pointer none, .int .i64 c]) ∧ W = W' := by
  have A1 := Lib.hid A
  clear A
  rcases hc with rfl | rfl
  all_goals
    go_enter Try.func48, Try.ntmps48
    go_wp2_with (go_at_call 45; refine A1.out.mono ?_; rintro e w' ⟨rfl, rfl⟩)
    go_ret2
    exact ⟨rfl, rfl⟩
theorem waits_ok {w0 : World} {N : Nat} {r : Nat → Value} {g : Nat → List Gr} {W : World} (h : NetIs w0 N r g W) (k : Nat) (hk : k < 2) :
    Calls Try.prog 34 #[.pointer (some ⟨N, 0, none⟩), .int .i64 k] W fun e W' => e = .returned (.int .i64 (g k).length) ∧ W = W' := by
  have c1 := h.cellAt hk
  obtain ⟨q, L, c, e1⟩ := (h.row k hk).form'
  rw [e1] at c1
  have hL : L = (g k).length := by have := (h.row k hk).len'' e1; simpa using this
  have A1 : Hid (Calls Try.prog 45 #[.pointer (some ⟨N, 0, none⟩), .int .i64 k] W fun e W' => e = .returned (.tuple #[.pointer (some ⟨N, 1 + k, none⟩), .int .i64 0]) ∧ W = W') := Lib.hid (way_ok h k hk)
  rw [← hL]
  clear h e1 hL
  go_enter Try.func34, Try.ntmps34
  go_wp2_with (go_at_call 45; refine A1.out.mono ?_; rintro e w' ⟨rfl, rfl⟩)
  go_ret
  exact ⟨rfl, rfl⟩
theorem waits_err (p : Value) (k c : Int) (hc : c = 1 ∨ c = 2) (W : World) (A : Calls Try.prog 45 #[p, .int .i64 k] W fun e W' => e = .returned (.tuple #[.pointer none, .int .i64 c]) ∧ W = W') :
    Calls Try.prog 34 #[p, .int .i64 k] W fun e W' => e = .returned (.int .i64 0) ∧ W = W' := by
  have A1 := Lib.hid A
  clear A
  rcases hc with rfl | rfl
  all_goals
    go_enter Try.func34, Try.ntmps34
    go_wp2_with (go_at_call 45; refine A1.out.mono ?_; rintro e w' ⟨rfl, rfl⟩)
    go_ret
    exact ⟨rfl, rfl⟩
end Go.Proofs.Ytbmhgdfkkiepaaa
