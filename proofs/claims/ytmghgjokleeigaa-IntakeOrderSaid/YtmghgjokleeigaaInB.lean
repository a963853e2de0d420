/-
  slices.Clone, bytes.Clone, bytes.Equal at rows of bytes. Rows of up to 2^20.
-/
import Derived.Test.YtmghgjokleeigaaInM
import Derived.OwnWalk
import Derived.WalkSpells
import Derived.Shelf.Bytes.SlSmallAll
namespace Go.Proofs.Ytmghgjokleeigaa
open Go.RowKit Go.Shelf

theorem Try.info5 : (Try.prog.info? 5).map (fun i => (i.zero, i.size, i.bytes)) = some (some (.int .u8 0), 1, 1) := by kernel_rfl
theorem Try.info62 : (Try.prog.info? 62).map (fun i => (i.zero, i.size, i.bytes)) = some (some (.slice none 0 0), 1, 24) := by kernel_rfl
/-- A copy of its own. -/
def ClonePost (e : TypeId) (xs : List Value) (w : World) (en : Ending) (W : World) : Prop := ∃ v, en = .returned v ∧ OffRow W w.heap.size e v xs ∧ Below w.heap.size w W
theorem clone73 (v : Value) (xs : List Nat) (w : World) (h : Rd w v (byts xs)) (hx : xs.length ≤ 1048576) : Calls Try.prog 73 #[v] w (ClonePost 5 (byts xs) w) := by
  obtain ⟨i0, hi, hz0, hz1, hz2⟩ := info_parts Try.info5
  rcases h with ⟨rfl, h0⟩ | ⟨ad, c, rfl, hc⟩
  · have q := fun W : World => Lib.run_eql_slice_nil (P := Try.prog) W 62 5 none 0 0 0 0 Try.underlying62
    have H0 := Lib.hid h0
    clear h0
    go_enter Try.func73, Try.ntmps73
    go_wp2
    go_ret
    exact ⟨_, rfl, by rw [H0.out]; exact OffRow.nil_ _ _ _, Below.refl _ _⟩
  · have q := fun (W : World) (n : Nat) => Lib.run_eql_slice_nil (P := Try.prog) W 62 5 (some ad) n c 0 0 Try.underlying62
    have hl : (byts xs).length ≤ 1048576 := by rw [List.length_map]; exact hx
    have Hc : Hid (∀ j u, (byts xs)[j]? = some u → (w.alloc (.cells #[] 5)).cell? (ad.add j) = some u) := Lib.hid fun j u hu => cell_below ((Below.refl _ _).alloc (Nat.le_refl _) _) _ _ (hc j u hu)
    have H1 : Hid (∀ u ∈ byts xs, u.oneCell' = true) := Lib.hid (by intro u hu; obtain ⟨x, _, rfl⟩ := List.mem_map.1 hu; rfl)
    obtain ⟨L, hL⟩ : ∃ L, L = (byts xs).length := ⟨_, rfl⟩
    rw [← hL] at hl ⊢
    have HL := Lib.hid hL
    clear hc hL hx
    go_enter Try.func73, Try.ntmps73
    go_wp2_with (at_builtin; refine wpList_append_own _ rfl (.tmp 5) (.tmp 6) 62 rfl w.heap.size 5 i0 (.int .u8 0) 1 1 Try.underlying62 hi hz0 hz1 hz2 rfl (by decide) (.slice (some ⟨w.heap.size, 0, none⟩) 0 0) 0 [] rfl (World.ownsRow_made w #[] 0 (Nat.le_refl _) (Nat.zero_le _) rfl) ad L c (byts xs) rfl (by rw [HL.out]; simp) Hc.out H1.out (by unfold maxLen; omega) (by omega) (by simp) ?_; intro v' w1 hown hgrow hnil)
    go_ret
    refine ⟨v', rfl, by simpa using OffRow.of_owns hown, ?_⟩
    exact ((Below.refl _ w).alloc (Nat.le_refl _) _).grown hgrow (by simp) (by intro k hk; simp [Value.ownBlock] at hk; omega)
theorem clone53 (v : Value) (xs : List Nat) (w : World) (h : Rd w v (byts xs)) (hx : xs.length ≤ 1048576) : Calls Try.prog 53 #[v] w (ClonePost 5 (byts xs) w) := by
  obtain ⟨i0, hi, hz0, hz1, hz2⟩ := info_parts Try.info5
  rcases h with ⟨rfl, h0⟩ | ⟨ad, c, rfl, hc⟩
  · have q := fun W : World => Lib.run_eql_slice_nil (P := Try.prog) W 62 5 none 0 0 0 0 Try.underlying62
    have H0 := Lib.hid h0
    clear h0
    go_enter Try.func53, Try.ntmps53
    go_wp2
    go_ret
    exact ⟨_, rfl, by rw [H0.out]; exact OffRow.nil_ _ _ _, Below.refl _ _⟩
  · have q := fun (W : World) (n : Nat) => Lib.run_eql_slice_nil (P := Try.prog) W 62 5 (some ad) n c 0 0 Try.underlying62
    have hl : (byts xs).length ≤ 1048576 := by rw [List.length_map]; exact hx
    have Hc : Hid (∀ j u, (byts xs)[j]? = some u → (w.alloc (.cells #[] 5)).cell? (ad.add j) = some u) := Lib.hid fun j u hu => cell_below ((Below.refl _ _).alloc (Nat.le_refl _) _) _ _ (hc j u hu)
    have H1 : Hid (∀ u ∈ byts xs, u.oneCell' = true) := Lib.hid (by intro u hu; obtain ⟨x, _, rfl⟩ := List.mem_map.1 hu; rfl)
    obtain ⟨L, hL⟩ : ∃ L, L = (byts xs).length := ⟨_, rfl⟩
    rw [← hL] at hl ⊢
    have HL := Lib.hid hL
    clear hc hL hx
    go_enter Try.func53, Try.ntmps53
    go_wp2_with (at_builtin; refine wpList_append_own _ rfl (.tmp 5) (.tmp 6) 62 rfl w.heap.size 5 i0 (.int .u8 0) 1 1 Try.underlying62 hi hz0 hz1 hz2 rfl (by decide) (.slice (some ⟨w.heap.size, 0, none⟩) 0 0) 0 [] rfl (World.ownsRow_made w #[] 0 (Nat.le_refl _) (Nat.zero_le _) rfl) ad L c (byts xs) rfl (by rw [HL.out]; simp) Hc.out H1.out (by unfold maxLen; omega) (by omega) (by simp) ?_; intro v' w1 hown hgrow hnil)
    go_ret
    refine ⟨v', rfl, by simpa using OffRow.of_owns hown, ?_⟩
    exact ((Below.refl _ w).alloc (Nat.le_refl _) _).grown hgrow (by simp) (by intro k hk; simp [Value.ownBlock] at hk; omega)

/-! ### bytes.Equal -/
def strN (xs : List Nat) : ByteArray := strOfNums (xs.map fun x : Nat => (x : Int))
theorem strN_inj {xs ys : List Nat} (hx : ∀ x ∈ xs, x ≤ 255) (hy : ∀ y ∈ ys, y ≤ 255) (h : strN xs = strN ys) : xs = ys := by
  have e : ∀ zs : List Nat, (∀ z ∈ zs, z ≤ 255) → (strN zs).data.toList.map UInt8.toNat = zs := fun zs hz => by
    unfold strN strOfNums
    simp only [List.map_map]
    conv => rhs; rw [← List.map_id zs]
    refine List.map_congr_left fun z h => ?_
    have := hz z h
    simp
    omega
  rw [← e xs hx, h, e ys hy]
theorem conv_off {W : World} {base : Nat} {q : Option Addr} {n c : Nat} {xs : List Nat} (h : OffRow W base 5 (.slice q n c) (byts xs)) : (convert 62 9 (.slice q n c)).run Try.prog W = .ok (.string (strN xs)) W := by
  have hl := h.len'
  rw [List.length_map] at hl
  rcases h with ⟨h, h0⟩ | ⟨g, o, cap, cur, h1, h2, h3, h4, h5, h6, h7⟩
  · cases h
    simp at h0; subst h0
    exact run_convert_bytes_zero W 62 5 Try.underlying62 Try.underlying5 none 0 9 Try.underlying9
  · cases h1
    rw [List.length_map]
    refine run_convert_bytes_arg W 62 5 Try.underlying62 Try.underlying5 g o _ c (xs.map fun x : Nat => (x : Int)) (by simp) (fun i hi => ?_) 9 Try.underlying9
    have := h7 i (.int .u8 xs[i]) (by simp [hi])
    simp [World.cell?, h3, this, List.getD, hi]
theorem equal47 {W : World} {b1 b2 : Nat} {q1 q2 : Option Addr} {n1 n2 c1 c2 : Nat} {xs ys : List Nat} (h1 : OffRow W b1 5 (.slice q1 n1 c1) (byts xs)) (h2 : OffRow W b2 5 (.slice q2 n2 c2) (byts ys)) (hx : ∀ x ∈ xs, x ≤ 255) (hy : ∀ y ∈ ys, y ≤ 255) :
    Calls Try.prog 47 #[.slice q1 n1 c1, .slice q2 n2 c2] W fun e W' => e = .returned (.bool (decide (xs = ys))) ∧ W = W' := by
  have v1 := conv_off h1
  have v2 := conv_off h2
  have hs := @strN_inj xs ys hx hy
  clear h1 h2 hx hy
  by_cases he : xs = ys
  · subst he
    obtain ⟨s, hs⟩ : ∃ s, s = strN xs := ⟨_, rfl⟩
    rw [← hs] at v1 v2
    rw [show decide (xs = xs) = true from decide_eq_true rfl]
    clear hs
    go_enter Try.func47, Try.ntmps47
    go_wp2
    go_ret
    refine ⟨?_, rfl⟩
    simp
  · have hne : strN xs ≠ strN ys := fun h => he (hs h)
    obtain ⟨s, hs1⟩ : ∃ s, s = strN xs := ⟨_, rfl⟩
    obtain ⟨t, hs2⟩ : ∃ s, s = strN ys := ⟨_, rfl⟩
    rw [← hs1] at v1 hne
    rw [← hs2] at v2 hne
    rw [show decide (xs = ys) = false from decide_eq_false he]
    have Hne := Lib.hid hne
    clear hs hs1 hs2 hne he
    go_enter Try.func47, Try.ntmps47
    go_wp2
    go_ret
    refine ⟨?_, rfl⟩
    have := Hne.out
    have h2 : ¬ s.toList = t.toList := fun h => this (by
      rw [ByteArray.toList_eq, ByteArray.toList_eq] at h
      exact ByteArray.ext (Array.toList_inj.mp h))
    simp [h2]
end Go.Proofs.Ytmghgjokleeigaa
