/-
  Take: what it answers, what it leaves. A floor below 2^31; what is kept lies within 16 of the floor.
-/
import Derived.Test.YtmghgjokleeigaaInC
namespace Go.Proofs.Ytmghgjokleeigaa
open Go.RowKit Go.Shelf Go.Maps

theorem collect74 (w0 : World) (I M n fl : Nat) (v : Nat → Option Gr) (c Bx : Nat) (L : List Gr) (hL : Runs v fl L) (h64 : L.length ≤ 64) (w : World) (hin : Intk w0 I M n fl v c w) (hb : w.heap[Bx]? = some (.cells #[.pointer (some ⟨I, 0, none⟩)] 63 (0, 0))) :
    Calls Try.prog 74 #[.func (.func 85) #[] #[.pointer (some ⟨Bx, 0, none⟩)]] w (CollPost w w0 I M n fl v c L) := by
  have A := Lib.hid (collect84 w0 I M n fl v c Bx L hL h64 w hin hb)
  clear hL h64 hin hb
  go_enter Try.func74, Try.ntmps74
  go_wp2_with (go_at_call 84; refine A.out.mono ?_; rintro e W1 ⟨s, rfl, h1, h2⟩; obtain ⟨q, l, cp, rfl⟩ := h1.form'; have H1 := Lib.hid h1; have H2 := Lib.hid h2; clear h1 h2)
  go_ret
  exact ⟨_, rfl, H1.out, H2.out⟩
/-- There is a first number that does not lie there. -/
theorem runs_from (v : Nat → Option Gr) (fl top : Nat) (hw : ∀ j, v j ≠ none → j < top) : ∀ (k : Nat) (a : Nat), a + k = top + 1 → fl ≤ a → ∃ L : List Gr, (∀ i (h : i < L.length), v (a + i) = some L[i]) ∧ v (a + L.length) = none ∧ L.length ≤ top - a
  | 0, a, ha, _ => ⟨[], fun i h => by simp at h, by
      cases e : v (a + ([] : List Gr).length) with
      | none => rfl
      | some g => have := hw _ (by rw [e]; simp); simp at this; omega, by simp⟩
  | k + 1, a, ha, hfl => by
    cases e : v a with
    | none => exact ⟨[], fun i h => by simp at h, by simpa using e, by simp⟩
    | some g =>
      have h1 := hw a (by rw [e]; simp)
      obtain ⟨L, hL1, hL2, hL3⟩ := runs_from v fl top hw k (a + 1) (by omega) (by omega)
      refine ⟨g :: L, fun i h => ?_, ?_, by simp; omega⟩
      · cases i with
        | zero => simpa using e
        | succ i => have := hL1 i (by simpa using h); simpa [Nat.add_assoc, Nat.add_comm 1 i] using this
      · rw [List.length_cons, ← hL2]; congr 1; omega
theorem runs_ex (v : Nat → Option Gr) (fl : Nat) (hfl : fl ≤ 2147483648) (hw : ∀ j, v j ≠ none → j < fl + 16) : ∃ L, Runs v fl L ∧ L.length ≤ 16 := by
  obtain ⟨L, h1, h2, h3⟩ := runs_from v fl (fl + 16) hw 17 fl (by omega) (Nat.le_refl _)
  exact ⟨L, ⟨h1, h2, by omega⟩, by omega⟩

section
variable {w0 : World} {I M n fl : Nat} {v : Nat → Option Gr} {c : Nat} {W : World}
theorem take_long (h : Intk w0 I M n fl v c W) (id : Nat) (q : Option Addr) (l cp : Nat) (hl : 256 < l) (hl2 : l ≤ 9223372036854775807) :
    Calls Try.prog 43 #[.pointer (some ⟨I, 0, none⟩), .int .u32 id, .slice q l cp] W fun e W' => e = .returned (.tuple #[.slice none 0 0, .int .i64 0, .int .i64 3]) ∧ W = W' := by
  have N := Lib.hid (none70 h)
  clear h
  go_enter Try.func43, Try.ntmps43
  go_wp2_with (go_at_call 70; refine N.out.mono ?_; rintro e w' ⟨rfl, rfl⟩)
  go_ret3
  exact ⟨rfl, rfl⟩
theorem take_again (h : Intk w0 I M n fl v c W) (id : Nat) (hid : id ≤ 4294967295) (q : Option Addr) (l cp : Nat) (hl : l ≤ 256) (ha : id < fl ∨ (v id).isSome = true) (hfl : fl ≤ 4294967295) :
    Calls Try.prog 43 #[.pointer (some ⟨I, 0, none⟩), .int .u32 id, .slice q l cp] W fun e W' => e = .returned (.tuple #[.slice none 0 0, .int .i64 2, .int .i64 0]) ∧ W = W' := by
  have N := Lib.hid (none70 h)
  have A := Lib.hid (has71 h id hid)
  have c0 := h.c0
  clear h
  by_cases hlt : id < fl
  · clear ha
    have hlt' : decide (id < fl) = true := decide_eq_true hlt
    go_enter Try.func43, Try.ntmps43
    go_wp2_with (go_at_call 70; refine N.out.mono ?_; rintro e w' ⟨rfl, rfl⟩)
    go_ret3
    exact ⟨rfl, rfl⟩
  · have hv : (v id).isSome = true := by rcases ha with h | h; exact absurd h hlt; exact h
    rw [hv] at A
    have hlt' : decide (id < fl) = false := decide_eq_false hlt
    clear ha hv
    go_enter Try.func43, Try.ntmps43
    go_wp2_with (first | (go_at_call 70; refine N.out.mono ?_; rintro e w' ⟨rfl, rfl⟩) | (go_at_call 71; refine A.out.mono ?_; rintro e w' ⟨rfl, rfl⟩))
    go_ret3
    exact ⟨rfl, rfl⟩
theorem take_far (h : Intk w0 I M n fl v c W) (id : Nat) (hid : id ≤ 4294967295) (q : Option Addr) (l cp : Nat) (hl : l ≤ 256) (hv : v id = none) (hfl : fl ≤ 4294967295) (hf : fl + 16 ≤ id) :
    Calls Try.prog 43 #[.pointer (some ⟨I, 0, none⟩), .int .u32 id, .slice q l cp] W fun e W' => e = .returned (.tuple #[.slice none 0 0, .int .i64 3, .int .i64 0]) ∧ W = W' := by
  have N := Lib.hid (none70 h)
  have A := Lib.hid (has71 h id hid)
  have c0 := h.c0
  clear h
  rw [hv] at A
  have hlt' : decide (id < fl) = false := decide_eq_false (by omega)
  have hge : fl ≤ id := by omega
  clear hv
  go_enter Try.func43, Try.ntmps43
  go_wp2_with (first | (go_at_call 70; refine N.out.mono ?_; rintro e w' ⟨rfl, rfl⟩) | (go_at_call 71; refine A.out.mono ?_; rintro e w' ⟨rfl, rfl⟩))
  go_ret3
  exact ⟨rfl, rfl⟩
/-- One more is kept. -/
theorem Intk.put {g : Gr} {id : Nat} {W2 W3 : World} (h : Intk w0 I M n fl v c W2) (hm : MapV M (n + 1) (upd v id (some g)) (c + 1) W3) (ht : W2.mapTurned W3 M) (hg : OffRow W2 w0.heap.size 5 (encG g) (byts g.2)) :
    Intk w0 I M (n + 1) fl (upd v id (some g)) (c + 1) W3 ∧ Still I M W2 W3 := by
  have hne := h.ne
  have hk := turned_block ht
  obtain ⟨o1, o2, o3⟩ := turned_os ht
  have hsz := turned_size ht
  refine ⟨⟨(hk I hne).trans h.box, hm, fun j g' e => ?_, h.hI, h.hM, h.bel.trans ⟨o1, o2, o3, Nat.le_of_eq hsz.symm, fun b hb => hk b (by have := h.hM; omega)⟩⟩, ⟨fun b _ _ h2 => hk b h2, Nat.le_of_eq hsz.symm, o1, o2, o3⟩⟩
  have h1 : OffRow W2 w0.heap.size 5 (encG g') (byts g'.2) := by
    by_cases e2 : j = id
    · subst e2; rw [upd_same] at e; cases e; exact hg
    · rw [upd_other _ _ e2] at e; exact h.gr j g' e
  exact h1.same fun b e => hk b (h.ne_gram (by decide) h1 e).2
/-- It is taken. -/
def TakePost (w0 : World) (I M n fl : Nat) (v : Nat → Option Gr) (c id : Nat) (xs : List Nat) (W : World) (e : Ending) (W' : World) : Prop :=
  ∃ (s : Value) (q : Sl) (L : List Gr), e = .returned (.tuple #[s, .int .i64 1, .int .i64 0]) ∧ Runs (upd v id (some (q, xs))) fl L ∧ OffRow W' W.heap.size 62 s (L.map encG) ∧ (∀ g ∈ L, OffRow W' w0.heap.size 5 (encG g) (byts g.2)) ∧
    Intk w0 I M (n + 1) (fl + L.length) (restV (upd v id (some (q, xs))) fl L.length) (c + 1 - L.length) W' ∧ Still I M W W' ∧ (∀ b, (encS q).ownBlock = some b → W.heap.size ≤ b)
theorem CollPost.form {w : World} {L : List Gr} {e : Ending} {W' : World} (h : CollPost w w0 I M n fl v c L e W') : ∃ q l cp, e = .returned (.slice q l cp) ∧ OffRow W' w.heap.size 62 (.slice q l cp) (L.map encG) ∧ (∀ g ∈ L, OffRow W' w0.heap.size 5 (encG g) (byts g.2)) ∧ Intk w0 I M n (fl + L.length) (restV v fl L.length) (c - L.length) W' ∧ Still I M w W' := by
  obtain ⟨s, rfl, h1, h2⟩ := h
  obtain ⟨q, l, cp, rfl⟩ := h1.form'
  exact ⟨q, l, cp, rfl, h1, h2⟩
theorem take_ok (h : Intk w0 I M n fl v c W) (id : Nat) (hid : id ≤ 4294967295) (q : Option Addr) (l cp : Nat) (hl : l ≤ 256) (hv : v id = none) (hfl : fl ≤ 2147483648) (hge : fl ≤ id) (hlt : id < fl + 16) (hn : n ≤ 1000000) (hw : ∀ j, v j ≠ none → j < fl + 16)
    (xs : List Nat) (hxs : Rd W (.slice q l cp) (byts xs)) (hll : xs.length = l) :
    Calls Try.prog 43 #[.pointer (some ⟨I, 0, none⟩), .int .u32 id, .slice q l cp] W (TakePost w0 I M n fl v c id xs W) := by
  have N := Lib.hid (none70 h)
  have A := Lib.hid (has71 h id hid)
  have c0 := h.c0
  have c1 := h.c1
  rw [hv] at A
  have hlt' : decide (id < fl) = false := decide_eq_false (by omega)
  have A73 : Hid (∀ W1, Below W.heap.size W W1 → Calls Try.prog 73 #[.slice q l cp] W1 fun e W2 => ∃ gq gl gc W3, e = .returned (.slice gq gl gc) ∧ (Instr.mapUpdate 78 (.map (some M)) (.int .u32 id) (.slice gq gl gc)).run Try.prog W2 = .ok () W3 ∧ W2.cell? ⟨I, 1, none⟩ = some (.map (some M)) ∧ W3.cell? ⟨I, 1, none⟩ = some (.map (some M)) ∧
      Intk w0 I M (n + 1) fl (upd v id (some ((gq, gl, gc), xs))) (c + 1) W3 ∧ Still I M W W3 ∧ (∀ b, (Value.slice gq gl gc).ownBlock = some b → W.heap.size ≤ b)) := Lib.hid fun W1 hb =>
    (clone73 (.slice q l cp) xs W1 (hxs.below hb) (by omega)).mono (by
      rintro e W2 ⟨u, rfl, hu, hb2⟩
      obtain ⟨gq, gl, gc, rfl⟩ := hu.form'
      have hb3 := hb.trans (hb2.mono hb.size)
      have h2 := h.same hb3
      have hu2 : OffRow W2 w0.heap.size 5 (encG ((gq, gl, gc), xs)) (byts xs) := hu.mono (Nat.le_trans h.bel.size hb.size)
      obtain ⟨W3, hr, hm, ht⟩ := h2.map.store (by unfold maxLen; omega) id hid hv ((gq, gl, gc), xs)
      obtain ⟨h3, hs3⟩ := h2.put hm ht hu2
      exact ⟨gq, gl, gc, W3, rfl, hr, h2.c1, h3.c1, h3, (Still.of_below hb3).trans hs3, fun b e => Nat.le_trans hb.size (hu.own e).1⟩)
  have hz := h.bel.size
  have HW := Lib.hid hw
  have b0 := below_drew W
  clear h hv hxs hll hw
  go_enter Try.func43, Try.ntmps43
  go_wp2_with (first | (go_at_call 70; refine N.out.mono ?_; rintro e w' ⟨rfl, rfl⟩) | (go_at_call 71; refine A.out.mono ?_; rintro e w' ⟨rfl, rfl⟩))
  go_region_held3 (fun w' => w'.cell? ⟨I, 1, none⟩ = some (.map (some M))) (first | exact c1 | exact d1 | exact d2) ((go_at_call 73; refine (A73.out _ ?_).mono ?_; exact b0; rintro e W2 ⟨gq, gl, gc, W3, rfl, hr, d1, d2, h3, hs3, hfr⟩))
  all_goals
    obtain ⟨L, hL, h16⟩ := runs_ex (upd v id (some ((gq, gl, gc), xs))) fl hfl (fun j hj => by
      by_cases e : j = id
      · omega
      · rw [upd_other _ _ e] at hj; exact HW.out j hj)
    have C := Lib.hid (collect74 w0 I M (n + 1) fl _ (c + 1) W3.heap.size L hL (by omega) (W3.alloc (.cells #[.pointer (some ⟨I, 0, none⟩)] 63)) (h3.alloc _) (alloc_new _ _))
    have HL := Lib.hid hL
    have HF := Lib.hid hfr
    have HS := Lib.hid hs3
    clear hr d1 d2 hL hfr hs3 h3 A73
    go_wp2_with (first | (go_at_call 75; refine (ready75 I _).mono ?_; rintro e w' ⟨rfl, rfl⟩) | (go_at_call 74; refine C.out.mono ?_; rintro e W5 hc; obtain ⟨qs, ls, cs, rfl, r1, r2, r3, r4⟩ := hc.form; have R := Lib.hid (And.intro r1 (And.intro r2 (And.intro r3 r4))); clear r1 r2 r3 r4 hc))
    go_ret3
    have hb3 : Below W3.heap.size W3 (W3.alloc (.cells #[.pointer (some ⟨I, 0, none⟩)] 63)) := (Below.refl _ _).alloc (Nat.le_refl _) _
    exact ⟨_, (gq, gl, gc), L, rfl, HL.out, R.out.1.mono (Nat.le_trans HS.out.size hb3.size), R.out.2.1, R.out.2.2.1, (HS.out.trans (Still.of_below hb3)).trans R.out.2.2.2, HF.out⟩
end
end Go.Proofs.Ytmghgjokleeigaa
