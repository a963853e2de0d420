/-
  Intake: the document's example. A closed statement.
-/
import Derived.Test.YtmghgjokleeigaaInK
import Derived.Lib.SlBytesConst
namespace Go.Proofs.Ytmghgjokleeigaa
open Go.RowKit Go.Shelf Go.Maps

theorem OffRow.below {w w' : World} {base : Nat} {e : TypeId} {v : Value} {xs : List Value} (h : OffRow w base e v xs) (hb : Below w.heap.size w w') : OffRow w' base e v xs := h.same fun b e2 => hb.block b (block_lt (h.own e2).2.choose_spec)
theorem restQ_zero (q : Qv) (fl : Nat) : restQ q fl 0 = q := by funext id; unfold restQ; rw [if_neg (by omega)]
theorem runsQ_unique {q : Qv} {fl : Nat} : ∀ {L L' : List (List Nat)}, RunsQ q fl L → RunsQ q fl L' → L = L' := by
  have key : ∀ {L L' : List (List Nat)}, RunsQ q fl L → RunsQ q fl L' → L.length ≤ L'.length := fun {L L'} h h' => by
    rcases Nat.lt_or_ge L'.length L.length with hlt | hge
    · have := h.at_ _ hlt
      rw [h'.stop] at this; cases this
    · exact hge
  intro L L' h h'
  have hl : L.length = L'.length := Nat.le_antisymm (key h h') (key h' h)
  refine List.ext_getElem hl fun i h1 h2 => ?_
  have a := h.at_ i h1
  rw [h'.at_ i h2] at a
  injection a with a; exact a.symm
/-- It is taken, and just these go. -/
def KeptGo (w0 : World) (I M n fl : Nat) (q : Qv) (S : Nat → Prop) (id : Nat) (xs : List Nat) (L : List (List Nat)) (W : World) (e : Ending) (W' : World) : Prop :=
  ∃ (p : Option Addr) (cp : Nat) (G : List Gr), e = .returned (.tuple #[.slice p L.length cp, .int .i64 1, .int .i64 0]) ∧ G.map Prod.snd = L ∧ OffRow W' W.heap.size 62 (.slice p L.length cp) (G.map encG) ∧ (∀ g ∈ G, OffRow W' w0.heap.size 5 (encG g) (byts g.2)) ∧
    Kept w0 I M (n + 1) (fl + L.length) (restQ (upd q id (some xs)) fl L.length) (fun b => S b ∨ W.heap.size ≤ b) W' ∧ Win (restQ (upd q id (some xs)) fl L.length) (fl + L.length) ∧ Still I M W W'
theorem kept_go {w0 : World} {I M n fl : Nat} {q : Qv} {S : Nat → Prop} {W : World} (h : Kept w0 I M n fl q S W) (hw : Win q fl) (id : Nat) (hid : id ≤ 4294967295) (p : Option Addr) (l cp : Nat) (hl : l ≤ 256) (hq : q id = none) (hfl : fl ≤ 2147483648) (hge : fl ≤ id) (hlt : id < fl + 16) (hn : n ≤ 1000000)
    (xs : List Nat) (hxs : Rd W (.slice p l cp) (byts xs)) (hll : xs.length = l) (L : List (List Nat)) (hL : RunsQ (upd q id (some xs)) fl L) :
    Calls Try.prog 43 #[.pointer (some ⟨I, 0, none⟩), .int .u32 id, .slice p l cp] W (KeptGo w0 I M n fl q S id xs L W) := by
  refine (kept_take h hw id hid p l cp hl hq hfl hge hlt hn xs hxs hll).mono ?_
  rintro e W' ⟨p', l', cp', G, rfl, rfl, hr, ho, hg, hk, hw', hst, _⟩
  obtain rfl := runsQ_unique hr hL
  rw [show G.length = (G.map Prod.snd).length by rw [List.length_map]] at ho hk hw' ⊢
  exact ⟨p', cp', G, rfl, rfl, ho, hg, hk, hw', hst⟩
theorem rd_new {W : World} (y : Int) (x : Nat) (hy : y = x) (f : Nat × Nat) (c : Nat) : Rd (W.alloc (.cells #[.int .u8 y] 5 f)) (.slice (some ⟨W.heap.size, 0, none⟩) 1 c) (byts [x]) := by
  subst hy
  have h0 := alloc_new W (.cells #[.int .u8 (x : Int)] 5 f)
  refine .inr ⟨_, c, rfl, fun j u hu => ?_⟩
  cases j with
  | zero => simp at hu; subst hu; show (W.alloc (.cells #[.int .u8 (x : Int)] 5 f)).cell? ⟨W.heap.size, 0, none⟩ = _; simp only [World.cell?, h0]; rfl
  | succ j => simp at hu
theorem Kept.al {w0 : World} {I M n fl : Nat} {q : Qv} {S : Nat → Prop} {W : World} (h : Kept w0 I M n fl q S W) (o : Obj) : Kept w0 I M n fl q S (W.alloc o) := h.same ((Below.refl _ _).alloc (Nat.le_refl _) _)
theorem OffRow.cellG {W : World} {base p r n c : Nat} {e : TypeId} {vs : List Value} (h : OffRow W base e (.slice (some ⟨p, r, none⟩) n c) vs) (k : Nat) (hk : k < vs.length) : W.cell? ⟨p, r + k, none⟩ = some vs[k] := by
  obtain ⟨g, o, c', e, hc⟩ := h.at_ (k := k) hk
  cases e
  exact hc
theorem OffRow.addr {W : World} {base n c : Nat} {e : TypeId} {q : Option Addr} {vs : List Value} (h : OffRow W base e (.slice q n c) vs) (hz : 0 < vs.length) : ∃ p r, q = some ⟨p, r, none⟩ := by
  obtain ⟨g, o, c', e, hc⟩ := h.at_ (k := 0) hz
  cases e
  exact ⟨_, _, rfl⟩

theorem two_of {α : Type} : ∀ {l : List α}, l.length = 2 → ∃ a b, l = [a, b]
  | [a, b], _ => ⟨a, b, rfl⟩
abbrev q1 : Qv := upd (fun _ => none) 1 (some [98])
abbrev q2 : Qv := upd q1 0 (some [97])
theorem runs1 : RunsQ q1 0 [] := ⟨fun i h => by simp at h, rfl⟩
theorem runs2 : RunsQ q2 0 [[97], [98]] := ⟨fun i h => by
  obtain rfl | rfl : i = 0 ∨ i = 1 := by simp at h; omega
  · rfl
  · rfl, rfl⟩
theorem mask1 : maskQ q1 0 = 1 := by decide +kernel
theorem mask2 : maskQ (restQ q2 0 2) 2 = 0 := by decide +kernel
/-- True; nothing that lay has turned. -/
theorem wakes45 (w : World) : Calls Try.prog 45 #[] w (TruePost w) := by
  have kc := fun (w : World) (C : Array Value) (n c : Nat) => Lib.run_convert_bytes_const (P := Try.prog) w 62 5 C n c Try.underlying62 Try.underlying5
  go_enter Try.func45, Try.ntmps45
  go_wp2_with fail
  refine (kept_new _).mono ?_
  rintro e W1 ⟨I, M, rfl, h1, _⟩
  go_wp2_with fail
  refine (kept_go (h1.al _) (win_none 0) 1 (by omega) _ _ _ (by omega) rfl (by omega) (by omega) (by omega) (by omega) [98] (rd_new 98 98 rfl _ _) rfl [] runs1).mono ?_
  rintro e W2 ⟨p2, c2, G2, rfl, hG2, o2, _, h2, w2, s2⟩
  have h2' : Kept w I M 1 0 q1 (fun _ => True) W2 := by have := h2.mono (S' := fun _ => True) (fun _ _ => trivial) (Nat.le_refl _); rwa [List.length_nil, restQ_zero] at this
  have w2' : Win q1 0 := by rwa [List.length_nil, restQ_zero] at w2
  have H2 := Lib.hid h2'; have HW2 := Lib.hid w2'
  clear h1 o2 s2 h2 w2 hG2 h2' w2'
  go_wp2_with fail
  refine (kept_told H2.out (by omega)).mono ?_
  rintro e W3 ⟨rfl, b3⟩
  rw [mask1]
  have H3 := Lib.hid (H2.out.same b3)
  clear b3 H2
  go_wp2_with fail
  refine (kept_go (H3.out.al _) HW2.out 0 (by omega) _ _ _ (by omega) rfl (by omega) (by omega) (by omega) (by omega) [97] (rd_new 97 97 rfl _ _) rfl [[97], [98]] runs2).mono ?_
  rintro e W4 ⟨p4, c4, G4, rfl, hG4, o4, g4, h4, -, s4⟩
  have H4 : Hid (Kept w I M 2 2 (restQ q2 0 2) (fun _ => True) W4) := Lib.hid (h4.mono (fun _ _ => trivial) (Nat.le_refl _))
  obtain ⟨ga, gb, rfl⟩ : ∃ a b, G4 = [a, b] := two_of (by have := congrArg List.length hG4; simpa using this)
  have ea : ga.2 = [97] := by simpa using (List.cons.inj hG4).1
  have eb : gb.2 = [98] := by simpa using (List.cons.inj (List.cons.inj hG4).2).1
  have oa := g4 ga (by simp)
  have ob := g4 gb (by simp)
  rw [ea] at oa
  rw [eb] at ob
  have O4 := Lib.hid o4; have OA := Lib.hid oa; have OB := Lib.hid ob
  clear o4 oa ob ea eb g4 h4 s4 hG4 H3 HW2
  go_wp2_with fail
  refine (kept_told H4.out (by omega)).mono ?_
  rintro e W5 ⟨rfl, b5⟩
  rw [mask2]
  have H5 := Lib.hid (H4.out.same b5)
  have b5' : Below W4.heap.size W4 (W5.alloc (.cells #[.int .u8 120] 5 (1, 2))) := b5.alloc b5.size _
  clear b5 H4
  go_wp2_with fail
  refine (kept_again (H5.out.al _) 0 (by omega) _ _ _ (by omega) (.inl (by omega)) (by omega)).mono ?_
  rintro e W6 ⟨rfl, rfl⟩
  have hb := (H5.out.al (.cells #[.int .u8 120] 5 (1, 2))).bel
  generalize W5.alloc (.cells #[.int .u8 120] 5 (1, 2)) = W6 at b5' hb ⊢
  have o6 := O4.out.below b5'
  have oa6 := OA.out.below b5'
  have ob6 := OB.out.below b5'
  obtain ⟨pb, ro, rfl⟩ := o6.addr (by simp)
  have e0 : W6.cell? ⟨pb, ro, none⟩ = some (encG ga) := o6.cellG 0 (by simp)
  have e1 : W6.cell? ⟨pb, ro + 1, none⟩ = some (encG gb) := o6.cellG 1 (by simp)
  obtain ⟨qa, la, ca, xa⟩ : ∃ q l c, encG ga = .slice q l c := ⟨_, _, _, rfl⟩
  obtain ⟨qb, lb, cb, xb⟩ : ∃ q l c, encG gb = .slice q l c := ⟨_, _, _, rfl⟩
  rw [xa] at e0 oa6
  rw [xb] at e1 ob6
  have v1 := conv_off oa6
  have v2 := conv_off ob6
  rw [show strN [97] = ⟨#[97]⟩ from rfl] at v1
  rw [show strN [98] = ⟨#[98]⟩ from rfl] at v2
  clear o6 oa6 ob6 b5' O4 OA OB H5 xa xb kc
  have HB := Lib.hid hb
  clear hb
  go_wp2
  go_ret
  exact ⟨rfl, HB.out⟩
end Go.Proofs.Ytmghgjokleeigaa
