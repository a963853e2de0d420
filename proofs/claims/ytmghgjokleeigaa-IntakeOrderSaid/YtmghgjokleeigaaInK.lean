/-
  Intake: its contracts in the words of what is kept: per number, its bytes. A floor below 2^31; what is kept lies within 16 of the floor, of at most 256 bytes each.
-/
import Derived.Test.YtmghgjokleeigaaInW
namespace Go.Proofs.Ytmghgjokleeigaa
open Go.RowKit Go.Shelf Go.Maps

abbrev Qv := Nat → Option (List Nat)
/-- The numbers that are kept. -/
def idsQ (q : Qv) (fl : Nat) : List Nat := (List.range' (fl + 1) 15).filter fun j => (q j).isSome
def sumQ (q : Qv) (fl : Nat) : Nat := ((idsQ q fl).map fun j => ((q j).map List.length).getD 0).sum
def maskQ (q : Qv) (fl : Nat) : Nat := maskOf fl ((behindL fl).filter fun x => (q x).isSome)
def restQ (q : Qv) (fl i : Nat) : Qv := fun id => if fl ≤ id ∧ id < fl + i then none else q id
structure RunsQ (q : Qv) (fl : Nat) (L : List (List Nat)) : Prop where
  at_ : ∀ i (h : i < L.length), q (fl + i) = some L[i]
  stop : q (fl + L.length) = none
/-- What is kept lies ahead of the floor. -/
structure Win (q : Qv) (fl : Nat) : Prop where
  lo : ∀ j, q j ≠ none → fl < j ∧ j < fl + 16
  sz : ∀ j xs, q j = some xs → xs.length ≤ 256
theorem mem_idsQ {q : Qv} {fl : Nat} (h : Win q fl) (j : Nat) : j ∈ idsQ q fl ↔ q j ≠ none := by
  unfold idsQ
  rw [List.mem_filter, List.mem_range'_1]
  constructor
  · rintro ⟨_, h2⟩ e
    rw [e] at h2; cases h2
  · intro hj
    have := h.lo j hj
    refine ⟨by omega, ?_⟩
    cases e : q j with
    | none => exact absurd e hj
    | some x => rfl
theorem nodup_idsQ (q : Qv) (fl : Nat) : (idsQ q fl).Nodup := List.Pairwise.filter _ (List.nodup_range' ..)
theorem len_idsQ (q : Qv) (fl : Nat) : (idsQ q fl).length ≤ 15 := by
  have := List.length_filter_le (fun j => (q j).isSome) (List.range' (fl + 1) 15)
  rw [List.length_range'] at this
  exact this
theorem win_none (fl : Nat) : Win (fun _ => none) fl := ⟨fun _ h => absurd rfl h, fun _ _ h => by cases h⟩
/-- It is put in, and what is ready goes. -/
theorem Win.take {q : Qv} {fl id : Nat} {xs : List Nat} {L : List (List Nat)} (h : Win q fl) (hq : q id = none) (hge : fl ≤ id) (hlt : id < fl + 16) (hx : xs.length ≤ 256) (hL : RunsQ (upd q id (some xs)) fl L) :
    Win (restQ (upd q id (some xs)) fl L.length) (fl + L.length) ∧ (idsQ q fl).length + 1 = L.length + (idsQ (restQ (upd q id (some xs)) fl L.length) (fl + L.length)).length := by
  have hin : ∀ j, upd q id (some xs) j ≠ none → fl ≤ j ∧ j < fl + 16 := fun j hj => by
    by_cases e : j = id
    · subst e; exact ⟨hge, hlt⟩
    · rw [upd_other _ _ e] at hj; have := h.lo j hj; omega
  have hw : Win (restQ (upd q id (some xs)) fl L.length) (fl + L.length) := by
    refine ⟨fun j hj => ?_, fun j ys hj => ?_⟩
    · unfold restQ at hj
      by_cases hc : fl ≤ j ∧ j < fl + L.length
      · rw [if_pos hc] at hj; exact absurd rfl hj
      · rw [if_neg hc] at hj
        have h1 := hin j hj
        have : j ≠ fl + L.length := by rintro rfl; exact hj hL.stop
        omega
    · unfold restQ at hj
      by_cases hc : fl ≤ j ∧ j < fl + L.length
      · rw [if_pos hc] at hj; cases hj
      · rw [if_neg hc] at hj
        by_cases e : j = id
        · subst e; rw [upd_same] at hj; cases hj; exact hx
        · rw [upd_other _ _ e] at hj; exact h.sz j ys hj
  refine ⟨hw, ?_⟩
  have hp : (id :: idsQ q fl).Perm (List.range' fl L.length ++ idsQ (restQ (upd q id (some xs)) fl L.length) (fl + L.length)) := by
    refine (List.perm_ext_iff_of_nodup ?_ ?_).2 fun j => ?_
    · refine List.nodup_cons.2 ⟨fun hm => ?_, nodup_idsQ _ _⟩
      exact (mem_idsQ h id).1 hm hq
    · rw [List.nodup_append]
      refine ⟨List.nodup_range' .., nodup_idsQ _ _, fun a ha b hb => ?_⟩
      rintro rfl
      rw [List.mem_range'_1] at ha
      have := hw.lo a ((mem_idsQ hw a).1 hb)
      omega
    · rw [List.mem_append, List.mem_cons, mem_idsQ h, mem_idsQ hw, List.mem_range'_1]
      unfold restQ
      by_cases hc : fl ≤ j ∧ j < fl + L.length
      · rw [if_pos hc]
        have h1 := hL.at_ (j - fl) (by omega)
        rw [show fl + (j - fl) = j by omega] at h1
        refine ⟨fun _ => .inl hc, fun _ => ?_⟩
        by_cases e : j = id
        · exact .inl e
        · rw [upd_other _ _ e] at h1; exact .inr (by rw [h1]; simp)
      · rw [if_neg hc]
        refine ⟨fun hj => .inr ?_, fun hj => ?_⟩
        · by_cases e : j = id
          · subst e; rw [upd_same]; simp
          · rw [upd_other _ _ e]; rcases hj with hj | hj; exact absurd hj e; exact hj
        · rcases hj with hj | hj
          · exact absurd hj hc
          · by_cases e : j = id
            · exact .inl e
            · rw [upd_other _ _ e] at hj; exact .inr hj
  have := hp.length_eq
  rw [List.length_cons, List.length_append, List.length_range'] at this
  exact this

/-- An intake that keeps these; S: in which blocks. -/
def Kept (w0 : World) (I M n fl : Nat) (q : Qv) (S : Nat → Prop) (W : World) : Prop :=
  ∃ v, Intk w0 I M n fl v (idsQ q fl).length W ∧ (∀ id, (v id).map Prod.snd = q id) ∧ ∀ id g, v id = some g → ∀ b, (encG g).ownBlock = some b → S b
section
variable {w0 : World} {I M n fl : Nat} {q : Qv} {S : Nat → Prop} {W : World}
theorem some_iff {v : Nat → Option Gr} (hv : ∀ id, (v id).map Prod.snd = q id) (j : Nat) : (v j).isSome = (q j).isSome := by rw [← hv j]; cases v j <;> rfl
theorem none_iff {v : Nat → Option Gr} (hv : ∀ id, (v id).map Prod.snd = q id) (j : Nat) : v j = none ↔ q j = none := by rw [← hv j]; cases v j <;> simp
theorem Kept.mono {S' : Nat → Prop} {n' : Nat} (h : Kept w0 I M n fl q S W) (hS : ∀ b, S b → S' b) (hn : n ≤ n') : Kept w0 I M n' fl q S' W := by
  obtain ⟨v, h1, h2, h3⟩ := h
  exact ⟨v, h1.more hn, h2, fun id g e b hb => hS b (h3 id g e b hb)⟩
theorem Kept.same {W' : World} (h : Kept w0 I M n fl q S W) (hb : Below W.heap.size W W') : Kept w0 I M n fl q S W' := by
  obtain ⟨v, h1, h2, h3⟩ := h
  exact ⟨v, h1.same hb, h2, h3⟩
theorem Kept.bel (h : Kept w0 I M n fl q S W) : Below w0.heap.size w0 W := by obtain ⟨v, h1, _⟩ := h; exact h1.bel
theorem Kept.lt (h : Kept w0 I M n fl q S W) : I < W.heap.size ∧ M < W.heap.size := by obtain ⟨v, h1, _⟩ := h; exact ⟨block_lt h1.box, h1.map.lt⟩
theorem Kept.lo (h : Kept w0 I M n fl q S W) : w0.heap.size ≤ I ∧ w0.heap.size ≤ M := by obtain ⟨v, h1, _⟩ := h; exact ⟨h1.hI, h1.hM⟩
theorem Kept.boxes (h : Kept w0 I M n fl q S W) : (∃ cs, W.heap[I]? = some (.cells cs 80 (0, 0))) ∧ ∃ es k, W.heap[M]? = some (.map es k) := by
  obtain ⟨v, h1, _⟩ := h
  obtain ⟨D, ⟨es, clock, h2, _⟩, _⟩ := h1.map
  exact ⟨⟨_, h1.box⟩, _, _, h2⟩
/-- All blocks are old ones. -/
theorem Kept.old (h : Kept w0 I M n fl q S W) : Kept w0 I M n fl q (fun b => S b ∧ b < W.heap.size) W := by
  obtain ⟨v, h1, h2, h3⟩ := h
  exact ⟨v, h1, h2, fun id g e b hb => ⟨h3 id g e b hb, block_lt ((h1.gr id g e).own hb).2.choose_spec⟩⟩
/-- Other blocks turn. -/
theorem Kept.keep {W' : World} (h : Kept w0 I M n fl q S W) (hk : ∀ (b : Nat) (o : Obj), W.heap[b]? = some o → (b = I ∨ b = M ∨ (S b ∧ ∃ cs f, o = Obj.cells cs 5 f)) → W'.heap[b]? = some o) (hb : Below w0.heap.size w0 W') : Kept w0 I M n fl q S W' := by
  obtain ⟨v, h1, h2, h3⟩ := h
  refine ⟨v, ⟨hk _ _ h1.box (.inl rfl), ?_, fun id g e => (h1.gr id g e).same fun b e2 => ?_, h1.hI, h1.hM, hb⟩, h2, h3⟩
  · obtain ⟨D, ⟨es, clock, a1, a2, a3, a4⟩, a5⟩ := h1.map
    exact ⟨D, ⟨es, clock, hk _ _ a1 (.inr (.inl rfl)), a2, a3, a4⟩, a5⟩
  · obtain ⟨_, cur, hc⟩ := (h1.gr id g e).own e2
    rw [hc]; exact hk _ _ hc (.inr (.inr ⟨h3 id g e b e2, _, _, rfl⟩))
theorem Stb.kept {B : Nat} (hB : w0.heap.size ≤ B) : Stb B (Kept w0 I M n fl q S) := fun A A' row h hg hr => by
  obtain ⟨v, h1, h2, h3⟩ := h
  exact ⟨v, Stb.intk hB A A' row h1 hg hr, h2, h3⟩
theorem kept_new (w : World) : Calls Try.prog 39 #[] w fun e W => ∃ I M, e = .returned (.pointer (some ⟨I, 0, none⟩)) ∧ Kept w I M 0 0 (fun _ => none) (fun _ => False) W ∧ Below w.heap.size w W := (new39 w).mono (by
  rintro e W ⟨I, M, rfl, h1, h2⟩
  exact ⟨I, M, rfl, ⟨_, h1, fun _ => rfl, fun _ _ e => by cases e⟩, h2⟩)
theorem kept_floor (h : Kept w0 I M n fl q S W) : Calls Try.prog 48 #[.pointer (some ⟨I, 0, none⟩)] W fun e W' => e = .returned (.int .u32 fl) ∧ W = W' := by
  obtain ⟨v, h1, _⟩ := h
  exact floor48 h1
theorem kept_waits (h : Kept w0 I M n fl q S W) : Calls Try.prog 41 #[.pointer (some ⟨I, 0, none⟩)] W fun e W' => e = .returned (.int .i64 (idsQ q fl).length) ∧ W = W' := by
  obtain ⟨v, h1, _⟩ := h
  exact waits41 h1
theorem kept_told (h : Kept w0 I M n fl q S W) (hf : fl ≤ 4294967295) : Calls Try.prog 40 #[.pointer (some ⟨I, 0, none⟩)] W fun e W' => e = .returned (.tuple #[.int .u32 fl, .int .u32 (maskQ q fl)]) ∧ Below W.heap.size W W' := by
  obtain ⟨v, h1, h2, _⟩ := h
  have e : maskV fl v = maskQ q fl := by
    unfold maskV maskQ
    congr 1
    exact List.filter_congr fun x _ => some_iff h2 x
  rw [← e]
  exact told40 h1 hf
theorem kept_ids (h : Kept w0 I M n fl q S W) (hw : Win q fl) (hfl : fl ≤ 2147483648) {v : Nat → Option Gr} (hv : ∀ id, (v id).map Prod.snd = q id) : Ids v (idsQ q fl) :=
  ⟨nodup_idsQ _ _, fun j => by rw [mem_idsQ hw, Ne, Ne, none_iff hv], fun j hj => by have := hw.lo j ((mem_idsQ hw j).1 hj); omega⟩
theorem kept_bytes (h : Kept w0 I M n fl q S W) (hw : Win q fl) (hfl : fl ≤ 2147483648) : Calls Try.prog 42 #[.pointer (some ⟨I, 0, none⟩)] W fun e W' => e = .returned (.int .i64 (sumQ q fl)) ∧ Below W.heap.size W W' := by
  have h0 := h
  obtain ⟨v, h1, h2, _⟩ := h
  have e : sumV v (idsQ q fl) = sumQ q fl := by
    unfold sumV sumQ
    congr 1
    refine List.map_congr_left fun j _ => ?_
    unfold lenV
    rw [← h2 j]; cases v j <;> rfl
  rw [← e]
  refine bytes42 h1 _ (kept_ids h0 hw hfl h2) (by have := len_idsQ q fl; omega) fun id g hg => hw.sz id g.2 (by rw [← h2 id, hg]; rfl)
theorem kept_copy (h : Kept w0 I M n fl q S W) : Calls Try.prog 51 #[.pointer (some ⟨I, 0, none⟩)] W fun e W' => ∃ J L, e = .returned (.pointer (some ⟨J, 0, none⟩)) ∧ Kept w0 J L n fl q S W' ∧ Below W.heap.size W W' ∧ W.heap.size ≤ J ∧ W.heap.size ≤ L := by
  obtain ⟨v, h1, h2, h3⟩ := h
  refine (copy51 h1).mono ?_
  rintro e W' ⟨J, L, rfl, a, b, c⟩
  exact ⟨J, L, rfl, ⟨v, a, h2, h3⟩, b, c⟩
theorem kept_long (h : Kept w0 I M n fl q S W) (id : Nat) (p : Option Addr) (l cp : Nat) (hl : 256 < l) (hl2 : l ≤ 9223372036854775807) :
    Calls Try.prog 43 #[.pointer (some ⟨I, 0, none⟩), .int .u32 id, .slice p l cp] W fun e W' => e = .returned (.tuple #[.slice none 0 0, .int .i64 0, .int .i64 3]) ∧ W = W' := by
  obtain ⟨v, h1, _⟩ := h
  exact take_long h1 id p l cp hl hl2
theorem kept_again (h : Kept w0 I M n fl q S W) (id : Nat) (hid : id ≤ 4294967295) (p : Option Addr) (l cp : Nat) (hl : l ≤ 256) (ha : id < fl ∨ q id ≠ none) (hfl : fl ≤ 4294967295) :
    Calls Try.prog 43 #[.pointer (some ⟨I, 0, none⟩), .int .u32 id, .slice p l cp] W fun e W' => e = .returned (.tuple #[.slice none 0 0, .int .i64 2, .int .i64 0]) ∧ W = W' := by
  obtain ⟨v, h1, h2, _⟩ := h
  refine take_again h1 id hid p l cp hl ?_ hfl
  rcases ha with ha | ha
  · exact .inl ha
  · refine .inr ?_
    rw [some_iff h2]
    cases e : q id with
    | none => exact absurd e ha
    | some _ => rfl
theorem kept_far (h : Kept w0 I M n fl q S W) (hw : Win q fl) (id : Nat) (hid : id ≤ 4294967295) (p : Option Addr) (l cp : Nat) (hl : l ≤ 256) (hfl : fl ≤ 4294967295) (hf : fl + 16 ≤ id) :
    Calls Try.prog 43 #[.pointer (some ⟨I, 0, none⟩), .int .u32 id, .slice p l cp] W fun e W' => e = .returned (.tuple #[.slice none 0 0, .int .i64 3, .int .i64 0]) ∧ W = W' := by
  obtain ⟨v, h1, h2, _⟩ := h
  refine take_far h1 id hid p l cp hl ((none_iff h2 id).2 ?_) hfl hf
  cases e : q id with
  | none => rfl
  | some _ => have := hw.lo id (by rw [e]; simp); omega
/-- It is taken. -/
def KeptTake (w0 : World) (I M n fl : Nat) (q : Qv) (S : Nat → Prop) (id : Nat) (xs : List Nat) (W : World) (e : Ending) (W' : World) : Prop :=
  ∃ (p : Option Addr) (l cp : Nat) (G : List Gr), e = .returned (.tuple #[.slice p l cp, .int .i64 1, .int .i64 0]) ∧ l = G.length ∧ RunsQ (upd q id (some xs)) fl (G.map Prod.snd) ∧ OffRow W' W.heap.size 62 (.slice p l cp) (G.map encG) ∧ (∀ g ∈ G, OffRow W' w0.heap.size 5 (encG g) (byts g.2)) ∧
    Kept w0 I M (n + 1) (fl + G.length) (restQ (upd q id (some xs)) fl G.length) (fun b => S b ∨ W.heap.size ≤ b) W' ∧ Win (restQ (upd q id (some xs)) fl G.length) (fl + G.length) ∧ Still I M W W' ∧ G.length ≤ 16
theorem kept_take (h : Kept w0 I M n fl q S W) (hw : Win q fl) (id : Nat) (hid : id ≤ 4294967295) (p : Option Addr) (l cp : Nat) (hl : l ≤ 256) (hq : q id = none) (hfl : fl ≤ 2147483648) (hge : fl ≤ id) (hlt : id < fl + 16) (hn : n ≤ 1000000)
    (xs : List Nat) (hxs : Rd W (.slice p l cp) (byts xs)) (hll : xs.length = l) :
    Calls Try.prog 43 #[.pointer (some ⟨I, 0, none⟩), .int .u32 id, .slice p l cp] W (KeptTake w0 I M n fl q S id xs W) := by
  obtain ⟨v, h1, h2, h3⟩ := h
  refine (take_ok h1 id hid p l cp hl ((none_iff h2 id).2 hq) hfl hge hlt hn (fun j hj => (hw.lo j (fun e => hj ((none_iff h2 j).2 e))).2) xs hxs hll).mono ?_
  rintro e W' ⟨s, u, G, rfl, hr, ho, hg, hin, hst, hfr⟩
  obtain ⟨p', l', cp', rfl⟩ := ho.form'
  have hl' := ho.len'
  rw [List.length_map] at hl'
  have hv2 : ∀ j, (upd v id (some (u, xs)) j).map Prod.snd = upd q id (some xs) j := fun j => by
    by_cases e : j = id
    · subst e; rw [upd_same, upd_same]; rfl
    · rw [upd_other _ _ e, upd_other _ _ e]; exact h2 j
  have hrq : RunsQ (upd q id (some xs)) fl (G.map Prod.snd) := by
    refine ⟨fun i hi => ?_, ?_⟩
    · rw [List.length_map] at hi
      rw [← hv2, hr.at_ i hi]; simp
    · rw [List.length_map, ← hv2, hr.stop]; rfl
  obtain ⟨hw2, hcnt⟩ := hw.take hq hge hlt (by omega) hrq
  rw [List.length_map] at hw2 hcnt
  have h16 : G.length ≤ 16 := by
    rcases Nat.lt_or_ge 16 G.length with h | h
    · have h1 := hr.at_ 16 h
      have h2 : upd q id (some xs) (fl + 16) ≠ none := by rw [← hv2, h1]; simp
      rw [upd_other _ _ (by omega)] at h2
      have := hw.lo _ h2
      omega
    · exact h
  refine ⟨p', l', cp', G, rfl, hl', hrq, ho, hg, ⟨restV (upd v id (some (u, xs))) fl G.length, ?_, fun j => ?_, fun j g e b hb => ?_⟩, hw2, hst, h16⟩
  · rw [show (idsQ (restQ (upd q id (some xs)) fl G.length) (fl + G.length)).length = (idsQ q fl).length + 1 - G.length by omega]
    exact hin
  · unfold restV restQ
    by_cases hc : fl ≤ j ∧ j < fl + G.length
    · rw [if_pos hc, if_pos hc]; rfl
    · rw [if_neg hc, if_neg hc]; exact hv2 j
  · unfold restV at e
    by_cases hc : fl ≤ j ∧ j < fl + G.length
    · rw [if_pos hc] at e; cases e
    · rw [if_neg hc] at e
      by_cases e2 : j = id
      · subst e2; rw [upd_same] at e; cases e; exact .inr (hfr b hb)
      · rw [upd_other _ _ e2] at e; exact .inl (h3 j g e b hb)
end
end Go.Proofs.Ytmghgjokleeigaa
