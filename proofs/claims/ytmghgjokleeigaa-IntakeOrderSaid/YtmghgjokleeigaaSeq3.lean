/-
  What package seq hands out: behind, those, All, Missing, Told as makers of iterators, each with the list that it goes through. No condition but the numbers' ranges.
-/
import Derived.Test.YtmghgjokleeigaaSeq2
namespace Go.Proofs.Ytmghgjokleeigaa
open Go.RowKit Go.Shelf
attribute [local go_sem] Oper.semAt_some wide_fn_eq wide_depth

abbrev encU : Nat → Array Value := fun x => #[.int .u32 x]

theorem alloc_at (w : World) (o : Obj) (k : Nat) : (w.alloc o).heap[k]? = if k = w.heap.size then some o else w.heap[k]? := by
  show (w.heap.push o)[k]? = _
  rw [Array.getElem?_push]

/-- A function value that answers, of each number, whether p holds; it writes nothing that lay. -/
def Asks (sg : Nat) (slb : Array Value) (p : Nat → Bool) (PreS : World → Prop) (L : List Nat) : Prop :=
  ∀ (x : Nat) (W : World), x ∈ L → PreS W → CallsIn Fence.wide 0 Try.prog sg (#[.int .u32 x] ++ slb) W fun e W2 => e = .returned (.bool (p x)) ∧ W.grownBy W2 none

theorem keep_none {B : Nat} {W W2 : World} (h : W.grownBy W2 none) : KeepBk B W W2 := KeepBk.of_grownBy B h (fun j o e => by cases e)
theorem Stb.grows {B : Nat} {J : World → Prop} (h : Stb B J) {W W2 : World} (hj : J W) (hg : W.grownBy W2 none) : J W2 := h W W2 Option.none hj hg (fun r e => by cases e)

theorem those_iters (Ba Bs ga sg : Nat) (lba slb : Array Value) (ega : Enters ga) (egs : Enters sg) (L : List Nat) (Pre : World → Prop)
    (hall : Iters Try.prog ga lba encU (· = L) Pre) (p : Nat → Bool) (PreS : World → Prop) (hso : Asks sg slb p PreS L) :
    Iters Try.prog 80 #[.pointer (some ⟨Ba, 0, none⟩), .pointer (some ⟨Bs, 0, none⟩)] encU (· = L.filter p)
      (fun W => Pre W ∧ PreS W ∧ W.heap[Ba]? = some (.cells #[.func (.func ga) #[] lba] 28 (0, 0)) ∧ W.heap[Bs]? = some (.cells #[.func (.func sg) #[] slb] 27 (0, 0))) := by
  intro l J Jx W hJ hJx hpre hY h0
  refine (those1 Ba Bs ga sg lba slb ega egs (· = L) Pre hall l (fun vis W' => J (vis.filter p) W') (fun vis W' => Jx (vis.filter p) W') (fun vis x W' => J (vis.filter p) W' ∧ p x = true) W
    (fun pre => hJ _) (fun pre => hJx _) (fun pre W' h => ⟨(hpre _ _ h).1, (hpre _ _ h).2.2⟩) ?_ ?_ h0).mono ?_
  · intro pre x rest W1 hS hj
    have hx : x ∈ L := by rw [← hS]; simp
    refine (hso x W1 hx (hpre _ _ hj).2.1).mono ?_
    rintro e W2 ⟨rfl, hg⟩
    cases hp : p x with
    | true => exact .inr ⟨rfl, keep_none hg, (hJ _).grows hj hg, rfl⟩
    | false =>
      refine .inl ⟨rfl, keep_none hg, ?_⟩
      rw [List.filter_append, List.filter_cons, hp]
      simpa using (hJ _).grows hj hg
  · rintro pre x rest W1 hS ⟨hj, hp⟩
    have e1 : (pre ++ [x]).filter p = pre.filter p ++ [x] := by simp [List.filter_append, hp]
    simp only [e1]
    exact hY (pre.filter p) x (rest.filter p) W1 (by rw [← hS]; simp [List.filter_append, List.filter_cons, hp]) hj
  · rintro e W' ⟨⟨v, rfl⟩, (⟨xs, hS, hj⟩ | ⟨pre, rest, hS, hj⟩)⟩
    · exact IterEnd.all _ (by rw [hS]) hj
    · exact IterEnd.part _ (rest.filter p) (by rw [← hS]; simp [List.filter_append]) hj

/-- Blocks n to n' lie as they lie in W. -/
def Lies (n n' : Nat) (W A : World) : Prop := ∀ k, n ≤ k → k < n' → A.heap[k]? = W.heap[k]?
theorem Lies.refl (n n' : Nat) (W : World) : Lies n n' W W := fun _ _ _ => rfl
theorem Lies.block {n n' k : Nat} {W A : World} {o : Obj} (h : Lies n n' W A) (h1 : n ≤ k) (h2 : k < n') (ho : W.heap[k]? = some o) : A.heap[k]? = some o := (h k h1 h2).trans ho
theorem Stb.lies {n n' B : Nat} {W : World} (h : n' ≤ W.heap.size) (hB : n' ≤ B) : Stb B (fun A => Lies n n' W A ∧ W.heap.size ≤ A.heap.size) := by
  rintro A A' row ⟨hs, hz⟩ hg hr
  refine ⟨fun k h1 h2 => ?_, Nat.le_trans hz hg.size⟩
  refine (hg.block k (by omega) ?_).trans (hs k h1 h2)
  intro e
  have := (hr k e.symm).1
  omega

theorem enters81 : Enters 81 := fun _ _ => (enters_of Try.func81 (by kernel_rfl) rfl) _ _
theorem enters65 : Enters 65 := fun _ _ => (enters_of Try.func65 (by kernel_rfl) rfl) _ _
theorem enters80 : Enters 80 := fun _ _ => (enters_of Try.func80 (by kernel_rfl) rfl) _ _
theorem enters67 : Enters 67 := fun _ _ => (enters_of Try.func67 (by kernel_rfl) rfl) _ _
theorem enters60 : Enters 60 := fun _ _ => (enters_of Try.func60 (by kernel_rfl) rfl) _ _

theorem behind_any (ack : Nat) (w : World) :
    Calls Try.prog 66 #[.int .u32 ack] w fun e w' => e = .returned (.func (.func 81) #[] #[.pointer (some ⟨w.heap.size, 0, none⟩)]) ∧ w.alloc (.cells #[.int .u32 ack] 22) = w' := by
  go_enter Try.func66, Try.ntmps66
  go_wp2
  go_ret
  exact ⟨rfl, rfl⟩

theorem those_any (ga sg : Nat) (lba slb : Array Value) (w : World) :
    Calls Try.prog 59 #[.func (.func ga) #[] lba, .func (.func sg) #[] slb] w fun e w' => e = .returned (.func (.func 80) #[] #[.pointer (some ⟨w.heap.size, 0, none⟩), .pointer (some ⟨w.heap.size + 1, 0, none⟩)]) ∧ (w.alloc (.cells #[.func (.func ga) #[] lba] 28)).alloc (.cells #[.func (.func sg) #[] slb] 27) = w' := by
  go_enter Try.func59, Try.ntmps59
  go_wp2
  go_ret
  exact ⟨rfl, rfl⟩

theorem bit_told (mask j : Nat) (h : mask ≤ 4294967295) : (bits BinOp.and IntKind.u32 ((mask : Int) / 2 ^ j) 1 == 1) = mask.testBit j := by
  have hd : mask / 2 ^ j ≤ mask := Nat.div_le_self _ _
  have e := Go.u32_and_nat (mask / 2 ^ j) 1 (by omega) (by omega)
  have e2 : ((mask / 2 ^ j : Nat) : Int) = (mask : Int) / 2 ^ j := by simp
  rw [e2] at e
  rw [show ((1 : Nat) : Int) = 1 from rfl] at e
  rw [e, Nat.and_one_is_mod, Nat.testBit_eq_decide_div_mod_eq, Bool.eq_iff_iff]
  simp
  omega

theorem told1 (Bm Ba ack mask x : Nat) (W : World) (hmm : mask ≤ 4294967295) (hm : W.cell? ⟨Bm, 0, none⟩ = some (.int .u32 mask)) (ha : W.cell? ⟨Ba, 0, none⟩ = some (.int .u32 ack)) (hx : ack < x) (hx2 : x ≤ ack + 32) (hx3 : x ≤ 4294967295) :
    Calls Try.prog 67 #[.int .u32 x, .pointer (some ⟨Bm, 0, none⟩), .pointer (some ⟨Ba, 0, none⟩)] W fun e w' => e = .returned (.bool (mask.testBit (x - ack - 1))) ∧ W = w' := by
  go_enter Try.func67, Try.ntmps67
  go_wp2
  go_ret
  refine ⟨?_, rfl⟩
  rw [← bit_told _ _ hmm]
  rfl

theorem told_any (ack mask : Nat) (w : World) :
    Calls Try.prog 25 #[.int .u32 ack, .int .u32 mask] w fun e w' => e = .returned (.func (.func 80) #[] #[.pointer (some ⟨w.heap.size + 3, 0, none⟩), .pointer (some ⟨w.heap.size + 4, 0, none⟩)]) ∧
      ((((w.alloc (.cells #[.int .u32 ack] 22)).alloc (.cells #[.int .u32 mask] 22)).alloc (.cells #[.int .u32 ack] 22)).alloc (.cells #[.func (.func 81) #[] #[.pointer (some ⟨w.heap.size + 2, 0, none⟩)]] 28)).alloc
        (.cells #[.func (.func 67) #[] #[.pointer (some ⟨w.heap.size + 1, 0, none⟩), .pointer (some ⟨w.heap.size, 0, none⟩)]] 27) = w' := by
  go_enter Try.func25, Try.ntmps25
  go_wp2_with (first | (go_at_call 66; refine (behind_any _ _).mono ?_; rintro e w' ⟨rfl, rfl⟩) | (go_at_call 59; refine (those_any _ _ _ _ _).mono ?_; rintro e w' ⟨rfl, rfl⟩))
  go_ret
  exact ⟨rfl, rfl⟩

theorem spanAll_any (fr to : Nat) (w : World) :
    Calls Try.prog 24 #[.agg #[.int .u32 fr, .int .u32 to]] w fun e w' => e = .returned (.func (.func 65) #[] #[.pointer (some ⟨w.heap.size, 0, none⟩)]) ∧ w.alloc (.cells #[.int .u32 fr, .int .u32 to] 25) = w' := by
  go_enter Try.func24, Try.ntmps24
  go_wp2
  go_ret
  exact ⟨rfl, rfl⟩
theorem spanMissing_any (fr to sg : Nat) (slb : Array Value) (w : World) :
    Calls Try.prog 15 #[.agg #[.int .u32 fr, .int .u32 to], .func (.func sg) #[] slb] w fun e w' => e = .returned (.func (.func 80) #[] #[.pointer (some ⟨w.heap.size + 3, 0, none⟩), .pointer (some ⟨w.heap.size + 4, 0, none⟩)]) ∧
      ((((w.alloc (.cells #[.int .u32 fr, .int .u32 to] 25)).alloc (.cells #[.func (.func sg) #[] slb] 27)).alloc (.cells #[.int .u32 fr, .int .u32 to] 25)).alloc (.cells #[.func (.func 65) #[] #[.pointer (some ⟨w.heap.size + 2, 0, none⟩)]] 28)).alloc
        (.cells #[.func (.func 60) #[] #[.pointer (some ⟨w.heap.size + 1, 0, none⟩)]] 27) = w' := by
  go_enter Try.func15, Try.ntmps15
  go_wp2_with (first | (go_at_call 24; refine (spanAll_any _ _ _).mono ?_; rintro e w' ⟨rfl, rfl⟩) | (go_at_call 59; refine (those_any _ _ _ _ _).mono ?_; rintro e w' ⟨rfl, rfl⟩))
  go_ret
  exact ⟨rfl, rfl⟩

/-- An iterator over just L, which lies in blocks n up to W's end; P': what else it reads. -/
structure It (g : Nat) (lb : Array Value) (L : List Nat) (P' : World → Prop) (n : Nat) (W : World) : Prop where
  ent : Enters g
  it : Iters Try.prog g lb encU (· = L) (fun A => Lies n W.heap.size W A ∧ P' A)

theorem Iters.weaken {α : Type} {g : Nat} {lb : Array Value} {encs : α → Array Value} {S : List α → Prop} {Pre Pre' : World → Prop} (h : Iters Try.prog g lb encs S Pre) (hp : ∀ W, Pre' W → Pre W) : Iters Try.prog g lb encs S Pre' :=
  fun l J Jx W hJ hJx hpre hY h0 => h l J Jx W hJ hJx (fun pre W' hj => hp _ (hpre pre W' hj)) hY h0

def toldL (ack mask : Nat) : List Nat := (behindL ack).filter fun n => mask.testBit (n - ack - 1)

theorem mem_behindL {ack x : Nat} (ha : ack ≤ 4294967295) (h : x ∈ behindL ack) : ack < x ∧ x ≤ ack + 32 ∧ x ≤ 4294967295 := by
  simp only [behindL, List.mem_range'_1] at h
  omega

theorem told_it (ack mask : Nat) (ha : ack ≤ 4294967295) (hm : mask ≤ 4294967295) (w : World) :
    Calls Try.prog 25 #[.int .u32 ack, .int .u32 mask] w fun e W => ∃ g lb, e = .returned (.func (.func g) #[] lb) ∧ Below w.heap.size w W ∧ It g lb (toldL ack mask) (fun _ => True) w.heap.size W := by
  refine (told_any ack mask w).mono ?_
  rintro e W ⟨rfl, rfl⟩
  refine ⟨_, _, rfl, (((((Below.refl _ _).alloc (Nat.le_refl _) _).alloc (by simp) _).alloc (by simp; omega) _).alloc (by simp; omega) _).alloc (by simp; omega) _, enters80, ?_⟩
  refine (those_iters (w.heap.size + 3) (w.heap.size + 4) 81 67 #[.pointer (some ⟨w.heap.size + 2, 0, none⟩)] #[.pointer (some ⟨w.heap.size + 1, 0, none⟩), .pointer (some ⟨w.heap.size, 0, none⟩)] enters81 enters67 (behindL ack) _
    (behind1 (w.heap.size + 2) ack ha) (fun n => mask.testBit (n - ack - 1)) (fun A => A.cell? ⟨w.heap.size + 1, 0, none⟩ = some (.int .u32 mask) ∧ A.cell? ⟨w.heap.size, 0, none⟩ = some (.int .u32 ack)) ?_).weaken ?_
  · rintro x A hx ⟨h1, h2⟩
    obtain ⟨m1, m2, m3⟩ := mem_behindL ha hx
    refine callsIn_wide.2 ((told1 (w.heap.size + 1) w.heap.size ack mask x A hm h1 h2 m1 m2 m3).mono ?_)
    rintro e W' ⟨rfl, rfl⟩
    exact ⟨rfl, rfl, rfl, rfl, Nat.le_refl _, fun _ _ _ => rfl⟩
  · rintro A ⟨hl, _⟩
    simp only [World.size_alloc] at hl
    refine ⟨one_cell (t := 22) (hl.block (by omega) (by omega) ?_), ⟨one_cell (t := 22) (hl.block (by omega) (by omega) ?_), one_cell (t := 22) (hl.block (by omega) (by omega) ?_)⟩, hl.block (by omega) (by omega) ?_, hl.block (by omega) (by omega) ?_⟩
    all_goals (simp only [alloc_at, World.size_alloc]; repeat (first | rw [if_pos (by omega)] | rw [if_neg (by omega)]))
end Go.Proofs.Ytmghgjokleeigaa
