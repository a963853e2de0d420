/-
  Flip.
-/
import Derived.Test.YtbmhgdfkkiepaaaNet3
namespace Go.Proofs.Ytbmhgdfkkiepaaa
open Go.RowKit

/-- All stays but rows of bytes. -/
def KeepF (W W' : World) : Prop := ∀ (b : Nat) (o : Obj), W.heap[b]? = some o → (∀ c t f, o = Obj.cells c t f → t ≠ 5) → W'.heap[b]? = some o
theorem keepF_set {W : World} {b o : Nat} {cur : Array Value} {f : Nat × Nat} (u : Value) (hc : W.heap[b]? = some (.cells cur 5 f)) : KeepF W (W.drew.setCell ⟨b, o, none⟩ u) := fun k x e hx => by
  have : k ≠ b := by rintro rfl; rw [hc] at e; cases e; exact hx _ _ _ rfl rfl
  exact (Below.heap_setCell W.drew _ _ _ this).trans e
/-- One byte of one datagram is another. -/
def setGr (l : List Gr) (i j y : Nat) : List Gr := l.modify i fun p => (p.1, p.2.set j y)
theorem setGr_fst (l : List Gr) (i j y : Nat) : (setGr l i j y).map encG = l.map encG := by
  apply List.ext_getElem?
  intro m
  unfold setGr
  rw [List.getElem?_map, List.getElem?_map, List.getElem?_modify]
  cases l[m]? with
  | none => rfl
  | some p => simp only [Option.map_eq_map, Option.map_some]; split <;> rfl
theorem setGr_get (l : List Gr) (i j y m : Nat) (h : m < (setGr l i j y).length) (h' : m < l.length) : (setGr l i j y)[m] = if i = m then (l[m].1, l[m].2.set j y) else l[m] := by
  simp only [setGr, List.getElem_modify]
theorem pair_iff (l : List Gr) : List.Pairwise (fun p q : Gr => Apart (encG p) (encG q)) l ↔ List.Pairwise Apart (l.map encG) := List.pairwise_map.symm
theorem NetIs.flip {w0 : World} {N : Nat} {r : Nat → Value} {g : Nat → List Gr} {W : World} (h : NetIs w0 N r g W) {k i j : Nat} (hk : k < 2) (hi : i < (g k).length) {b o L c : Nat} (he : encG (g k)[i] = .slice (some ⟨b, o, none⟩) L c) (hj : j < (g k)[i].2.length) (y : Nat) :
    NetIs w0 N r (upd g k (setGr (g k) i j y)) (W.setCell ⟨b, o + j, none⟩ (.int .u8 y)) := by
  have hmem : (g k)[i] ∈ g k := List.getElem_mem hi
  have hown : (encG (g k)[i]).ownBlock = some b := by rw [he]; rfl
  have hbN := h.neGram hk hmem hown
  have hne : ∀ x, x ≠ b → (W.setCell ⟨b, o + j, none⟩ (.int .u8 y)).heap[x]? = W.heap[x]? := fun x hx => Below.heap_setCell _ _ _ _ hx
  have hge := ((h.gram k hk _ hmem).own hown).1
  have hself : OffRow (W.setCell ⟨b, o + j, none⟩ (.int .u8 y)) w0.heap.size 5 (encG (g k)[i]) (byts ((g k)[i].2.set j y)) := by
    have h0 := h.gram k hk _ hmem
    rw [he] at h0 ⊢
    rcases h0 with ⟨h0, _⟩ | ⟨b', o', cap, cur, h1, h2, h3, h4, h5, h6, h7⟩
    · cases h0
    · injection h1 with h1 h1b h1c
      injection h1 with h1
      injection h1 with h1d h1e
      subst h1d h1e h1c
      refine .inr ⟨b, o, c, cur.setIfInBounds (o + j) (.int .u8 y), by rw [h1b]; simp, h2, set_cells h3, by simpa using h4, h5, by simpa using h6, fun m u hu => ?_⟩
      rw [List.getElem?_map, List.getElem?_set] at hu
      simp only [List.length_map] at h4
      by_cases e : j = m
      · subst e
        rw [if_pos rfl, if_pos hj] at hu
        simp at hu; subst hu
        have : o + j < cur.size := by omega
        simp [this]
      · rw [if_neg e] at hu
        rw [Array.getElem?_setIfInBounds_ne (by omega)]
        exact h7 m u (by rw [List.getElem?_map]; exact hu)
  have hfar : ∀ p : Gr, Apart (encG (g k)[i]) (encG p) → (∃ a, a < 2 ∧ p ∈ g a) → OffRow (W.setCell ⟨b, o + j, none⟩ (.int .u8 y)) w0.heap.size 5 (encG p) (byts p.2) := fun p hp ⟨a, ha, hpa⟩ =>
    (h.gram a ha p hpa).same fun x e => hne x (fun e2 => hp b hown (by rw [e, e2]))
  have hother : ∀ a, a < 2 → a ≠ k → ∀ p ∈ g a, Apart (encG (g k)[i]) (encG p) := fun a ha hak p hp => by
    have h1 := List.pairwise_append.1 h.apart
    obtain ⟨rfl, rfl⟩ | ⟨rfl, rfl⟩ : (k = 0 ∧ a = 1) ∨ (k = 1 ∧ a = 0) := by omega
    · exact h1.2.2 _ hmem _ hp
    · exact (h1.2.2 _ hp _ hmem).symm
  have hsame : ∀ m (hm : m < (g k).length), m ≠ i → Apart (encG (g k)[i]) (encG (g k)[m]) := fun m hm hmi => by
    have h1 := List.pairwise_append.1 h.apart
    have h2 : List.Pairwise (fun p q : Gr => Apart (encG p) (encG q)) (g k) := by
      obtain rfl | rfl : k = 0 ∨ k = 1 := by omega
      · exact h1.1
      · exact h1.2.1
    rcases Nat.lt_or_gt_of_ne hmi with h3 | h3
    · exact (List.pairwise_iff_getElem.1 h2 m i hm hi h3).symm
    · exact List.pairwise_iff_getElem.1 h2 i m hi hm h3
  refine ⟨(hne N (Ne.symm hbN)).trans h.net, fun a ha => ?_, fun a ha p hp => ?_, ?_, h.ne, h.hN, h.bel.setCell hge _⟩
  · have hr := (h.row a ha).same (w' := W.setCell ⟨b, o + j, none⟩ (.int .u8 y)) fun x e => hne x (fun e2 => h.rowGram hk ha hmem hown (by rw [e, e2]))
    by_cases e : a = k
    · subst e; rw [upd_same, setGr_fst]; exact hr
    · rw [upd_other _ _ e]; exact hr
  · by_cases e : a = k
    · subst e
      rw [upd_same] at hp
      obtain ⟨m, hm, rfl⟩ := List.mem_iff_getElem.1 hp
      have hm' : m < (g a).length := by simpa [setGr] using hm
      rw [setGr_get _ _ _ _ _ hm hm']
      split
      · next e => subst e; exact hself
      · next e => exact hfar _ (hsame m hm' (Ne.symm e)) ⟨a, ha, List.getElem_mem hm'⟩
    · rw [upd_other _ _ e] at hp
      exact hfar p (hother a ha e p hp) ⟨a, ha, hp⟩
  · rw [pair_iff]
    have := (pair_iff _).1 h.apart
    rw [List.map_append] at this ⊢
    obtain rfl | rfl : k = 0 ∨ k = 1 := by omega
    · rw [upd_same, upd_other _ _ (by omega), setGr_fst]; exact this
    · rw [upd_same, upd_other _ _ (by omega), setGr_fst]; exact this
end Go.Proofs.Ytbmhgdfkkiepaaa
