/-
  CreditBounded's plain law: two ends, what is on its way, and the grants, act by act. Numbers alone.
-/
import Derived.Test.YtbmhgdfkkiepaaaOff
namespace Go.Proofs.Ytbmhgdfkkiepaaa

structure Two where
  g : Nat
  s : Nat
  g2 : Nat
  tk : Nat
  us : Nat
  way : List Nat
  grants : List Nat

/-- What holds behind at most k acts. -/
structure Good (most k : Nat) (x : Two) : Prop where
  ut : x.us ≤ x.tk
  st : x.s = x.tk + x.way.sum
  sg : x.s ≤ x.g
  gg : x.g ≤ x.g2
  gu : x.g2 ≤ x.us + most
  all : ∀ t ∈ x.grants, t ≤ x.g2
  last : x.g = x.g2 ∨ x.g2 ∈ x.grants
  small : ∀ t ∈ x.way, t ≤ 255
  wl : x.way.length ≤ k
  gl : x.grants.length ≤ k
  sl : x.s ≤ 255 * k

theorem Good.start (most : Nat) : Good most 0 ⟨most, 0, most, 0, 0, [], []⟩ := ⟨Nat.le_refl _, rfl, Nat.zero_le _, Nat.le_refl _, by simp, by simp, .inl rfl, by simp, by simp, by simp, by simp⟩
theorem Good.more {most k k' : Nat} {x : Two} (h : Good most k x) (hk : k ≤ k') : Good most k' x :=
  ⟨h.ut, h.st, h.sg, h.gg, h.gu, h.all, h.last, h.small, Nat.le_trans h.wl hk, Nat.le_trans h.gl hk, Nat.le_trans h.sl (Nat.mul_le_mul_left _ hk)⟩

theorem Good.spend {most k n : Nat} {x : Two} (h : Good most k x) (hn : n ≤ 255) (hg : x.s + n ≤ x.g) : Good most (k + 1) { x with s := x.s + n, way := x.way ++ [n] } :=
  ⟨h.ut, by have := h.st; simp; omega, hg, h.gg, h.gu, h.all, h.last, by
    intro t ht
    rcases List.mem_append.1 ht with h1 | h1
    · exact h.small t h1
    · simp at h1; omega, by have := h.wl; simp; omega, by have := h.gl; simp only; omega, by have := h.sl; simp only; omega⟩
theorem Good.take {most k n : Nat} {ys : List Nat} {x : Two} (h : Good most k x) (hw : x.way = n :: ys) : n ≤ 255 ∧ x.tk + n ≤ x.g2 ∧ Good most k { x with tk := x.tk + n, way := ys } := by
  have h1 := h.st
  have h2 := h.sg
  have h3 := h.gg
  have h4 := h.ut
  have h5 := h.wl
  rw [hw] at h1 h5
  simp at h1 h5
  exact ⟨h.small n (by rw [hw]; simp), by omega, by simp only; omega, by simp only; omega, h.sg, h.gg, h.gu, h.all, h.last, fun t ht => h.small t (by rw [hw]; simp [ht]), by simp only; omega, h.gl, h.sl⟩
theorem Good.use {most k n : Nat} {x : Two} (h : Good most k x) (hn : n ≤ x.tk - x.us) : Good most k { x with us := x.us + n } :=
  ⟨by have := h.ut; simp only; omega, h.st, h.sg, h.gg, by have := h.gu; simp only; omega, h.all, h.last, h.small, h.wl, h.gl, h.sl⟩
theorem Good.grant {most k : Nat} {x : Two} (h : Good most k x) : Good most (k + 1) { x with g2 := x.us + most, grants := x.grants ++ [x.us + most] } :=
  ⟨h.ut, h.st, h.sg, by have := h.gg; have := h.gu; simp only; omega, Nat.le_refl _, by
    intro t ht
    rcases List.mem_append.1 ht with h1 | h1
    · have := h.all t h1; have := h.gu; simp only; omega
    · simp at h1; simp only; omega, .inr (by simp), h.small, by have := h.wl; simp only; omega, by have := h.gl; simp; omega, by have := h.sl; simp only; omega⟩
theorem Good.granted {most k t : Nat} {x : Two} (h : Good most k x) (ht : t ∈ x.grants) : t ≤ x.s + most ∧ Good most k { x with g := max x.g t } := by
  have h1 := h.all t ht
  have h2 := h.gg
  have h3 := h.sg
  have h4 := h.gu
  have h5 := h.ut
  have h6 := h.st
  refine ⟨by omega, h.ut, h.st, by simp only; omega, by simp only; omega, h.gu, h.all, ?_, h.small, h.wl, h.gl, h.sl⟩
  rcases h.last with e | e
  · left; simp only; omega
  · right; exact e
/-- What each act asks of the ends. -/
theorem Good.bounds {most k : Nat} {x : Two} (h : Good most k x) : x.s - x.us ≤ most ∧ x.g - x.s ≤ most ∧ x.tk - x.us ≤ most ∧ x.us ≤ x.s ∧ x.g ≤ 255 * k + most := by
  have h1 := h.ut; have h2 := h.st; have h3 := h.sg; have h4 := h.gg; have h5 := h.gu; have h6 := h.sl
  omega
end Go.Proofs.Ytbmhgdfkkiepaaa
