/-
  IntakeTold: the state of its loop (printed by tos.py).
-/
import Derived.Test.YtmghgjokleeigaaToM
import Derived.Test.YtmghgjokleeigaaMarks
import Derived.Deep.CutBlock
import Derived.Deep.DeepCutAuto
namespace Go.Proofs.Ytmghgjokleeigaa
open Go.RowKit Go.Maps

/-- The frame at the loop's head. -/
def FrmT (a : Option Addr) (len cap I T k : Nat) (t : Array Value) : Prop := t.size = 155 ∧ t.getD 0 undef = .slice a len cap ∧ t.getD 2 undef = .bool false ∧ t.getD 3 undef = .pointer (some ⟨I, 0, none⟩) ∧ t.getD 4 undef = .map (some T) ∧ t.getD 24 undef = .slice a len cap ∧ t.getD 25 undef = .int .i64 (len : Nat) ∧ t.getD 26 undef = .int .i64 (k : Nat)
theorem lit_any (t : Array Value) : t = ((List.range t.size).map fun i => t.getD i undef).toArray := by
  apply Array.ext
  · simp
  · intro i h1 h2
    simp [h1]
set_option maxRecDepth 100000 in
theorem lit155 (t : Array Value) (h : t.size = 155) : t = #[t.getD 0 undef, t.getD 1 undef, t.getD 2 undef, t.getD 3 undef, t.getD 4 undef, t.getD 5 undef, t.getD 6 undef, t.getD 7 undef, t.getD 8 undef, t.getD 9 undef, t.getD 10 undef, t.getD 11 undef, t.getD 12 undef, t.getD 13 undef, t.getD 14 undef, t.getD 15 undef, t.getD 16 undef, t.getD 17 undef, t.getD 18 undef, t.getD 19 undef, t.getD 20 undef, t.getD 21 undef, t.getD 22 undef, t.getD 23 undef, t.getD 24 undef, t.getD 25 undef, t.getD 26 undef, t.getD 27 undef, t.getD 28 undef, t.getD 29 undef, t.getD 30 undef, t.getD 31 undef, t.getD 32 undef, t.getD 33 undef, t.getD 34 undef, t.getD 35 undef, t.getD 36 undef, t.getD 37 undef, t.getD 38 undef, t.getD 39 undef, t.getD 40 undef, t.getD 41 undef, t.getD 42 undef, t.getD 43 undef, t.getD 44 undef, t.getD 45 undef, t.getD 46 undef, t.getD 47 undef, t.getD 48 undef, t.getD 49 undef, t.getD 50 undef, t.getD 51 undef, t.getD 52 undef, t.getD 53 undef, t.getD 54 undef, t.getD 55 undef, t.getD 56 undef, t.getD 57 undef, t.getD 58 undef, t.getD 59 undef, t.getD 60 undef, t.getD 61 undef, t.getD 62 undef, t.getD 63 undef, t.getD 64 undef, t.getD 65 undef, t.getD 66 undef, t.getD 67 undef, t.getD 68 undef, t.getD 69 undef, t.getD 70 undef, t.getD 71 undef, t.getD 72 undef, t.getD 73 undef, t.getD 74 undef, t.getD 75 undef, t.getD 76 undef, t.getD 77 undef, t.getD 78 undef, t.getD 79 undef, t.getD 80 undef, t.getD 81 undef, t.getD 82 undef, t.getD 83 undef, t.getD 84 undef, t.getD 85 undef, t.getD 86 undef, t.getD 87 undef, t.getD 88 undef, t.getD 89 undef, t.getD 90 undef, t.getD 91 undef, t.getD 92 undef, t.getD 93 undef, t.getD 94 undef, t.getD 95 undef, t.getD 96 undef, t.getD 97 undef, t.getD 98 undef, t.getD 99 undef, t.getD 100 undef, t.getD 101 undef, t.getD 102 undef, t.getD 103 undef, t.getD 104 undef, t.getD 105 undef, t.getD 106 undef, t.getD 107 undef, t.getD 108 undef, t.getD 109 undef, t.getD 110 undef, t.getD 111 undef, t.getD 112 undef, t.getD 113 undef, t.getD 114 undef, t.getD 115 undef, t.getD 116 undef, t.getD 117 undef, t.getD 118 undef, t.getD 119 undef, t.getD 120 undef, t.getD 121 undef, t.getD 122 undef, t.getD 123 undef, t.getD 124 undef, t.getD 125 undef, t.getD 126 undef, t.getD 127 undef, t.getD 128 undef, t.getD 129 undef, t.getD 130 undef, t.getD 131 undef, t.getD 132 undef, t.getD 133 undef, t.getD 134 undef, t.getD 135 undef, t.getD 136 undef, t.getD 137 undef, t.getD 138 undef, t.getD 139 undef, t.getD 140 undef, t.getD 141 undef, t.getD 142 undef, t.getD 143 undef, t.getD 144 undef, t.getD 145 undef, t.getD 146 undef, t.getD 147 undef, t.getD 148 undef, t.getD 149 undef, t.getD 150 undef, t.getD 151 undef, t.getD 152 undef, t.getD 153 undef, t.getD 154 undef] := by
  have := lit_any t
  rw [h] at this
  exact this
set_option maxRecDepth 100000 in
theorem FrmT.lit {a : Option Addr} {len cap I T k : Nat} {t : Array Value} (h : FrmT a len cap I T k t) : ∃ u : Nat → Value, t = #[.slice a len cap, u 1, .bool false, .pointer (some ⟨I, 0, none⟩), .map (some T), u 5, u 6, u 7, u 8, u 9, u 10, u 11, u 12, u 13, u 14, u 15, u 16, u 17, u 18, u 19, u 20, u 21, u 22, u 23, .slice a len cap, .int .i64 (len : Nat), .int .i64 (k : Nat), u 27, u 28, u 29, u 30, u 31, u 32, u 33, u 34, u 35, u 36, u 37, u 38, u 39, u 40, u 41, u 42, u 43, u 44, u 45, u 46, u 47, u 48, u 49, u 50, u 51, u 52, u 53, u 54, u 55, u 56, u 57, u 58, u 59, u 60, u 61, u 62, u 63, u 64, u 65, u 66, u 67, u 68, u 69, u 70, u 71, u 72, u 73, u 74, u 75, u 76, u 77, u 78, u 79, u 80, u 81, u 82, u 83, u 84, u 85, u 86, u 87, u 88, u 89, u 90, u 91, u 92, u 93, u 94, u 95, u 96, u 97, u 98, u 99, u 100, u 101, u 102, u 103, u 104, u 105, u 106, u 107, u 108, u 109, u 110, u 111, u 112, u 113, u 114, u 115, u 116, u 117, u 118, u 119, u 120, u 121, u 122, u 123, u 124, u 125, u 126, u 127, u 128, u 129, u 130, u 131, u 132, u 133, u 134, u 135, u 136, u 137, u 138, u 139, u 140, u 141, u 142, u 143, u 144, u 145, u 146, u 147, u 148, u 149, u 150, u 151, u 152, u 153, u 154] := by
  obtain ⟨hs, h0, h2, h3, h4, h24, h25, h26⟩ := h
  refine ⟨fun i => t.getD i undef, ?_⟩
  have := lit155 t hs
  rw [h0, h2, h3, h4, h24, h25, h26] at this
  exact this

/-- The loop's state. -/
structure ToldS (w : World) (I M T n fl : Nat) (q : Qv) (Ds : List Nat) (W : World) : Prop where
  kp : Kept w I M n fl q (fun _ => True) W
  wn : Win q fl
  pay : ∀ j xs, q j = some xs → xs = payloadL j
  sixty : ∀ j, q j ≠ none → j < 60
  tk : ∃ ks : List Nat, MapU T n ks W ∧ ∀ j, j ∈ ks ↔ j < fl ∨ q j ≠ none
  mks : MarksIn w.heap.size Ds W
  lo : w.heap.size ≤ T
  ne : T ≠ M
def ToldI (a : Option Addr) (len cap : Nat) (w : World) (I M T : Nat) (m : Nat) (Ds : List Nat) (t : Array Value) (W : World) : Prop :=
  ∃ (k n fl : Nat) (q : Qv), m = len - k ∧ k ≤ len ∧ k ≤ 60 ∧ n ≤ k ∧ fl ≤ 60 ∧ ToldS w I M T n fl q Ds W ∧ FrmT a len cap I T k t
end Go.Proofs.Ytmghgjokleeigaa
