/-
  NetNothing: the state of its loop (printed by noths.py).
-/
import Derived.Test.YtbmhgdfkkiepaaaNothM
import Derived.Deep.CutBlock
import Derived.Deep.DeepCutAuto
namespace Go.Proofs.Ytbmhgdfkkiepaaa
open Go.RowKit

/-- The frame at the loop's head. -/
def Frm (q : Option Addr) (len cap N Mb Wb S k : Nat) (t : Array Value) : Prop := t.size = 229 ∧ t.getD 0 undef = .slice q len cap ∧ t.getD 2 undef = .bool false ∧ t.getD 3 undef = .pointer (some ⟨N, 0, none⟩) ∧
  t.getD 4 undef = .pointer (some ⟨Mb, 0, none⟩) ∧ t.getD 5 undef = .pointer (some ⟨Wb, 0, none⟩) ∧ t.getD 6 undef = .int .i64 (S : Nat) ∧ t.getD 26 undef = .slice q len cap ∧ t.getD 27 undef = .int .i64 (len : Nat) ∧ t.getD 28 undef = .int .i64 (k : Nat)
theorem lit_any (t : Array Value) : t = ((List.range t.size).map fun i => t.getD i undef).toArray := by
  apply Array.ext
  · simp
  · intro i h1 h2
    simp [h1]
set_option maxRecDepth 100000 in
theorem lit229 (t : Array Value) (h : t.size = 229) : t = #[t.getD 0 undef, t.getD 1 undef, t.getD 2 undef, t.getD 3 undef, t.getD 4 undef, t.getD 5 undef, t.getD 6 undef, t.getD 7 undef, t.getD 8 undef, t.getD 9 undef, t.getD 10 undef, t.getD 11 undef, t.getD 12 undef, t.getD 13 undef, t.getD 14 undef, t.getD 15 undef, t.getD 16 undef, t.getD 17 undef, t.getD 18 undef, t.getD 19 undef, t.getD 20 undef, t.getD 21 undef, t.getD 22 undef, t.getD 23 undef, t.getD 24 undef, t.getD 25 undef, t.getD 26 undef, t.getD 27 undef, t.getD 28 undef, t.getD 29 undef, t.getD 30 undef, t.getD 31 undef, t.getD 32 undef, t.getD 33 undef, t.getD 34 undef, t.getD 35 undef, t.getD 36 undef, t.getD 37 undef, t.getD 38 undef, t.getD 39 undef, t.getD 40 undef, t.getD 41 undef, t.getD 42 undef, t.getD 43 undef, t.getD 44 undef, t.getD 45 undef, t.getD 46 undef, t.getD 47 undef, t.getD 48 undef, t.getD 49 undef, t.getD 50 undef, t.getD 51 undef, t.getD 52 undef, t.getD 53 undef, t.getD 54 undef, t.getD 55 undef, t.getD 56 undef, t.getD 57 undef, t.getD 58 undef, t.getD 59 undef, t.getD 60 undef, t.getD 61 undef, t.getD 62 undef, t.getD 63 undef, t.getD 64 undef, t.getD 65 undef, t.getD 66 undef, t.getD 67 undef, t.getD 68 undef, t.getD 69 undef, t.getD 70 undef, t.getD 71 undef, t.getD 72 undef, t.getD 73 undef, t.getD 74 undef, t.getD 75 undef, t.getD 76 undef, t.getD 77 undef, t.getD 78 undef, t.getD 79 undef, t.getD 80 undef, t.getD 81 undef, t.getD 82 undef, t.getD 83 undef, t.getD 84 undef, t.getD 85 undef, t.getD 86 undef, t.getD 87 undef, t.getD 88 undef, t.getD 89 undef, t.getD 90 undef, t.getD 91 undef, t.getD 92 undef, t.getD 93 undef, t.getD 94 undef, t.getD 95 undef, t.getD 96 undef, t.getD 97 undef, t.getD 98 undef, t.getD 99 undef, t.getD 100 undef, t.getD 101 undef, t.getD 102 undef, t.getD 103 undef, t.getD 104 undef, t.getD 105 undef, t.getD 106 undef, t.getD 107 undef, t.getD 108 undef, t.getD 109 undef, t.getD 110 undef, t.getD 111 undef, t.getD 112 undef, t.getD 113 undef, t.getD 114 undef, t.getD 115 undef, t.getD 116 undef, t.getD 117 undef, t.getD 118 undef, t.getD 119 undef, t.getD 120 undef, t.getD 121 undef, t.getD 122 undef, t.getD 123 undef, t.getD 124 undef, t.getD 125 undef, t.getD 126 undef, t.getD 127 undef, t.getD 128 undef, t.getD 129 undef, t.getD 130 undef, t.getD 131 undef, t.getD 132 undef, t.getD 133 undef, t.getD 134 undef, t.getD 135 undef, t.getD 136 undef, t.getD 137 undef, t.getD 138 undef, t.getD 139 undef, t.getD 140 undef, t.getD 141 undef, t.getD 142 undef, t.getD 143 undef, t.getD 144 undef, t.getD 145 undef, t.getD 146 undef, t.getD 147 undef, t.getD 148 undef, t.getD 149 undef, t.getD 150 undef, t.getD 151 undef, t.getD 152 undef, t.getD 153 undef, t.getD 154 undef, t.getD 155 undef, t.getD 156 undef, t.getD 157 undef, t.getD 158 undef, t.getD 159 undef, t.getD 160 undef, t.getD 161 undef, t.getD 162 undef, t.getD 163 undef, t.getD 164 undef, t.getD 165 undef, t.getD 166 undef, t.getD 167 undef, t.getD 168 undef, t.getD 169 undef, t.getD 170 undef, t.getD 171 undef, t.getD 172 undef, t.getD 173 undef, t.getD 174 undef, t.getD 175 undef, t.getD 176 undef, t.getD 177 undef, t.getD 178 undef, t.getD 179 undef, t.getD 180 undef, t.getD 181 undef, t.getD 182 undef, t.getD 183 undef, t.getD 184 undef, t.getD 185 undef, t.getD 186 undef, t.getD 187 undef, t.getD 188 undef, t.getD 189 undef, t.getD 190 undef, t.getD 191 undef, t.getD 192 undef, t.getD 193 undef, t.getD 194 undef, t.getD 195 undef, t.getD 196 undef, t.getD 197 undef, t.getD 198 undef, t.getD 199 undef, t.getD 200 undef, t.getD 201 undef, t.getD 202 undef, t.getD 203 undef, t.getD 204 undef, t.getD 205 undef, t.getD 206 undef, t.getD 207 undef, t.getD 208 undef, t.getD 209 undef, t.getD 210 undef, t.getD 211 undef, t.getD 212 undef, t.getD 213 undef, t.getD 214 undef, t.getD 215 undef, t.getD 216 undef, t.getD 217 undef, t.getD 218 undef, t.getD 219 undef, t.getD 220 undef, t.getD 221 undef, t.getD 222 undef, t.getD 223 undef, t.getD 224 undef, t.getD 225 undef, t.getD 226 undef, t.getD 227 undef, t.getD 228 undef] := by
  have := lit_any t
  rw [h] at this
  exact this
set_option maxRecDepth 100000 in
theorem Frm.lit {q : Option Addr} {len cap N Mb Wb S k : Nat} {t : Array Value} (h : Frm q len cap N Mb Wb S k t) : ∃ u : Nat → Value, t = #[.slice q len cap, u 1, .bool false, .pointer (some ⟨N, 0, none⟩), .pointer (some ⟨Mb, 0, none⟩), .pointer (some ⟨Wb, 0, none⟩), .int .i64 (S : Nat), u 7, u 8, u 9, u 10, u 11, u 12, u 13, u 14, u 15, u 16, u 17, u 18, u 19, u 20, u 21, u 22, u 23, u 24, u 25, .slice q len cap, .int .i64 (len : Nat), .int .i64 (k : Nat), u 29, u 30, u 31, u 32, u 33, u 34, u 35, u 36, u 37, u 38, u 39, u 40, u 41, u 42, u 43, u 44, u 45, u 46, u 47, u 48, u 49, u 50, u 51, u 52, u 53, u 54, u 55, u 56, u 57, u 58, u 59, u 60, u 61, u 62, u 63, u 64, u 65, u 66, u 67, u 68, u 69, u 70, u 71, u 72, u 73, u 74, u 75, u 76, u 77, u 78, u 79, u 80, u 81, u 82, u 83, u 84, u 85, u 86, u 87, u 88, u 89, u 90, u 91, u 92, u 93, u 94, u 95, u 96, u 97, u 98, u 99, u 100, u 101, u 102, u 103, u 104, u 105, u 106, u 107, u 108, u 109, u 110, u 111, u 112, u 113, u 114, u 115, u 116, u 117, u 118, u 119, u 120, u 121, u 122, u 123, u 124, u 125, u 126, u 127, u 128, u 129, u 130, u 131, u 132, u 133, u 134, u 135, u 136, u 137, u 138, u 139, u 140, u 141, u 142, u 143, u 144, u 145, u 146, u 147, u 148, u 149, u 150, u 151, u 152, u 153, u 154, u 155, u 156, u 157, u 158, u 159, u 160, u 161, u 162, u 163, u 164, u 165, u 166, u 167, u 168, u 169, u 170, u 171, u 172, u 173, u 174, u 175, u 176, u 177, u 178, u 179, u 180, u 181, u 182, u 183, u 184, u 185, u 186, u 187, u 188, u 189, u 190, u 191, u 192, u 193, u 194, u 195, u 196, u 197, u 198, u 199, u 200, u 201, u 202, u 203, u 204, u 205, u 206, u 207, u 208, u 209, u 210, u 211, u 212, u 213, u 214, u 215, u 216, u 217, u 218, u 219, u 220, u 221, u 222, u 223, u 224, u 225, u 226, u 227, u 228] := by
  obtain ⟨hs, h0, h2, h3, h4, h5, h6, h26, h27, h28⟩ := h
  refine ⟨fun i => t.getD i undef, ?_⟩
  have := lit229 t hs
  rw [h0, h2, h3, h4, h5, h6, h26, h27, h28] at this
  exact this
structure Noth (w : World) (N Mb Wb : Nat) (M : Nat → Nat) (S k : Nat) (d : Nat → Dg) (F : Nat → Nat → Nat) (Ds : List Nat) (W : World) : Prop where
  has : Has w N (encD d) W
  good : Good k d F
  sk : S ≤ k
  mb : W.heap[Mb]? = some (.cells #[.map (some (M 0)), .map (some (M 1))] 81 (0, 0))
  wb : W.heap[Wb]? = some (.cells #[.int .i64 ((d 0).length : Nat), .int .i64 ((d 1).length : Nat)] 82 (0, 0))
  mp : ∀ i, i < 2 → MapF (M i) k (F i) W
  mks : MarksIn w.heap.size Ds W
  ne : M 0 ≠ M 1
  lo : w.heap.size ≤ Mb ∧ w.heap.size ≤ Wb ∧ ∀ i, i < 2 → w.heap.size ≤ M i
section
variable {w : World} {N Mb Wb : Nat} {M : Nat → Nat} {S k : Nat} {d : Nat → Dg} {F : Nat → Nat → Nat} {Ds : List Nat} {W W' : World}
/-- What turns neither the counts nor the marks. -/
theorem Noth.turn {d' : Nat → Dg} (h : Noth w N Mb Wb M S k d F Ds W) (hh : Has w N (encD d') W') (hg : Good k d' F) (hk : ∀ (b : Nat) (o : Obj), W.heap[b]? = some o → (∀ c t f, o = Obj.cells c t f → t = 81 ∨ t = 82) → W'.heap[b]? = some o)
    (hl : ∀ i, i < 2 → (d' i).length = (d i).length) : Noth w N Mb Wb M S k d' F Ds W' := by
  refine ⟨hh, hg, h.sk, hk _ _ h.mb (fun c t f e => by cases e; exact .inl rfl), ?_, fun i hi => ?_, h.mks.keep fun D e => hk _ _ e (fun c t f e => by cases e), h.ne, h.lo⟩
  · rw [hl 0 (by omega), hl 1 (by omega)]; exact hk _ _ h.wb (fun c t f e => by cases e; exact .inr rfl)
  · obtain ⟨D, ⟨es, clock, h1, h2, h3, h4⟩, h5⟩ := h.mp i hi
    exact ⟨D, ⟨es, clock, hk _ _ h1 (fun c t f e => by cases e), h2, h3, h4⟩, h5⟩
theorem Noth.below (h : Noth w N Mb Wb M S k d F Ds W) (hb : Below W.heap.size W W') : Noth w N Mb Wb M S k d F Ds W' :=
  h.turn (h.has.same hb) h.good (fun b o e _ => (hb.block b (block_lt e)).trans e) (fun _ _ => rfl)
theorem Noth.al (h : Noth w N Mb Wb M S k d F Ds W) (o : Obj) : Noth w N Mb Wb M S k d F Ds (W.alloc o) := h.below ((Below.refl _ _).alloc (Nat.le_refl _) _)
theorem Noth.cellM (h : Noth w N Mb Wb M S k d F Ds W) {i : Nat} (hi : i < 2) : W.cell? ⟨Mb, i, none⟩ = some (.map (some (M i))) := by
  obtain rfl | rfl : i = 0 ∨ i = 1 := by omega
  · simp [World.cell?, h.mb]
  · simp [World.cell?, h.mb]
theorem Noth.cellW (h : Noth w N Mb Wb M S k d F Ds W) {i : Nat} (hi : i < 2) : W.cell? ⟨Wb, i, none⟩ = some (.int .i64 ((d i).length : Nat)) ∧ W.frozen? ⟨Wb, i, none⟩ = false := by
  obtain rfl | rfl : i = 0 ∨ i = 1 := by omega
  · simp [World.cell?, World.frozen?, h.wb]
  · simp [World.cell?, World.frozen?, h.wb]
end
/-- Element i of the acts. -/
def Act3 (W : World) (b o i : Nat) (x n : Nat) (dn : Bool) : Prop := W.cell? ⟨b, o + i * 3, none⟩ = some (.int .u8 x) ∧ W.cell? ⟨b, o + i * 3 + 1, none⟩ = some (.int .u8 n) ∧ W.cell? ⟨b, o + i * 3 + 2, none⟩ = some (.bool dn)
/-- The loop's state. -/
def NothI (q : Option Addr) (len cap : Nat) (w : World) (N Mb Wb : Nat) (M : Nat → Nat) (n : Nat) (Ds : List Nat) (t : Array Value) (W : World) : Prop :=
  ∃ (S k : Nat) (d : Nat → Dg) (F : Nat → Nat → Nat), n = len - k ∧ k ≤ len ∧ k ≤ 200 ∧ Noth w N Mb Wb M S k d F Ds W ∧ Frm q len cap N Mb Wb S k t
end Go.Proofs.Ytbmhgdfkkiepaaa
