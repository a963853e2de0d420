/-
  NetBits: the walk.
-/
import Derived.Test.YtbmhgdfkkiepaaaNet7
import Derived.LoopN
import Derived.Deep.CutBlock
import Derived.Deep.DeepCutAuto
namespace Go.Proofs.Ytbmhgdfkkiepaaa
open Go.RowKit

theorem at_end {p : List (List Nat)} {A : Nat} (h : p.length = A) (a : List Nat) (t : List (List Nat)) : (p ++ a :: t)[A]? = some a := by subst h; simp
theorem at_end2 {p : List (List Nat)} {A : Nat} (h : p.length = A) (a b : List Nat) (t : List (List Nat)) : (p ++ a :: b :: t)[A + 1]? = some b := by subst h; simp
theorem set_end {p : List (List Nat)} {A : Nat} (h : p.length = A) (a b : List Nat) (t : List (List Nat)) : (p ++ a :: t).set A b = p ++ b :: t := by subst h; simp [List.set_append]
theorem cut_end2 {p : List (List Nat)} {A : Nat} (h : p.length = A) (a b : List Nat) : (p ++ [a, b]).eraseIdx (A + 1) = p ++ [a] := by
  subst h
  rw [List.eraseIdx_append_of_length_le (by omega)]
  simp
theorem cut_end {p : List (List Nat)} {A : Nat} (h : p.length = A) (a : List Nat) : (p ++ [a]).eraseIdx A = p := by subst h; simp [List.eraseIdx_append]
theorem sent_few {l : List (List Nat)} (h : l.length < 64) (xs : List Nat) : sent l xs = l ++ [xs] := by unfold sent; rw [if_neg (by omega)]
abbrev none_ (A : Nat) : List (List Nat) := List.replicate A []
theorem src_nil (w0 W : World) : Src w0 W (.slice none 0 0) [] := ⟨.inl ⟨rfl, rfl⟩, fun b e => by simp [Value.ownBlock] at e⟩
/-- Bytes that came in. -/
theorem src_in {w W : World} {b o m c : Nat} {ys : List Nat} (hm : m = ys.length) (hb : b < w.heap.size) (hc : ∀ j (h : j < ys.length), w.cell? ⟨b, o + j, none⟩ = some (.int .u8 ys[j])) (hB : Below w.heap.size w W) : Src w W (.slice (some ⟨b, o, none⟩) m c) ys := by
  refine ⟨.inr ⟨⟨b, o, none⟩, c, by rw [hm, List.length_map], fun j u hu => ?_⟩, fun k e => .inr (.inl (by cases e; exact hb))⟩
  rw [List.getElem?_map] at hu
  obtain ⟨x, hx, rfl⟩ := Option.map_eq_some_iff.1 hu
  obtain ⟨hj, rfl⟩ := List.getElem?_eq_some_iff.1 hx
  rw [Addr.add_lit]
  exact (hB.cell (p := ⟨b, o + j, none⟩) hb).trans (hc j hj)
def Bits (w : World) (N A : Nat) (W : World) : Prop := Has w N (tw [] (none_ A)) W
theorem bits_step {w : World} {N A : Nat} {W : World} (h : Bits w N A W) (hA : A < 60) : Calls Try.prog 29 #[.pointer (some ⟨N, 0, none⟩), .int .i64 1, .slice none 0 0] W fun e W' => e = .returned (.tuple #[.bool false, .int .i64 0]) ∧ Bits w N (A + 1) W' := by
  refine (has_send h 1 (by omega) (by simp [tw]; omega) [] none 0 0 (src_nil _ _) rfl (by simp)).mono ?_
  rintro e W' ⟨rfl, _, h2⟩
  refine ⟨?_, h2.congr rfl ?_⟩
  · simp [tw]; omega
  · show sent (none_ A) [] = none_ (A + 1)
    rw [sent_few (by rw [List.length_replicate]; omega)]
    simp [none_, List.replicate_succ']

section
variable {w W : World} {N A : Nat} {ys zs : List Nat}
theorem nlen (A : Nat) : (none_ A).length = A := List.length_replicate
theorem bits_sent (h : Bits w N A W) (hA : A < 60) {q : Option Addr} {m c : Nat} (hs : Src w W (.slice q m c) ys) (hm : m = ys.length) (hy : ys.length ≤ 600) :
    Calls Try.prog 29 #[.pointer (some ⟨N, 0, none⟩), .int .i64 1, .slice q m c] W fun e W' => e = .returned (.tuple #[.bool false, .int .i64 0]) ∧ Has w N (tw [] (none_ A ++ [ys])) W' := by
  refine (has_send h 1 (by omega) (by simp [tw]; omega) ys q m c hs hm hy).mono ?_
  rintro e W' ⟨rfl, _, h2⟩
  refine ⟨?_, h2.congr rfl (sent_few (by show (none_ A).length < 64; rw [nlen]; omega) _)⟩
  simp [tw]; omega
theorem bits_flip (t : List (List Nat)) (h : Has w N (tw [] (none_ A ++ zs :: t)) W) (hA : A < 60) (ht : t.length ≤ 2) (hz : zs.length ≤ 600) (bit x : Nat) (hb : bit ≤ 65535) (hD : zs[bit / 8]? = some x) (hy : x ≤ 255) :
    Calls Try.prog 30 #[.pointer (some ⟨N, 0, none⟩), .int .i64 1, .int .i64 A, .int .i64 bit] W fun e W' => e = .returned (.int .i64 0) ∧ Has w N (tw [] (none_ A ++ zs.set (bit / 8) (x ^^^ 2 ^ (bit % 8)) :: t)) W' := by
  refine (has_flip h 1 A bit (by omega) (by simp [tw]; omega) zs (at_end (nlen A) _ _) hz (by omega) x hD hy).mono ?_
  rintro e W' ⟨rfl, h2⟩
  exact ⟨rfl, h2.congr rfl (set_end (nlen A) _ _ _)⟩
theorem bits_flip_high (h : Has w N (tw [] (none_ A ++ [zs])) W) (hA : A < 60) (hz : zs.length ≤ 600) (bit : Nat) (hb : bit ≤ 65535) (hD : zs.length ≤ bit / 8) :
    Calls Try.prog 30 #[.pointer (some ⟨N, 0, none⟩), .int .i64 1, .int .i64 A, .int .i64 bit] W fun e W' => e = .returned (.int .i64 1) ∧ W = W' :=
  has_flip_high h 1 A bit (by omega) (by simp [tw]; omega) zs (at_end (nlen A) _ _) hz (by omega) hD
theorem bits_double (h : Has w N (tw [] (none_ A ++ [zs])) W) (hA : A < 60) (hz : zs.length ≤ 600) :
    Calls Try.prog 32 #[.pointer (some ⟨N, 0, none⟩), .int .i64 1, .int .i64 A] W fun e W' => e = .returned (.int .i64 0) ∧ Has w N (tw [] (none_ A ++ [zs, zs])) W' := by
  refine (has_double h 1 A (by omega) (by simp [tw]; omega) zs (at_end (nlen A) _ _) hz).mono ?_
  rintro e W' ⟨rfl, _, h2⟩
  exact ⟨rfl, h2.congr rfl (by simp [upd, tw])⟩
def Took (w : World) (N : Nat) (zs : List Nat) (l : List (List Nat)) (W : World) (e : Ending) (W' : World) : Prop :=
  ∃ q c, e = .returned (.tuple #[.slice q zs.length c, .int .i64 0]) ∧ OffRow W' w.heap.size 5 (.slice q zs.length c) (byts zs) ∧ Keep5 W W' ∧ Has w N (tw [] l) W'
theorem bits_del2 (h : Has w N (tw [] (none_ A ++ [ys, zs])) W) (hA : A < 60) : Calls Try.prog 33 #[.pointer (some ⟨N, 0, none⟩), .int .i64 1, .int .i64 ((A : Int) + 1)] W (Took w N zs (none_ A ++ [ys]) W) := by
  refine (has_deliver h 1 (A + 1) (by omega) (by simp [tw]; omega) zs (at_end2 (nlen A) _ _ _)).mono ?_
  rintro e W' ⟨q, n, c, rfl, rfl, ho, k5, h2⟩
  exact ⟨q, c, rfl, ho, k5, h2.congr rfl (cut_end2 (nlen A) _ _)⟩
theorem bits_del1 (h : Has w N (tw [] (none_ A ++ [ys])) W) (hA : A < 60) : Calls Try.prog 33 #[.pointer (some ⟨N, 0, none⟩), .int .i64 1, .int .i64 A] W (Took w N ys (none_ A) W) := by
  refine (has_deliver h 1 A (by omega) (by simp [tw]; omega) ys (at_end (nlen A) _ _)).mono ?_
  rintro e W' ⟨q, n, c, rfl, rfl, ho, k5, h2⟩
  exact ⟨q, c, rfl, ho, k5, h2.congr rfl (cut_end (nlen A) _)⟩
theorem bits_waits (h : Bits w N A W) : Calls Try.prog 34 #[.pointer (some ⟨N, 0, none⟩), .int .i64 1] W fun e W' => e = .returned (.int .i64 A) ∧ W = W' := by
  have := has_waits h 1 (by omega)
  simpa [tw] using this
theorem OffRow.cellK {base p r n c : Nat} (h : OffRow W base 5 (.slice (some ⟨p, r, none⟩) n c) (byts zs)) (k : Nat) (hk : k < zs.length) : W.cell? ⟨p, r + k, none⟩ = some (.int .u8 zs[k]) := by
  obtain ⟨g, o, c', e, hc⟩ := h.at_ (k := k) (by simpa using hk)
  cases e
  simpa using hc
theorem OffRow.some_ {base n c : Nat} {q : Option Addr} (h : OffRow W base 5 (.slice q n c) (byts zs)) (hz : 0 < zs.length) : ∃ p r, q = some ⟨p, r, none⟩ := by
  obtain ⟨g, o, c', e, hc⟩ := h.at_ (k := 0) (by simpa using hz)
  cases e
  exact ⟨_, _, rfl⟩
theorem flip_back (D x R : Nat) (hD : ys[D]? = some x) : (ys.set D (x ^^^ 2 ^ R)).set D ((x ^^^ 2 ^ R) ^^^ 2 ^ R) = ys := by
  obtain ⟨h, rfl⟩ := List.getElem?_eq_some_iff.1 hD
  rw [List.set_set, Nat.xor_assoc, Nat.xor_self, Nat.xor_zero, List.set_getElem_self]
end

set_option maxRecDepth 100000 in
theorem bits_walk (q : Option Addr) (len cap : Nat) (hcap : len ≤ cap) (hlen : len ≤ 9223372036854775807) (hqn : q = none → cap = 0) (bit ahead : Nat) (hbit : bit ≤ 65535) (hah : ahead ≤ 255) (w : World) (ys : List Nat) (hy : ys.length = min len 600) (hy2 : ∀ j (h : j < ys.length), ys[j] ≤ 255)
    (hx : ∀ j (h : j < ys.length), ∃ b o, q = some ⟨b, o, none⟩ ∧ b < w.heap.size ∧ w.cell? ⟨b, o + j, none⟩ = some (.int .u8 ys[j])) : Calls Try.prog 7 #[.slice q len cap, .int .u16 bit, .int .u8 ahead] w (TruePost w) := by
  obtain ⟨A, hA⟩ : ∃ A, A = ahead % 60 := ⟨_, rfl⟩
  have q1 : (ahead : Int).tmod 60 = (A : Int) := by rw [hA]; rfl
  have q2 : (ahead : Int) % 60 = (A : Int) := by omega
  have hA60 : A < 60 := by omega
  clear hA
  obtain ⟨m, hm⟩ : ∃ m, m = min len 600 := ⟨_, rfl⟩
  have hm6 : m ≤ 600 := by omega
  have Hm : Hid (m = ys.length) := Lib.hid (by omega)
  have Hy2 := Lib.hid hy2
  have Hx := Lib.hid hx
  have HS : Hid (∀ W, Below w.heap.size w W → Src w W (.slice q m cap) ys) := Lib.hid fun W hB => by
    rcases Nat.eq_zero_or_pos ys.length with h0 | h0
    · obtain rfl : ys = [] := List.eq_nil_of_length_eq_zero h0
      have hm0 : m = 0 := by omega
      rw [hm0]
      cases q with
      | none => rw [hqn rfl]; exact src_nil _ _
      | some ad => exact ⟨.inr ⟨ad, cap, rfl, fun j u hu => by simp at hu⟩, fun b e => .inl rfl⟩
    · obtain ⟨b, o, rfl, hb, _⟩ := hx 0 h0
      refine src_in (by omega) hb (fun j h => ?_) hB
      obtain ⟨b', o', e, _, hc⟩ := hx j h
      cases e
      exact hc
  clear hy hy2 hx hqn
  go_enter Try.func7, Try.ntmps7
  go_wp2_with fail
  refine (has_new _).mono ?_
  rintro e W1 ⟨N, rfl, h1, _⟩
  have hP : Bits w N 0 W1 := h1.congr rfl rfl
  clear h1
  go_upto_block 0 with fail
  have e0 : (min (len : Int) 600).toNat = m := by omega
  first | rw [e0] | rw [← hm]
  clear hm e0
  go_cut [30] (fun _ wx => Bits w N A wx)
  case first =>
    go_wp2_with fail
    go_loopw [30] (fun i wr => ∃ k : Nat, k ≤ A ∧ i = .int .i64 k ∧ Bits w N k wr) (fun i _ => A - (intOf i).toNat)
    case atStart => exact ⟨0, by omega, rfl, hP⟩
    case round =>
      clear hP
      obtain ⟨k, hk, rfl, hP⟩ := hrel
      by_cases hlt : k < A
      · have B1 := Lib.hid (bits_step hP (by omega))
        clear hP
        go_wp2_with (go_at_call 29; refine B1.out.mono ?_; rintro e W2 ⟨rfl, h2⟩)
        exact ⟨⟨k + 1, by omega, by go_num, h2⟩, by simp [intOf]; omega⟩
      · obtain rfl : k = A := by omega
        go_wp2_with fail
        go_meet
        exact hP
  case rest =>
    clear hP
    have S1 := Lib.hid (bits_sent hcut hA60 (HS.out _ hcut.bel) Hm.out (by have := Hm.out; omega))
    clear hcut
    go_wp2_with (go_at_call 29; refine S1.out.mono ?_; rintro e W3 ⟨rfl, h3⟩)
    obtain ⟨D, hD⟩ : ∃ D, D = bit / 8 := ⟨_, rfl⟩
    obtain ⟨R, hR⟩ : ∃ R, R = bit % 8 := ⟨_, rfl⟩
    by_cases hs : m ≤ D
    · have F1 := Lib.hid (bits_flip_high h3 hA60 (by have := Hm.out; omega) bit hbit (by have := Hm.out; omega))
      have hb := h3.bel
      have g1 : 8 * (m : Int) ≤ (bit : Int) := by omega
      clear h3 hD hR
      go_wp2_with (first
        | (go_at_call 30; refine F1.out.mono ?_; rintro e W4 ⟨rfl, rfl⟩)
        | (go_at_call 31; refine (wakes11 _).mono ?_; rintro e W5 ⟨rfl, hw⟩))
      go_ret
      exact ⟨rfl, hb.trans (hw.mono hb.size)⟩
    · have hDl : D < ys.length := by have := Hm.out; omega
      obtain ⟨x, hx⟩ : ∃ x, ys[D]? = some x := ⟨_, List.getElem?_eq_getElem hDl⟩
      have hx5 : x ≤ 255 := by obtain ⟨h, rfl⟩ := List.getElem?_eq_some_iff.1 hx; exact Hy2.out _ h
      have hR8 : R < 8 := by omega
      obtain ⟨zs, hzs⟩ : ∃ zs, zs = ys.set D (x ^^^ 2 ^ R) := ⟨_, rfl⟩
      have hzl : zs.length = ys.length := by rw [hzs, List.length_set]
      have F1 : Hid (Calls Try.prog 30 #[.pointer (some ⟨N, 0, none⟩), .int .i64 1, .int .i64 A, .int .i64 bit] W3 fun e W' => e = .returned (.int .i64 0) ∧ Has w N (tw [] (none_ A ++ [zs])) W') := Lib.hid (by
        have := bits_flip [] h3 hA60 (by simp) (by have := Hm.out; omega) bit x hbit (by rw [← hD]; exact hx) hx5
        rw [← hD, ← hR, ← hzs] at this
        exact this)
      have F2 : Hid (∀ W, Has w N (tw [] (none_ A ++ [zs, zs])) W → Calls Try.prog 30 #[.pointer (some ⟨N, 0, none⟩), .int .i64 1, .int .i64 A, .int .i64 bit] W fun e W' => e = .returned (.int .i64 0) ∧ Has w N (tw [] (none_ A ++ [ys, zs])) W') := Lib.hid (fun W h => by
        have := bits_flip [zs] h hA60 (by simp) (by have := Hm.out; omega) bit (x ^^^ 2 ^ R) hbit (by rw [← hD, hzs]; simp [hDl]) (xor_lt x hx5 R hR8)
        rw [← hD, ← hR, hzs, flip_back D x R hx, ← hzs] at this
        exact this)
      have g1 : ¬ 8 * (m : Int) ≤ (bit : Int) := by omega
      have g2 : (bit : Int) / 8 = (D : Int) := by omega
      have g3 : (bit : Int).tdiv 8 = (D : Int) := by rw [hD]; rfl
      have g4 : (bit : Int) % 8 = (R : Int) := by omega
      have g5 : (bit : Int).tmod 8 = (R : Int) := by rw [hR]; rfl
      have g6 := xor_u8 x hx5 R hR8
      have G := Lib.hid (And.intro g2 (And.intro g3 (And.intro g4 (And.intro g5 g6))))
      have Hzs := Lib.hid hzs
      have Hx5 := Lib.hid hx
      have hzm : zs.length = m := by have := Hm.out; omega
      have HZ := Lib.hid hzm
      clear g2 g3 g4 g5 g6 hD hR h3 hzs hx hzl hzm hDl
      go_wp2_with fail
      refine F1.out.mono ?_
      rintro e W4 ⟨rfl, h4⟩
      have B4 := Lib.hid (bits_double h4 hA60 (by have := HZ.out; omega))
      clear h4
      go_wp2_with fail
      refine B4.out.mono ?_
      rintro e W5 ⟨rfl, h5⟩
      have B5 := Lib.hid (F2.out _ h5)
      clear h5
      go_wp2_with fail
      refine B5.out.mono ?_
      rintro e W6 ⟨rfl, h6⟩
      have B6 := Lib.hid (bits_del2 h6 hA60)
      clear h6
      go_wp2_with fail
      refine B6.out.mono ?_
      rintro e W7 ⟨q7, c7, rfl, o7, k7, h7⟩
      have B7 := Lib.hid (bits_del1 h7 hA60)
      clear h7
      go_wp2_with fail
      refine B7.out.mono ?_
      rintro e W8 ⟨q8, c8, rfl, o8, k8, h8⟩
      replace o7 := o7.keep5 k8
      rw [HZ.out] at o7 ⊢
      rw [← Hm.out] at o8 ⊢
      have v8 := conv_off o8
      obtain ⟨b, o, rfl, hb, _⟩ := Hx.out 0 (by have := Hm.out; omega)
      have HY : Hid (∀ k (hk : k < ys.length), W8.cell? ⟨b, o + k, none⟩ = some (.int .u8 ys[k])) := Lib.hid fun k hk => by
        obtain ⟨b', o', e, _, hc⟩ := Hx.out k hk
        cases e
        exact (h8.bel.cell (p := ⟨b, o + k, none⟩) hb).trans hc
      have v0 : (convert 68 9 (.slice (some ⟨b, o, none⟩) m cap)).run Try.prog W8 = .ok (.string (strN ys)) W8 := conv_cells Hm.out fun j u hu => by
        rw [List.getElem?_map] at hu
        obtain ⟨x, hx, rfl⟩ := Option.map_eq_some_iff.1 hu
        obtain ⟨hj, rfl⟩ := List.getElem?_eq_some_iff.1 hx
        exact HY.out j hj
      obtain ⟨p7, r7, rfl⟩ := o7.some_ (by have := HZ.out; omega)
      have H7 := Lib.hid o7.cellK
      have H8 := Lib.hid h8
      clear o7 o8 k7 k8 h8 HS Hx S1 F1 F2 B4 B5 B6 B7 hb
      go_wp2_with fail
      clear v8 v0
      go_loopw [105] (fun i wr => ∃ k : Nat, k ≤ m ∧ i = .int .i64 k ∧ wr = W8) (fun i _ => m - (intOf i).toNat)
      case atStart => exact ⟨0, by omega, rfl, rfl⟩
      case round =>
        obtain ⟨k, hk, rfl, rfl⟩ := hrel
        by_cases hlt : k < m
        · have hky : k < ys.length := by have := Hm.out; omega
          have c7 := H7.out k (by have := HZ.out; omega)
          have c0 := HY.out k hky
          obtain ⟨g2, g3, g4, g5, g6⟩ := G.out
          by_cases hkD : k = D
          · subst hkD
            have e1 : ys[k] = x := by have := Hx5.out; rw [List.getElem?_eq_getElem hky] at this; injection this
            have e2 : zs[k]'(by have := HZ.out; omega) = x ^^^ 2 ^ R := by simp only [Hzs.out, List.getElem_set_self]
            rw [e1] at c0
            rw [e2] at c7
            clear e1 e2 hky
            go_wp2_with fail
            exact ⟨⟨k + 1, by omega, by go_num, trivial⟩, by simp [intOf]; omega⟩
          · have e2 : zs[k]'(by have := HZ.out; omega) = ys[k] := by simp only [Hzs.out]; rw [List.getElem_set_ne (Ne.symm hkD)]
            rw [e2] at c7
            clear e2
            generalize ys[k] = y at c0 c7
            clear hky
            have hkD' : ((k : Int) == (D : Int)) = false := by rw [beq_eq_false_iff_ne]; omega
            go_wp2_with fail
            exact ⟨⟨k + 1, by omega, by go_num, trivial⟩, by simp [intOf]; omega⟩
        · obtain rfl : k = m := by omega
          have W1 := Lib.hid (bits_waits H8.out)
          have hb := H8.out.bel
          go_wp2_with (first
            | (go_at_call 34; refine W1.out.mono ?_; rintro e W9 ⟨rfl, rfl⟩)
            | (go_at_call 31; refine (wakes11 _).mono ?_; rintro e W5 ⟨rfl, hw⟩))
          go_ret
          exact ⟨rfl, hb.trans (hw.mono hb.size)⟩

end Go.Proofs.Ytbmhgdfkkiepaaa
