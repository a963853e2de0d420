/-
  CreditRefused: the walk. No condition.
-/
import Derived.Test.YtbmhgdfkkiepaaaCredW
namespace Go.Proofs.Ytbmhgdfkkiepaaa
open Go.RowKit

theorem left_at (B most granted s L : Nat) (hm : most ≠ 0) (hl : L + s = granted) (hg : granted ≤ 1099511627776) (w : World) (h : Sp w B most granted s) :
    Calls Try.prog 25 #[.pointer (some ⟨B, 0, none⟩)] w (QuietU w (.int .i64 (L : Int))) :=
  (left_any B most granted s hm (by omega) hg w h).mono fun e W h => ⟨h.1.trans (ret_int (by omega)), h.2⟩
theorem held_at (B most granted taken used H : Nat) (hm : most ≠ 0) (hl : H + used = taken) (hg : taken ≤ 1099511627776) (w : World) (h : Gv w B most granted taken used) :
    Calls Try.prog 26 #[.pointer (some ⟨B, 0, none⟩)] w (QuietU w (.int .i64 (H : Int))) :=
  (held_any B most granted taken used hm (by omega) hg w h).mono fun e W h => ⟨h.1.trans (ret_int (by omega)), h.2⟩

theorem now_is (most L s : Nat) (h : L + s = most) (hm : most ≤ 1099511627776) : IntKind.u64.wrap (wrap64 ((most : Int) - (L : Int))) = (s : Int) := by
  rw [show (most : Int) - (L : Int) = (s : Int) by omega]
  simp [wrap64, IntKind.wrap, IntKind.bits, IntKind.signed]
  omega

set_option maxRecDepth 100000 in
set_option maxHeartbeats 8000000 in
theorem refused_walk (a b : Nat) (n : Int) (t : Nat) (ha : a ≤ 255) (hb : b ≤ 255) (hn1 : -9223372036854775808 ≤ n) (hn2 : n ≤ 9223372036854775807) (ht : t ≤ 18446744073709551615) (w : World) :
    Calls Try.prog 5 #[.int .u8 a, .int .u8 b, .int .i64 n, .int .u64 t] w (TruePost w) := by
  go_enter Try.func5, Try.ntmps5
  go_wp2_with fail
  rw [show (1 : Int) + (a : Int) = ((1 + a : Nat) : Int) by omega]
  have hm1 : 1 ≤ 1 + a := by omega
  have hm2 : 1 + a ≤ 256 := by omega
  generalize 1 + a = most at hm1 hm2 ⊢
  refine (news_good most (by omega) (by omega) _).mono ?_
  rintro e w1 ⟨B, hB1, rfl, hS, hb1⟩
  go_wp2_with fail
  refine (newg_good most (by omega) (by omega) _).mono ?_
  rintro e w2 ⟨C, hC1, rfl, hG, hb2⟩
  have hBC : B ≠ C := by have := block_lt hS; omega
  have hCn : w.heap.size ≤ C := Nat.le_trans hb1.size hC1
  replace hS := below_block hS hb2
  replace hb1 := below_then hb1 (Nat.le_refl _) hb2
  clear hb2 hC1
  go_wp2_with fail
  refine (spend_ok B most most 0 (by omega) (by omega) (by omega) most (by omega) _ hS).mono ?_
  rintro e w3 ⟨rfl, hS3, hg⟩
  have hG3 := keep_block hG hg hBC.symm
  have hb3 := below_grown hb1 (Nat.le_refl _) hB1 hg
  clear hS hG hb1 hg
  go_wp2_with fail
  refine (take_ok C most most 0 0 (by omega) (by omega) (by omega) most (by omega) _ hG3).mono ?_
  rintro e w4 ⟨rfl, hG4, hg⟩
  have hS4 := keep_block hS3 hg hBC
  have hb4 := below_grown hb3 (Nat.le_refl _) hCn hg
  have hs : 0 + most ≤ most := by omega
  clear hS3 hG3 hb3 hg
  generalize 0 + most = s at hS4 hG4 hs
  rotate_left 1
  refine (spend_ok B most most 0 (by omega) (by omega) (by omega) b (by omega) _ hS).mono ?_
  rintro e w3 ⟨rfl, hS3, hg⟩
  have hG3 := keep_block hG hg hBC.symm
  have hb3 := below_grown hb1 (Nat.le_refl _) hB1 hg
  clear hS hG hb1 hg
  go_wp2_with fail
  refine (take_ok C most most 0 0 (by omega) (by omega) (by omega) b (by omega) _ hG3).mono ?_
  rintro e w4 ⟨rfl, hG4, hg⟩
  have hS4 := keep_block hS3 hg hBC
  have hb4 := below_grown hb3 (Nat.le_refl _) hCn hg
  have hs : 0 + b ≤ most := by omega
  clear hS3 hG3 hb3 hg
  generalize 0 + b = s at hS4 hG4 hs
  all_goals
    clear ha hb
    go_wp2_with fail
    refine (left_any B most most s (by omega) (by omega) (by omega) _ hS4).mono ?_
    rintro e w' ⟨rfl, n1, rfl⟩
    obtain ⟨L, hL⟩ : ∃ L : Nat, L + s = most := ⟨most - s, by omega⟩
    rw [show (most : Int) - (s : Int) = (L : Int) by omega]
    have hS5 : Sp (w4.drewN n1) B most most s := hS4
    have hG5 : Gv (w4.drewN n1) C most most s 0 := hG4
    have hb5 := below_drewN hb4 n1
    clear hS4 hG4 hb4
    generalize w4.drewN n1 = w5 at hS5 hG5 hb5 ⊢
    have hL' := Lib.hid hL
    clear hL
    go_wp2_with fail
    refine (held_any C most most s 0 (by omega) (by omega) (by omega) _ hG5).mono ?_
    rintro e w' ⟨rfl, n2, rfl⟩
    rw [show (s : Int) - ((0 : Nat) : Int) = (s : Int) by omega]
    have hS6 : Sp (w5.drewN n2) B most most s := hS5
    have hG6 : Gv (w5.drewN n2) C most most s 0 := hG5
    have hb6 := below_drewN hb5 n2
    clear hS5 hG5 hb5
    generalize w5.drewN n2 = w6 at hS6 hG6 hb6 ⊢
    go_wp2_with fail
    by_cases hneg : n < 0
    · have d1 : decide (n < 0) = true := decide_eq_true hneg
      have d2 : decide ((L : Int) < n) = false := decide_eq_false (by have := hL'.out; omega)
      have d3 : decide (0 ≤ n) = false := decide_eq_false (by omega)
      have Hneg := Lib.hid hneg
      clear hneg
      refine (spend_neg B most most s (by omega) n Hneg.out _ hS6).mono ?_
      rintro e w' ⟨rfl, rfl⟩
      go_wp2_with fail
      refine (take_neg C most most s 0 (by omega) n Hneg.out _ hG6).mono ?_
      rintro e w' ⟨rfl, rfl⟩
      go_wp2_with fail
      refine (left_at B most most s L (by omega) hL'.out (by omega) _ hS6).mono ?_
      rintro e w' ⟨rfl, n3, rfl⟩
      have hS7 : Sp (w6.drewN n3) B most most s := hS6
      have hG7 : Gv (w6.drewN n3) C most most s 0 := hG6
      have hb7 := below_drewN hb6 n3
      clear hS6 hG6 hb6
      generalize w6.drewN n3 = w7 at hS7 hG7 hb7 ⊢
      go_wp2_with fail
      refine (held_at C most most s 0 s (by omega) rfl (by omega) _ hG7).mono ?_
      rintro e w' ⟨rfl, n4, rfl⟩
      have hS8 : Sp (w7.drewN n4) B most most s := hS7
      have hb8 := below_drewN hb7 n4
      clear hS7 hG7 hb7
      generalize w7.drewN n4 = w8 at hS8 hb8 ⊢
      go_wp2_with fail
      refine (left_at B most most s L (by omega) hL'.out (by omega) _ hS8).mono ?_
      rintro e w' ⟨rfl, m1, rfl⟩
      have kS1 : Sp (w8.drewN m1) B most most s := hS8
      have kb1 := below_drewN hb8 m1
      clear hS8 hb8
      generalize w8.drewN m1 = v1 at kS1 kb1 ⊢
      go_wp2_with fail
      rw [now_is most L s hL'.out (by omega)]
      by_cases hr : s + most < t
      · have R := Lib.hid hr
        refine (granted_range B most most s (by omega) (by omega) (by omega) t ht R.out _ kS1).mono ?_
        rintro e w' ⟨rfl, m2, rfl⟩
        have kS2 : Sp (v1.drewN m2) B most most s := kS1
        have kb2 := below_drewN kb1 m2
        clear kS1 kb1
        generalize v1.drewN m2 = v2 at kS2 kb2 ⊢
        go_wp2_with fail
        refine (left_at B most most s L (by omega) hL'.out (by omega) _ kS2).mono ?_
        rintro e w' ⟨rfl, m3, rfl⟩
        have kb3 := below_drewN kb2 m3
        clear kS2 kb2
        generalize v2.drewN m3 = v3 at kb3 ⊢
        go_wp2_with fail
        refine (wakes9 _).mono ?_
        rintro e x1 ⟨rfl, hx⟩
        have hx1 := below_then kb3 (Nat.le_refl _) hx
        clear hx
        go_wp2_with fail
        go_ret
        exact ⟨rfl, hx1⟩
      · by_cases ho : t ≤ most
        · refine (granted_ok B most most s (by omega) (by omega) (by omega) (by omega) t ht (by omega) _ kS1).mono ?_
          rintro e v2 ⟨rfl, kS2, hg⟩
          rw [Nat.max_eq_left ho] at kS2
          have kb2 := below_grown kb1 (Nat.le_refl _) hB1 hg
          clear kS1 kb1 hg
          go_wp2_with fail
          refine (left_at B most most s L (by omega) hL'.out (by omega) _ kS2).mono ?_
          rintro e w' ⟨rfl, m3, rfl⟩
          have kb3 := below_drewN kb2 m3
          clear kS2 kb2
          generalize v2.drewN m3 = v3 at kb3 ⊢
          go_wp2_with fail
          refine (wakes9 _).mono ?_
          rintro e x1 ⟨rfl, hx⟩
          have hx1 := below_then kb3 (Nat.le_refl _) hx
          clear hx
          go_wp2_with fail
          go_ret
          exact ⟨rfl, hx1⟩
        · refine (granted_ok B most most s (by omega) (by omega) (by omega) (by omega) t ht (by omega) _ kS1).mono ?_
          rintro e v2 ⟨rfl, kS2, hg⟩
          rw [Nat.max_eq_right (by omega)] at kS2
          have kb2 := below_grown kb1 (Nat.le_refl _) hB1 hg
          clear kS1 kb1 hg
          go_wp2_with fail
          refine (left_any B most t s (by omega) (by omega) (by omega) _ kS2).mono ?_
          rintro e w' ⟨rfl, m3, rfl⟩
          have kb3 := below_drewN kb2 m3
          clear kS2 kb2
          generalize v2.drewN m3 = v3 at kb3 ⊢
          go_wp2_with fail
          refine (wakes9 _).mono ?_
          rintro e x1 ⟨rfl, hx⟩
          have hx1 := below_then kb3 (Nat.le_refl _) hx
          clear hx
          go_wp2_with fail
          go_ret
          exact ⟨rfl, hx1⟩
    · by_cases hmore : (L : Int) < n
      · have d1 : decide (n < 0) = false := decide_eq_false hneg
        have d2 : decide ((L : Int) < n) = true := decide_eq_true hmore
        have d3 : decide (0 ≤ n) = true := decide_eq_true (by omega)
        have d4 : decide (n ≤ (L : Int)) = false := decide_eq_false (by omega)
        have Hneg : Hid (0 ≤ n) := Lib.hid (by omega)
        have Hmore : Hid ((most : Int) - s < n) := Lib.hid (by have := hL'.out; omega)
        clear hneg hmore
        refine (spend_busy B most most s (by omega) hs (by omega) n Hneg.out hn2 Hmore.out _ hS6).mono ?_
        rintro e w' ⟨rfl, p1, rfl⟩
        replace hS6 : Sp (w6.drewN p1) B most most s := hS6
        replace hG6 : Gv (w6.drewN p1) C most most s 0 := hG6
        replace hb6 := below_drewN hb6 p1
        generalize w6.drewN p1 = w6 at hS6 hG6 hb6 ⊢
        go_wp2_with fail
        refine (take_full C most most s 0 (by omega) hs (by omega) n Hneg.out hn2 Hmore.out _ hG6).mono ?_
        rintro e w' ⟨rfl, p2, rfl⟩
        replace hS6 : Sp (w6.drewN p2) B most most s := hS6
        replace hG6 : Gv (w6.drewN p2) C most most s 0 := hG6
        replace hb6 := below_drewN hb6 p2
        generalize w6.drewN p2 = w6 at hS6 hG6 hb6 ⊢
        go_wp2_with fail
        refine (left_at B most most s L (by omega) hL'.out (by omega) _ hS6).mono ?_
        rintro e w' ⟨rfl, n3, rfl⟩
        have hS7 : Sp (w6.drewN n3) B most most s := hS6
        have hG7 : Gv (w6.drewN n3) C most most s 0 := hG6
        have hb7 := below_drewN hb6 n3
        clear hS6 hG6 hb6
        generalize w6.drewN n3 = w7 at hS7 hG7 hb7 ⊢
        go_wp2_with fail
        refine (held_at C most most s 0 s (by omega) rfl (by omega) _ hG7).mono ?_
        rintro e w' ⟨rfl, n4, rfl⟩
        have hS8 : Sp (w7.drewN n4) B most most s := hS7
        have hb8 := below_drewN hb7 n4
        clear hS7 hG7 hb7
        generalize w7.drewN n4 = w8 at hS8 hb8 ⊢
        go_wp2_with fail
        refine (left_at B most most s L (by omega) hL'.out (by omega) _ hS8).mono ?_
        rintro e w' ⟨rfl, m1, rfl⟩
        have kS1 : Sp (w8.drewN m1) B most most s := hS8
        have kb1 := below_drewN hb8 m1
        clear hS8 hb8
        generalize w8.drewN m1 = v1 at kS1 kb1 ⊢
        go_wp2_with fail
        rw [now_is most L s hL'.out (by omega)]
        by_cases hr : s + most < t
        · have R := Lib.hid hr
          refine (granted_range B most most s (by omega) (by omega) (by omega) t ht R.out _ kS1).mono ?_
          rintro e w' ⟨rfl, m2, rfl⟩
          have kS2 : Sp (v1.drewN m2) B most most s := kS1
          have kb2 := below_drewN kb1 m2
          clear kS1 kb1
          generalize v1.drewN m2 = v2 at kS2 kb2 ⊢
          go_wp2_with fail
          refine (left_at B most most s L (by omega) hL'.out (by omega) _ kS2).mono ?_
          rintro e w' ⟨rfl, m3, rfl⟩
          have kb3 := below_drewN kb2 m3
          clear kS2 kb2
          generalize v2.drewN m3 = v3 at kb3 ⊢
          go_wp2_with fail
          refine (wakes9 _).mono ?_
          rintro e x1 ⟨rfl, hx⟩
          have hx1 := below_then kb3 (Nat.le_refl _) hx
          clear hx
          go_wp2_with fail
          go_ret
          exact ⟨rfl, hx1⟩
        · by_cases ho : t ≤ most
          · refine (granted_ok B most most s (by omega) (by omega) (by omega) (by omega) t ht (by omega) _ kS1).mono ?_
            rintro e v2 ⟨rfl, kS2, hg⟩
            rw [Nat.max_eq_left ho] at kS2
            have kb2 := below_grown kb1 (Nat.le_refl _) hB1 hg
            clear kS1 kb1 hg
            go_wp2_with fail
            refine (left_at B most most s L (by omega) hL'.out (by omega) _ kS2).mono ?_
            rintro e w' ⟨rfl, m3, rfl⟩
            have kb3 := below_drewN kb2 m3
            clear kS2 kb2
            generalize v2.drewN m3 = v3 at kb3 ⊢
            go_wp2_with fail
            refine (wakes9 _).mono ?_
            rintro e x1 ⟨rfl, hx⟩
            have hx1 := below_then kb3 (Nat.le_refl _) hx
            clear hx
            go_wp2_with fail
            go_ret
            exact ⟨rfl, hx1⟩
          · refine (granted_ok B most most s (by omega) (by omega) (by omega) (by omega) t ht (by omega) _ kS1).mono ?_
            rintro e v2 ⟨rfl, kS2, hg⟩
            rw [Nat.max_eq_right (by omega)] at kS2
            have kb2 := below_grown kb1 (Nat.le_refl _) hB1 hg
            clear kS1 kb1 hg
            go_wp2_with fail
            refine (left_any B most t s (by omega) (by omega) (by omega) _ kS2).mono ?_
            rintro e w' ⟨rfl, m3, rfl⟩
            have kb3 := below_drewN kb2 m3
            clear kS2 kb2
            generalize v2.drewN m3 = v3 at kb3 ⊢
            go_wp2_with fail
            refine (wakes9 _).mono ?_
            rintro e x1 ⟨rfl, hx⟩
            have hx1 := below_then kb3 (Nat.le_refl _) hx
            clear hx
            go_wp2_with fail
            go_ret
            exact ⟨rfl, hx1⟩
      · have d1 : decide (n < 0) = false := decide_eq_false hneg
        have d2 : decide ((L : Int) < n) = false := decide_eq_false hmore
        have d3 : decide (0 ≤ n) = true := decide_eq_true (by omega)
        have d4 : decide (n ≤ (L : Int)) = true := decide_eq_true (by omega)
        obtain ⟨m, rfl⟩ := Int.eq_ofNat_of_zero_le (show 0 ≤ n by omega)
        have hmL : m ≤ L := by omega
        have hL3 : L ≤ 256 := by have := hL'.out; omega
        obtain ⟨L2, hL2⟩ : ∃ L2 : Nat, Hid (L2 + (s + m) = most) := ⟨L - m, Lib.hid (by have := hL'.out; omega)⟩
        clear hneg hmore d1 d2 d3 d4 hn1 hn2
        refine (spend_ok B most most s (by omega) hs (by omega) m (by have := hL'.out; omega) _ hS6).mono ?_
        rintro e w7 ⟨rfl, hS7, hg⟩
        have hG7 := keep_block hG6 hg hBC.symm
        have hb7 := below_grown hb6 (Nat.le_refl _) hB1 hg
        clear hS6 hG6 hb6 hg
        go_wp2_with fail
        refine (take_ok C most most s 0 (by omega) hs (by omega) m (by have := hL'.out; omega) _ hG7).mono ?_
        rintro e w8 ⟨rfl, hG8, hg⟩
        have hS8 := keep_block hS7 hg hBC
        have hb8 := below_grown hb7 (Nat.le_refl _) hCn hg
        clear hS7 hG7 hb7 hg
        go_wp2_with fail
        refine (left_at B most most (s + m) L2 (by omega) hL2.out (by omega) _ hS8).mono ?_
        rintro e w' ⟨rfl, n3, rfl⟩
        rw [show (L2 : Int) = (L : Int) - (m : Int) by have := hL'.out; have := hL2.out; omega]
        have hS9 : Sp (w8.drewN n3) B most most (s + m) := hS8
        have hG9 : Gv (w8.drewN n3) C most most (s + m) 0 := hG8
        have hb9 := below_drewN hb8 n3
        clear hS8 hG8 hb8
        generalize w8.drewN n3 = w9 at hS9 hG9 hb9 ⊢
        go_wp2_with fail
        refine (held_at C most most (s + m) 0 (s + m) (by omega) rfl (by omega) _ hG9).mono ?_
        rintro e w' ⟨rfl, n4, rfl⟩
        rw [show ((s + m : Nat) : Int) = (s : Int) + (m : Int) by omega]
        have hS10 : Sp (w9.drewN n4) B most most (s + m) := hS9
        have hb10 := below_drewN hb9 n4
        clear hS9 hG9 hb9
        generalize w9.drewN n4 = w10 at hS10 hb10 ⊢
        go_wp2_with fail
        have hsm : s + m ≤ most := by have := hL2.out; omega
        generalize s + m = s2 at hL2 hS10 hsm
        refine (left_at B most most s2 L2 (by omega) hL2.out (by omega) _ hS10).mono ?_
        rintro e w' ⟨rfl, m1, rfl⟩
        have kS1 : Sp (w10.drewN m1) B most most s2 := hS10
        have kb1 := below_drewN hb10 m1
        clear hS10 hb10
        generalize w10.drewN m1 = v1 at kS1 kb1 ⊢
        go_wp2_with fail
        rw [now_is most L2 s2 hL2.out (by omega)]
        by_cases hr : s2 + most < t
        · have R := Lib.hid hr
          refine (granted_range B most most s2 (by omega) (by omega) (by omega) t ht R.out _ kS1).mono ?_
          rintro e w' ⟨rfl, m2, rfl⟩
          have kS2 : Sp (v1.drewN m2) B most most s2 := kS1
          have kb2 := below_drewN kb1 m2
          clear kS1 kb1
          generalize v1.drewN m2 = v2 at kS2 kb2 ⊢
          go_wp2_with fail
          refine (left_at B most most s2 L2 (by omega) hL2.out (by omega) _ kS2).mono ?_
          rintro e w' ⟨rfl, m3, rfl⟩
          have kb3 := below_drewN kb2 m3
          clear kS2 kb2
          generalize v2.drewN m3 = v3 at kb3 ⊢
          go_wp2_with fail
          refine (wakes9 _).mono ?_
          rintro e x1 ⟨rfl, hx⟩
          have hx1 := below_then kb3 (Nat.le_refl _) hx
          clear hx
          go_wp2_with fail
          go_ret
          exact ⟨rfl, hx1⟩
        · by_cases ho : t ≤ most
          · refine (granted_ok B most most s2 (by omega) (by omega) (by omega) (by omega) t ht (by omega) _ kS1).mono ?_
            rintro e v2 ⟨rfl, kS2, hg⟩
            rw [Nat.max_eq_left ho] at kS2
            have kb2 := below_grown kb1 (Nat.le_refl _) hB1 hg
            clear kS1 kb1 hg
            go_wp2_with fail
            refine (left_at B most most s2 L2 (by omega) hL2.out (by omega) _ kS2).mono ?_
            rintro e w' ⟨rfl, m3, rfl⟩
            have kb3 := below_drewN kb2 m3
            clear kS2 kb2
            generalize v2.drewN m3 = v3 at kb3 ⊢
            go_wp2_with fail
            refine (wakes9 _).mono ?_
            rintro e x1 ⟨rfl, hx⟩
            have hx1 := below_then kb3 (Nat.le_refl _) hx
            clear hx
            go_wp2_with fail
            go_ret
            exact ⟨rfl, hx1⟩
          · refine (granted_ok B most most s2 (by omega) (by omega) (by omega) (by omega) t ht (by omega) _ kS1).mono ?_
            rintro e v2 ⟨rfl, kS2, hg⟩
            rw [Nat.max_eq_right (by omega)] at kS2
            have kb2 := below_grown kb1 (Nat.le_refl _) hB1 hg
            clear kS1 kb1 hg
            go_wp2_with fail
            refine (left_any B most t s2 (by omega) (by omega) (by omega) _ kS2).mono ?_
            rintro e w' ⟨rfl, m3, rfl⟩
            have kb3 := below_drewN kb2 m3
            clear kS2 kb2
            generalize v2.drewN m3 = v3 at kb3 ⊢
            go_wp2_with fail
            refine (wakes9 _).mono ?_
            rintro e x1 ⟨rfl, hx⟩
            have hx1 := below_then kb3 (Nat.le_refl _) hx
            clear hx
            go_wp2_with fail
            go_ret
            exact ⟨rfl, hx1⟩
end Go.Proofs.Ytbmhgdfkkiepaaa
