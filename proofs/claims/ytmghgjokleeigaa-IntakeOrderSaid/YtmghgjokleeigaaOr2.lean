/-
  IntakeOrder: the walk of its closure.
-/
import Derived.Test.YtmghgjokleeigaaOr1
namespace Go.Proofs.Ytmghgjokleeigaa
open Go.RowKit Go.Shelf Go.Maps
attribute [local go_sem] Oper.semAt_some wide_fn_eq wide_depth
theorem wp_blind' {P : Program} {c : Code} {K : Act → World → Prop} {Q : Exit → Act → World → Prop} {a : Act} {w : World} (h : c.wp P (Exit.then K fun _ _ _ => False) a w) : c.wp P (Exit.then K Q) a w :=
  Code.wp_mono (fun e a w h => by cases e <;> first | exact h | exact h.elim) h
theorem took_mono {w : World} {I M n fl : Nat} {q : Qv} {N : Nat} {W W' : World} {fate : Nat} {G : List Gr} {p : Option Addr} {cp n' : Nat} {q' : Qv} (h : Took2 w I M n fl q N W W' fate G p cp n' q') : ∀ j, j < fl ∨ q j ≠ none → j < fl + G.length ∨ q' j ≠ none := fun j hj => by
  by_cases hf : fate = 1
  · exact (h.yes hf j).2 (.inl hj)
  · obtain ⟨rfl, rfl⟩ := h.no hf
    exact hj
theorem took_in {w : World} {I M n fl : Nat} {q : Qv} {N : Nat} {W W' : World} {fate : Nat} {G : List Gr} {p : Option Addr} {cp n' : Nat} {q' : Qv} (h : Took2 w I M n fl q N W W' fate G p cp n' q') : N < fl + 16 → N < fl + G.length ∨ q' N ≠ none := fun hN => by
  rcases h.cond with ⟨hf, _⟩ | ⟨_, hs⟩ | ⟨_, _, hge⟩
  · exact (h.yes hf N).2 (.inr rfl)
  · exact took_mono h N hs
  · omega
set_option maxRecDepth 100000 in
set_option maxHeartbeats 4000000 in
theorem on46 {w : World} {I M T C3 C4 C5 n fl : Nat} {q : Qv} {W : World} (h : OrdS w I M T C3 C4 C5 n fl fl q W) (N : Nat) (hN : N < 40) (hn : n ≤ 950) (p : Option Addr) (l cp : Nat) (hl : l ≤ 256) (ho : (N < fl ∨ q N ≠ none) ∨ (Rd W (.slice p l cp) (byts (payloadL N)) ∧ (payloadL N).length = l)) :
    Calls Try.prog 46 #[.int .u32 N, .slice p l cp, .pointer (some ⟨C3, 0, none⟩), .pointer (some ⟨C5, 0, none⟩), .pointer (some ⟨C4, 0, none⟩)] W (OnPost w I M T C3 C4 C5 n fl q N W) := by
  have hfl := h.f40
  have c3 := one_cell h.b3
  have H := Lib.hid h
  have HO := Lib.hid ho
  clear h ho
  go_enter Try.func46, Try.ntmps46
  go_wp2_with fail
  refine (take2 H.out.kp H.out.wn N (by omega) p l cp hl HO.out (by omega) (by omega)).mono ?_
  rintro e W6 ⟨p6, c6, fate, n', G, q', rfl, ht⟩
  have hf3 : fate ≤ 3 := by rcases ht.cond with h | h | h <;> omega
  have hg16 := ht.g16
  obtain ⟨a1, hg40, a3, ⟨ks, a4, a5⟩, b3, b4, b5, hTI, hpay⟩ := ord_mid H.out ht hN
  have HT := Lib.hid ht
  have HK := Lib.hid a4; have HK2 := Lib.hid a5; have HB4 := Lib.hid b4; have HB5 := Lib.hid b5; have HP := Lib.hid hpay
  have HR : Hid (Rws w W p6 c6 G W6) := Lib.hid ⟨ht.row, fun i hi => (ht.gs i hi).1⟩
  clear ht a1 a3 a4 a5 b3 b4 b5 hpay HO c3
  go_upto_region 2 with fail
  go_cut [37] from 21 to 37 (fun v wx => v = .bool false ∧ W6 = wx)
  case first =>
    have d4 := one_cell HB4.out
    have d5 := one_cell HB5.out
    have hlook := HK.out.look N (by omega)
    rcases HT.out.cond with ⟨hf, hs, hlt⟩ | ⟨hf, hs⟩ | ⟨hf, hs, hge⟩
    · rw [if_neg (fun e => hs ((HK2.out N).1 e))] at hlook
      have e1 : ((fate : Int) == 1) = true := by rw [hf]; rfl
      have e2 : decide ((fl : Int) + 16 ≤ (N : Int)) = false := by simp; omega
      clear hs
      go_wp2_with fail
      go_meet
      exact ⟨rfl, rfl⟩
    · rw [if_pos ((HK2.out N).2 hs)] at hlook
      have e1 : ((fate : Int) == 1) = false := by rw [hf]; rfl
      clear hs
      go_wp2_with fail
      go_meet
      exact ⟨rfl, rfl⟩
    · rw [if_neg (fun e => hs ((HK2.out N).1 e))] at hlook
      have e1 : ((fate : Int) == 1) = false := by rw [hf]; rfl
      have e2 : decide ((fl : Int) + 16 ≤ (N : Int)) = true := by simp; omega
      clear hs
      go_wp2_with fail
      go_meet
      exact ⟨rfl, rfl⟩
  case rest =>
    obtain ⟨rfl, rfl⟩ := hcut
    go_upto_if 39 with fail
    go_cut [] from 40 to 41 (fun wx => OrdS w I M T C3 C4 C5 (n + 1) (fl + G.length) fl q' wx ∧ Rws w W p6 c6 G wx ∧ Oth I M T C4 W wx)
    case first =>
      by_cases hf : fate = 1
      · have e0 : ((fate : Int) == 1) = true := by rw [hf]; rfl
        have d5 := one_cell HB5.out
        obtain ⟨W7, hupd, hm7, ht7⟩ := HK.out.put (by omega) N (by omega)
        have H7 := Lib.hid (ord_yes H.out HT.out hN hf HK2.out hm7 ht7)
        have R7 := Lib.hid (HR.out.turned ht7)
        have O7 := Lib.hid ((Oth.of_still HT.out.st).trans (Oth.of_turned (I := I) (M := M) (C4 := C4) ht7))
        clear hm7 ht7 hf
        go_wp2_with fail
        go_meet
        exact ⟨H7.out, R7.out, O7.out⟩
      · have e0 : ((fate : Int) == 1) = false := by simp; omega
        have H7 := Lib.hid (ord_no H.out HT.out hN hf)
        have O7 : Hid (Oth I M T C4 W W6) := Lib.hid (Oth.of_still HT.out.st)
        clear hf
        go_wp2_with fail
        go_meet
        exact ⟨H7.out, HR.out, O7.out⟩
    case rest =>
      obtain ⟨h7, r7, o7⟩ := hcut
      have H7 := Lib.hid h7; have R7 := Lib.hid r7; have O7 := Lib.hid o7
      clear h7 r7 o7 HR HB4 HB5 HK HK2
      go_wp2_with fail
      go_loopw [44] (fun iv wr => ∃ k : Nat, k ≤ G.length ∧ iv = .int .i64 k ∧ OrdS w I M T C3 C4 C5 (n + 1) (fl + G.length) (fl + k) q' wr ∧ Rws w W p6 c6 G wr ∧ Oth I M T C4 W wr) (fun iv _ => G.length - (intOf iv).toNat)
      case atStart => exact ⟨0, by omega, rfl, H7.out, R7.out, O7.out⟩
      case round =>
        obtain ⟨k, hk, rfl, h8, r8, o8⟩ := hrel
        have c4 := one_cell h8.b4
        have f4 := one_free h8.b4
        have c3 := one_cell h8.b3
        have H8 := Lib.hid h8; have R8 := Lib.hid r8; have O8 := Lib.hid o8
        clear h8 r8 o8 H7 R7 O7
        by_cases hlt : k < G.length
        · obtain ⟨nx, hnx⟩ : ∃ nx, nx = fl + k := ⟨_, rfl⟩
          have hrow : OffRow wr W.heap.size 62 (.slice p6 G.length c6) (G.map encG) := R8.out.row
          obtain ⟨pb, ro, rfl⟩ := hrow.addr (by rw [List.length_map]; omega)
          have hget := hrow.cellG k (by rw [List.length_map]; exact hlt)
          rw [List.getElem_map] at hget
          have hg := R8.out.gs k hlt
          rw [HP.out k hlt, ← hnx] at hg
          obtain ⟨gq, gl, gc, eg⟩ : ∃ q l c, encG G[k] = .slice q l c := ⟨_, _, _, rfl⟩
          rw [eg] at hget hg
          rw [← hnx] at c4
          have HG := Lib.hid hg
          have Hnx := Lib.hid hnx
          have hnx40 : nx < 40 := by omega
          clear hg eg hrow hnx
          go_wp2_with fail
          refine (payload44 nx (by omega) _).mono ?_
          rintro e w2 ⟨v2, rfl, o2, b2⟩
          obtain ⟨p2, l2, cp2, rfl⟩ := o2.form'
          have c4' := (b2.cell (World.block_lt_of_cell? _ _ c4)).trans c4
          have f4' := (b2.frozen (World.block_lt_of_cell? _ _ c4)).trans f4
          have HG2 := Lib.hid (HG.out.below b2)
          have O2 := Lib.hid o2
          have B2 := Lib.hid b2
          clear o2 b2
          go_wp2_with fail
          refine (equal47 HG2.out O2.out (payload_le nx (by omega)) (payload_le nx (by omega))).mono ?_
          rintro e w' ⟨rfl, rfl⟩
          rw [decide_eq_true rfl]
          go_wp2_with fail
          have h9 := H8.out.same B2.out
          exact ⟨⟨k + 1, by omega, rfl, h9.set (fl + (k + 1)) (by have := Hnx.out; omega), (R8.out.below B2.out).set h9.b4, (O8.out.trans (Oth.of_below B2.out)).trans (Oth.set _ _)⟩, by simp [intOf]; omega⟩
        · obtain rfl : k = G.length := by omega
          clear f4
          have Hd := Lib.hid (H8.out.same (W' := wr.drew) ⟨rfl, rfl, rfl, Nat.le_refl _, fun _ _ => rfl⟩)
          have Od : Hid (Oth I M T C4 W wr.drew) := Lib.hid (O8.out.trans ⟨Nat.le_refl _, fun _ _ _ _ _ _ => rfl⟩)
          have hl15 := len_idsQ q' (fl + G.length)
          obtain ⟨nx, hnx⟩ : ∃ nx, nx = fl + G.length := ⟨_, rfl⟩
          obtain ⟨wt, hwt⟩ : ∃ wt, wt = (idsQ q' (fl + G.length)).length := ⟨_, rfl⟩
          have PF := kept_floor Hd.out.kp
          have PW := kept_waits Hd.out.kp
          rw [← hnx] at c4 PF PW
          rw [← hwt] at hl15
          rw [← hnx] at hwt
          rw [← hwt] at PW
          have Hwt := Lib.hid hwt; have Hnx := Lib.hid hnx
          clear hwt hnx
          have hw16 : decide ((wt : Int) < 16) = true := decide_eq_true (by omega)
          go_wp2_with fail
          go_cut [7] from 56 to 64 (fun v wx => v = .bool true ∧ wr.drew = wx)
          case first =>
            refine wp_blind' ?_
            go_region_with (first | (go_at_call 48; refine PF.mono ?_; rintro e w' ⟨rfl, hw'⟩; subst hw') | (go_at_call 41; refine PW.mono ?_; rintro e w' ⟨rfl, hw'⟩; subst hw'))
            all_goals go_wp2
            all_goals go_meet
            all_goals exact ⟨by first | rfl | (rw [hw16]) | simp [hw16] | (simp; omega), rfl⟩
          case rest =>
            obtain ⟨rfl, rfl⟩ := hcut
            go_wp2
            go_ret
            exact ⟨rfl, n + 1, fl + G.length, q', Hd.out, by omega, by omega, took_mono HT.out, took_in HT.out, Od.out⟩
end Go.Proofs.Ytmghgjokleeigaa
