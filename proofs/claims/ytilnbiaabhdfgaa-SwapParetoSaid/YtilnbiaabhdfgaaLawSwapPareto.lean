/-
  The walk of SwapPareto.
-/
import Derived.Test.YtilnbiaabhdfgaaFine
import Derived.Test.YtilnbiaabhdfgaaParetoPlain
namespace Go.Proofs.Ytilnbiaabhdfgaa
open Go.RowKit
set_option linter.unusedVariables false
set_option linter.unusedSimpArgs false

theorem find_some {n : Nat} {l : List Nat} {w w' : World} {e : Ending} (h : FindRes (some l) w e w') (hl : l.length = n) : RowOk n l w e w' := by
  obtain ⟨O, c, h1, h2, h3⟩ := h
  subst hl
  exact ⟨O, c, h1, h2, h3⟩
theorem find_none {w w' : World} {e : Ending} (h : FindRes none w e w') : ∃ O c, e = .returned (.tuple #[.slice O 0 c, .int .i64 4]) ∧ Below w.heap.size w w' := by
  obtain ⟨O, c, h1, h2, h3⟩ := h
  exact ⟨O, c, h1, h3⟩
theorem index_quiet {A : Option Addr} {n c B m : Nat} {l : List Int} {v : Int} {w : World} (hn : l.length = n) (hlen : n ≤ 9223372036854775807) (hA : IntsA w B A l) :
    Calls Try.prog 22 #[.slice A n c, .int .i64 v] (w.drewN m) fun e w'' => e = .returned (.int .i64 (idx l v)) ∧ ∃ k, w'' = w.drewN k :=
  (index_any A n c B l v (w.drewN m) hn hlen (hA.keep fun _ _ => rfl)).mono fun e w'' h => ⟨h.1, m, h.2.symm⟩

set_option maxRecDepth 100000 in
set_option maxHeartbeats 3200000 in
theorem swapPareto_any (A : Option Addr) (n c : Nat) (L : List (List Int)) (X : Option Addr) (m cm : Nat) (l : List Int) (w : World) (hn : L.length = n) (hlen : n ≤ 9223372036854775807) (hrow : ∀ l ∈ L, l.length ≤ 9223372036854775807) (hA : RowsA w w.heap.size A L)
    (hm : l.length = m) (hmc : m ≤ cm) (hlm : m ≤ 9223372036854775807) (hX : IntsA w w.heap.size X l) :
    Calls Try.prog 11 #[.slice A n c, .slice X m cm] w fun e w' => e = .returned (.bool true) ∧ Below w.heap.size w w' := by
  obtain ⟨q, hq⟩ : ∃ q, (fewL L).length = q := ⟨_, rfl⟩
  obtain ⟨q2, hq2⟩ : ∃ q2, (l.take 7).length = q2 := ⟨_, rfl⟩
  have HFE := hide (few_in (c := c) hn hlen hrow hq hA)
  have HLI := hide (list_in hm hmc hlm hq2 hX)
  have HFI := hide (fine_in (c := c) (cm := cm) hn hlen hrow hA hm hlm hX)
  cases hf : fineB L l
  · rw [hf] at HFI
    have HBE := hide (fewBetter_no hq hq2 hf)
    have HOR := hide (fewOrder_no hq hq2 hf)
    clear hf hrow hn hA hq hq2 hm hX
    go_enter Try.func11, Try.ntmps11
    go_wp2_with fail
    refine (HFE.out _ (Below.refl _ _)).mono ?_
    rintro e w1 ⟨A1, c1, rfl, hq1, hR1, hb1⟩
    go_wp2_with fail
    refine (HLI.out _ hb1).mono ?_
    rintro e w2 ⟨X2, c2, rfl, hq2, hI2, hb2⟩
    have hR2 := hR1.next hb2
    have hb12 := hb1.trans (hb2.mono hb1.size)
    go_wp2_with fail
    refine (HBE.out _ _ _ _ _ hR2 hI2).mono ?_
    rintro e w3 ⟨rfl, hb3⟩
    have hb13 := hb12.trans (hb3.mono hb12.size)
    clear hR1 hR2 hI2 hb1 hb2 hb12 hb3
    go_wp2_with fail
    refine (HFE.out _ hb13).mono ?_
    rintro e w4 ⟨A4, c4, rfl, hq4, hR4, hb4⟩
    have hb14 := hb13.trans (hb4.mono hb13.size)
    go_wp2_with fail
    refine (HLI.out _ hb14).mono ?_
    rintro e w5 ⟨X5, c5, rfl, hq5, hI5, hb5⟩
    have hR5 := hR4.next hb5
    have hb15 := hb14.trans (hb5.mono hb14.size)
    go_wp2_with fail
    refine (HOR.out _ _ _ _ _ hR5 hI5).mono ?_
    rintro e w6 ⟨rfl, hb6⟩
    have hb16 := hb15.trans (hb6.mono hb15.size)
    clear hR4 hR5 hI5 hb4 hb5 hb14 hb15 hb6 hb13
    go_wp2_with (go_at_call 21; refine (awake_any _).mono ?_; rintro e w7 ⟨rfl, hb7⟩)
    go_ret
    exact ⟨rfl, hb16.trans (hb7.mono hb16.size)⟩
  · rw [hf] at HFI
    obtain ⟨hv, hol⟩ := fine_parts.1 hf
    obtain ⟨he1, he2⟩ := fine_same hf
    rw [he1] at hq HFE
    rw [he2] at hq2 HLI
    rw [hn] at hol hq
    subst hq
    rw [hm] at hq2
    obtain ⟨W, hW⟩ : ∃ W, NatsOf L n W := ⟨_, nats_of hv hn⟩
    obtain ⟨hul, ho⟩ := ord_of hol
    obtain ⟨o, hoo⟩ : ∃ o, o = toN l := ⟨_, rfl⟩
    rw [← hoo] at hul ho
    have hmn : m = n := by rw [← hm, ← hul, up_length, ho.len]
    subst hmn
    subst hq2
    subst hul
    have h5 := hW.ok.le
    have h1 := hW.ok.pos
    have HTR := hide (okTrade hW)
    have HBE := hide (okBetter hW ho)
    have HOR := hide (okOrder hW ho)
    have HCH := hide (fun l hl => okChoose hW (o := l) hl)
    have HBT := hide (okBetter hW (tradeN_ord hW.ok))
    rw [trade_best hW.ok] at HBT
    have HW := hide hW.ok
    have HO := hide ho
    have HOL := hide ho.len
    have HA : Hid (RowsA w w.heap.size A (upp W)) := by rw [hW.eq]; exact hA
    have HX := hide hX
    have HTL : Hid ((tradeN W).length = m) := (tradeN_ord hW.ok).len
    rcases better_or_order hW.ok ho with ⟨hr1, lo, hr2⟩ | ⟨⟨a, hr1⟩, hr2⟩
    · obtain ⟨hlo, hch⟩ := orderN_some hr2
      have HCO := hide (HCH.out lo hlo)
      have HLL := hide hlo.len
      rw [hch] at HCO
      rw [hr1] at HBE
      rw [hr2] at HOR
      clear hf hrow hn hA hm hX hv hol he1 he2 hW ho hoo hr1 hr2 hlo hch
      go_enter Try.func11, Try.ntmps11
      go_wp2_with fail
      refine (HFE.out _ (Below.refl _ _)).mono ?_
      rintro e w1 ⟨A1, c1, rfl, hq1, hR1, hb1⟩
      go_wp2_with fail
      refine (HLI.out _ hb1).mono ?_
      rintro e w2 ⟨X2, c2, rfl, hq2, hI2, hb2⟩
      have hR2 := hR1.next hb2
      have hb12 := hb1.trans (hb2.mono hb1.size)
      go_wp2_with fail
      refine (HBE.out _ _ _ _ _ hR2 hI2).mono ?_
      intro e w3 hfr
      obtain ⟨O3, k3, rfl, hb3⟩ := find_none hfr
      have hb13 := hb12.trans (hb3.mono hb12.size)
      clear hR1 hR2 hI2 hb1 hb2 hb12 hb3 hfr
      go_wp2_with fail
      refine (HFE.out _ hb13).mono ?_
      rintro e w4 ⟨A4, c4, rfl, hq4, hR4, hb4⟩
      have hb14 := hb13.trans (hb4.mono hb13.size)
      go_wp2_with fail
      refine (HLI.out _ hb14).mono ?_
      rintro e w5 ⟨X5, c5, rfl, hq5, hI5, hb5⟩
      have hR5 := hR4.next hb5
      have hb15 := hb14.trans (hb5.mono hb14.size)
      go_wp2_with fail
      refine (HOR.out _ _ _ _ _ hR5 hI5).mono ?_
      intro e w6 hfr
      obtain ⟨O6, k6, rfl, hI6, hb6⟩ := find_some hfr HLL.out
      have hb16 := hb15.trans (hb6.mono hb15.size)
      clear hR4 hR5 hI5 hb4 hb5 hb14 hb15 hb6 hb13 hfr
      go_wp2_with (go_at_call 40; refine (HFI.out _ hb16).mono ?_; rintro e w7 ⟨rfl, rfl⟩)
      refine (HFE.out _ hb16).mono ?_
      rintro e w8 ⟨A8, c8, rfl, hq8, hR8, hb8⟩
      have hb18 := hb16.trans (hb8.mono hb16.size)
      have hI8 := hI6.next hb8
      go_wp2_with fail
      refine (HCO.out _ _ _ _ _ hR8 hI8).mono ?_
      rintro e w9 ⟨O9, k9, rfl, hI9, hb9⟩
      have hb19 := hb18.trans (hb9.mono hb18.size)
      clear hI6 hI8 hR8 hb8 hb9 hb16 hb18
      go_wp2_with fail
      refine (equal_any O9 X m m k9 cm _ _ (up o) (up o) w9 (by rw [up_length]; exact HOL.out) (by rw [up_length]; exact HOL.out) (by omega) hI9 (HX.out.below hb19)).mono ?_
      rintro e w10 ⟨rfl, d, rfl⟩
      have hb20 := below_drewN hb19 d
      simp only [decide_true]
      clear hI9 hb19
      generalize w9.drewN d = w10 at *
      go_wp2_with fail
      refine (HFE.out _ hb20).mono ?_
      rintro e w11 ⟨A11, c11, rfl, hq11, hR11, hb11⟩
      have hb21 := hb20.trans (hb11.mono hb20.size)
      go_wp2_with fail
      refine (HTR.out _ _ _ hR11).mono ?_
      rintro e w12 ⟨O12, k12, rfl, hI12, hb12⟩
      have hb22 := hb21.trans (hb12.mono hb21.size)
      clear hb20 hb21 hR11 hb11 hb12
      go_wp2_with fail
      refine (HFE.out _ hb22).mono ?_
      rintro e w13 ⟨A13, c13, rfl, hq13, hR13, hb13⟩
      have hb23 := hb22.trans (hb13.mono hb22.size)
      have hI13 := hI12.next hb13
      go_wp2_with fail
      refine (HBT.out _ _ _ _ _ hR13 hI13).mono ?_
      intro e w14 hfr
      obtain ⟨O14, k14, rfl, hb14⟩ := find_none hfr
      have hb24 := hb23.trans (hb14.mono hb23.size)
      clear hb22 hb23 hR13 hb13 hb14 hfr hI12 hI13
      go_wp2_with (go_at_call 21; refine (awake_any _).mono ?_; rintro e w15 ⟨rfl, hb15⟩)
      go_ret
      exact ⟨rfl, hb24.trans (hb15.mono hb24.size)⟩
    · obtain ⟨ha, him⟩ := betterN_some hr1
      obtain ⟨him1, him2⟩ := impr_full.1 him
      have HAO := hide ha
      have HAL := hide ha.len
      have HI1 := hide him1
      have HSM : Hid (someMore W (2 ^ m - 1) a o m = true) := by
        have : impr W m (2 ^ m - 1) a o = true := him
        simp only [impr, Bool.and_eq_true] at this
        exact this.2
      rw [hr1] at HBE
      rw [hr2] at HOR
      clear hf hrow hn hA hm hX hv hol he1 he2 hW ho hoo hr1 hr2 ha him him1 him2
      go_enter Try.func11, Try.ntmps11
      go_wp2_with fail
      refine (HFE.out _ (Below.refl _ _)).mono ?_
      rintro e w1 ⟨A1, c1, rfl, hq1, hR1, hb1⟩
      go_wp2_with fail
      refine (HLI.out _ hb1).mono ?_
      rintro e w2 ⟨X2, c2, rfl, hq2, hI2, hb2⟩
      have hR2 := hR1.next hb2
      have hb12 := hb1.trans (hb2.mono hb1.size)
      go_wp2_with fail
      refine (HBE.out _ _ _ _ _ hR2 hI2).mono ?_
      intro e w3 hfr
      obtain ⟨O3, k3, rfl, hI3, hb3⟩ := find_some hfr HAL.out
      have hb13 := hb12.trans (hb3.mono hb12.size)
      clear hR1 hR2 hI2 hb1 hb2 hb12 hb3 hfr
      go_wp2_with fail
      refine (HFE.out _ hb13).mono ?_
      rintro e w4 ⟨A4, c4, rfl, hq4, hR4, hb4⟩
      have hb14 := hb13.trans (hb4.mono hb13.size)
      go_wp2_with fail
      refine (HLI.out _ hb14).mono ?_
      rintro e w5 ⟨X5, c5, rfl, hq5, hI5, hb5⟩
      have hR5 := hR4.next hb5
      have hb15 := hb14.trans (hb5.mono hb14.size)
      go_wp2_with fail
      refine (HOR.out _ _ _ _ _ hR5 hI5).mono ?_
      intro e w6 hfr
      obtain ⟨O6, k6, rfl, hb6⟩ := find_none hfr
      have hb16 := hb15.trans (hb6.mono hb15.size)
      have hI6 := ((hI3.next hb4).next hb5).next hb6
      clear hR4 hR5 hI5 hb4 hb5 hb14 hb15 hb6 hb13 hfr hI3
      go_wp2_with (go_at_call 40; refine (HFI.out _ hb16).mono ?_; rintro e w7 ⟨rfl, rfl⟩)
      go_loopw [11, 88] (fun b i wr => ∃ (k : Nat) (y : Bool), k ≤ m ∧ i = .int .i64 k ∧ b = .bool y ∧ Below w6.heap.size w6 wr ∧ Hid (someMore W (2 ^ m - 1) a o k = y)) (fun _ i _ => m - (intOf i).toNat)
      case atStart => exact ⟨0, false, Nat.zero_le _, rfl, rfl, Below.refl _ _, rfl⟩
      case round =>
        obtain ⟨k, y, hk, rfl, rfl, hwr, hy⟩ := hrel
        have hbr := hb16.trans (hwr.mono hb16.size)
        by_cases hlt : k < m
        · obtain ⟨b1, o1, x1, rfl, hb1, hc1, hx1⟩ := (hI6.below hwr).at_ (k := k) (by rw [up_length, HAL.out]; exact hlt)
          obtain ⟨b2, o2, x2, rfl, hb2, hc2, hx2⟩ := (HX.out.below hbr).at_ (k := k) (by rw [up_length, HOL.out]; exact hlt)
          obtain ⟨b3, o3, A', n', c', rfl, hb3, hc3, hx3, hle3, hI3⟩ := (HA.out.below hbr).at_ (k := k) (by rw [upp_length, HW.out.len]; exact hlt)
          rw [upp_getD] at hI3 hx3
          have e1 := hx1.out
          have e2 := hx2.out
          rw [up_getD] at e1 e2
          have hor := HW.out.rows k hlt
          have g1 := HAO.out.getD_lt hlt
          have g2 := HO.out.getD_lt hlt
          have f1 := idx_up_mem ((hor.mem _).2 g1)
          have f2 := idx_up_mem ((hor.mem _).2 g2)
          have hle := HI1.out k hlt
          have hss := hide (someMore_succ W (2 ^ m - 1) a o k)
          have hbit : Hid ((2 ^ m - 1).testBit k = true) := by show _ = _; rw [full_bit]; simpa using hlt
          have hn'm : n' = m := by rw [← hx3.out, up_length, hor.len]
          subst hn'm
          generalize a.getD k 0 = ga at *
          generalize o.getD k 0 = go at *
          subst e1; subst e2
          have HQ1 : Hid (∀ d, Calls Try.prog 22 #[.slice A' n' c', .int .i64 (ga : Nat)] (wr.drewN d) fun e w'' => e = .returned (.int .i64 (place (W.getD k []) ga : Nat)) ∧ ∃ k, w'' = wr.drewN k) := fun d => by
            rw [← f1]; exact index_quiet hx3.out (by omega) hI3
          have HQ2 : Hid (∀ d, Calls Try.prog 22 #[.slice A' n' c', .int .i64 (go : Nat)] (wr.drewN d) fun e w'' => e = .returned (.int .i64 (place (W.getD k []) go : Nat)) ∧ ∃ k, w'' = wr.drewN k) := fun d => by
            rw [← f2]; exact index_quiet hx3.out (by omega) hI3
          generalize place (W.getD k []) ga = p1 at *
          generalize place (W.getD k []) go = p2 at *
          have hd : decide ((p1 : Int) < 0) = false := by simp
          have hd2 : decide ((p2 : Int) < (p1 : Int)) = false := by simp; omega
          have hlt' : decide ((p1 : Int) < (p2 : Int)) = decide (p1 < p2) := by rw [Bool.eq_iff_iff]; simp
          clear hx1 hx2 hx3 hI3 f1 f2 hor g1 g2
          cases y
          · go_wp2
            go_quiet ((first | (with_reducible exact HQ1.out _) | (with_reducible exact HQ2.out _)))
            go_wp2
            go_roundw
            case rel => exact ⟨k + 1, decide (p1 < p2), by omega, by go_num, by first | rfl | rw [hlt'], below_drewN hwr _, by show _ = _; rw [hss.out, hbit.out, hy.out]; simp⟩
            case measure => simp [intOf] <;> omega
          · go_wp2
            go_quiet ((first | (with_reducible exact HQ1.out _) | (with_reducible exact HQ2.out _)))
            go_wp2
            go_roundw
            case rel => exact ⟨k + 1, true, by omega, by go_num, rfl, below_drewN hwr _, by show _ = _; rw [hss.out, hbit.out, hy.out]; simp⟩
            case measure => simp [intOf] <;> omega
        · obtain rfl : m = k := by omega
          obtain rfl : y = true := by rw [← hy.out, HSM.out]
          clear hI6 hy hwr
          go_wp2_with fail
          refine (HFE.out _ hbr).mono ?_
          rintro e w11 ⟨A11, c11, rfl, hq11, hR11, hb11⟩
          have hb21 := hbr.trans (hb11.mono hbr.size)
          go_wp2_with fail
          refine (HTR.out _ _ _ hR11).mono ?_
          rintro e w12 ⟨O12, k12, rfl, hI12, hb12⟩
          have hb22 := hb21.trans (hb12.mono hb21.size)
          clear hbr hb21 hR11 hb11 hb12
          go_wp2_with fail
          refine (HFE.out _ hb22).mono ?_
          rintro e w13 ⟨A13, c13, rfl, hq13, hR13, hb13⟩
          have hb23 := hb22.trans (hb13.mono hb22.size)
          have hI13 := hI12.next hb13
          go_wp2_with fail
          refine (HBT.out _ _ _ _ _ hR13 hI13).mono ?_
          intro e w14 hfr
          obtain ⟨O14, k14, rfl, hb14⟩ := find_none hfr
          have hb24 := hb23.trans (hb14.mono hb23.size)
          clear hb22 hb23 hR13 hb13 hb14 hfr hI12 hI13
          go_wp2_with (go_at_call 21; refine (awake_any _).mono ?_; rintro e w15 ⟨rfl, hb15⟩)
          go_ret
          exact ⟨rfl, hb24.trans (hb15.mono hb24.size)⟩
end Go.Proofs.Ytilnbiaabhdfgaa
