/-
  The walk of TopRounds.
-/
import Derived.Test.YtgognkofnegobaaTRM
import Derived.Test.YtgognkofnegobaaTSort
import Derived.Test.YtgognkofnegobaaTSub
import Derived.Test.YtgognkofnegobaaTRnds
import Derived.Test.YtgognkofnegobaaTradesTop
import Derived.Test.YtgognkofnegobaaEqual
import Derived.Deep.RegionHeld3
import Derived.Deep.DeepCutAuto
import Derived.Laws.EntriesVeiled
import Derived.BigQuiet
namespace Go.Proofs.Ytgognkofnegobaa
open Go.RowKit
set_option linter.unusedVariables false
set_option linter.unusedSimpArgs false

set_option maxRecDepth 100000 in
set_option maxHeartbeats 6400000 in
theorem topRounds_any (A : Option Addr) (n c : Nat) (L : List (List Int)) (w : World) (hn : L.length = n) (hlen : n ≤ 9223372036854775807) (hrow : ∀ l ∈ L, l.length ≤ 9223372036854775807) (hA : RowsA w w.heap.size A L) :
    Calls Try.prog 7 #[.slice A n c] w fun e w' => e = .returned (.bool true) ∧ Below w.heap.size w w' := by
  have HVA := hide (refV_any A n c w.heap.size L w hn hlen hrow hA)
  have HTR := hide trades_any
  cases hv : vB01 L
  · rw [hv] at HVA
    clear hrow hA hn hv
    go_enter Try.func7, Try.ntmps7
    go_wp2_with (first
      | (go_at_call 25; refine (HVA.out).mono ?_; rintro e w1 ⟨rfl, rfl⟩)
      | (go_at_call 14; refine (HTR.out _).mono ?_; rintro e w1 ⟨rfl, hb1⟩))
    go_ret
    exact ⟨rfl, hb1⟩
  rw [hv] at HVA
  obtain ⟨hn1, hn4, hsq⟩ := vB_facts hv hn rfl
  obtain ⟨b0, o0, A0, m, c0, rfl, hb0, hc0, hx0, hle0, hI0⟩ := hA.at_ (k := 0) (by rw [hn]; omega)
  rw [hx0.out] at hsq
  rw [Nat.add_zero] at hc0
  have hi0 : (0 : Int) < (n : Int) := by omega
  by_cases hnm : n = m
  case neg =>
    have hd4 : ((n : Int) != (m : Int)) = true := by simp; omega
    clear hrow hA hn hv hsq hI0 hx0
    go_enter Try.func7, Try.ntmps7
    go_wp2_with (first
      | (go_at_call 25; refine (HVA.out).mono ?_; rintro e w1 ⟨rfl, rfl⟩)
      | (go_at_call 14; refine (HTR.out _).mono ?_; rintro e w1 ⟨rfl, hb1⟩))
    go_ret
    exact ⟨rfl, hb1⟩
  have hS := hsq hnm
  subst hnm
  have hd4 : ((n : Int) != (n : Int)) = false := by simp
  have HS := hide hS
  have HA := hide hA
  clear hrow hA hn hv hsq hI0 hx0 hS
  go_enter Try.func7, Try.ntmps7
  go_upto_region 3 with (go_at_call 25; refine (HVA.out).mono ?_; rintro e w1 ⟨rfl, rfl⟩)
  clear HVA hc0
  go_wp2
  go_loopw [3, 4, 33] (fun v3 v4 i wr => ∃ (k : Nat) (X : Option Addr) (cx : Nat) (O : Option Addr) (co : Nat) (vs : List Value) (W : List (List Nat)), k ≤ n ∧ i = .int .i64 (k : Nat) ∧ v3 = .slice X k cx ∧ v4 = .slice O k co ∧ Hid (RwM wr w.heap.size X k cx O k co vs ((up (List.range k)).map (Value.int .i64)) (upp W)) ∧ Hid (SrtS L n k W) ∧ Hid (Below w.heap.size w wr)) (fun _ _ i _ => n - (intOf i).toNat)
  case atStart => exact ⟨0, none, 0, none, 0, [], [], Nat.zero_le _, rfl, rfl, rfl, hide (RwM.nil_ _ _), hide (SrtS.nil_ L n), hide (Below.refl _ _)⟩
  case round =>
    obtain ⟨k, X, cx, O, co, vs, W, hk, rfl, rfl, rfl, HRM, HSR, HBR⟩ := hrel
    by_cases hlt : k < n
    · obtain ⟨wo, rfl⟩ : ∃ wo : World, wo = wr := ⟨_, rfl⟩
      have hlk : (k : Int) < (n : Int) := by omega
      have hwo := HBR.out.size
      obtain ⟨b1, o1, At, nt, ct, e9, hbt, hct, hxt, hlet, hIt⟩ := (HA.out.below HBR.out).at_ (k := k) (by rw [HS.out.len]; exact hlt)
      injection e9 with e9; injection e9 with e1 e2
      subst e1; subst e2
      obtain rfl : n = nt := by rw [← hxt.out, HS.out.rows k hlt]
      have HXT := hide hxt.out
      have HIT := hide hIt
      clear hIt hxt hlet
      go_upto_region 8 with (fail)
      have HBX0 : Hid ((wo.alloc (.cells #[.slice At n ct] 24)).heap[wo.heap.size]? = some (.cells #[.slice At n ct] 24 (0, 0))) := alloc_new _ _ _ rfl
      have HBL0 : Hid (Below wo.heap.size wo (wo.alloc (.cells #[.slice At n ct] 24))) := (Below.refl _ _).alloc (Nat.le_refl _) _
      generalize wo.alloc (.cells #[.slice At n ct] 24) = wa at *
      have q0 := blk_cell HBX0.out 0
      have hl0 := lt_of_block HBX0.out
      simp only [List.getElem?_toArray, List.getElem?_cons_zero] at q0
      go_wp2
      clear q0
      go_loopw [7, 40] (fun v7 i wx => ∃ (j : Nat) (Y : Option Addr) (cl : Nat), j ≤ n ∧ i = .int .i64 (j : Nat) ∧ v7 = .slice Y j cl ∧ j ≤ cl ∧ Hid (wx.ownsRow (wo.heap.size + 1) 3 1 (.slice Y j cl) j ((up (List.range j)).map (Value.int .i64))) ∧ Hid (wx.heap[wo.heap.size]? = some (.cells #[.slice At n ct] 24 (0, 0))) ∧ Hid (Below wo.heap.size wo wx)) (fun _ i _ => n - (intOf i).toNat)
      case atStart => exact ⟨0, none, 0, Nat.zero_le _, rfl, rfl, Nat.le_refl _, hide (World.ownsRow_nil _ _ _ _), HBX0, HBL0⟩
      case round =>
        clear HBX0 HBL0 hl0
        obtain ⟨j, Y, cl, hj, rfl, rfl, hjc, HLO, HBX, HBL⟩ := hrel
        by_cases hjn : j < n
        · have hjn' : (j : Int) < (n : Int) := by omega
          have hbw := lt_of_block HBX.out
          go_wp2_with (at_builtin; refine wpList_app1 (w0 := wr) _ _ 24 3 (.int .i64 0) 8 rfl rfl Try.underlying24 info_int rfl (wo.heap.size + 1) (.slice Y j cl) j _ (.int .i64 (j : Nat)) rfl rfl rfl ⟨_, rfl⟩ HLO.out rfl (by omega) (by omega) (by omega) ?_; intro g cg w3 hown hd1' hd2' hg1 hgl hgrow; have HOW := hide hown; have HGR := hide hgrow; clear hown hgrow hg1)
          go_roundw
          case rel =>
            refine ⟨j + 1, _, cg, by omega, by go_num, rfl, hd1', hide (by have := HOW.out; rw [up_range_succV] at this; exact this), hide ((HGR.out.block _ hbw (fun e => by have := (own_lt HLO.out _ e.symm).1; omega)).trans HBX.out), hide (HBL.out.grown HGR.out (by omega) (fun q hq => by have := (own_lt HLO.out q hq).1; omega))⟩
          case measure => simp [intOf]; omega
        · obtain rfl : j = n := by omega
          obtain ⟨gl, cl2, hY, hgl1, hcl1, hcl2, hgl2⟩ := own_form HLO.out (by omega)
          injection hY with hY1 hY2 hY3
          subst hY1; subst hY3
          have hbw := lt_of_block HBX.out
          have q0 := blk_cell HBX.out 0
          simp only [List.getElem?_toArray, List.getElem?_cons_zero] at q0
          have HSO := hide (sortStable_TSort #[.pointer (some ⟨wo.heap.size, 0, none⟩)] (fun g => - (L.getD k []).getD g 0) (fun a b => (L.getD k []).getD b 0 - (L.getD k []).getD a 0) j gl j cl (fun x => x) wr (fun a b => by show _ ↔ _; omega) (by omega) (by omega) (fun a ha => ha) (fun a b hab _ => hab)
            (fun w' a b hg ha hb => tsub_any At j ct wo.heap.size w'.heap.size (L.getD k []) a b w' HXT.out (HS.out.num k hlt) ha hb
              (((HIT.out.below (HBL.out.mono hwo)).more (B' := wr.heap.size) (by have := HBL.out.size; omega)).grownOff hg (fun _ b2 o2 e2 h2 => by
                injection h2 with h2
                obtain ⟨b3, o3, e3, hb3, _⟩ := HIT.out 0 (by rw [HXT.out]; omega)
                rw [e2] at e3; injection e3 with e3; injection e3 with e4 _
                omega))
              ((World.cell?_of_block (w := wr) (a := ⟨wo.heap.size, 0, none⟩) (hg.block wo.heap.size hbw (fun e => by injection e with e; omega))).trans q0))
            ((rowO_own HLO.out).congr fun x hx => by simp [up, List.getD_eq_getElem?_getD, hx]))
          go_wp2_with fail
          refine (HSO.out).mono ?_
          rintro e w4 ⟨sf, hsf, hro, hgw, rfl⟩
          have HI4 := hide (ints_rowO hro)
          have HSR2 : Hid (SrtRow (fun g => (L.getD k []).getD g 0) j ((List.range j).map sf)) := ⟨sf, rfl, hsf⟩
          have HB4 := hide (HBL.out.grown hgw (by have := HBL.out.size; omega) (fun q hq => by injection hq with hq; omega))
          have hw4 := HB4.out.size
          have HRM4 := hide (HRM.out.next HB4.out)
          have HL4 : Hid ((up ((List.range j).map sf)).length = j) := by show _ = _; simp
          have hXO := hide HRM4.out.own
          clear hro hsf hgw HSO q0 HBX HLO HBL HIT hct
          go_upto_region 16 with (at_builtin; refine wpList_app1 (w0 := w4) _ _ 22 24 (.slice none 0 0) 24 rfl rfl Try.underlying22 info_ints rfl w.heap.size (.slice X k cx) k vs (.slice (some ⟨gl, 0, none⟩) j cl) rfl rfl rfl ⟨_, rfl⟩ hXO.out rfl (by omega) (by omega) (by omega) ?_; intro g cg w3 hown hd1' hd2' hg1 hgl hgrow; have HMF := hide (HRM4.out.pushS HL4.out hcl1 HI4.out (fun k1 hk1 e1 => by have e3 : gl = k1 := (by simpa [Value.ownBlock] using hk1); have h2 := (own_lt HRM.out.own k1 e1).2; omega) (fun k1 hk1 e1 => by have e3 : gl = k1 := (by simpa [Value.ownBlock] using hk1); have h2 := (own_lt HRM.out.pown k1 e1).2; omega) hown hd1' hg1 hgrow); have HB5 := hide ((HBR.out.trans (HB4.out.mono hwo)).grown hgrow (by omega) (fun q hq => by have := (own_lt hXO.out q hq).1; omega)); clear hown hgrow hg1)
          have hPO := hide HMF.out.pown
          have hw5 := HB5.out.size
          clear hXO
          go_wp2_with (at_builtin; refine wpList_app1 (w0 := w3) _ _ 24 3 (.int .i64 0) 8 rfl rfl Try.underlying24 info_int rfl w.heap.size (.slice O k co) k _ (.int .i64 (k : Nat)) rfl rfl rfl ⟨_, rfl⟩ hPO.out rfl (by omega) (by omega) (by omega) ?_; intro g2 cg2 w6 hown hd1' hd2' hg1 hgl3 hgrow; have HMG := hide (HMF.out.pushP hown hd1' hg1 hgrow); have HB6 := hide (HB5.out.grown hgrow (by omega) (fun q hq => by have := (own_lt hPO.out q hq).1; omega)); clear hown hgrow hg1)
          go_roundw
          case rel =>
            have := HMG.out
            rw [up_range_succV, show upp W ++ [up ((List.range j).map sf)] = upp (W ++ [(List.range j).map sf]) by simp [upp]] at this
            exact ⟨k + 1, _, _, _, _, _, W ++ [(List.range j).map sf], by omega, by go_num, rfl, rfl, this, hide (HSR.out.snoc HSR2.out), HB6⟩
          case measure => simp [intOf]; omega
    · obtain rfl : n = k := by omega
      have HVW := hide (HSR.out.valid hn1 hn4)
      have HLW : Hid ((upp W).length = n) := by show _ = _; rw [upp_length, HSR.out.1]
      have HRW := hide (rows_of HRM.out.rv HRM.out.own)
      have HIO := hide (ints_of_own HRM.out.pown)
      obtain ⟨wo, rfl⟩ : ∃ wo : World, wo = wr := ⟨_, rfl⟩
      clear HRM
      go_wp2
      go_loopw [9, 62] (fun v9 i wx => ∃ (j : Nat) (Y : Option Addr) (cy : Nat) (us : List Value), j ≤ n ∧ i = .int .i64 (j : Nat) ∧ v9 = .slice Y j cy ∧ j ≤ cy ∧ Hid (wx.ownsRow wo.heap.size 24 1 (.slice Y j cy) j us) ∧ Hid (RowVals wx (Value.slice Y j cy).ownBlock us (L.take j)) ∧ Hid (Below wo.heap.size wo wx)) (fun _ i _ => n - (intOf i).toNat)
      case atStart => exact ⟨0, none, 0, [], Nat.zero_le _, rfl, rfl, Nat.le_refl _, hide (World.ownsRow_nil _ _ _ _), hide (by rw [List.take_zero]; exact RowVals.nil_), hide (Below.refl _ _)⟩
      case round =>
        obtain ⟨j, Y, cy, us, hj, rfl, rfl, hjc, HOW, HRV, HBL⟩ := hrel
        have hwr := HBL.out.size
        by_cases hjn : j < n
        · have hjn' : (j : Int) < (n : Int) := by omega
          have hwo := HBR.out.size
          obtain ⟨b1, o1, At, nt, ct, e9, hbt, hct, hxt, hlet, hIt⟩ := (HA.out.below (HBR.out.trans (HBL.out.mono hwo))).at_ (k := j) (by rw [HS.out.len]; exact hjn)
          injection e9 with e9; injection e9 with e1 e2
          subst e1; subst e2
          obtain rfl : n = nt := by rw [← hxt.out, HS.out.rows j hjn]
          have HXT := hide hxt.out
          have HCL := hide (clone_any At n ct w.heap.size (L.getD j []) wr hxt.out (by omega) hIt)
          have HTK : Hid (L.take (j + 1) = L.take j ++ [L.getD j []]) := by
            show _ = _
            rw [List.take_succ_eq_append_getElem (by rw [HS.out.len]; exact hjn), List.getD_eq_getElem?_getD, List.getElem?_eq_getElem (by rw [HS.out.len]; exact hjn)]; rfl
          clear hIt hxt hlet
          go_wp2_with fail
          refine (HCL.out).mono ?_
          rintro e w1 ⟨A2, c2, rfl, hl2, hI2, hxxx, hb2, hlow⟩
          have HOW1 := hide (HOW.out.kept (row := none) (w' := w1) ⟨hb2.os, hb2.tape, hb2.output, hb2.size, fun k hk _ => hb2.block k hk⟩ (by
            cases h : (Value.slice Y j cy).ownBlock
            · exact .inl rfl
            · exact .inr (by simp)))
          have HRV1 := hide (HRV.out.next hb2)
          have HI2 := hide hI2
          have HLOW := hide hlow
          have HB1 := hide (HBL.out.trans (hb2.mono hwr))
          have hw1 := HB1.out.size
          clear hI2 hlow hb2 hxxx hct
          go_wp2_with (at_builtin; refine wpList_app1 (w0 := w1) _ _ 22 24 (.slice none 0 0) 24 rfl rfl Try.underlying22 info_ints rfl wo.heap.size (.slice Y j cy) j us (.slice A2 n c2) rfl rfl rfl ⟨_, rfl⟩ HOW1.out rfl (by omega) (by omega) (by omega) ?_; intro g cg w3 hown hd1' hd2' hg1 hgl hgrow; have HOW2 := hide hown; have HG := hide hgrow; have HG2 := hide hg1; clear hown hgrow hg1)
          go_roundw
          case rel =>
            refine ⟨j + 1, _, cg, _, by omega, by go_num, rfl, hd1', HOW2, hide ?_, hide (HB1.out.grown HG.out hw1 (fun q hq => (own_lt HOW1.out q hq).1))⟩
            rw [HTK.out]
            refine HRV1.out.snoc HG.out HG2.out HXT.out hl2 HI2.out (fun _ => off_own (n := n) (c := c2) fun gg hq => ?_)
            intro e
            have h1 := HLOW.out gg hq
            have h2 := (own_lt HOW.out gg e.symm).2
            omega
          case measure => simp [intOf]; omega
        · obtain rfl : n = j := by omega
          have hRX := rows_of HRV.out HOW.out
          rw [List.take_of_length_le (by rw [HS.out.len]; exact Nat.le_refl _)] at hRX
          have HRD := hide (srounds_any Y n cy wr.heap.size L wr HS.out hRX)
          have HRW2 := hide (HRW.out.next HBL.out)
          have HIO2 := hide (HIO.out.next HBL.out)
          have HB2 := hide (HBR.out.trans (HBL.out.mono HBR.out.size))
          clear hRX HOW HRV HBL HBR HRW HIO
          go_wp2_with fail
          refine (HRD.out).mono ?_
          rintro e w4 ⟨Z, Dd, C, rfl, hdl, hIZ, hrt, hb4⟩
          have HB4 := hide (HB2.out.trans (hb4.mono HB2.out.size))
          have HCO := hide (Choose_yes X O n cx co w4.heap.size w4.heap.size (upp W) (up (List.range n)) w4 HLW.out (HRW2.out.next hb4) (HIO2.out.next hb4) HVW.out (ord_B (ord_range n)))
          rw [toNN_upp, toN_up] at HCO
          have HIZ := hide hIZ
          have HDL := hide hdl
          have HCH := hide (hrt.choose HSR.out.1 HSR.out.2)
          have HLC : Hid (W.length = n) := HSR.out.1
          clear hIZ hdl hrt hb4 HRD HRW2 HIO2 HB2
          go_wp2_with fail
          refine (HCO.out).mono ?_
          rintro e w5 ⟨P, cp, rfl, hIP, hb5⟩
          have HB5 := hide (HB4.out.trans (hb5.mono HB4.out.size))
          have HIZ5 := hide (HIZ.out.next hb5)
          have HIP := hide hIP
          clear hIP hb5 HIZ HB4 HCO
          go_wp2
          go_loopw [98] (fun i wx => ∃ j : Nat, j ≤ n ∧ i = .int .i64 (j : Nat) ∧ wx = w5) (fun i _ => n - (intOf i).toNat)
          case atStart => exact ⟨0, Nat.zero_le _, rfl, rfl⟩
          case round =>
            obtain ⟨j, hj, rfl, rfl⟩ := hrel
            by_cases hjn : j < n
            · have hjn' : (j : Int) < (n : Int) := by omega
              obtain ⟨b7, o7, x7, rfl, hb7, hc7, hx7⟩ := HIP.out.at_ (k := j) (by rw [up_length, chooseN, HLC.out, listF, List.length_map, List.length_range]; exact hjn)
              obtain ⟨hgn, hdg⟩ := HCH.out j hjn
              obtain ⟨gx, hgx⟩ : ∃ gx, chosen W (List.range n) j = gx := ⟨_, rfl⟩
              rw [hgx] at hgn hdg
              obtain rfl : x7 = (gx : Int) := by
                rw [← hx7.out, up_getD, chooseN, HLC.out, ← hgx]
                simp [listF, List.getD_eq_getElem?_getD, hjn]
              obtain ⟨b8, o8, x8, rfl, hb8, hc8, hx8⟩ := HIZ5.out.at_ (k := gx) (by rw [HDL.out]; exact hgn)
              obtain rfl : x8 = (j : Int) := hx8.out.symm.trans hdg
              have f0 : decide ((gx : Int) < 0) = false := decide_eq_false (by omega)
              have f1 : decide ((n : Int) ≤ (gx : Int)) = false := decide_eq_false (by omega)
              have f2 : ((j : Int) != (j : Int)) = false := by simp
              have f3 : (gx : Int) < (n : Int) := by omega
              clear hx7 hx8 hdg hgx
              go_wp2
              go_roundw
              case rel => exact ⟨j + 1, by omega, by go_num, by first | rfl | trivial⟩
              case measure => simp [intOf]; omega
            · obtain rfl : n = j := by omega
              go_wp2_with fail
              refine (HTR.out _).mono ?_
              rintro e w8 ⟨rfl, hb8⟩
              have HB8 := hide (HB5.out.trans (hb8.mono HB5.out.size))
              clear hb8
              go_wp2
              go_ret
              exact ⟨rfl, HB8.out⟩
end Go.Proofs.Ytgognkofnegobaa
