/-
  The walk of SwapHonest.
-/
import Derived.Test.YtilnbiaabhdfgaaLawSwapLies
namespace Go.Proofs.Ytilnbiaabhdfgaa
open Go.RowKit
set_option linter.unusedVariables false
set_option linter.unusedSimpArgs false

theorem listF_set {W : List (List Nat)} {n i : Nat} (hW : WOk W n) {l : List Nat} : ∀ j, j < n → j ≠ i → (W.set i l).getD j [] = W.getD j [] := fun j hj hne => by rw [set_row hW.len l hj, if_neg hne]
theorem honest_trade {W : List (List Nat)} {n i : Nat} (hW : WOk W n) (hi : i < n) {l : List Nat} (hl : Ord l n) : place (W.getD i []) ((tradeN W).getD i 0) ≤ place (W.getD i []) ((tradeN (W.set i l)).getD i 0) := by
  have h2 := set_ok (i := i) hW hl
  rw [tradeN_at hW hi, tradeN_at h2 hi]
  exact hW.ttc.honest h2.ttc h2.rows hi (listF_set hW)
theorem firstN_at {W : List (List Nat)} {n i : Nat} (hW : WOk W n) (hi : i < n) : (firstN W).getD i 0 = chosen W (List.range n) i := by
  rw [firstN, hW.len, chooseN_at hW _ hi]
theorem honest_first {W : List (List Nat)} {n i : Nat} (hW : WOk W n) (hi : i < n) {l : List Nat} (hl : Ord l n) : place (W.getD i []) ((firstN W).getD i 0) ≤ place (W.getD i []) ((firstN (W.set i l)).getD i 0) := by
  have h2 := set_ok (i := i) hW hl
  rw [firstN_at hW hi, firstN_at h2 hi]
  exact (hW.cho (ord_range n)).honest (h2.cho (ord_range n)) hW.rows (place_ord (ord_range n)) hi (listF_set hW)
theorem lieN_none {f : List (List Nat) → List Nat} {W : List (List Nat)} {n i : Nat} (h : ∀ l, Ord l n → place (W.getD i []) ((f W).getD i 0) ≤ place (W.getD i []) ((f (W.set i l)).getD i 0)) : lieN f W n i = none := by
  rw [lieN, List.find?_eq_none]
  intro l hl
  have := h l (mem_ordsN.1 hl)
  simp only [lieP, decide_eq_true_eq]; omega
/-- What few copies, with another row laid into it. -/
theorem set_vals {w : World} {base n cz zb i cy : Nat} {e : TypeId} {us : List Value} {L : List (List Int)} {l : List Int} {Y : Option Addr} (hown : w.ownsRow base e 1 (.slice (some ⟨zb, 0, none⟩) n cz) n us) (hus : RowVals w (some zb) us L)
    (hY : IntsA w w.heap.size Y l) (hoff : ∀ b o, Y = some ⟨b, o, none⟩ → b ≠ zb) (hcy : l.length ≤ cy) :
    RowsA (w.setCell ⟨zb, i, none⟩ (.slice Y l.length cy)) w.heap.size (some ⟨zb, 0, none⟩) (L.set i l) := by
  rcases hown.2 with ⟨e1, _⟩ | ⟨g, cap, cur, hv, hg, hh, hc1, hc2, hc3, hc4⟩
  · cases e1
  · injection hv with e1 e2 e3
    injection e1 with e1
    injection e1 with e1 _ _
    subst e1; subst e3
    have hzl := lt_of_block hh
    have hln : L.length = n := by have := hown.1; have := hus.1; omega
    intro j hj
    rw [List.length_set, hln] at hj
    have hset := blk_set hh i (.slice Y l.length cy)
    have hcell : (w.setCell ⟨zb, i, none⟩ (.slice Y l.length cy)).cell? ⟨zb, 0 + j, none⟩ = (cur.setIfInBounds i (.slice Y l.length cy))[j]? := by rw [Nat.zero_add]; exact blk_cell hset j
    by_cases e : j = i
    · subst e
      have e2 : (L.set j l).getD j [] = l := by simp [List.getD_eq_getElem?_getD, hln, hj]
      rw [e2]
      refine ⟨zb, 0, Y, cy, rfl, hzl, by rw [hcell, Array.getElem?_setIfInBounds_self_of_lt (by omega)], hcy, fun k hk => ?_⟩
      obtain ⟨b, o, e3, hb, hc⟩ := hY k hk
      refine ⟨b, o, e3, hb, ?_⟩
      rw [World.cell?_of_block (w := w) (a := ⟨b, o + k, none⟩) (blk_far _ (hoff b o e3))]
      exact hc
    · have e2 : (L.set i l).getD j [] = L.getD j [] := by simp [List.getD_eq_getElem?_getD, List.getElem?_set_ne (fun h => e h.symm)]
      rw [e2]
      obtain ⟨A', c', e1, hle, hI, hO⟩ := hus.2 j (by omega)
      refine ⟨zb, 0, A', c', rfl, hzl, ?_, hle, ?_⟩
      · rw [hcell, Array.getElem?_setIfInBounds_ne (fun h => e h.symm), ← e1, ← hc4, List.getElem?_take, if_pos (by omega), Array.getElem?_toList]
      · intro k hk
        obtain ⟨b, o, e3, hb, hc⟩ := hI k hk
        refine ⟨b, o, e3, hb, ?_⟩
        rw [World.cell?_of_block (w := w) (a := ⟨b, o + k, none⟩) (blk_far _ (fun e4 => hO (by omega) b o e3 (congrArg some e4)))]
        exact hc

theorem modU (x : Int) {q : Nat} (hq : 1 ≤ q) (h5 : q ≤ 100) : ∃ i : Nat, i < q ∧ wrap64 ((IntKind.u64.wrap x).tmod (q : Int)) = (i : Int) := by
  have h0 : 0 ≤ IntKind.u64.wrap x := by
    simp only [IntKind.wrap]
    exact Int.emod_nonneg _ (by decide)
  generalize IntKind.u64.wrap x = y at *
  rw [Int.tmod_eq_emod_of_nonneg h0]
  have h1 := Int.emod_nonneg y (show (q : Int) ≠ 0 by omega)
  have h2 := Int.emod_lt_of_pos y (show (0 : Int) < (q : Int) by omega)
  refine ⟨(y % q).toNat, by omega, ?_⟩
  unfold wrap64; omega

theorem find_nil {w w' : World} {e : Ending} (h : FindRes none w e w') : ∃ O c, e = .returned (.tuple #[.slice O 0 c, .int .i64 4]) ∧ Below w.heap.size w w' := by
  obtain ⟨O, c, h1, h2, h3⟩ := h
  exact ⟨O, c, h1, h3⟩
theorem own_blk {w : World} {base n cz zb : Nat} {e : TypeId} {us : List Value} (hown : w.ownsRow base e 1 (.slice (some ⟨zb, 0, none⟩) n cz) n us) {i : Nat} (hi : i < n) : (∃ v, w.cell? ⟨zb, i, none⟩ = some v) ∧ w.frozen? ⟨zb, i, none⟩ = false := by
  rcases hown.2 with ⟨e1, _⟩ | ⟨g, cap, cur, hv, hg, hh, hc1, hc2, hc3, hc4⟩
  · cases e1
  · injection hv with e1 e2 e3
    injection e1 with e1
    injection e1 with e1 _ _
    subst e1; subst e3
    exact ⟨⟨_, (blk_cell hh i).trans (Array.getElem?_eq_getElem (by omega))⟩, blk_free hh i⟩
theorem toNN_set (L : List (List Int)) (i : Nat) (l : List Int) : toNN (L.set i l) = (toNN L).set i (toN l) := by simp [toNN, List.map_set]

set_option maxRecDepth 100000 in
set_option maxHeartbeats 3200000 in
theorem swapHonest_any (A : Option Addr) (n c : Nat) (L : List (List Int)) (x : Int) (X : Option Addr) (m cm : Nat) (l : List Int) (w : World) (hn : L.length = n) (hlen : n ≤ 9223372036854775807) (hrow : ∀ l ∈ L, l.length ≤ 9223372036854775807) (hA : RowsA w w.heap.size A L) (hx : -9223372036854775808 ≤ x ∧ x ≤ 9223372036854775807)
    (hm : l.length = m) (hmc : m ≤ cm) (hlm : m ≤ 9223372036854775807) (hX : IntsA w w.heap.size X l) :
    Calls Try.prog 16 #[.slice A n c, .int .i64 x, .slice X m cm] w fun e w' => e = .returned (.bool true) ∧ Below w.heap.size w w' := by
  obtain ⟨q, hq⟩ : ∃ q, (fewL L).length = q := ⟨_, rfl⟩
  have HFE := hide (few_in (c := c) hn hlen hrow hq hA)
  cases hv : validB L
  · have HT := hide (fewTrade_no hq hv)
    clear hv hrow hn hA hq hX hm
    go_enter Try.func16, Try.ntmps16
    have hb := Below.refl w.heap.size w
    go_wp2_with fail
    refine (HFE.out _ hb).mono ?_
    rintro e w1 ⟨A1, c1, rfl, hq1, hR1, hbn⟩
    replace hb := hb.trans (hbn.mono hb.size)
    clear hbn
    go_wp2_with fail
    refine (HT.out _ _ _ hR1).mono ?_
    rintro e w2 ⟨rfl, hbn⟩
    replace hR1 := hR1.next hbn
    replace hb := hb.trans (hbn.mono hb.size)
    clear hbn
    clear hR1
    go_wp2_with fail
    refine (awake_any _).mono ?_
    rintro e w3 ⟨rfl, hbn⟩
    replace hb := hb.trans (hbn.mono hb.size)
    clear hbn
    go_wp2
    go_ret
    exact ⟨rfl, hb⟩
  · have hqn : q = n := by rw [← hq, few_same hv, hn]
    subst hqn
    obtain ⟨W, hW⟩ : ∃ W, NatsOf L q W := ⟨_, nats_of hv hn⟩
    have HFO := hide (fun w' (hw' : Below w.heap.size w w') => few_own A q c w.heap.size L w' hn hlen hrow (hA.below hw'))
    rw [few_same hv] at HFE HFO
    rw [hn] at HFO
    have h5 := hW.ok.le
    have h1 := hW.ok.pos
    have HOT := hide (okTrade hW)
    have HA : Hid (RowsA w w.heap.size A (upp W)) := by rw [hW.eq]; exact hA
    obtain ⟨i, hin, hi⟩ := modU x h1 (show q ≤ 100 by omega)
    have HI := hide hi
    have HTL : Hid ((up (tradeN W)).length = q) := by show _ = _; rw [up_length]; exact (tradeN_ord hW.ok).len
    have HLT : Hid (∀ (w' : World) A' c', RowsA w' w'.heap.size A' L → Calls Try.prog 45 #[.slice A' q c', .int .i64 i, .int .i64 (0 : Nat)] w' (FindRes none w')) := fun w' A' c' h => by
      have := okLie (rule := 0) hW hin (by omega) (out_trading q) A' c' w' h
      rwa [lieN_none fun l hl => honest_trade hW.ok hin hl] at this
    have HLC : Hid (∀ (w' : World) A' c', RowsA w' w'.heap.size A' L → Calls Try.prog 45 #[.slice A' q c', .int .i64 i, .int .i64 (1 : Nat)] w' (FindRes none w')) := fun w' A' c' h => by
      have := okLie (rule := 1) hW hin (by omega) (out_choosing q) A' c' w' h
      rwa [lieN_none fun l hl => honest_first hW.ok hin hl] at this
    have HLI : Hid (∀ (w' : World) A' c' (k : Nat), k < 2 → RowsA w' w'.heap.size A' L → Calls Try.prog 45 #[.slice A' q c', .int .i64 i, .int .i64 k] w' (FindRes none w')) := fun w' A' c' k hk h => by
      rcases (by omega : k = 0 ∨ k = 1) with rfl | rfl
      · exact HLT.out w' A' c' h
      · exact HLC.out w' A' c' h
    obtain ⟨q2, hq2⟩ : ∃ q2, (l.take 7).length = q2 := ⟨_, rfl⟩
    have HLL := hide (fun w' (hw' : Below w.heap.size w w') => list_any X m cm w.heap.size l w' hm hmc hlm (hX.below hw'))
    rw [hq2] at HLL
    have HQ2 := hide hq2
    have HLN := hide hn
    have HVV := hide hv
    have HWN := hide hW
    have HAE : Hid (RowsA w w.heap.size A (upp W)) := HA.out
    clear hv hrow hn hA hq hW hi hq2 hm hX
    go_enter Try.func16, Try.ntmps16
    have hb := Below.refl w.heap.size w
    go_wp2_with fail
    refine (HFE.out _ hb).mono ?_
    rintro e w1 ⟨A1, c1, rfl, hq1, hR1, hbn⟩
    replace hb := hb.trans (hbn.mono hb.size)
    clear hbn
    go_wp2_with fail
    refine (HOT.out _ _ _ hR1).mono ?_
    rintro e w2 ⟨T2, k2, rfl, hT2, hbn⟩
    replace hR1 := hR1.next hbn
    replace hb := hb.trans (hbn.mono hb.size)
    clear hbn
    clear hR1
    go_wp2
    rw [HI.out]
    go_loopw [34] (fun s wr => ∃ k : Nat, k ≤ 2 ∧ s = .int .i64 k ∧ Below w.heap.size w wr ∧ IntsA wr wr.heap.size T2 (up (tradeN W))) (fun s _ => 2 - (intOf s).toNat)
    case atStart => exact ⟨0, by omega, rfl, hb, hT2⟩
    case round =>
      clear hb hT2
      obtain ⟨k, hk, rfl, hb, hT2⟩ := hrel
      by_cases hlt : k < 2
      · have hlt2 : decide ((k : Int) < 2) = true := decide_eq_true (by omega)
        go_wp2_with fail
        refine (HFE.out _ hb).mono ?_
        rintro e w21 ⟨A1, c1, rfl, hq1, hR1, hbn⟩
        replace hT2 := hT2.next hbn
        replace hb := hb.trans (hbn.mono hb.size)
        clear hbn
        go_wp2_with fail
        refine (HLI.out _ _ _ k hlt hR1).mono ?_
        intro e w22 hfr
        obtain ⟨O3, k3, rfl, hbn⟩ := find_nil hfr
        clear hfr
        replace hT2 := hT2.next hbn
        replace hR1 := hR1.next hbn
        replace hb := hb.trans (hbn.mono hb.size)
        clear hbn
        clear hR1
        go_wp2
        go_roundw
        case rel => exact ⟨k + 1, by omega, by go_num, hb, hT2⟩
        case measure => simp [intOf] <;> omega
      · obtain rfl : k = 2 := by omega
        have HBW := hide hb
        have HT2 := hide hT2
        go_wp2_with fail
        refine (HFO.out _ hb).mono ?_
        rintro e w31 ⟨Z, cz, vs, rfl, hcz, hown, hrv, hbn⟩
        have HB1 := hide hbn
        replace hT2 := hT2.next hbn
        replace hb := hb.trans (hbn.mono hb.size)
        clear hbn
        obtain ⟨zb, cz2, hZ, hzb, _, _, hzl⟩ := own_form hown (by omega)
        injection hZ with e1 _ e3
        subst e1; subst e3
        have HOW := hide hown
        have HRV := hide hrv
        clear hown hrv
        go_wp2_with fail
        refine (HLL.out _ hb).mono ?_
        rintro e w32 ⟨Y, cy, rfl, hcy, hY, hbn, hnew⟩
        have HNEW := hide hnew
        have HB2 := hide hbn
        clear hnew
        replace hT2 := hT2.next hbn
        replace hb := hb.trans (hbn.mono hb.size)
        clear hbn
        have hown2 := own_next HOW.out HB2.out
        have hrv2 := HRV.out.next HB2.out
        obtain ⟨⟨vz, kz⟩, kf⟩ := own_blk hown2 hin
        have hoff : ∀ b o, Y = some ⟨b, o, none⟩ → b ≠ zb := fun b o e => by have := HNEW.out b (by subst e; rfl); omega
        have hrows := set_vals (i := i) (cy := cy) hown2 hrv2 hY hoff (by rw [HQ2.out]; exact hcy)
        rw [HQ2.out] at hrows
        obtain ⟨w33, hw33⟩ : ∃ w33, w33 = w32.setCell ⟨zb, i, none⟩ (.slice Y q2 cy) := ⟨_, rfl⟩
        have hbr : Below wr.heap.size wr w33 := by subst hw33; exact (HB1.out.trans (HB2.out.mono HB1.out.size)).setCell (by show wr.heap.size ≤ zb; exact hzb) _
        have hT3 : IntsA w33 w33.heap.size T2 (up (tradeN W)) := HT2.out.next hbr
        have hb33 : Below w.heap.size w w33 := HBW.out.trans (hbr.mono HBW.out.size)
        have hrows2 : RowsA w33 w33.heap.size (some ⟨zb, 0, none⟩) (L.set i (l.take 7)) := by rw [hw33]; exact hrows.more (by simp [World.setCell])
        have HROW := hide hrows2
        have HW33 := hide hw33
        have hlen2 : (L.set i (l.take 7)).length = q := by rw [List.length_set]; exact HLN.out
        have hrow2 : ∀ r ∈ L.set i (l.take 7), r.length ≤ 9223372036854775807 := fun r hr => by
          rcases List.mem_or_eq_of_mem_set hr with h | h
          · have := few_rows L r (by rw [few_same HVV.out]; exact h); exact this
          · rw [h]; exact take_len l
        clear hrows hown2 hrv2 hoff hrows2 hb hT2 hY HOW HRV HNEW HB2 HB1 hbr HBW HT2
        cases hv2 : validB (L.set i (l.take 7))
        · have HTN := hide (Trade_no (some ⟨zb, 0, none⟩) q cz _ _ w33 hlen2 (by omega) hrow2 HROW.out hv2)
          rw [hw33] at HTN
          clear hrow2 hlen2 hv2 hT3
          go_wp2_with fail
          refine (HTN.out).mono ?_
          rintro e w40 ⟨rfl, hb40⟩
          rw [← hw33] at hb40
          have hb40' := hb33.trans (hb40.mono hb33.size)
          clear hb33 hb40
          go_wp2_with (go_at_call 21; refine (awake_any _).mono ?_; rintro e w41 ⟨rfl, hb41⟩)
          go_ret
          exact ⟨rfl, hb40'.trans (hb41.mono hb40'.size)⟩
        · have HTY := hide (Trade_yes (some ⟨zb, 0, none⟩) q cz _ _ w33 hlen2 HROW.out hv2)
          have hok2 : WOk (W.set i (toN (l.take 7))) q ∧ Ord (toN (l.take 7)) q := by
            obtain ⟨_, hok⟩ := valid_ok hv2
            rw [hlen2, toNN_set, HWN.out.toNN] at hok
            refine ⟨hok, ?_⟩
            have := hok.rows i hin
            rw [set_row HWN.out.ok.len _ hin, if_pos rfl] at this
            exact this
          rw [toNN_set, HWN.out.toNN, hw33] at HTY
          have hho := honest_trade HWN.out.ok hin hok2.2
          have HOK2 := hide hok2
          clear hrow2 hlen2 hv2 hok2
          go_wp2_with fail
          refine (HTY.out).mono ?_
          rintro e w40 ⟨U, ku, rfl, hU, hb40⟩
          rw [← hw33] at hb40
          have hb40' := hb33.trans (hb40.mono hb33.size)
          have hT4 := hT3.next hb40
          have HTO := hide (tradeN_ord HWN.out.ok)
          have HUO := hide (tradeN_ord HOK2.out.1)
          obtain ⟨b1, o1, x1, rfl, hb1, hc1, hx1⟩ := hT4.at_ (k := i) (by rw [up_length, HTO.out.len]; exact hin)
          obtain ⟨b2, o2, x2, rfl, hb2, hc2, hx2⟩ := hU.at_ (k := i) (by rw [up_length, HUO.out.len]; exact hin)
          obtain ⟨b3, o3, A3, n3, c3, rfl, hb3, hc3, hx3, hle3, hI3⟩ := (HAE.out.next hb40').at_ (k := i) (by rw [upp_length, HWN.out.ok.len]; exact hin)
          rw [upp_getD] at hI3 hx3
          have hri := HWN.out.ok.rows i hin
          obtain rfl : q = n3 := by have := hx3.out; rw [up_length, hri.len] at this; exact this
          have e1 := hx1.out
          have e2 := hx2.out
          rw [up_getD] at e1 e2
          have g1 := HTO.out.getD_lt hin
          have g2 := HUO.out.getD_lt hin
          generalize (tradeN W).getD i 0 = t at *
          generalize (tradeN (W.set i (toN (l.take 7)))).getD i 0 = u at *
          subst e1; subst e2
          have HC1 := hide (fun w' (hw' : Below w40.heap.size w40 w') => (index_any A3 q c3 _ (up (W.getD i [])) (t : Int) w' (by rw [up_length, hri.len]) (by omega) (hI3.below hw')).mono fun e w'' h => (show e = .returned (.int .i64 (place (W.getD i []) t)) ∧ Below w40.heap.size w40 w'' from ⟨by rw [h.1, idx_up_mem ((hri.mem t).2 g1)], by rw [← h.2]; exact hw'⟩))
          have HC2 := hide (fun w' (hw' : Below w40.heap.size w40 w') => (index_any A3 q c3 _ (up (W.getD i [])) (u : Int) w' (by rw [up_length, hri.len]) (by omega) (hI3.below hw')).mono fun e w'' h => (show e = .returned (.int .i64 (place (W.getD i []) u)) ∧ Below w40.heap.size w40 w'' from ⟨by rw [h.1, idx_up_mem ((hri.mem u).2 g2)], by rw [← h.2]; exact hw'⟩))
          have HAW := hide (fun w' (hw' : Below w40.heap.size w40 w') => (awake_any w').mono fun e w'' h => (show e = .returned (.bool true) ∧ Below w40.heap.size w40 w'' from ⟨h.1, hw'.trans (h.2.mono hw'.size)⟩))
          have hge : decide (((place (W.getD i []) t : Nat) : Int) ≤ ((place (W.getD i []) u : Nat) : Int)) = true := decide_eq_true (by omega)
          generalize place (W.getD i []) t = pt at *
          generalize place (W.getD i []) u = pu at *
          have hgn : decide (pt ≤ pu) = true := decide_eq_true hho
          have hin2 : (i : Int) < (q : Int) := by omega
          clear hx1 hx2 hx3 hri hI3 hT3 hT4 hU hb40 g1 g2
          go_upto_region 17 with (fail)
        
          refine wp_region_below (by kernel_rfl) (by kernel_rfl) ?_
          refine wpQuiet_val' (.slice (some ⟨b1, o1, none⟩) q k2) (by rfl) (fun w' hw' => by go_simp) ?_
          simp only [put_lit, List.set_cons_succ, List.set_cons_zero]
          refine wpQuiet_val' (.int .i64 q) (by rfl) (fun w' hw' => by go_simp) ?_
          simp only [put_lit, List.set_cons_succ, List.set_cons_zero]
          refine wpQuiet_val' (.slice (some ⟨b3, o3, none⟩) q c) (by rfl) (fun w' hw' => by go_simp) ?_
          simp only [put_lit, List.set_cons_succ, List.set_cons_zero]
          refine wpQuiet_val' (.int .i64 q) (by rfl) (fun w' hw' => by go_simp) ?_
          simp only [put_lit, List.set_cons_succ, List.set_cons_zero]
          refine wpQuiet_val' (.bool true) (by rfl) (fun w' hw' => by go_simp) ?_
          simp only [put_lit, List.set_cons_succ, List.set_cons_zero]
          refine wpQuiet_val' (.bool true) (by rfl) (fun w' hw' => by go_simp) ?_
          simp only [put_lit, List.set_cons_succ, List.set_cons_zero]
          refine wpQuiet_val' (.slice (some ⟨b2, o2, none⟩) q ku) (by rfl) (fun w' hw' => by go_simp) ?_
          simp only [put_lit, List.set_cons_succ, List.set_cons_zero]
          refine wpQuiet_val' (.int .i64 q) (by rfl) (fun w' hw' => by go_simp) ?_
          simp only [put_lit, List.set_cons_succ, List.set_cons_zero]
          refine wpQuiet_val' (.slice (some ⟨b3, o3, none⟩) q c) (by rfl) (fun w' hw' => by go_simp) ?_
          simp only [put_lit, List.set_cons_succ, List.set_cons_zero]
          refine wpQuiet_val' (.int .i64 q) (by rfl) (fun w' hw' => by go_simp) ?_
          simp only [put_lit, List.set_cons_succ, List.set_cons_zero]
          refine wpQuiet_val' (.bool true) (by rfl) (fun w' hw' => by go_simp) ?_
          simp only [put_lit, List.set_cons_succ, List.set_cons_zero]
          refine wpQuiet_val' (.bool true) (by rfl) (fun w' hw' => by go_simp) ?_
          simp only [put_lit, List.set_cons_succ, List.set_cons_zero]
          refine wpQuiet_val' (.bool true) (by rfl) (fun w' hw' => by go_simp) ?_
          simp only [put_lit, List.set_cons_succ, List.set_cons_zero]
          refine wpQuiet_val' (.slice (some ⟨b3, o3, none⟩) q c) (by rfl) (fun w' hw' => by go_simp) ?_
          simp only [put_lit, List.set_cons_succ, List.set_cons_zero]
          refine wpQuiet_val' (.int .i64 i) (by rfl) (fun w' hw' => by go_simp) ?_
          simp only [put_lit, List.set_cons_succ, List.set_cons_zero]
          refine wpQuiet_val' (.pointer (some ⟨b3, o3 + i, none⟩)) (by rfl) (fun w' hw' => by go_simp) ?_
          simp only [put_lit, List.set_cons_succ, List.set_cons_zero]
          refine wpQuiet_val' (.slice A3 q c3) (by rfl) (fun w' hw' => by have e0 := (hw'.cell (p := ⟨b3, o3 + i, none⟩) hb3).trans hc3; go_simp) ?_
          simp only [put_lit, List.set_cons_succ, List.set_cons_zero]
          refine wpQuiet_val' (.slice (some ⟨b2, o2, none⟩) q ku) (by rfl) (fun w' hw' => by go_simp) ?_
          simp only [put_lit, List.set_cons_succ, List.set_cons_zero]
          refine wpQuiet_val' (.int .i64 i) (by rfl) (fun w' hw' => by go_simp) ?_
          simp only [put_lit, List.set_cons_succ, List.set_cons_zero]
          refine wpQuiet_val' (.pointer (some ⟨b2, o2 + i, none⟩)) (by rfl) (fun w' hw' => by go_simp) ?_
          simp only [put_lit, List.set_cons_succ, List.set_cons_zero]
          refine wpQuiet_val' (.int .i64 u) (by rfl) (fun w' hw' => by have e0 := (hw'.cell (p := ⟨b2, o2 + i, none⟩) hb2).trans hc2; go_simp) ?_
          simp only [put_lit, List.set_cons_succ, List.set_cons_zero]
          refine wpQuiet_call' 22 #[.slice A3 q c3, .int .i64 u] (.int .i64 pu) (by rfl) (fun w' hw' => by go_simp) (HC2.out) ?_
          simp only [put_lit, List.set_cons_succ, List.set_cons_zero]
          refine wpQuiet_val' (.slice (some ⟨b3, o3, none⟩) q c) (by rfl) (fun w' hw' => by go_simp) ?_
          simp only [put_lit, List.set_cons_succ, List.set_cons_zero]
          refine wpQuiet_val' (.int .i64 i) (by rfl) (fun w' hw' => by go_simp) ?_
          simp only [put_lit, List.set_cons_succ, List.set_cons_zero]
          refine wpQuiet_val' (.pointer (some ⟨b3, o3 + i, none⟩)) (by rfl) (fun w' hw' => by go_simp) ?_
          simp only [put_lit, List.set_cons_succ, List.set_cons_zero]
          refine wpQuiet_val' (.slice A3 q c3) (by rfl) (fun w' hw' => by have e0 := (hw'.cell (p := ⟨b3, o3 + i, none⟩) hb3).trans hc3; go_simp) ?_
          simp only [put_lit, List.set_cons_succ, List.set_cons_zero]
          refine wpQuiet_val' (.slice (some ⟨b1, o1, none⟩) q k2) (by rfl) (fun w' hw' => by go_simp) ?_
          simp only [put_lit, List.set_cons_succ, List.set_cons_zero]
          refine wpQuiet_val' (.int .i64 i) (by rfl) (fun w' hw' => by go_simp) ?_
          simp only [put_lit, List.set_cons_succ, List.set_cons_zero]
          refine wpQuiet_val' (.pointer (some ⟨b1, o1 + i, none⟩)) (by rfl) (fun w' hw' => by go_simp) ?_
          simp only [put_lit, List.set_cons_succ, List.set_cons_zero]
          refine wpQuiet_val' (.int .i64 t) (by rfl) (fun w' hw' => by have e0 := (hw'.cell (p := ⟨b1, o1 + i, none⟩) hb1).trans hc1; go_simp) ?_
          simp only [put_lit, List.set_cons_succ, List.set_cons_zero]
          refine wpQuiet_call' 22 #[.slice A3 q c3, .int .i64 t] (.int .i64 pt) (by rfl) (fun w' hw' => by go_simp) (HC1.out) ?_
          simp only [put_lit, List.set_cons_succ, List.set_cons_zero]
          refine wpQuiet_val' (.bool true) (by rfl) (fun w' hw' => by go_simp) ?_
          simp only [put_lit, List.set_cons_succ, List.set_cons_zero]
          refine wpQuiet_val' (.bool true) (by rfl) (fun w' hw' => by go_simp) ?_
          simp only [put_lit, List.set_cons_succ, List.set_cons_zero]
          refine wpQuiet_val' (.bool true) (by rfl) (fun w' hw' => by go_simp) ?_
          simp only [put_lit, List.set_cons_succ, List.set_cons_zero]
          refine wpQuiet_call' 21 #[] (.bool true) (by rfl) (fun w' hw' => by go_simp) (HAW.out) ?_
          simp only [put_lit, List.set_cons_succ, List.set_cons_zero]
          refine wpQuiet_val' (.bool true) (by rfl) (fun w' hw' => by go_simp) ?_
          simp only [put_lit, List.set_cons_succ, List.set_cons_zero]
          refine wpQuiet_val' (.bool true) (by rfl) (fun w' hw' => by go_simp) ?_
          simp only [put_lit, List.set_cons_succ, List.set_cons_zero]
          refine wpQuiet_nil ?_
          intro w9 hb9
          go_wp2
          go_ret
          exact ⟨rfl, hb40'.trans (hb9.mono hb40'.size)⟩
end Go.Proofs.Ytilnbiaabhdfgaa
