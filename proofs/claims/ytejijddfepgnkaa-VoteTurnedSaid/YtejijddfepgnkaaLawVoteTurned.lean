/-
  The walk of VoteTurned.
-/
import Derived.Test.YtejijddfepgnkaaTurnRow
import Derived.Test.YtejijddfepgnkaaTurnValid
import Derived.Test.YtejijddfepgnkaaFewBlks
import Derived.Test.YtejijddfepgnkaaVoteBase
import Derived.Test.YtejijddfepgnkaaMarginsApi
import Derived.Test.YtejijddfepgnkaaMatRead
import Derived.Test.YtejijddfepgnkaaStrPlain
namespace Go.Proofs.Ytejijddfepgnkaa
open Go.RowKit
set_option linter.unusedVariables false
set_option linter.unusedSimpArgs false


theorem upp_rev (W : List (List Nat)) : (upp W).map List.reverse = upp (W.map List.reverse) := by
  simp only [upp, List.map_map]
  apply List.map_congr_left
  intro l _
  show (List.map _ l).reverse = List.map _ l.reverse
  rw [List.map_reverse]
theorem toN_rev (l : List Int) : toN l.reverse = (toN l).reverse := by simp [toN]
set_option maxRecDepth 100000 in
set_option maxHeartbeats 3200000 in
theorem voteTurned_any (A : Option Addr) (n c : Nat) (L : List (List Int)) (X : Option Addr) (m cm : Nat) (l : List Int) (w : World) (hn : L.length = n) (hlen : n ≤ 9223372036854775807) (hrow : ∀ l ∈ L, l.length ≤ 9223372036854775807) (hA : RowsA w w.heap.size A L)
    (hm : l.length = m) (hmc : m ≤ cm) (hlm : m ≤ 9223372036854775807) (hX : IntsA w w.heap.size X l) :
    Calls Try.prog 5 #[.slice A n c, .slice X m cm] w fun e w' => e = .returned (.bool true) ∧ Below w.heap.size w w' := by
  obtain ⟨q, hq⟩ : ∃ q, (fewV L).length = q := ⟨_, rfl⟩
  obtain ⟨q2, hq2⟩ : ∃ q2, (l.take 11).length = q2 := ⟨_, rfl⟩
  have HFE := hide (vew_in (c := c) hn hlen hrow hq hA)
  have HLI := hide (vlist_in hm hmc hlm hq2 hX)
  have hq211 : q2 ≤ 11 := by rw [← hq2, List.length_take]; omega
  have HQ := hide hq
  have hq11 : q ≤ 11 := by rw [← hq]; simp [fewV]; omega
  have HVR := hide (vew_rows L)
  have HFB : Hid (∀ w', Below w.heap.size w w' → Calls Try.prog 21 #[.slice A n c] w' fun e w'' => ∃ A' c' vs blk lim, e = .returned (.slice A' q c') ∧ q ≤ c' ∧ w''.ownsRow w'.heap.size 23 1 (.slice A' q c') q vs ∧ RowBlks w'' w'.heap.size (Value.slice A' q c').ownBlock vs (fewV L) blk lim ∧ Below w'.heap.size w' w'') := fun w' hw' => by
    rw [← hq]; exact few_blks A n c w.heap.size L w' hn hlen hrow (hA.below hw')
  have HLO : Hid (∀ w', Below w.heap.size w w' → Calls Try.prog 25 #[.slice X m cm] w' fun e w'' => ∃ A' c', e = .returned (.slice A' q2 c') ∧ q2 ≤ c' ∧ IntsA w'' w''.heap.size A' (l.take 11) ∧ w''.ownsRow w'.heap.size 3 1 (.slice A' q2 c') q2 ((l.take 11).map (Value.int .i64)) ∧ Below w'.heap.size w' w'') := fun w' hw' => by
    rw [← hq2]
    exact (list_own X m cm w.heap.size l w' hm hmc hlm (hX.below hw')).mono fun e w'' ⟨A', c', h1, h2, h3, h4, h5⟩ => ⟨A', c', h1, h2, h3, h5, h4⟩
  have hq2' := hq2
  have HQ2 := hide hq2'
  clear hq2'
  cases hv : votesB L
  · have HMN : Hid (∀ A' c' w1, RowsA w1 w1.heap.size A' (fewV L) → Calls Try.prog 33 #[.slice A' q c'] w1 fun e w' => e = .returned (.tuple #[.slice none 0 0, .int .i64 2]) ∧ Below w1.heap.size w1 w') := fun A' c' w1 h => Margins_no A' q c' (fewV L) w1 hq (by rw [← hq]; exact vew_len L) (vew_rows L) h (by rw [vew_valid]; exact hv)
    have HMN2 : Hid (∀ A' c' w1, RowsA w1 w1.heap.size A' ((fewV L).map List.reverse) → Calls Try.prog 33 #[.slice A' q c'] w1 fun e w' => e = .returned (.tuple #[.slice none 0 0, .int .i64 2]) ∧ Below w1.heap.size w1 w') := fun A' c' w1 h => Margins_no A' q c' ((fewV L).map List.reverse) w1 (by rw [List.length_map, hq]) (by rw [← hq]; exact vew_len L) (fun r hr => by
      obtain ⟨x, hx, rfl⟩ := List.mem_map.1 hr
      rw [List.length_reverse]; exact vew_rows L x hx) h (by rw [votesB_rev, vew_valid]; exact hv)
    clear hv hrow hn hA hq hm hX hq2
    go_enter Try.func5, Try.ntmps5
    have hb := Below.refl w.heap.size w
    go_wp2_with fail
    refine (HFE.out _ hb).mono ?_
    rintro e w1 ⟨A1, c1, rfl, hq1, hR1, hbn⟩
    replace hb := hb.trans (hbn.mono hb.size)
    clear hbn
    go_wp2_with fail
    refine (HMN.out _ _ _ hR1).mono ?_
    rintro e w2 ⟨rfl, hbn⟩
    replace hR1 := hR1.next hbn
    replace hb := hb.trans (hbn.mono hb.size)
    clear hbn
    clear hR1
    obtain ⟨wa, hwa⟩ : ∃ wa : World, wa = w2 := ⟨_, rfl⟩
    subst hwa
    have HB0 := hide hb
    clear hb
    have hb := Below.refl wa.heap.size wa
    go_wp2_with fail
    refine (HFB.out _ (HB0.out.trans (hb.mono HB0.out.size))).mono ?_
    rintro e w3 ⟨A2, c2, vs, blk, lim, rfl, hq4, hOW, hRB, hbn⟩
    replace hb := hb.trans (hbn.mono hb.size)
    clear hbn
    obtain ⟨wb, hwb⟩ : ∃ wb : World, wb = w3 := ⟨_, rfl⟩
    subst hwb
    have HSZ := hide hb.size
    have HOWb := hide hOW
    have HRBb := hide hRB
    clear hOW hRB
    go_wp2_with fail
    refine (HLO.out _ (HB0.out.trans (hb.mono HB0.out.size))).mono ?_
    rintro e w4 ⟨A3, c3, rfl, hc3, hIB, hO3, hbn⟩
    replace hb := hb.trans (hbn.mono hb.size)
    have HBb := hide hbn
    clear hbn
    obtain ⟨w0, hw0⟩ : ∃ w0 : World, w0 = w4 := ⟨_, rfl⟩
    subst hw0
    have HOW := hide (own_keep HOWb.out HBb.out)
    have HRB := hide (HRBb.out.keep HBb.out.size (fun k hk _ => HBb.out.block k hk))
    have HLIM : Hid (lim ≤ wb.heap.size) := HRBb.out.lim_le
    have HGB : Hid (∀ g, (Value.slice A2 q c2).ownBlock = some g → g < wb.heap.size) := fun g hg => (own_lt HOWb.out g hg).2
    have HIB := hide hIB
    have HO3 := hide hO3
    have HB := hide hb
    clear hb hIB hO3
    go_wp2_with fail
    go_loopw [29] (fun i wr => ∃ j : Nat, j ≤ q ∧ i = .int .i64 j ∧ Turned w0 wr (fewV L) blk j) (fun i _ => q - (intOf i).toNat)
    case atStart => exact ⟨0, Nat.zero_le _, rfl, Turned.zero _ _ _⟩
    case round =>
      obtain ⟨j, hj, rfl, hT⟩ := hrel
      have HT := hide hT
      clear hT
      by_cases hlt : j < q
      · obtain ⟨g, o, A', n', c', rfl, hg, hcell, hnn, hle, hown⟩ := HT.out.at_ HOW.out HRB.out HQ.out hlt
        have hsz := HT.out.size
        rcases Nat.eq_zero_or_pos n' with rfl | hpos
        · clear hown
          have HRV : Hid (Calls Try.prog 34 #[.slice A' 0 c'] wr fun e w' => e = .returned (.tuple #[]) ∧ wr = w') := (reverse_empty A' c' wr).mono fun e w' h => ⟨h.1, h.2.symm⟩
          go_wp2_with (go_at_call 34; refine (HRV.out).mono ?_; rintro e w' ⟨rfl, rfl⟩)
          go_roundw
          case rel => exact ⟨j + 1, by omega, by go_num, HT.out.empty hnn.out⟩
          case measure => simp [intOf]; omega
        · obtain ⟨rfl, hbl, ⟨cu, t, hcu⟩, hI⟩ := hown hpos
          have HRV := hide (reverse_any (blk j) 0 n' c' ((fewV L).getD j []) wr hnn.out (by rw [← hnn.out]; exact HVR.out _ (getD_mem (by rw [HQ.out]; exact hlt))) hI (fun o => blk_free hcu o) hbl)
          clear hI hcu
          go_wp2_with (go_at_call 34; refine (HRV.out).mono ?_; rintro e w9 ⟨rfl, hI9, hO9, hs9⟩; have HI9 := hide hI9; have HO9 := hide hO9; have HS9 := hide hs9; clear hI9 hO9 hs9)
          go_roundw
          case rel => exact ⟨j + 1, by omega, by go_num, HT.out.step HRB.out (by rw [HQ.out]; exact hlt) (by rw [hnn.out]; exact hpos) HI9.out HO9.out HS9.out⟩
          case measure => simp [intOf]; omega
      · obtain rfl : q = j := by omega
        have HRR := hide (HT.out.rowsB HOW.out HRB.out HQ.out HLIM.out HGB.out)
        have HBW := hide (HT.out.below HRB.out HB.out.size (by rw [HQ.out]; exact Nat.le_refl _))
        have HCB := hide (turn_back HT.out HRB.out (by rw [HQ.out]; exact Nat.le_refl _) HLIM.out HQ2.out (by omega) HIB.out HO3.out)
        have hb := HB.out.trans HBW.out
        clear HT
        go_wp2_with fail
        refine (HCB.out c3).mono ?_
        rintro e w9 ⟨rfl, hIB, hbn⟩
        have hR2 := HRR.out.below hbn
        replace hR2 := hR2.top
        replace hb := hb.trans (hbn.mono HSZ.out)
        clear hbn
        go_wp2_with fail
        refine (HMN2.out _ _ _ hR2).mono ?_
        rintro e w21 ⟨rfl, hbn⟩
        replace hR2 := hR2.next hbn
        replace hIB := hIB.next hbn
        replace hb := hb.trans (hbn.mono hb.size)
        clear hbn
        go_wp2_with fail
        refine (awake_any _).mono ?_
        rintro e w22 ⟨rfl, hbn⟩
        replace hR2 := hR2.next hbn
        replace hIB := hIB.next hbn
        replace hb := hb.trans (hbn.mono hb.size)
        clear hbn
        go_wp2
        go_ret
        exact ⟨rfl, HB0.out.trans (hb.mono HB0.out.size)⟩
  · have hqn : q = n := by rw [← hq, vew_same hv, hn]
    subst hqn
    rw [vew_same hv] at HFE HFB HVR HQ
    obtain ⟨k, W, hW, -⟩ := votes_of hv hn
    have hk5 := hW.ok.nle
    have hv9 := hW.ok.le
    have hWl : W.length = q := hW.ok.len
    have hWo : ∀ l ∈ W, Ord l k := fun l hl => by
      obtain ⟨i, hi, rfl⟩ := List.getElem_of_mem hl
      have := hW.ok.rows i (by rw [← hWl]; exact hi)
      rwa [List.getD_eq_getElem?_getD, List.getElem?_eq_getElem hi] at this
    have hUR : L.map List.reverse = upp (W.map List.reverse) := by rw [← hW.eq]; exact upp_rev W
    have hOR := bok_rev hW.ok
    have hVR : votesB (upp (W.map List.reverse)) = true := votes_B hOR
    have HMY : Hid (∀ A' c' w1, RowsA w1 w1.heap.size A' L → Calls Try.prog 33 #[.slice A' q c'] w1 fun e w' => ∃ X c', e = .returned (.tuple #[.slice X k c', .int .i64 0]) ∧ k ≤ c' ∧ RowsA w' w'.heap.size X (rowsZ (margM W) k) ∧ Below w1.heap.size w1 w') := fun A' c' w1 h => Margins_yes A' q k c' W w1 hW.ok (by rw [hW.eq]; exact h) hW.valid
    have HMY2 : Hid (∀ A' c' w1, RowsA w1 w1.heap.size A' (L.map List.reverse) → Calls Try.prog 33 #[.slice A' q c'] w1 fun e w' => ∃ X c', e = .returned (.tuple #[.slice X k c', .int .i64 0]) ∧ k ≤ c' ∧ RowsA w' w'.heap.size X (rowsZ (margM (W.map List.reverse)) k) ∧ Below w1.heap.size w1 w') := fun A' c' w1 h => Margins_yes A' q k c' (W.map List.reverse) w1 hOR (by rw [← hUR]; exact h) hVR
    obtain ⟨x0, e0, HD1, HD2⟩ : ∃ x0 e0 : Int, Hid (∀ A' c' X' cx w1, RowsA w1 w1.heap.size A' (L.map List.reverse) → q2 ≤ cx → IntsA w1 w1.heap.size X' (l.take 11) → Calls Try.prog 27 #[.slice A' q c', .slice X' q2 cx] w1 fun e w' => e = .returned (.tuple #[.int .i64 x0, .int .i64 e0]) ∧ Below w1.heap.size w1 w') ∧
        Hid (∀ A' c' X' cx w1, RowsA w1 w1.heap.size A' L → q2 ≤ cx → IntsA w1 w1.heap.size X' (l.take 11).reverse → Calls Try.prog 27 #[.slice A' q c', .slice X' q2 cx] w1 fun e w' => e = .returned (.tuple #[.int .i64 x0, .int .i64 e0]) ∧ Below w1.heap.size w1 w') := by
      have h1 := fun A' c' X' cx w1 (h : RowsA w1 w1.heap.size A' (L.map List.reverse)) (h2 : q2 ≤ cx) (h3 : IntsA w1 w1.heap.size X' (l.take 11)) => Disagreement_yes A' X' q k c' q2 cx (W.map List.reverse) (l.take 11) w1 hOR (by rw [← hUR]; exact h) hVR hq2 h2 (by omega) h3
      have h2 := fun A' c' X' cx w1 (h : RowsA w1 w1.heap.size A' L) (h2 : q2 ≤ cx) (h3 : IntsA w1 w1.heap.size X' (l.take 11).reverse) => Disagreement_yes A' X' q k c' q2 cx W (l.take 11).reverse w1 hW.ok (by rw [hW.eq]; exact h) hW.valid (by rw [List.length_reverse]; exact hq2) h2 (by omega) h3
      rw [ordB_rev] at h2
      cases ho : ordB (l.take 11) k with
      | true =>
        rw [ho] at h1 h2
        rw [toN_rev, ← dis_rev hWo (ord_of ho).2] at h2
        exact ⟨_, _, h1, h2⟩
      | false =>
        rw [ho] at h1 h2
        exact ⟨_, _, h1, h2⟩
    have HRA : Hid (∀ w1 B X, RowsA w1 B X (rowsZ (margM W) k) → ∀ a b, a < k → b < k → ∃ bx ox ba oa ca, X = some ⟨bx, ox, none⟩ ∧ bx < B ∧ w1.cell? ⟨bx, ox + a, none⟩ = some (.slice (some ⟨ba, oa, none⟩) k ca) ∧ ba < B ∧ w1.cell? ⟨ba, oa + b, none⟩ = some (.int .i64 (marg W a b))) := fun w1 B X h a b ha hb => by
      have := mat_read h ha hb
      rwa [margM_eq hW.ok ha hb] at this
    have HRV2 : Hid (∀ w1 B X, RowsA w1 B X (rowsZ (margM (W.map List.reverse)) k) → ∀ a b, a < k → b < k → ∃ bx ox ba oa ca, X = some ⟨bx, ox, none⟩ ∧ bx < B ∧ w1.cell? ⟨bx, ox + a, none⟩ = some (.slice (some ⟨ba, oa, none⟩) k ca) ∧ ba < B ∧ w1.cell? ⟨ba, oa + b, none⟩ = some (.int .i64 (- marg W a b))) := fun w1 B X h a b ha hb => by
      have := mat_read h ha hb
      rwa [margM_eq hOR ha hb, marg_rev hWo ha hb] at this
    have HAN : Hid (∀ a b, a < k → b < k → marg W b a = - marg W a b) := fun a b ha hb => by
      have := marg_anti hW.ok a b ha hb
      rw [margM_eq hW.ok ha hb, margM_eq hW.ok hb ha] at this
      omega
    have HBD : Hid (∀ a b, -9 ≤ marg W a b ∧ marg W a b ≤ 9) := fun a b => by have := marg_bd a b W; omega
    generalize margM W = M1 at *
    generalize margM (W.map List.reverse) = M2 at *
    clear hv hrow hn hA hq hm hX hq2 hW hUR hOR hVR hWo hWl
    go_enter Try.func5, Try.ntmps5
    have hb := Below.refl w.heap.size w
    go_wp2_with fail
    refine (HFE.out _ hb).mono ?_
    rintro e w1 ⟨A1, c1, rfl, hq1, hR1, hbn⟩
    replace hb := hb.trans (hbn.mono hb.size)
    clear hbn
    go_wp2_with fail
    refine (HMY.out _ _ _ hR1).mono ?_
    rintro e w2 ⟨X2, d2, rfl, hd2, hRW, hbn⟩
    replace hR1 := hR1.next hbn
    replace hb := hb.trans (hbn.mono hb.size)
    clear hbn
    clear hR1
    have HRW := hide hRW
    clear hRW
    obtain ⟨wa, hwa⟩ : ∃ wa : World, wa = w2 := ⟨_, rfl⟩
    subst hwa
    have HB0 := hide hb
    clear hb
    have hb := Below.refl wa.heap.size wa
    go_wp2_with fail
    refine (HFB.out _ (HB0.out.trans (hb.mono HB0.out.size))).mono ?_
    rintro e w3 ⟨A2, c2, vs, blk, lim, rfl, hq4, hOW, hRB, hbn⟩
    replace hb := hb.trans (hbn.mono hb.size)
    clear hbn
    obtain ⟨wb, hwb⟩ : ∃ wb : World, wb = w3 := ⟨_, rfl⟩
    subst hwb
    have HSZ := hide hb.size
    have HOWb := hide hOW
    have HRBb := hide hRB
    clear hOW hRB
    go_wp2_with fail
    refine (HLO.out _ (HB0.out.trans (hb.mono HB0.out.size))).mono ?_
    rintro e w4 ⟨A3, c3, rfl, hc3, hIB, hO3, hbn⟩
    replace hb := hb.trans (hbn.mono hb.size)
    have HBb := hide hbn
    clear hbn
    obtain ⟨w0, hw0⟩ : ∃ w0 : World, w0 = w4 := ⟨_, rfl⟩
    subst hw0
    have HOW := hide (own_keep HOWb.out HBb.out)
    have HRB := hide (HRBb.out.keep HBb.out.size (fun k hk _ => HBb.out.block k hk))
    have HLIM : Hid (lim ≤ wb.heap.size) := HRBb.out.lim_le
    have HGB : Hid (∀ g, (Value.slice A2 q c2).ownBlock = some g → g < wb.heap.size) := fun g hg => (own_lt HOWb.out g hg).2
    have HIB := hide hIB
    have HO3 := hide hO3
    have HB := hide hb
    clear hb hIB hO3
    go_wp2_with fail
    go_loopw [29] (fun i wr => ∃ j : Nat, j ≤ q ∧ i = .int .i64 j ∧ Turned w0 wr (L) blk j) (fun i _ => q - (intOf i).toNat)
    case atStart => exact ⟨0, Nat.zero_le _, rfl, Turned.zero _ _ _⟩
    case round =>
      obtain ⟨j, hj, rfl, hT⟩ := hrel
      have HT := hide hT
      clear hT
      by_cases hlt : j < q
      · obtain ⟨g, o, A', n', c', rfl, hg, hcell, hnn, hle, hown⟩ := HT.out.at_ HOW.out HRB.out HQ.out hlt
        have hsz := HT.out.size
        rcases Nat.eq_zero_or_pos n' with rfl | hpos
        · clear hown
          have HRV : Hid (Calls Try.prog 34 #[.slice A' 0 c'] wr fun e w' => e = .returned (.tuple #[]) ∧ wr = w') := (reverse_empty A' c' wr).mono fun e w' h => ⟨h.1, h.2.symm⟩
          go_wp2_with (go_at_call 34; refine (HRV.out).mono ?_; rintro e w' ⟨rfl, rfl⟩)
          go_roundw
          case rel => exact ⟨j + 1, by omega, by go_num, HT.out.empty hnn.out⟩
          case measure => simp [intOf]; omega
        · obtain ⟨rfl, hbl, ⟨cu, t, hcu⟩, hI⟩ := hown hpos
          have HRV := hide (reverse_any (blk j) 0 n' c' ((L).getD j []) wr hnn.out (by rw [← hnn.out]; exact HVR.out _ (getD_mem (by rw [HQ.out]; exact hlt))) hI (fun o => blk_free hcu o) hbl)
          clear hI hcu
          go_wp2_with (go_at_call 34; refine (HRV.out).mono ?_; rintro e w9 ⟨rfl, hI9, hO9, hs9⟩; have HI9 := hide hI9; have HO9 := hide hO9; have HS9 := hide hs9; clear hI9 hO9 hs9)
          go_roundw
          case rel => exact ⟨j + 1, by omega, by go_num, HT.out.step HRB.out (by rw [HQ.out]; exact hlt) (by rw [hnn.out]; exact hpos) HI9.out HO9.out HS9.out⟩
          case measure => simp [intOf]; omega
      · obtain rfl : q = j := by omega
        have HRR := hide (HT.out.rowsB HOW.out HRB.out HQ.out HLIM.out HGB.out)
        have HBW := hide (HT.out.below HRB.out HB.out.size (by rw [HQ.out]; exact Nat.le_refl _))
        have HCB := hide (turn_back HT.out HRB.out (by rw [HQ.out]; exact Nat.le_refl _) HLIM.out HQ2.out (by omega) HIB.out HO3.out)
        have hb := HB.out.trans HBW.out
        clear HT
        go_wp2_with fail
        refine (HCB.out c3).mono ?_
        rintro e w9 ⟨rfl, hIB, hbn⟩
        have hR2 := HRR.out.below hbn
        replace hR2 := hR2.top
        replace hb := hb.trans (hbn.mono HSZ.out)
        clear hbn
        go_wp2_with fail
        refine (HMY2.out _ _ _ hR2).mono ?_
        rintro e w21 ⟨X4, d4, rfl, hd4, hRX, hbn⟩
        replace hR2 := hR2.next hbn
        replace hIB := hIB.next hbn
        replace hb := hb.trans (hbn.mono hb.size)
        clear hbn
        obtain ⟨wz, hwz⟩ : ∃ wz : World, wz = w21 := ⟨_, rfl⟩
        subst hwz
        have HR2 := hide hR2
        have HIB2 := hide hIB
        have HRX := hide hRX
        have HBZ := hide hb
        have HRW2 := hide (HRW.out.below hb)
        have hbz := hb.size
        clear hR2 hIB hRX hb
        go_wp2_with fail
        go_loopw [60] (fun i wr => ∃ a : Nat, a ≤ k ∧ i = .int .i64 a ∧ Below wz.heap.size wz wr) (fun i _ => k - (intOf i).toNat)
        case atStart => exact ⟨0, Nat.zero_le _, rfl, Below.refl _ _⟩
        case round =>
          obtain ⟨a, ha, rfl, hbel⟩ := hrel
          have HB1 := hide hbel
          clear hbel
          by_cases hlt : a < k
          · go_wp2_with fail
            obtain ⟨wp, rfl⟩ : ∃ wp : World, wp = wr := ⟨_, rfl⟩
            go_loopw [65] (fun i wr => ∃ b : Nat, b ≤ k ∧ i = .int .i64 b ∧ Below wz.heap.size wz wr) (fun i _ => k - (intOf i).toNat)
            case atStart => exact ⟨0, Nat.zero_le _, rfl, HB1.out⟩
            case round =>
              obtain ⟨b, hbk, rfl, hbel⟩ := hrel
              have HB2 := hide hbel
              by_cases hltb : b < k
              · obtain ⟨bx, ox, xa, oa, ca, rfl, hbx, hc1, hxa, hm1⟩ := HRA.out wr wz.heap.size X2 ((HRW2.out.more hbz).below hbel) a b hlt hltb
                obtain ⟨bx2, ox2, xb, oc, cc, hX2, hbx2, hc2, hxb, hm2⟩ := HRA.out wr wz.heap.size _ ((HRW2.out.more hbz).below hbel) b a hltb hlt
                injection hX2 with hX2; injection hX2 with e1 e2
                subst e1; subst e2
                obtain ⟨by_, oy, ya, ob, cb, rfl, hby, hc3, hya, hm3⟩ := HRV2.out wr wz.heap.size X4 (HRX.out.below hbel) a b hlt hltb
                rw [HAN.out a b hlt hltb] at hm2
                obtain ⟨hmm1, hmm2⟩ := HBD.out a b
                generalize marg W a b = mm at *
                have hzz := hbel.size
                have hwm : IntKind.i64.wrap mm = mm := by rw [IntKind.wrap_i64]; omega
                have l1 : bx < wr.heap.size := by omega
                have l2 : xa < wr.heap.size := by omega
                have l3 : by_ < wr.heap.size := by omega
                have l4 : ya < wr.heap.size := by omega
                have l5 : xb < wr.heap.size := by omega
                clear hbel
                go_wp2_with fail
                refine wp_region_below (by kernel_rfl) (by kernel_rfl) ?_
                refine wpQuiet_val' (.slice (some ⟨bx, ox, none⟩) k d2) (by rfl) (fun w' hw' => by go_simp) ?_
                simp only [put_lit, List.set_cons_succ, List.set_cons_zero]
                refine wpQuiet_val' (.int .i64 (a : Nat)) (by rfl) (fun w' hw' => by go_simp) ?_
                simp only [put_lit, List.set_cons_succ, List.set_cons_zero]
                refine wpQuiet_val' (.pointer (some ⟨bx, ox + a, none⟩)) (by rfl) (fun w' hw' => by go_simp) ?_
                simp only [put_lit, List.set_cons_succ, List.set_cons_zero]
                refine wpQuiet_val' (.slice (some ⟨xa, oa, none⟩) k ca) (by rfl) (fun w' hw' => by have e0 := (hw'.cell (p := ⟨bx, ox + a, none⟩) l1).trans hc1; go_simp) ?_
                simp only [put_lit, List.set_cons_succ, List.set_cons_zero]
                refine wpQuiet_val' (.int .i64 (b : Nat)) (by rfl) (fun w' hw' => by go_simp) ?_
                simp only [put_lit, List.set_cons_succ, List.set_cons_zero]
                refine wpQuiet_val' (.pointer (some ⟨xa, oa + b, none⟩)) (by rfl) (fun w' hw' => by go_simp) ?_
                simp only [put_lit, List.set_cons_succ, List.set_cons_zero]
                refine wpQuiet_val' (.int .i64 mm) (by rfl) (fun w' hw' => by have e0 := (hw'.cell (p := ⟨xa, oa + b, none⟩) l2).trans hm1; go_simp) ?_
                simp only [put_lit, List.set_cons_succ, List.set_cons_zero]
                refine wpQuiet_val' (.slice (some ⟨by_, oy, none⟩) k d4) (by rfl) (fun w' hw' => by go_simp) ?_
                simp only [put_lit, List.set_cons_succ, List.set_cons_zero]
                refine wpQuiet_val' (.int .i64 (a : Nat)) (by rfl) (fun w' hw' => by go_simp) ?_
                simp only [put_lit, List.set_cons_succ, List.set_cons_zero]
                refine wpQuiet_val' (.pointer (some ⟨by_, oy + a, none⟩)) (by rfl) (fun w' hw' => by go_simp) ?_
                simp only [put_lit, List.set_cons_succ, List.set_cons_zero]
                refine wpQuiet_val' (.slice (some ⟨ya, ob, none⟩) k cb) (by rfl) (fun w' hw' => by have e0 := (hw'.cell (p := ⟨by_, oy + a, none⟩) l3).trans hc3; go_simp) ?_
                simp only [put_lit, List.set_cons_succ, List.set_cons_zero]
                refine wpQuiet_val' (.int .i64 (b : Nat)) (by rfl) (fun w' hw' => by go_simp) ?_
                simp only [put_lit, List.set_cons_succ, List.set_cons_zero]
                refine wpQuiet_val' (.pointer (some ⟨ya, ob + b, none⟩)) (by rfl) (fun w' hw' => by go_simp) ?_
                simp only [put_lit, List.set_cons_succ, List.set_cons_zero]
                refine wpQuiet_val' (.int .i64 (-mm)) (by rfl) (fun w' hw' => by have e0 := (hw'.cell (p := ⟨ya, ob + b, none⟩) l4).trans hm3; go_simp) ?_
                simp only [put_lit, List.set_cons_succ, List.set_cons_zero]
                refine wpQuiet_val' (.int .i64 mm) (by rfl) (fun w' hw' => by go_simp) ?_
                simp only [put_lit, List.set_cons_succ, List.set_cons_zero]
                refine wpQuiet_val' (.bool false) (by rfl) (fun w' hw' => by go_simp) ?_
                simp only [put_lit, List.set_cons_succ, List.set_cons_zero]
                refine wpQuiet_val' (.bool false) (by rfl) (fun w' hw' => by go_simp) ?_
                simp only [put_lit, List.set_cons_succ, List.set_cons_zero]
                refine wpQuiet_val' (.slice (some ⟨bx, ox, none⟩) k d2) (by rfl) (fun w' hw' => by go_simp) ?_
                simp only [put_lit, List.set_cons_succ, List.set_cons_zero]
                refine wpQuiet_val' (.int .i64 (a : Nat)) (by rfl) (fun w' hw' => by go_simp) ?_
                simp only [put_lit, List.set_cons_succ, List.set_cons_zero]
                refine wpQuiet_val' (.pointer (some ⟨bx, ox + a, none⟩)) (by rfl) (fun w' hw' => by go_simp) ?_
                simp only [put_lit, List.set_cons_succ, List.set_cons_zero]
                refine wpQuiet_val' (.slice (some ⟨xa, oa, none⟩) k ca) (by rfl) (fun w' hw' => by have e0 := (hw'.cell (p := ⟨bx, ox + a, none⟩) l1).trans hc1; go_simp) ?_
                simp only [put_lit, List.set_cons_succ, List.set_cons_zero]
                refine wpQuiet_val' (.int .i64 (b : Nat)) (by rfl) (fun w' hw' => by go_simp) ?_
                simp only [put_lit, List.set_cons_succ, List.set_cons_zero]
                refine wpQuiet_val' (.pointer (some ⟨xa, oa + b, none⟩)) (by rfl) (fun w' hw' => by go_simp) ?_
                simp only [put_lit, List.set_cons_succ, List.set_cons_zero]
                refine wpQuiet_val' (.int .i64 mm) (by rfl) (fun w' hw' => by have e0 := (hw'.cell (p := ⟨xa, oa + b, none⟩) l2).trans hm1; go_simp) ?_
                simp only [put_lit, List.set_cons_succ, List.set_cons_zero]
                refine wpQuiet_val' (.slice (some ⟨bx, ox, none⟩) k d2) (by rfl) (fun w' hw' => by go_simp) ?_
                simp only [put_lit, List.set_cons_succ, List.set_cons_zero]
                refine wpQuiet_val' (.int .i64 (b : Nat)) (by rfl) (fun w' hw' => by go_simp) ?_
                simp only [put_lit, List.set_cons_succ, List.set_cons_zero]
                refine wpQuiet_val' (.pointer (some ⟨bx, ox + b, none⟩)) (by rfl) (fun w' hw' => by go_simp) ?_
                simp only [put_lit, List.set_cons_succ, List.set_cons_zero]
                refine wpQuiet_val' (.slice (some ⟨xb, oc, none⟩) k cc) (by rfl) (fun w' hw' => by have e0 := (hw'.cell (p := ⟨bx, ox + b, none⟩) l1).trans hc2; go_simp) ?_
                simp only [put_lit, List.set_cons_succ, List.set_cons_zero]
                refine wpQuiet_val' (.int .i64 (a : Nat)) (by rfl) (fun w' hw' => by go_simp) ?_
                simp only [put_lit, List.set_cons_succ, List.set_cons_zero]
                refine wpQuiet_val' (.pointer (some ⟨xb, oc + a, none⟩)) (by rfl) (fun w' hw' => by go_simp) ?_
                simp only [put_lit, List.set_cons_succ, List.set_cons_zero]
                refine wpQuiet_val' (.int .i64 (-mm)) (by rfl) (fun w' hw' => by have e0 := (hw'.cell (p := ⟨xb, oc + a, none⟩) l5).trans hm2; go_simp) ?_
                simp only [put_lit, List.set_cons_succ, List.set_cons_zero]
                refine wpQuiet_val' (.int .i64 mm) (by rfl) (fun w' hw' => by go_simp) ?_
                simp only [put_lit, List.set_cons_succ, List.set_cons_zero]
                refine wpQuiet_val' (.bool false) (by rfl) (fun w' hw' => by go_simp) ?_
                simp only [put_lit, List.set_cons_succ, List.set_cons_zero]
                refine wpQuiet_val' (.bool false) (by rfl) (fun w' hw' => by go_simp) ?_
                simp only [put_lit, List.set_cons_succ, List.set_cons_zero]
                refine wpQuiet_nil ?_
                intro w9 hb9
                have HB9 := hide (HB2.out.trans (hb9.mono hzz))
                clear hb9
                go_wp2
                go_roundw
                case rel => exact ⟨b + 1, by omega, by go_num, HB9.out⟩
                case measure => simp [intOf]; omega
              · obtain rfl : k = b := by omega
                clear hbel
                go_wp2
                go_roundw
                case rel => exact ⟨a + 1, by omega, by go_num, HB2.out⟩
                case measure => simp [intOf]; omega
          · obtain rfl : k = a := by omega
            have hR2 := HR2.out.next HB1.out
            have hIB := HIB2.out.next HB1.out
            have hb := HBZ.out.trans (HB1.out.mono hbz)
            go_wp2_with fail
            refine (HLI.out _ (HB0.out.trans (hb.mono HB0.out.size))).mono ?_
            rintro e w41 ⟨A6, c6, rfl, hc6, hI6, hbn⟩
            replace hR2 := hR2.next hbn
            replace hIB := hIB.next hbn
            replace hb := hb.trans (hbn.mono hb.size)
            clear hbn
            go_wp2_with fail
            refine (HD1.out _ _ _ _ _ hR2 hc6 hI6).mono ?_
            rintro e w42 ⟨rfl, hbn⟩
            replace hR2 := hR2.next hbn
            replace hIB := hIB.next hbn
            replace hI6 := hI6.next hbn
            replace hb := hb.trans (hbn.mono hb.size)
            clear hbn
            clear hI6 hR2
            go_wp2_with fail
            refine (HFE.out _ (HB0.out.trans (hb.mono HB0.out.size))).mono ?_
            rintro e w43 ⟨A7, c7, rfl, hc7, hR7, hbn⟩
            replace hIB := hIB.next hbn
            replace hb := hb.trans (hbn.mono hb.size)
            clear hbn
            go_wp2_with fail
            refine (HD2.out _ _ _ _ _ hR7 hc3 hIB).mono ?_
            rintro e w44 ⟨rfl, hbn⟩
            replace hIB := hIB.next hbn
            replace hR7 := hR7.next hbn
            replace hb := hb.trans (hbn.mono hb.size)
            clear hbn
            clear hR7 hIB
            go_wp2_with fail
            refine (awake_any _).mono ?_
            rintro e w45 ⟨rfl, hbn⟩
            replace hb := hb.trans (hbn.mono hb.size)
            clear hbn
            go_wp2
            go_ret
            exact ⟨rfl, HB0.out.trans (hb.mono HB0.out.size)⟩
end Go.Proofs.Ytejijddfepgnkaa
