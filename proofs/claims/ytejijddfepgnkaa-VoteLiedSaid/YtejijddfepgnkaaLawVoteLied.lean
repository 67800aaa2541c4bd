/-
  The walk of VoteLied.
-/
import Derived.Test.YtejijddfepgnkaaLieNo
import Derived.Test.YtejijddfepgnkaaVoteBase
namespace Go.Proofs.Ytejijddfepgnkaa
open Go.RowKit
set_option linter.unusedVariables false
set_option linter.unusedSimpArgs false

set_option maxRecDepth 100000 in
set_option maxHeartbeats 3200000 in
theorem voteLied_any (A : Option Addr) (n c : Nat) (L : List (List Int)) (x : Int) (w : World) (hn : L.length = n) (hlen : n ≤ 9223372036854775807) (hrow : ∀ l ∈ L, l.length ≤ 9223372036854775807) (hA : RowsA w w.heap.size A L) (hx : -9223372036854775808 ≤ x ∧ x ≤ 9223372036854775807) :
    Calls Try.prog 3 #[.slice A n c, .int .i64 x] w fun e w' => e = .returned (.bool true) ∧ Below w.heap.size w w' := by
  obtain ⟨q, hq⟩ : ∃ q, (fewV L).length = q := ⟨_, rfl⟩
  have HFE := hide (vew_in (c := c) hn hlen hrow hq hA)
  have HVA := hide (refvalid_in (c := c) hn hlen hrow hA)
  by_cases hbad : votesB L = false ∨ x < 0 ∨ 3 < x
  · have HLN : Hid (∀ A' c' w1, RowsA w1 w1.heap.size A' (fewV L) → Calls Try.prog 20 #[.slice A' q c', .int .i64 x] w1 fun e w' => e = .returned (.tuple #[.int .i64 0, .slice none 0 0, .int .i64 2]) ∧ Below w1.heap.size w1 w') := fun A' c' w1 h => Lie_no A' q c' x (fewV L) w1 hq (by rw [← hq]; exact vew_len L) (vew_rows L) h (by rw [vew_valid]; exact hbad)
    have HWN : Hid (∀ A' c' w1, RowsA w1 w1.heap.size A' (fewV L) → Calls Try.prog 22 #[.slice A' q c', .int .i64 x] w1 fun e w' => e = .returned (.tuple #[.int .i64 0, .int .i64 2]) ∧ Below w1.heap.size w1 w') := fun A' c' w1 h => WinN_no A' q c' x (fewV L) w1 hq (by rw [← hq]; exact vew_len L) (vew_rows L) h (by rw [vew_valid]; exact hbad)
    clear hbad hrow hn hA hq
    go_enter Try.func3, Try.ntmps3
    have hb := Below.refl w.heap.size w
    go_wp2_with fail
    refine (HFE.out _ hb).mono ?_
    rintro e w1 ⟨A1, c1, rfl, hq1, hR1, hbn⟩
    replace hb := hb.trans (hbn.mono hb.size)
    clear hbn
    go_wp2_with fail
    refine (HLN.out _ _ _ hR1).mono ?_
    rintro e w2 ⟨rfl, hbn⟩
    replace hR1 := hR1.next hbn
    replace hb := hb.trans (hbn.mono hb.size)
    clear hbn
    clear hR1
    go_wp2_with fail
    refine (HFE.out _ hb).mono ?_
    rintro e w3 ⟨A1, c1, rfl, hq1, hR1, hbn⟩
    replace hb := hb.trans (hbn.mono hb.size)
    clear hbn
    go_wp2_with fail
    refine (HWN.out _ _ _ hR1).mono ?_
    rintro e w4 ⟨rfl, hbn⟩
    replace hR1 := hR1.next hbn
    replace hb := hb.trans (hbn.mono hb.size)
    clear hbn
    clear hR1
    go_wp2_with fail
    refine (awake_any _).mono ?_
    rintro e w5 ⟨rfl, hbn⟩
    replace hb := hb.trans (hbn.mono hb.size)
    clear hbn
    go_wp2
    go_ret
    exact ⟨rfl, hb⟩
  · have hv : votesB L = true := by cases h : votesB L with | true => rfl | false => exact absurd (.inl h) hbad
    have hx0 : 0 ≤ x ∧ x ≤ 3 := by omega
    obtain ⟨r, rfl⟩ := Int.eq_ofNat_of_zero_le hx0.1
    have hr3 : r ≤ 3 := by omega
    rw [hv] at HVA
    have hqn : q = n := by rw [← hq, vew_same hv, hn]
    subst hqn
    rw [vew_same hv] at HFE
    obtain ⟨k, W, hW, -⟩ := votes_of hv hn
    have HLI : Hid (∀ A' c' w1, RowsA w1 w1.heap.size A' L → Calls Try.prog 20 #[.slice A' q c', .int .i64 (r : Nat)] w1 (LiePost W q k r w1)) := fun A' c' w1 h => Lie_yes A' q k c' r W w1 hr3 hW.ok hW.valid (by rw [hW.eq]; exact h)
    have HWI : Hid (∀ A' c' w1, RowsA w1 w1.heap.size A' L → Calls Try.prog 22 #[.slice A' q c', .int .i64 (r : Nat)] w1 fun e w' => e = .returned (.tuple #[.int .i64 (winN W q k r), .int .i64 0]) ∧ Below w1.heap.size w1 w') := fun A' c' w1 h => WinN_yes A' q k c' r W w1 hr3 hW.ok hW.valid (by rw [hW.eq]; exact h)
    cases hl : lieN W q k r with
    | none =>
      have HL2 : Hid (∀ A' c' w1, RowsA w1 w1.heap.size A' L → Calls Try.prog 20 #[.slice A' q c', .int .i64 (r : Nat)] w1 fun e w' => e = .returned (.tuple #[.int .i64 0, .slice none 0 0, .int .i64 4]) ∧ Below w1.heap.size w1 w') := fun A' c' w1 h => (HLI.out A' c' w1 h).mono fun e w' h9 => by
        have h1 := h9.2
        rw [hl] at h1
        exact ⟨h1, h9.1⟩
      clear hbad hrow hn hA hq hv hW hl HLI hx hx0
      go_enter Try.func3, Try.ntmps3
      have hb := Below.refl w.heap.size w
      go_wp2_with fail
      refine (HFE.out _ hb).mono ?_
      rintro e w1 ⟨A1, c1, rfl, hq1, hR1, hbn⟩
      replace hb := hb.trans (hbn.mono hb.size)
      clear hbn
      go_wp2_with fail
      refine (HL2.out _ _ _ hR1).mono ?_
      rintro e w2 ⟨rfl, hbn⟩
      replace hR1 := hR1.next hbn
      replace hb := hb.trans (hbn.mono hb.size)
      clear hbn
      clear hR1
      go_wp2_with fail
      refine (HFE.out _ hb).mono ?_
      rintro e w3 ⟨A1, c1, rfl, hq1, hR1, hbn⟩
      replace hb := hb.trans (hbn.mono hb.size)
      clear hbn
      go_wp2_with fail
      refine (HWI.out _ _ _ hR1).mono ?_
      rintro e w4 ⟨rfl, hbn⟩
      replace hR1 := hR1.next hbn
      replace hb := hb.trans (hbn.mono hb.size)
      clear hbn
      clear hR1
      go_wp2_with fail
      refine (awake_any _).mono ?_
      rintro e w5 ⟨rfl, hbn⟩
      replace hb := hb.trans (hbn.mono hb.size)
      clear hbn
      go_wp2
      go_ret
      exact ⟨rfl, hb⟩
    | some ix =>
      obtain ⟨i, x⟩ := ix
      have hsome : i < q ∧ Ord x k ∧ gains W q k r i x = true := by
        have h9 := HLI.out
        obtain ⟨n9, hg9⟩ : ∃ y, lieN W q k r = some y := ⟨_, hl⟩
        have h1 := hl
        rw [lieN, List.findSome?_eq_some_iff] at h1
        obtain ⟨l1, a, l2, h2, h3, h4⟩ := h1
        cases h5 : (ordsN k).find? (gains W q k r a) with
        | none => rw [h5] at h3; cases h3
        | some y =>
          rw [h5] at h3
          injection h3 with h3
          injection h3 with h6 h7
          subst h6; subst h7
          exact ⟨List.mem_range.1 (by rw [h2]; simp), mem_ordsN.1 (List.mem_of_find?_eq_some h5), List.find?_some h5⟩
      obtain ⟨hiq, hxo, hgx⟩ := hsome
      have HL2 : Hid (∀ A' c' w1, RowsA w1 w1.heap.size A' L → Calls Try.prog 20 #[.slice A' q c', .int .i64 (r : Nat)] w1 fun e w' => ∃ X cx, e = .returned (.tuple #[.int .i64 (i : Nat), .slice X k cx, .int .i64 0]) ∧ k ≤ cx ∧ IntsA w' w'.heap.size X (up x) ∧ Below w1.heap.size w1 w') := fun A' c' w1 h => (HLI.out A' c' w1 h).mono fun e w' h9 => by
        have h1 := h9.2
        rw [hl] at h1
        obtain ⟨X, cx, g1, _, _, _, g2, g3, _⟩ := h1
        exact ⟨X, cx, g1, g2, g3, h9.1⟩
      have hxl := hxo.len
      have XL := hide hxl
      have h11 : (up x).take 11 = up x := List.take_of_length_le (by rw [up_length, hxl]; have := hW.ok.nle; omega)
      have HLS : Hid (∀ X cx w1, k ≤ cx → IntsA w1 w1.heap.size X (up x) → Calls Try.prog 25 #[.slice X k cx] w1 fun e w' => ∃ A' c', e = .returned (.slice A' k c') ∧ k ≤ c' ∧ IntsA w' w'.heap.size A' (up x) ∧ Below w1.heap.size w1 w' ∧ (∀ g, (Value.slice A' k c').ownBlock = some g → w1.heap.size ≤ g)) := fun X cx w1 h1 h2 => by
        have h3 := list_any X k cx w1.heap.size (up x) w1 (by rw [up_length, hxl]) h1 (by have := hW.ok.nle; omega) h2
        rw [h11, up_length, hxl] at h3
        exact h3
      have hW2 : BOk (W.set i x) q k := bset_ok hW.ok hxo
      have hv2 : votesB (upp (W.set i x)) = true := votes_B hW2
      have HW2 : Hid (∀ A' c' w1, RowsA w1 w1.heap.size A' (upp (W.set i x)) → Calls Try.prog 22 #[.slice A' q c', .int .i64 (r : Nat)] w1 fun e w' => e = .returned (.tuple #[.int .i64 (winN (W.set i x) q k r), .int .i64 0]) ∧ Below w1.heap.size w1 w') := fun A' c' w1 h => WinN_yes A' q k c' r (W.set i x) w1 hr3 hW2 hv2 h
      have HFO : Hid (∀ w', Below w.heap.size w w' → Calls Try.prog 21 #[.slice A q c] w' fun e w'' => ∃ zb c' cur vs, e = .returned (.slice (some ⟨zb, 0, none⟩) q c') ∧ w'.heap.size ≤ zb ∧ w''.heap[zb]? = some (.cells cur 23 (0, 0)) ∧ q ≤ cur.size ∧ (∀ j, j < q → cur[j]? = vs[j]?) ∧ RowVals w'' (some zb) vs L ∧ Below w'.heap.size w' w'') := fun w' hw' => by
        refine (few_own A q c w.heap.size L w' hn hlen hrow (hA.below hw')).mono ?_
        rintro e w'' ⟨A', c', vs, rfl, h1, h2, h3, h4⟩
        rw [vew_same hv, hn] at h2 h3
        obtain ⟨g, c9, e1, g1, g2, g3, g4⟩ := own_form h2 (by have := hW.ok.pos; omega)
        injection e1 with e1 e2 e3
        subst e1; subst e3
        obtain ⟨zg, cur, e4, z1, z2, z3, z4⟩ := own_parts h2 hW.ok.pos
        injection e4 with e4; injection e4 with e4
        subst e4
        exact ⟨g, c', cur, vs, by rw [vew_same hv, hn], z1, z2, z3, z4, h3, h4⟩
      obtain ⟨bb, oo, Ai, ni, ci, rfl, hbb, hci, hxi, hle, hIi⟩ := hA.at_ (k := i) (by rw [hn]; exact hiq)
      obtain rfl : k = ni := by have := hxi.out; rw [← hW.eq, upp_getD, up_length, (hW.ok.rows i hiq).len] at this; exact this
      have hIi2 : IntsA w w.heap.size Ai (up (W.getD i [])) := by rw [← hW.eq, upp_getD] at hIi; exact hIi
      have IX : Hid (∀ (g : Int) w', Below w.heap.size w w' → Calls Try.prog 26 #[.slice Ai k ci, .int .i64 g] w' fun e w'' => e = .returned (.int .i64 (idx (up (W.getD i [])) g)) ∧ w' = w'') := fun g w' hw' => index_any Ai k ci w.heap.size (up (W.getD i [])) g w' (by rw [up_length, (hW.ok.rows i hiq).len]) (by have := hW.ok.nle; omega) (hIi2.below hw')
      obtain ⟨g1, hg1⟩ : ∃ g, winN (W.set i x) q k r = g := ⟨_, rfl⟩
      obtain ⟨g2, hg2⟩ : ∃ g, winN W q k r = g := ⟨_, rfl⟩
      have hgg : idx (up (W.getD i [])) g1 < idx (up (W.getD i [])) g2 := by rw [← hg1, ← hg2]; simpa [gains] using hgx
      rw [hg1] at HW2
      rw [hg2] at HWI
      obtain ⟨p1, hp1⟩ : ∃ p, idx (up (W.getD i [])) g1 = p := ⟨_, rfl⟩
      obtain ⟨p2, hp2⟩ : ∃ p, idx (up (W.getD i [])) g2 = p := ⟨_, rfl⟩
      rw [hp1, hp2] at hgg
      have HP1 := hide hp1
      have HP2 := hide hp2
      have HEQ := hide hW.eq
      have HLEN := hide hn
      have hiq1 : ¬ ((i : Int) < 0) := by omega
      have hiq2 : ¬ ((q : Int) ≤ (i : Int)) := by omega
      have hiq3 : (i : Int) < (q : Int) := by omega
      clear hbad hrow hn hA hq hv hW hl HLI hx hx0 hxo hgx hxl h11 hW2 hv2 hle hIi hIi2 hxi hg1 hg2 hp1 hp2
      go_enter Try.func3, Try.ntmps3
      have hb := Below.refl w.heap.size w
      go_wp2_with fail
      refine (HFE.out _ hb).mono ?_
      rintro e w1 ⟨A1, c1, rfl, hq1, hR1, hbn⟩
      replace hb := hb.trans (hbn.mono hb.size)
      clear hbn
      go_wp2_with fail
      refine (HL2.out _ _ _ hR1).mono ?_
      rintro e w2 ⟨X, cx, rfl, hcx, hXI, hbn⟩
      replace hR1 := hR1.next hbn
      replace hb := hb.trans (hbn.mono hb.size)
      clear hbn
      clear hR1
      go_wp2_with fail
      refine (HFE.out _ hb).mono ?_
      rintro e w3 ⟨A1, c1, rfl, hq1, hR1, hbn⟩
      replace hXI := hXI.next hbn
      replace hb := hb.trans (hbn.mono hb.size)
      clear hbn
      go_wp2_with fail
      refine (HWI.out _ _ _ hR1).mono ?_
      rintro e w4 ⟨rfl, hbn⟩
      replace hXI := hXI.next hbn
      replace hR1 := hR1.next hbn
      replace hb := hb.trans (hbn.mono hb.size)
      clear hbn
      clear hR1
      go_wp2_with fail
      refine (HVA.out _ hb).mono ?_
      rintro e w5 ⟨rfl, rfl⟩
      have hb5 := hb.size
      go_wp2_with fail
      refine (HFO.out _ hb).mono ?_
      rintro e w6 ⟨zb, c6, cur, vs, rfl, hzb, hz, hzl, hzm, hrv, hbn⟩
      replace hXI := hXI.next hbn
      replace hb := hb.trans (hbn.mono hb.size)
      clear hbn
      have hzw : w.heap.size ≤ zb := by omega
      go_wp2_with fail
      refine (HLS.out _ _ _ hcx hXI).mono ?_
      rintro e w7 ⟨Y, cy, rfl, hcy, hYI, hbn, hYo⟩
      replace hrv := hrv.next hbn
      have hz7 := (hbn.block zb (lt_of_block hz)).trans hz
      have hne : ∀ b o, Y = some ⟨b, o, none⟩ → b ≠ zb := fun b o e => by have h1 := hYo b (by subst e; rfl); have h2 := lt_of_block hz; omega
      replace hb := hb.trans (hbn.mono hb.size)
      clear hbn hz hYo hXI
      have hput := rows_put hz7 hzl hzm hrv HLEN.out hiq hYI (by rw [up_length]; exact XL.out) hcy hne
      obtain ⟨uk, zk⟩ : ∃ u, w7.cell? ⟨zb, i, none⟩ = some u := ⟨_, (blk_cell hz7 i).trans (Array.getElem?_eq_getElem (by omega))⟩
      have zf := blk_free hz7 i
      have hs8 : (w7.setCell ⟨zb, i, none⟩ (.slice Y k cy)).heap.size = w7.heap.size := by simp [World.setCell]
      rw [← hs8] at hput
      have hput2 : RowsA (w7.setCell ⟨zb, i, none⟩ (.slice Y k cy)) (w7.setCell ⟨zb, i, none⟩ (.slice Y k cy)).heap.size (some ⟨zb, 0, none⟩) (upp (W.set i x)) := by rw [show upp (W.set i x) = L.set i (up x) by rw [← HEQ.out]; simp [upp, List.map_set]]; exact hput
      replace hb := hb.setCell (p := ⟨zb, i, none⟩) hzw (.slice Y k cy)
      have HPUT := hide hput2
      clear hput hput2 hrv hz7 hzm
      go_wp2_with fail
      refine (HW2.out _ _ _ HPUT.out).mono ?_
      rintro e w9 ⟨rfl, hbn⟩
      replace hb := hb.trans (hbn.mono hb.size)
      clear hbn zk zf hne
      have hzi := (hb.cell (p := ⟨bb, oo + i, none⟩) hbb).trans hci
      have hbb9 : bb < w9.heap.size := by have := hb.size; omega
      go_wp2_with fail
      refine wp_region_below (by kernel_rfl) (by kernel_rfl) ?_
      refine wpQuiet_val' (.int .i64 0) (by rfl) (fun w' hw' => by go_simp) ?_
      simp only [put_lit, List.set_cons_succ, List.set_cons_zero]
      refine wpQuiet_val' (.bool true) (by rfl) (fun w' hw' => by go_simp) ?_
      simp only [put_lit, List.set_cons_succ, List.set_cons_zero]
      refine wpQuiet_val' (.bool true) (by rfl) (fun w' hw' => by go_simp) ?_
      simp only [put_lit, List.set_cons_succ, List.set_cons_zero]
      refine wpQuiet_val' (.int .i64 0) (by rfl) (fun w' hw' => by go_simp) ?_
      simp only [put_lit, List.set_cons_succ, List.set_cons_zero]
      refine wpQuiet_val' (.bool true) (by rfl) (fun w' hw' => by go_simp) ?_
      simp only [put_lit, List.set_cons_succ, List.set_cons_zero]
      refine wpQuiet_val' (.bool true) (by rfl) (fun w' hw' => by go_simp) ?_
      simp only [put_lit, List.set_cons_succ, List.set_cons_zero]
      refine wpQuiet_val' (.bool true) (by rfl) (fun w' hw' => by go_simp) ?_
      simp only [put_lit, List.set_cons_succ, List.set_cons_zero]
      refine wpQuiet_val' (.slice (some ⟨bb, oo, none⟩) q c) (by rfl) (fun w' hw' => by go_simp) ?_
      simp only [put_lit, List.set_cons_succ, List.set_cons_zero]
      refine wpQuiet_val' (.int .i64 (i : Nat)) (by rfl) (fun w' hw' => by go_simp) ?_
      simp only [put_lit, List.set_cons_succ, List.set_cons_zero]
      refine wpQuiet_val' (.pointer (some ⟨bb, oo + i, none⟩)) (by rfl) (fun w' hw' => by go_simp) ?_
      simp only [put_lit, List.set_cons_succ, List.set_cons_zero]
      refine wpQuiet_val' (.slice Ai k ci) (by rfl) (fun w' hw' => by have e0 := (hw'.cell (p := ⟨bb, oo + i, none⟩) hbb9).trans hzi; go_simp) ?_
      simp only [put_lit, List.set_cons_succ, List.set_cons_zero]
      refine wpQuiet_val' (.int .i64 g1) (by rfl) (fun w' hw' => by go_simp) ?_
      simp only [put_lit, List.set_cons_succ, List.set_cons_zero]
      refine wpQuiet_call' 26 #[.slice Ai k ci, .int .i64 g1] (.int .i64 p1) (by rfl) (fun w' hw' => by go_simp) (fun w' hw' => (IX.out g1 w' (hb.trans (hw'.mono hb.size))).mono fun e w9 h9 => ⟨by rw [h9.1, HP1.out], by rw [← h9.2]; exact hw'⟩) ?_
      simp only [put_lit, List.set_cons_succ, List.set_cons_zero]
      refine wpQuiet_val' (.slice (some ⟨bb, oo, none⟩) q c) (by rfl) (fun w' hw' => by go_simp) ?_
      simp only [put_lit, List.set_cons_succ, List.set_cons_zero]
      refine wpQuiet_val' (.int .i64 (i : Nat)) (by rfl) (fun w' hw' => by go_simp) ?_
      simp only [put_lit, List.set_cons_succ, List.set_cons_zero]
      refine wpQuiet_val' (.pointer (some ⟨bb, oo + i, none⟩)) (by rfl) (fun w' hw' => by go_simp) ?_
      simp only [put_lit, List.set_cons_succ, List.set_cons_zero]
      refine wpQuiet_val' (.slice Ai k ci) (by rfl) (fun w' hw' => by have e0 := (hw'.cell (p := ⟨bb, oo + i, none⟩) hbb9).trans hzi; go_simp) ?_
      simp only [put_lit, List.set_cons_succ, List.set_cons_zero]
      refine wpQuiet_val' (.int .i64 g2) (by rfl) (fun w' hw' => by go_simp) ?_
      simp only [put_lit, List.set_cons_succ, List.set_cons_zero]
      refine wpQuiet_call' 26 #[.slice Ai k ci, .int .i64 g2] (.int .i64 p2) (by rfl) (fun w' hw' => by go_simp) (fun w' hw' => (IX.out g2 w' (hb.trans (hw'.mono hb.size))).mono fun e w9 h9 => ⟨by rw [h9.1, HP2.out], by rw [← h9.2]; exact hw'⟩) ?_
      simp only [put_lit, List.set_cons_succ, List.set_cons_zero]
      refine wpQuiet_val' (.bool true) (by rfl) (fun w' hw' => by go_simp) ?_
      simp only [put_lit, List.set_cons_succ, List.set_cons_zero]
      refine wpQuiet_val' (.bool true) (by rfl) (fun w' hw' => by go_simp) ?_
      simp only [put_lit, List.set_cons_succ, List.set_cons_zero]
      refine wpQuiet_val' (.bool true) (by rfl) (fun w' hw' => by go_simp) ?_
      simp only [put_lit, List.set_cons_succ, List.set_cons_zero]
      refine wpQuiet_call' 23 #[] (.bool true) (by rfl) (fun w' hw' => by go_simp) (fun w' hw' => (awake_any w').mono fun e w9 h9 => ⟨h9.1, hw'.trans (h9.2.mono hw'.size)⟩) ?_
      simp only [put_lit, List.set_cons_succ, List.set_cons_zero]
      refine wpQuiet_val' (.bool true) (by rfl) (fun w' hw' => by go_simp) ?_
      simp only [put_lit, List.set_cons_succ, List.set_cons_zero]
      refine wpQuiet_val' (.bool true) (by rfl) (fun w' hw' => by go_simp) ?_
      simp only [put_lit, List.set_cons_succ, List.set_cons_zero]
      refine wpQuiet_nil ?_
      intro wB hbB
      go_wp2
      go_ret
      exact ⟨rfl, hb.trans (hbB.mono hb.size)⟩
end Go.Proofs.Ytejijddfepgnkaa
