/-
  The walk of SwapNames.
-/
import Derived.Test.YtilnbiaabhdfgaaNamesPlain
import Derived.Test.YtilnbiaabhdfgaaNamesMem
import Derived.Test.YtilnbiaabhdfgaaLawSwapGiven
namespace Go.Proofs.Ytilnbiaabhdfgaa
open Go.RowKit
set_option linter.unusedVariables false
set_option linter.unusedSimpArgs false

theorem modU (x : Int) {q : Nat} (hq : 1 ≤ q) (h5 : q ≤ 100) : ∃ i : Nat, i < q ∧ wrap64 ((IntKind.u64.wrap x).tmod (q : Int)) = (i : Int) := by
  have h0 : 0 ≤ IntKind.u64.wrap x := by
    simp only [IntKind.wrap]
    exact Int.emod_nonneg _ (by decide)
  generalize IntKind.u64.wrap x = y at *
  rw [Int.tmod_eq_emod_of_nonneg h0]
  have h1 := Int.emod_nonneg y (show (q : Int) ≠ 0 by omega)
  have h2 := Int.emod_lt_of_pos y (show (0 : Int) < (q : Int) by omega)
  refine ⟨(y % q).toNat, by omega, ?_⟩
  unfold wrap64; omega

theorem add_fact {a b s : Nat} (h : a + b = s) (hs : s < 4611686018427387904) : IntKind.i64.wrap ((a : Int) + (b : Int)) = (s : Int) ∧ wrap64 ((a : Int) + (b : Int)) = (s : Int) := by
  have : ((a : Int) + (b : Int)) = (s : Int) := by omega
  rw [this]
  exact ⟨i64_keep _ (by omega) (by omega), wrapNat _ (by omega)⟩
theorem rem_fact {s q j : Nat} (h : s % q = j) (hq : 1 ≤ q) : (s : Int).tmod (q : Int) = (j : Int) ∧ ¬ q = 0 := by
  refine ⟨?_, by omega⟩
  rw [Int.tmod_eq_emod_of_nonneg (by omega)]; omega
theorem sum_lt {k b q s : Nat} (hk : k < q) (hb : b < q) (h5 : q ≤ 5) (h : k + b = s) : s < 4611686018427387904 := by omega
theorem map_getD_lt (f : Nat → Nat) (l : List Nat) {m : Nat} (h : m < l.length) : (l.map f).getD m 0 = f (l.getD m 0) := by simp [List.getD_eq_getElem?_getD, h]
/-- The rows laid after k people. -/
def rowsTo (W : List (List Nat)) (q b k : Nat) (j : Nat) : List Int := if (j + (q - b)) % q < k then up (rowU W q b j) else []
theorem rowsTo_step {W : List (List Nat)} {q b k : Nat} (hb : b < q) (hk : k < q) : (fun i => if i = (k + b) % q then up (rowU W q b ((k + b) % q)) else rowsTo W q b k i) = fun i => if i = (k + b) % q ∨ (i + (q - b)) % q < k then up (rowU W q b i) else [] := by
  funext i
  unfold rowsTo
  by_cases e : i = (k + b) % q
  · subst e; simp
  · simp [e]
theorem rowsTo_next {W : List (List Nat)} {q b k i : Nat} (hb : b < q) (hk : k < q) (hi : i < q) : (if i = (k + b) % q ∨ (i + (q - b)) % q < k then up (rowU W q b i) else []) = rowsTo W q b (k + 1) i := by
  unfold rowsTo
  have h1 := turn_forth hb hi
  have h2 := turn_back hb hk
  congr 1
  refine propext ⟨fun h => ?_, fun h => ?_⟩
  · rcases h with h | h
    · rw [h, h2]; omega
    · omega
  · rcases (by omega : (i + (q - b)) % q < k ∨ (i + (q - b)) % q = k) with h | h
    · exact .inr h
    · rw [h] at h1; exact .inl h1.symm
theorem NRows.congr {w : World} {zb n : Nat} {cur : Array Value} {X Y : Nat → List Int} (h : NRows w zb n cur X) (he : ∀ i, i < n → X i = Y i) : NRows w zb n cur Y := by
  obtain ⟨h1, h2, h3⟩ := h
  exact ⟨h1, h2, fun j hj => by rw [← he j hj]; exact h3 j hj⟩

set_option maxRecDepth 100000 in
set_option maxHeartbeats 6400000 in
theorem swapNames_any (A : Option Addr) (n c : Nat) (L : List (List Int)) (x : Int) (w : World) (hn : L.length = n) (hlen : n ≤ 9223372036854775807) (hrow : ∀ l ∈ L, l.length ≤ 9223372036854775807) (hA : RowsA w w.heap.size A L) (hx : -9223372036854775808 ≤ x ∧ x ≤ 9223372036854775807) :
    Calls Try.prog 6 #[.slice A n c, .int .i64 x] w fun e w' => e = .returned (.bool true) ∧ Below w.heap.size w w' := by
  obtain ⟨q, hq⟩ : ∃ q, (fewL L).length = q := ⟨_, rfl⟩
  have HFE := hide (few_in (c := c) hn hlen hrow hq hA)
  cases hv : validB L
  · have HT := hide (fewTrade_no hq hv)
    have HC := hide (fewChances_no hq hv)
    clear hv hrow hn hA hq
    go_enter Try.func6, Try.ntmps6
    have hb := Below.refl w.heap.size w
    go_wp2_with fail
    refine (HFE.out _ hb).mono ?_
    rintro e w1 ⟨A1, c1, rfl, hq1, hR1, hbn⟩
    replace hb := hb.trans (hbn.mono hb.size)
    clear hbn
    go_wp2_with fail
    refine (HT.out _ _ _ hR1).mono ?_
    rintro e w2 ⟨rfl, hbn⟩
    replace hR1 := hR1.next hbn
    replace hb := hb.trans (hbn.mono hb.size)
    clear hbn
    clear hR1
    go_wp2_with fail
    refine (HFE.out _ hb).mono ?_
    rintro e w3 ⟨A1, c1, rfl, hq1, hR1, hbn⟩
    replace hb := hb.trans (hbn.mono hb.size)
    clear hbn
    go_wp2_with fail
    refine (HC.out _ _ _ hR1).mono ?_
    rintro e w4 ⟨rfl, hbn⟩
    replace hR1 := hR1.next hbn
    replace hb := hb.trans (hbn.mono hb.size)
    clear hbn
    clear hR1
    go_wp2_with fail
    refine (awake_any _).mono ?_
    rintro e w5 ⟨rfl, hbn⟩
    replace hb := hb.trans (hbn.mono hb.size)
    clear hbn
    go_wp2
    go_ret
    exact ⟨rfl, hb⟩
  · have hqn : q = n := by rw [← hq, few_same hv, hn]
    subst hqn
    obtain ⟨W, hW⟩ : ∃ W, NatsOf L q W := ⟨_, nats_of hv hn⟩
    rw [few_same hv] at HFE
    have h5 := hW.ok.le
    have h1 := hW.ok.pos
    have HTA := hide (okTrade hW)
    have HCA := hide (okChances hW)
    have HA : Hid (RowsA w w.heap.size A (upp W)) := by rw [hW.eq]; exact hA
    obtain ⟨b, hbq, hbi⟩ := modU x h1 (show q ≤ 100 by omega)
    have HI := hide hbi
    have HWO := hide hW.ok
    have hXO := names_ok hW.ok hbq
    have hXV := (upp_valid hXO).1
    have hXN : NatsOf (upp (namesN W q b)) q (namesN W q b) := ⟨by rw [upp_length]; exact hXO.len, rfl, hXO, hXV⟩
    have HXT := hide (okTrade hXN)
    have HXC := hide (okChances hXN)
    have HXE : Hid (upp (namesN W q b) = (List.range q).map (rowsTo W q b q)) := by
      show _ = _
      simp only [namesN, upp, List.map_map]
      refine List.map_congr_left fun j hj => ?_
      have hjq : j < q := by simpa using hj
      simp [rowsTo, Nat.mod_lt _ (show 0 < q by omega)]
    have HTO := hide (tradeN_ord hW.ok)
    have HXTO := hide (tradeN_ord hXO)
    have HTB : Hid (∀ i, i < q → (tradeN (namesN W q b)).getD ((i + b) % q) 0 = ((tradeN W).getD i 0 + b) % q) := fun i hi => names_tradeB hW.ok hbq hi
    have HCB : Hid (∀ i g, i < q → g < q → ((chancesN (namesN W q b)).getD ((i + b) % q) []).getD ((g + b) % q) 0 = ((chancesN W).getD i []).getD g 0) := fun i g hi hg => names_chanceB hW.ok hbq hi hg
    have HCL : Hid ((chancesN W).length = q ∧ ∀ i, i < q → ((chancesN W).getD i []).length = q) := ⟨by rw [chancesN, tallyN_len, hW.ok.len], fun i hi => by rw [chancesN, hW.ok.len, tallyN_row _ _ hi]; simp⟩
    have HXCL : Hid ((chancesN (namesN W q b)).length = q ∧ ∀ i, i < q → ((chancesN (namesN W q b)).getD i []).length = q) := ⟨by rw [chancesN, tallyN_len, hXO.len], fun i hi => by rw [chancesN, hXO.len, tallyN_row _ _ hi]; simp⟩
    rw [HXE.out] at HXT HXC
    generalize tradeN (namesN W q b) = TX at *
    generalize chancesN (namesN W q b) = CX at *
    generalize chancesN W = CW at *
    generalize tradeN W = T at *
    have hmk := run_make_row' (P := Try.prog) 22 23 (.slice none 0 0) 24 Try.underlying22 info_ints rfl .i64 .i64 q (by omega) (by omega)
    clear hv hrow hn hA hq hW hbi hXO hXV hXN HXE
    go_enter Try.func6, Try.ntmps6
    have hb := Below.refl w.heap.size w
    go_wp2_with fail
    refine (HFE.out _ hb).mono ?_
    rintro e w1 ⟨A1, c1, rfl, hq1, hR1, hbn⟩
    replace hb := hb.trans (hbn.mono hb.size)
    clear hbn
    go_wp2_with fail
    refine (HTA.out _ _ _ hR1).mono ?_
    rintro e w2 ⟨T2, k2, rfl, hT2, hbn⟩
    replace hR1 := hR1.next hbn
    replace hb := hb.trans (hbn.mono hb.size)
    clear hbn
    clear hR1
    go_wp2_with fail
    refine (HFE.out _ hb).mono ?_
    rintro e w3 ⟨A1, c1, rfl, hq1, hR1, hbn⟩
    replace hT2 := hT2.next hbn
    replace hb := hb.trans (hbn.mono hb.size)
    clear hbn
    go_wp2_with fail
    refine (HCA.out _ _ _ hR1).mono ?_
    rintro e w4 ⟨C4, k4, rfl, hk4, hC4, hbn⟩
    replace hT2 := hT2.next hbn
    replace hR1 := hR1.next hbn
    replace hb := hb.trans (hbn.mono hb.size)
    clear hbn
    clear hR1
    go_wp2
    rw [HI.out]
    clear hmk
    obtain ⟨zb, hzb⟩ : ∃ zb, w4.heap.size = zb := ⟨_, rfl⟩
    have hnr := NRows.start w4 q
    rw [hzb] at hnr
    obtain ⟨w5, hw5⟩ : ∃ w5, w5 = w4.alloc (.cells (madeCells #[.slice none 0 0] q) 23) := ⟨_, rfl⟩
    have hb5 : Below w4.heap.size w4 w5 := by subst hw5; exact (Below.refl _ _).alloc (Nat.le_refl _) _
    rw [← hw5] at hnr
    rw [hzb]
    rw [← hw5]
    have hwz : w.heap.size ≤ zb ∧ zb < w5.heap.size := ⟨by rw [← hzb]; exact hb.size, lt_of_block hnr.1⟩
    replace hb := hb.trans (hb5.mono hb.size)
    have HB4 : Hid (Below zb w4 w5) := by rw [← hzb]; exact hb5
    have HT2 : Hid (IntsA w4 zb T2 (up T)) := by rw [← hzb]; exact hT2
    have HC4 : Hid (RowsA w4 zb C4 (upp CW)) := by rw [← hzb]; exact hC4
    clear hT2 hC4 hb5 hw5 hzb
    go_loopw [72] (fun s wr => ∃ (k : Nat) (cur : Array Value), k ≤ q ∧ s = .int .i64 k ∧ Below w.heap.size w wr ∧ Below zb w5 wr ∧ NRows wr zb q cur (rowsTo W q b k)) (fun s _ => q - (intOf s).toNat)
    case atStart => exact ⟨0, _, Nat.zero_le _, rfl, hb, Below.refl _ _, hnr.congr fun i hi => by simp [rowsTo]⟩
    case round =>
      clear hnr hb
      obtain ⟨k, cur, hk, rfl, hb, hbz, hnr⟩ := hrel
      by_cases hlt : k < q
      · obtain ⟨wo, rfl⟩ : ∃ wo : World, wo = wr := ⟨_, rfl⟩
        obtain ⟨b3, o3, A3, n3, c3, rfl, hb3, hc3, hx3, hle3, hI3⟩ := HA.out.at_ (k := k) (by rw [upp_length, HWO.out.len]; exact hlt)
        rw [upp_getD] at hI3 hx3
        have hri := HWO.out.rows k hlt
        obtain rfl : q = n3 := by have := hx3.out; rw [up_length, hri.len] at this; exact this
        have hc3' := (hb.cell (p := ⟨b3, o3 + k, none⟩) hb3).trans hc3
        obtain ⟨s1, hs1⟩ : ∃ s1, k + b = s1 := ⟨_, rfl⟩
        obtain ⟨j, hj⟩ : ∃ j, s1 % q = j := ⟨_, rfl⟩
        have hjq : j < q := by rw [← hj]; exact Nat.mod_lt _ (by omega)
        have hjk : (j + (q - b)) % q = k := by rw [← hj, ← hs1]; exact turn_back hbq hlt
        have hrow : rowU W q b j = (W.getD k []).map fun y => (y + b) % q := by rw [rowU, hjk]
        have hstart := NRow.start hnr hjq (by simp [rowsTo, hjk])
        have HNR := hide hnr
        have HJ := hide hj
        have HS1 := hide hs1
        have HB := hide hb
        have HBZ := hide hbz
        have HRI := hide hri
        have HROW := hide hrow
        have HRL : Hid ((rowU W q b j).length = q) := by show _ = _; rw [hrow, List.length_map, hri.len]
        have hzo : zb < wo.heap.size := lt_of_block hnr.1
        clear hnr hb hbz hx3 hri hrow hs1 hj
        go_wp2
        go_loopw [79] (fun s wr => ∃ (m : Nat) (v : Value), m ≤ q ∧ s = .int .i64 m ∧ NRow wo wr zb q j cur v ((up (rowU W q b j)).take m)) (fun s _ => q - (intOf s).toNat)
        case atStart => exact ⟨0, _, Nat.zero_le _, rfl, hstart⟩
        case round =>
          clear hstart
          obtain ⟨m, v, hm, rfl, hr⟩ := hrel
          have hbe : Below zb wo wr := (Below.refl zb wo).grown hr.gr (by omega) (fun q hq => by injection hq with hq; omega)
          have hbw : Below w.heap.size w wr := HB.out.trans (hbe.mono hwz.1)
          by_cases hltm : m < q
          · obtain ⟨b7, o7, y, rfl, hb7, hc7, hx7⟩ := (hI3.below hbw).at_ (k := m) (by rw [up_length, HRI.out.len]; exact hltm)
            rw [up_getD] at hx7
            have hy7 := hx7.out
            have hyq := HRI.out.getD_lt hltm
            have hrm : (up (rowU W q b j)).getD m 0 = ((((W.getD k []).getD m 0 + b) % q : Nat) : Int) := by
              rw [up_getD, HROW.out]
              rw [map_getD_lt _ _ (by rw [HRI.out.len]; exact hltm)]
            generalize (W.getD k []).getD m 0 = y' at *
            subst hy7
            obtain ⟨s2, hs2⟩ : ∃ s2, y' + b = s2 := ⟨_, rfl⟩
            obtain ⟨z, hz⟩ : ∃ z, s2 % q = z := ⟨_, rfl⟩
            rw [hs2, hz] at hrm
            obtain ⟨A9, c9, hv9, hle9, hmx9⟩ := own_slice hr.own
            have hlen9 : ((up (rowU W q b j)).take m).length = m := by rw [List.length_take, up_length, HRL.out]; omega
            rw [hlen9] at hv9 hle9
            have hcz : wr.cell? ⟨zb, j, none⟩ = some (.slice A9 m c9) := by
              rw [blk_cell hr.blk, hv9]
              exact Array.getElem?_setIfInBounds_self_of_lt (by have := hr.size; omega)
            have hfz : ∀ i, wr.frozen? ⟨zb, i, none⟩ = false := fun i => blk_free hr.blk i
            subst hv9
            have HR := hide hr
            have HRM := hide hrm
            have HHS2 := hide hs2
            have HHZ := hide hz
            have hjq' : (j : Int) < (q : Int) := by omega
            clear hx7 hrm hr
            have HF1 := hide (add_fact HS1.out (sum_lt hlt hbq h5 HS1.out))
            have HF3 := hide (rem_fact HJ.out h1)
            have HG1 := hide (add_fact hs2 (sum_lt hyq hbq h5 hs2))
            have HG3 := hide (rem_fact hz h1)
            have HSB : Hid (∀ w' : World, w'.heap[zb]? = wr.heap[zb]? → w'.cell? ⟨zb, j, none⟩ = some (.slice A9 m c9) ∧ w'.frozen? ⟨zb, j, none⟩ = false) := fun w' hw' => ⟨(World.cell?_of_block (a := ⟨zb, j, none⟩) hw').trans hcz, (World.frozen?_of_block (a := ⟨zb, j, none⟩) hw').trans (hfz _)⟩
            have hzr : zb < wr.heap.size := lt_of_block HR.out.blk
            have hows : wo.heap.size ≤ wr.heap.size := HR.out.gr.size
            have hl9 : Hid (((up (rowU W q b j)).take m).length = m) := hlen9
            clear hcz hfz hlen9
            clear hs2 hz
            go_upto_region 14 with (fail)
            refine wp_region_noPanic ?_
            refine wp_region_held_drew (S := (fun _ => True)) (by kernel_rfl) trivial (fun hHeld => ?_)
            show wpAnyH _ _ _ _ _ _ (#[false, false, false, false, false, false, false, false, false, false, false, false, false, false, false, false, false, false, false, false, false, false, false] : Array Bool) _ _
            refine wpAnyH_take (i := 0) (v := .slice (some ⟨zb, 0, none⟩) q q) rfl (by kernel_rfl) (by kernel_rfl) (by kernel_rfl) (fun _ _ _ h => h) (Or.inl ⟨by rfl, ?_⟩) hHeld ?_
            · (intro w' hSw; obtain ⟨⟩ := hSw; go_simp)
            try simp only [Act.put, List.setIfInBounds_toArray, List.set_cons_zero, List.set_cons_succ]
            refine wpAnyH_take (i := 1) (v := .int .i64 k) rfl (by kernel_rfl) (by kernel_rfl) (by kernel_rfl) (fun _ _ _ h => h) (Or.inl ⟨by rfl, ?_⟩) hHeld ?_
            · (intro w' hSw; obtain ⟨⟩ := hSw; go_simp)
            try simp only [Act.put, List.setIfInBounds_toArray, List.set_cons_zero, List.set_cons_succ]
            refine wpAnyH_take (i := 2) (v := .int .i64 b) rfl (by kernel_rfl) (by kernel_rfl) (by kernel_rfl) (fun _ _ _ h => h) (Or.inl ⟨by rfl, ?_⟩) hHeld ?_
            · (intro w' hSw; obtain ⟨⟩ := hSw; go_simp)
            try simp only [Act.put, List.setIfInBounds_toArray, List.set_cons_zero, List.set_cons_succ]
            refine wpAnyH_take (i := 3) (v := .int .i64 s1) rfl (by kernel_rfl) (by kernel_rfl) (by kernel_rfl) (fun _ _ _ h => h) (Or.inl ⟨by rfl, ?_⟩) hHeld ?_
            · (intro w' hSw; obtain ⟨⟩ := hSw; have f1 := HF1.out.1; have f2 := HF1.out.2; go_simp)
            try simp only [Act.put, List.setIfInBounds_toArray, List.set_cons_zero, List.set_cons_succ]
            refine wpAnyH_take (i := 4) (v := .int .i64 q) rfl (by kernel_rfl) (by kernel_rfl) (by kernel_rfl) (fun _ _ _ h => h) (Or.inl ⟨by rfl, ?_⟩) hHeld ?_
            · (intro w' hSw; obtain ⟨⟩ := hSw; go_simp)
            try simp only [Act.put, List.setIfInBounds_toArray, List.set_cons_zero, List.set_cons_succ]
            refine wpAnyH_take (i := 5) (v := .int .i64 j) rfl (by kernel_rfl) (by kernel_rfl) (by kernel_rfl) (fun _ _ _ h => h) (Or.inl ⟨by rfl, ?_⟩) hHeld ?_
            · (intro w' hSw; obtain ⟨⟩ := hSw; have f3 := HF3.out.1; have f4 := HF3.out.2; go_simp)
            try simp only [Act.put, List.setIfInBounds_toArray, List.set_cons_zero, List.set_cons_succ]
            refine wpAnyH_take (i := 6) (v := .slice (some ⟨zb, 0, none⟩) q q) rfl (by kernel_rfl) (by kernel_rfl) (by kernel_rfl) (fun _ _ _ h => h) (Or.inl ⟨by rfl, ?_⟩) hHeld ?_
            · (intro w' hSw; obtain ⟨⟩ := hSw; go_simp)
            try simp only [Act.put, List.setIfInBounds_toArray, List.set_cons_zero, List.set_cons_succ]
            refine wpAnyH_take (i := 7) (v := .int .i64 k) rfl (by kernel_rfl) (by kernel_rfl) (by kernel_rfl) (fun _ _ _ h => h) (Or.inl ⟨by rfl, ?_⟩) hHeld ?_
            · (intro w' hSw; obtain ⟨⟩ := hSw; go_simp)
            try simp only [Act.put, List.setIfInBounds_toArray, List.set_cons_zero, List.set_cons_succ]
            refine wpAnyH_take (i := 8) (v := .int .i64 b) rfl (by kernel_rfl) (by kernel_rfl) (by kernel_rfl) (fun _ _ _ h => h) (Or.inl ⟨by rfl, ?_⟩) hHeld ?_
            · (intro w' hSw; obtain ⟨⟩ := hSw; go_simp)
            try simp only [Act.put, List.setIfInBounds_toArray, List.set_cons_zero, List.set_cons_succ]
            refine wpAnyH_take (i := 9) (v := .int .i64 s1) rfl (by kernel_rfl) (by kernel_rfl) (by kernel_rfl) (fun _ _ _ h => h) (Or.inl ⟨by rfl, ?_⟩) hHeld ?_
            · (intro w' hSw; obtain ⟨⟩ := hSw; have f1 := HF1.out.1; have f2 := HF1.out.2; go_simp)
            try simp only [Act.put, List.setIfInBounds_toArray, List.set_cons_zero, List.set_cons_succ]
            refine wpAnyH_take (i := 10) (v := .int .i64 q) rfl (by kernel_rfl) (by kernel_rfl) (by kernel_rfl) (fun _ _ _ h => h) (Or.inl ⟨by rfl, ?_⟩) hHeld ?_
            · (intro w' hSw; obtain ⟨⟩ := hSw; go_simp)
            try simp only [Act.put, List.setIfInBounds_toArray, List.set_cons_zero, List.set_cons_succ]
            refine wpAnyH_take (i := 11) (v := .int .i64 j) rfl (by kernel_rfl) (by kernel_rfl) (by kernel_rfl) (fun _ _ _ h => h) (Or.inl ⟨by rfl, ?_⟩) hHeld ?_
            · (intro w' hSw; obtain ⟨⟩ := hSw; have f3 := HF3.out.1; have f4 := HF3.out.2; go_simp)
            try simp only [Act.put, List.setIfInBounds_toArray, List.set_cons_zero, List.set_cons_succ]
            refine wpAnyH_take (i := 12) (v := .pointer (some ⟨zb, j, none⟩)) rfl (by kernel_rfl) (by kernel_rfl) (by kernel_rfl) (fun _ _ _ h => h) (Or.inl ⟨by rfl, ?_⟩) hHeld ?_
            · (intro w' hSw; obtain ⟨⟩ := hSw; go_simp)
            try simp only [Act.put, List.setIfInBounds_toArray, List.set_cons_zero, List.set_cons_succ]
            refine wpAnyH_take (i := 14) (v := (.int .i64 y')) rfl (by kernel_rfl) (by kernel_rfl) (by kernel_rfl) (fun _ _ _ h => h) (Or.inl ⟨by rfl, ?_⟩) hHeld ?_
            · (intro w' hSw; obtain ⟨⟩ := hSw; go_simp)
            try simp only [Act.put, List.setIfInBounds_toArray, List.set_cons_zero, List.set_cons_succ]
            refine wpAnyH_take (i := 15) (v := .int .i64 b) rfl (by kernel_rfl) (by kernel_rfl) (by kernel_rfl) (fun _ _ _ h => h) (Or.inl ⟨by rfl, ?_⟩) hHeld ?_
            · (intro w' hSw; obtain ⟨⟩ := hSw; go_simp)
            try simp only [Act.put, List.setIfInBounds_toArray, List.set_cons_zero, List.set_cons_succ]
            refine wpAnyH_take (i := 16) (v := .int .i64 s2) rfl (by kernel_rfl) (by kernel_rfl) (by kernel_rfl) (fun _ _ _ h => h) (Or.inl ⟨by rfl, ?_⟩) hHeld ?_
            · (intro w' hSw; obtain ⟨⟩ := hSw; have f1 := HG1.out.1; have f2 := HG1.out.2; go_simp)
            try simp only [Act.put, List.setIfInBounds_toArray, List.set_cons_zero, List.set_cons_succ]
            refine wpAnyH_take (i := 17) (v := .int .i64 q) rfl (by kernel_rfl) (by kernel_rfl) (by kernel_rfl) (fun _ _ _ h => h) (Or.inl ⟨by rfl, ?_⟩) hHeld ?_
            · (intro w' hSw; obtain ⟨⟩ := hSw; go_simp)
            try simp only [Act.put, List.setIfInBounds_toArray, List.set_cons_zero, List.set_cons_succ]
            refine wpAnyH_take (i := 18) (v := .int .i64 z) rfl (by kernel_rfl) (by kernel_rfl) (by kernel_rfl) (fun _ _ _ h => h) (Or.inl ⟨by rfl, ?_⟩) hHeld ?_
            · (intro w' hSw; obtain ⟨⟩ := hSw; have f3 := HG3.out.1; have f4 := HG3.out.2; go_simp)
            try simp only [Act.put, List.setIfInBounds_toArray, List.set_cons_zero, List.set_cons_succ]
            have hown9 := HR.out.own
            rw [hl9.out] at hown9
            have p0 := (HSB.out wr rfl).1
            refine wpAnyH_ready (rs := [13, 19]) (by kernel_rfl) (by simp) ?_
            refine AllReadyH.cons rfl (fun K hK => ?_) ?_
            · go_simp
              refine hK.out _ _ trivial (fun hHeld => ?_)
              clear hK K
              try simp only [Act.put, List.setIfInBounds_toArray, List.set_cons_zero, List.set_cons_succ]
              refine wpAnyH_ready (rs := [19]) (by kernel_rfl) (by simp) ?_
              refine AllReadyH.cons rfl (fun K hK => ?_) AllReadyH.nil
              go_simp
              refine hK.out _ _ trivial (fun hHeld => ?_)
              clear hK K
              try simp only [Act.put, List.setIfInBounds_toArray, List.set_cons_zero, List.set_cons_succ]
              refine wpAnyH_ready (rs := [20]) (by kernel_rfl) (by simp) ?_
              refine AllReadyH.cons rfl (fun K hK => ?_) AllReadyH.nil
              refine wp_app1 (w0 := wr.drew) _ _ 23 3 (.int .i64 0) 8 rfl Try.underlying23 info_int rfl wo.heap.size (.slice A9 m c9) m _ (.int .i64 z) (by simp [Act.eval]) (by simp [Act.eval]) rfl ⟨_, rfl⟩ hown9.drew rfl (by omega) (by omega) hows ?_
              intro g cg wa hown hcg hcm hg hgl hgr
              have hblk : wa.heap[zb]? = wr.heap[zb]? := hgr.block zb hzr (fun e => by have := (own_lt hown9 zb e.symm).1; omega)
              refine hK.out _ _ trivial (fun hHeld => ?_)
              clear hK K
              try simp only [Act.put, List.setIfInBounds_toArray, List.set_cons_zero, List.set_cons_succ]
              have hS9 := HSB.out _ hblk
              have p9 := hS9.1
              have k9 := hS9.2
              clear hS9
              have hstep := HR.out.step (by rw [hl9.out]; exact hown) hg hgr
              rw [hl9.out, ← show (up (rowU W q b j)).take (m + 1) = (up (rowU W q b j)).take m ++ [(z : Int)] by rw [take_snoc_int _ m (by rw [up_length, HRL.out]; exact hltm), HRM.out]] at hstep
              have HST := hide hstep
              clear hstep hown hgr hown9 hblk
              refine wpAnyH_ready (rs := [21]) (by kernel_rfl) (by simp) ?_
              refine AllReadyH.cons rfl (fun K hK => ?_) AllReadyH.nil
              go_simp
              refine hK.out _ _ trivial (fun hHeld => ?_)
              clear hK K
              try simp only [Act.put, List.setIfInBounds_toArray, List.set_cons_zero, List.set_cons_succ]
              refine wpAnyH_ready (rs := [22]) (by kernel_rfl) (by simp) ?_
              refine AllReadyH.cons rfl (fun K hK => ?_) AllReadyH.nil
              go_simp
              refine hK.out _ _ trivial (fun hHeld => ?_)
              clear hK K
              try simp only [Act.put, List.setIfInBounds_toArray, List.set_cons_zero, List.set_cons_succ]
              refine wpAnyH_done (by kernel_rfl) ?_ _
              refine NoPanic.normal ?_
              clear p9 k9 p0
              go_wp2_with fail
              go_roundw
              case rel => exact ⟨m + 1, _, by omega, by go_num, HST.out⟩
              case measure => simp [intOf] <;> omega
            · refine AllReadyH.cons rfl (fun K hK => ?_) AllReadyH.nil
              go_simp
              refine hK.out _ _ trivial (fun hHeld => ?_)
              clear hK K
              try simp only [Act.put, List.setIfInBounds_toArray, List.set_cons_zero, List.set_cons_succ]
              have p1 := (HSB.out _ (Below.heap_alloc wr (.cells #[.int .i64 z] 3) zb hzr)).1
              refine wpAnyH_ready (rs := [13]) (by kernel_rfl) (by simp) ?_
              refine AllReadyH.cons rfl (fun K hK => ?_) AllReadyH.nil
              go_simp
              refine hK.out _ _ trivial (fun hHeld => ?_)
              clear hK K
              try simp only [Act.put, List.setIfInBounds_toArray, List.set_cons_zero, List.set_cons_succ]
              clear p1
              refine wpAnyH_ready (rs := [20]) (by kernel_rfl) (by simp) ?_
              refine AllReadyH.cons rfl (fun K hK => ?_) AllReadyH.nil
              refine wp_app1 (w0 := wr.drew) _ _ 23 3 (.int .i64 0) 8 rfl Try.underlying23 info_int rfl wo.heap.size (.slice A9 m c9) m _ (.int .i64 z) (by simp [Act.eval]) (by simp [Act.eval]) rfl ⟨_, rfl⟩ hown9.drew rfl (by omega) (by omega) hows ?_
              intro g cg wa hown hcg hcm hg hgl hgr
              have hblk : wa.heap[zb]? = wr.heap[zb]? := hgr.block zb hzr (fun e => by have := (own_lt hown9 zb e.symm).1; omega)
              refine hK.out _ _ trivial (fun hHeld => ?_)
              clear hK K
              try simp only [Act.put, List.setIfInBounds_toArray, List.set_cons_zero, List.set_cons_succ]
              have hS9 := HSB.out _ hblk
              have p9 := hS9.1
              have k9 := hS9.2
              clear hS9
              have hstep := HR.out.step (by rw [hl9.out]; exact hown) hg hgr
              rw [hl9.out, ← show (up (rowU W q b j)).take (m + 1) = (up (rowU W q b j)).take m ++ [(z : Int)] by rw [take_snoc_int _ m (by rw [up_length, HRL.out]; exact hltm), HRM.out]] at hstep
              have HST := hide hstep
              clear hstep hown hgr hown9 hblk
              refine wpAnyH_ready (rs := [21]) (by kernel_rfl) (by simp) ?_
              refine AllReadyH.cons rfl (fun K hK => ?_) AllReadyH.nil
              go_simp
              refine hK.out _ _ trivial (fun hHeld => ?_)
              clear hK K
              try simp only [Act.put, List.setIfInBounds_toArray, List.set_cons_zero, List.set_cons_succ]
              refine wpAnyH_ready (rs := [22]) (by kernel_rfl) (by simp) ?_
              refine AllReadyH.cons rfl (fun K hK => ?_) AllReadyH.nil
              go_simp
              refine hK.out _ _ trivial (fun hHeld => ?_)
              clear hK K
              try simp only [Act.put, List.setIfInBounds_toArray, List.set_cons_zero, List.set_cons_succ]
              refine wpAnyH_done (by kernel_rfl) ?_ _
              refine NoPanic.normal ?_
              clear p9 k9 p0
              go_wp2_with fail
              go_roundw
              case rel => exact ⟨m + 1, _, by omega, by go_num, HST.out⟩
              case measure => simp [intOf] <;> omega
          · obtain rfl : q = m := by omega
            obtain ⟨cur', hnew⟩ := HNR.out.row hr hjq (by rw [List.take_of_length_le (by rw [up_length, HRL.out]; exact Nat.le_refl _)]; intro e; have := congrArg List.length e; rw [up_length, HRL.out] at this; simp at this; omega)
            have hnew2 : NRows wr zb q cur' (rowsTo W q b (k + 1)) := hnew.congr fun i hi => by
              rw [← rowsTo_next hbq hlt hi, HS1.out, HJ.out, List.take_of_length_le (by rw [up_length, HRL.out]; exact Nat.le_refl _)]
              unfold rowsTo
              by_cases e : i = j
              · subst e; simp
              · simp [e]
            have HNEW := hide hnew2
            have hbz2 := HBZ.out.trans hbe
            clear hnew hnew2 hr
            go_wp2
            go_roundw
            case rel => exact ⟨k + 1, cur', by omega, by go_num, hbw, hbz2, HNEW.out⟩
            case measure => simp [intOf] <;> omega
      · obtain rfl : q = k := by omega
        have hT2 : IntsA wr wr.heap.size T2 (up T) := (HT2.out.below (HB4.out.trans hbz)).top
        have hC4 : RowsA wr wr.heap.size C4 (upp CW) := (HC4.out.below (HB4.out.trans hbz)).top
        have hR := hnr.rows
        clear hnr hbz
        go_wp2_with fail
        refine (HXT.out _ _ _ hR).mono ?_
        rintro e w21 ⟨U5, k5, rfl, hU, hbn⟩
        replace hT2 := hT2.next hbn
        replace hC4 := hC4.next hbn
        replace hR := hR.next hbn
        replace hb := hb.trans (hbn.mono hb.size)
        clear hbn
        go_wp2_with fail
        refine (HXC.out _ _ _ hR).mono ?_
        rintro e w22 ⟨D6, k6, rfl, hk6, hD, hbn⟩
        replace hT2 := hT2.next hbn
        replace hC4 := hC4.next hbn
        replace hR := hR.next hbn
        replace hU := hU.next hbn
        replace hb := hb.trans (hbn.mono hb.size)
        clear hbn
        clear hR
        go_wp2
        go_loopw [136] (fun s wr => ∃ i : Nat, i ≤ q ∧ s = .int .i64 i ∧ Below w.heap.size w wr ∧ IntsA wr wr.heap.size T2 (up T) ∧ RowsA wr wr.heap.size C4 (upp CW) ∧ IntsA wr wr.heap.size U5 (up TX) ∧ RowsA wr wr.heap.size D6 (upp CX)) (fun s _ => q - (intOf s).toNat)
        case atStart => exact ⟨0, Nat.zero_le _, rfl, hb, hT2, hC4, hU, hD⟩
        case round =>
          clear hb hT2 hC4 hU hD
          obtain ⟨i, hi, rfl, hb, hT2, hC4, hU, hD⟩ := hrel
          by_cases hlt : i < q
          · obtain ⟨b2, o2, t2, rfl, hb2, hc2, hx2⟩ := hT2.at_ (k := i) (by rw [up_length, HTO.out.len]; exact hlt)
            obtain ⟨s1, hs1⟩ : ∃ s1, i + b = s1 := ⟨_, rfl⟩
            obtain ⟨j, hj⟩ : ∃ j, s1 % q = j := ⟨_, rfl⟩
            have hjq : j < q := by rw [← hj]; exact Nat.mod_lt _ (by omega)
            obtain ⟨b5, o5, u5, rfl, hb5, hc5, hx5⟩ := hU.at_ (k := j) (by rw [up_length, HXTO.out.len]; exact hjq)
            have e2 := hx2.out
            have e5 := hx5.out
            rw [up_getD] at e2 e5
            have etb := HTB.out i hlt
            rw [hs1, hj] at etb
            rw [etb] at e5
            have htq := HTO.out.getD_lt hlt
            clear etb
            obtain ⟨ti, hti⟩ : ∃ ti, T.getD i 0 = ti := ⟨_, rfl⟩
            rw [hti] at e2 e5 htq
            obtain ⟨s2, hs2⟩ : ∃ s2, ti + b = s2 := ⟨_, rfl⟩
            obtain ⟨z, hz⟩ : ∃ z, s2 % q = z := ⟨_, rfl⟩
            rw [hs2, hz] at e5
            subst e2; subst e5
            have HF1 := hide (add_fact hs1 (sum_lt hlt hbq h5 hs1))
            have HF3 := hide (rem_fact hj h1)
            have HG1 := hide (add_fact hs2 (sum_lt htq hbq h5 hs2))
            have HG3 := hide (rem_fact hz h1)
            have hij : (i : Int) < (q : Int) := by omega
            have hjj : (j : Int) < (q : Int) := by omega
            have HS1 := hide hs1
            have HJ := hide hj
            clear hx2 hx5 hs1 hj hs2 hz hti htq
            go_upto_region 24 with (fail)
            refine wp_region_below (by kernel_rfl) (by kernel_rfl) ?_
            refine wpQuiet_val' (.slice (some ⟨b5, o5, none⟩) q k5) (by rfl) (fun w' hw' => by go_simp) ?_
            simp only [put_lit, List.set_cons_succ, List.set_cons_zero]
            refine wpQuiet_val' (.int .i64 i) (by rfl) (fun w' hw' => by go_simp) ?_
            simp only [put_lit, List.set_cons_succ, List.set_cons_zero]
            refine wpQuiet_val' (.int .i64 b) (by rfl) (fun w' hw' => by go_simp) ?_
            simp only [put_lit, List.set_cons_succ, List.set_cons_zero]
            refine wpQuiet_val' (.int .i64 s1) (by rfl) (fun w' hw' => by have f1 := HF1.out.1; have f2 := HF1.out.2; go_simp) ?_
            simp only [put_lit, List.set_cons_succ, List.set_cons_zero]
            refine wpQuiet_val' (.int .i64 q) (by rfl) (fun w' hw' => by go_simp) ?_
            simp only [put_lit, List.set_cons_succ, List.set_cons_zero]
            refine wpQuiet_val' (.int .i64 j) (by rfl) (fun w' hw' => by have f3 := HF3.out.1; have f4 := HF3.out.2; go_simp) ?_
            simp only [put_lit, List.set_cons_succ, List.set_cons_zero]
            refine wpQuiet_val' (.pointer (some ⟨b5, o5 + j, none⟩)) (by rfl) (fun w' hw' => by go_simp) ?_
            simp only [put_lit, List.set_cons_succ, List.set_cons_zero]
            refine wpQuiet_val' (.int .i64 z) (by rfl) (fun w' hw' => by have e0 := (hw'.cell (p := ⟨b5, o5 + j, none⟩) hb5).trans hc5; go_simp) ?_
            simp only [put_lit, List.set_cons_succ, List.set_cons_zero]
            refine wpQuiet_val' (.slice (some ⟨b2, o2, none⟩) q k2) (by rfl) (fun w' hw' => by go_simp) ?_
            simp only [put_lit, List.set_cons_succ, List.set_cons_zero]
            refine wpQuiet_val' (.int .i64 i) (by rfl) (fun w' hw' => by go_simp) ?_
            simp only [put_lit, List.set_cons_succ, List.set_cons_zero]
            refine wpQuiet_val' (.pointer (some ⟨b2, o2 + i, none⟩)) (by rfl) (fun w' hw' => by go_simp) ?_
            simp only [put_lit, List.set_cons_succ, List.set_cons_zero]
            refine wpQuiet_val' (.int .i64 ti) (by rfl) (fun w' hw' => by have e0 := (hw'.cell (p := ⟨b2, o2 + i, none⟩) hb2).trans hc2; go_simp) ?_
            simp only [put_lit, List.set_cons_succ, List.set_cons_zero]
            refine wpQuiet_val' (.int .i64 b) (by rfl) (fun w' hw' => by go_simp) ?_
            simp only [put_lit, List.set_cons_succ, List.set_cons_zero]
            refine wpQuiet_val' (.int .i64 s2) (by rfl) (fun w' hw' => by have f1 := HG1.out.1; have f2 := HG1.out.2; go_simp) ?_
            simp only [put_lit, List.set_cons_succ, List.set_cons_zero]
            refine wpQuiet_val' (.int .i64 q) (by rfl) (fun w' hw' => by go_simp) ?_
            simp only [put_lit, List.set_cons_succ, List.set_cons_zero]
            refine wpQuiet_val' (.int .i64 z) (by rfl) (fun w' hw' => by have f3 := HG3.out.1; have f4 := HG3.out.2; go_simp) ?_
            simp only [put_lit, List.set_cons_succ, List.set_cons_zero]
            refine wpQuiet_val' (.bool false) (by rfl) (fun w' hw' => by go_simp) ?_
            simp only [put_lit, List.set_cons_succ, List.set_cons_zero]
            refine wpQuiet_nil ?_
            intro w8 hb8
            have hbA := hb.trans (hb8.mono hb.size)
            have hTA := hT2.next hb8
            have hCA := hC4.next hb8
            have hUA := hU.next hb8
            have hDA := hD.next hb8
            clear hb hT2 hC4 hU hD hb2 hc2 hb5 hc5 HG1 HG3 hb8
            go_wp2
            go_loopw [157] (fun s wr => ∃ g : Nat, g ≤ q ∧ s = .int .i64 g ∧ Below w.heap.size w wr ∧ IntsA wr wr.heap.size (some ⟨b2, o2, none⟩) (up T) ∧ RowsA wr wr.heap.size C4 (upp CW) ∧ IntsA wr wr.heap.size (some ⟨b5, o5, none⟩) (up TX) ∧ RowsA wr wr.heap.size D6 (upp CX)) (fun s _ => q - (intOf s).toNat)
            case atStart => exact ⟨0, Nat.zero_le _, rfl, hbA, hTA, hCA, hUA, hDA⟩
            case round =>
              clear hbA hTA hCA hUA hDA
              obtain ⟨g, hg, rfl, hb, hT2, hC4, hU, hD⟩ := hrel
              by_cases hltg : g < q
              · obtain ⟨b7, o7, A9, n9, c9, rfl, hb7, hc7, hx7, hle7, hI7⟩ := hC4.at_ (k := i) (by rw [upp_length, HCL.out.1]; exact hlt)
                obtain ⟨b8, o8, A10, n10, c10, rfl, hb8, hc8, hx8, hle8, hI8⟩ := hD.at_ (k := j) (by rw [upp_length, HXCL.out.1]; exact hjq)
                rw [upp_getD] at hI7 hx7 hI8 hx8
                obtain rfl : q = n9 := by have := hx7.out; rw [up_length, HCL.out.2 i hlt] at this; exact this
                obtain rfl : q = n10 := by have := hx8.out; rw [up_length, HXCL.out.2 j hjq] at this; exact this
                obtain ⟨s2, hs2⟩ : ∃ s2, g + b = s2 := ⟨_, rfl⟩
                obtain ⟨z, hz⟩ : ∃ z, s2 % q = z := ⟨_, rfl⟩
                have hzq : z < q := by rw [← hz]; exact Nat.mod_lt _ (by omega)
                obtain ⟨b9, o9, v9, rfl, hb9, hc9, hx9⟩ := hI7.at_ (k := g) (by rw [up_length, HCL.out.2 i hlt]; exact hltg)
                obtain ⟨b10, o10, v10, rfl, hb10, hc10, hx10⟩ := hI8.at_ (k := z) (by rw [up_length, HXCL.out.2 j hjq]; exact hzq)
                have e9 := hx9.out
                have e10 := hx10.out
                rw [up_getD] at e9 e10
                have ecb := HCB.out i g hlt hltg
                rw [HS1.out, HJ.out, hs2, hz] at ecb
                rw [ecb] at e10
                obtain ⟨v, hv⟩ : ∃ v, (CW.getD i []).getD g 0 = v := ⟨_, rfl⟩
                rw [hv] at e9 e10
                subst e9; subst e10
                have HG1 := hide (add_fact hs2 (sum_lt hltg hbq h5 hs2))
                have HG3 := hide (rem_fact hz h1)
                have hgg : (g : Int) < (q : Int) := by omega
                have hzz : (z : Int) < (q : Int) := by omega
                clear hx7 hx8 hx9 hx10 hI7 hI8 hs2 hz ecb hv
                go_upto_region 29 with (fail)
                refine wp_region_below (by kernel_rfl) (by kernel_rfl) ?_
                refine wpQuiet_val' (.slice (some ⟨b7, o7, none⟩) q k4) (by rfl) (fun w' hw' => by go_simp) ?_
                simp only [put_lit, List.set_cons_succ, List.set_cons_zero]
                refine wpQuiet_val' (.int .i64 i) (by rfl) (fun w' hw' => by go_simp) ?_
                simp only [put_lit, List.set_cons_succ, List.set_cons_zero]
                refine wpQuiet_val' (.pointer (some ⟨b7, o7 + i, none⟩)) (by rfl) (fun w' hw' => by go_simp) ?_
                simp only [put_lit, List.set_cons_succ, List.set_cons_zero]
                refine wpQuiet_val' (.slice (some ⟨b9, o9, none⟩) q c9) (by rfl) (fun w' hw' => by have e0 := (hw'.cell (p := ⟨b7, o7 + i, none⟩) hb7).trans hc7; go_simp) ?_
                simp only [put_lit, List.set_cons_succ, List.set_cons_zero]
                refine wpQuiet_val' (.int .i64 q) (by rfl) (fun w' hw' => by go_simp) ?_
                simp only [put_lit, List.set_cons_succ, List.set_cons_zero]
                refine wpQuiet_val' (.int .i64 q) (by rfl) (fun w' hw' => by go_simp) ?_
                simp only [put_lit, List.set_cons_succ, List.set_cons_zero]
                refine wpQuiet_val' (.bool false) (by rfl) (fun w' hw' => by go_simp) ?_
                simp only [put_lit, List.set_cons_succ, List.set_cons_zero]
                refine wpQuiet_val' (.bool false) (by rfl) (fun w' hw' => by go_simp) ?_
                simp only [put_lit, List.set_cons_succ, List.set_cons_zero]
                refine wpQuiet_val' (.slice (some ⟨b8, o8, none⟩) q k6) (by rfl) (fun w' hw' => by go_simp) ?_
                simp only [put_lit, List.set_cons_succ, List.set_cons_zero]
                refine wpQuiet_val' (.int .i64 i) (by rfl) (fun w' hw' => by go_simp) ?_
                simp only [put_lit, List.set_cons_succ, List.set_cons_zero]
                refine wpQuiet_val' (.int .i64 b) (by rfl) (fun w' hw' => by go_simp) ?_
                simp only [put_lit, List.set_cons_succ, List.set_cons_zero]
                refine wpQuiet_val' (.int .i64 s1) (by rfl) (fun w' hw' => by have f1 := HF1.out.1; have f2 := HF1.out.2; go_simp) ?_
                simp only [put_lit, List.set_cons_succ, List.set_cons_zero]
                refine wpQuiet_val' (.int .i64 q) (by rfl) (fun w' hw' => by go_simp) ?_
                simp only [put_lit, List.set_cons_succ, List.set_cons_zero]
                refine wpQuiet_val' (.int .i64 j) (by rfl) (fun w' hw' => by have f3 := HF3.out.1; have f4 := HF3.out.2; go_simp) ?_
                simp only [put_lit, List.set_cons_succ, List.set_cons_zero]
                refine wpQuiet_val' (.pointer (some ⟨b8, o8 + j, none⟩)) (by rfl) (fun w' hw' => by go_simp) ?_
                simp only [put_lit, List.set_cons_succ, List.set_cons_zero]
                refine wpQuiet_val' (.slice (some ⟨b10, o10, none⟩) q c10) (by rfl) (fun w' hw' => by have e0 := (hw'.cell (p := ⟨b8, o8 + j, none⟩) hb8).trans hc8; go_simp) ?_
                simp only [put_lit, List.set_cons_succ, List.set_cons_zero]
                refine wpQuiet_val' (.int .i64 q) (by rfl) (fun w' hw' => by go_simp) ?_
                simp only [put_lit, List.set_cons_succ, List.set_cons_zero]
                refine wpQuiet_val' (.int .i64 q) (by rfl) (fun w' hw' => by go_simp) ?_
                simp only [put_lit, List.set_cons_succ, List.set_cons_zero]
                refine wpQuiet_val' (.bool false) (by rfl) (fun w' hw' => by go_simp) ?_
                simp only [put_lit, List.set_cons_succ, List.set_cons_zero]
                refine wpQuiet_val' (.bool false) (by rfl) (fun w' hw' => by go_simp) ?_
                simp only [put_lit, List.set_cons_succ, List.set_cons_zero]
                refine wpQuiet_val' (.bool false) (by rfl) (fun w' hw' => by go_simp) ?_
                simp only [put_lit, List.set_cons_succ, List.set_cons_zero]
                refine wpQuiet_val' (.slice (some ⟨b8, o8, none⟩) q k6) (by rfl) (fun w' hw' => by go_simp) ?_
                simp only [put_lit, List.set_cons_succ, List.set_cons_zero]
                refine wpQuiet_val' (.int .i64 i) (by rfl) (fun w' hw' => by go_simp) ?_
                simp only [put_lit, List.set_cons_succ, List.set_cons_zero]
                refine wpQuiet_val' (.int .i64 b) (by rfl) (fun w' hw' => by go_simp) ?_
                simp only [put_lit, List.set_cons_succ, List.set_cons_zero]
                refine wpQuiet_val' (.int .i64 s1) (by rfl) (fun w' hw' => by have f1 := HF1.out.1; have f2 := HF1.out.2; go_simp) ?_
                simp only [put_lit, List.set_cons_succ, List.set_cons_zero]
                refine wpQuiet_val' (.int .i64 q) (by rfl) (fun w' hw' => by go_simp) ?_
                simp only [put_lit, List.set_cons_succ, List.set_cons_zero]
                refine wpQuiet_val' (.int .i64 j) (by rfl) (fun w' hw' => by have f3 := HF3.out.1; have f4 := HF3.out.2; go_simp) ?_
                simp only [put_lit, List.set_cons_succ, List.set_cons_zero]
                refine wpQuiet_val' (.pointer (some ⟨b8, o8 + j, none⟩)) (by rfl) (fun w' hw' => by go_simp) ?_
                simp only [put_lit, List.set_cons_succ, List.set_cons_zero]
                refine wpQuiet_val' (.slice (some ⟨b10, o10, none⟩) q c10) (by rfl) (fun w' hw' => by have e0 := (hw'.cell (p := ⟨b8, o8 + j, none⟩) hb8).trans hc8; go_simp) ?_
                simp only [put_lit, List.set_cons_succ, List.set_cons_zero]
                refine wpQuiet_val' (.int .i64 g) (by rfl) (fun w' hw' => by go_simp) ?_
                simp only [put_lit, List.set_cons_succ, List.set_cons_zero]
                refine wpQuiet_val' (.int .i64 b) (by rfl) (fun w' hw' => by go_simp) ?_
                simp only [put_lit, List.set_cons_succ, List.set_cons_zero]
                refine wpQuiet_val' (.int .i64 s2) (by rfl) (fun w' hw' => by have f1 := HG1.out.1; have f2 := HG1.out.2; go_simp) ?_
                simp only [put_lit, List.set_cons_succ, List.set_cons_zero]
                refine wpQuiet_val' (.int .i64 q) (by rfl) (fun w' hw' => by go_simp) ?_
                simp only [put_lit, List.set_cons_succ, List.set_cons_zero]
                refine wpQuiet_val' (.int .i64 z) (by rfl) (fun w' hw' => by have f3 := HG3.out.1; have f4 := HG3.out.2; go_simp) ?_
                simp only [put_lit, List.set_cons_succ, List.set_cons_zero]
                refine wpQuiet_val' (.pointer (some ⟨b10, o10 + z, none⟩)) (by rfl) (fun w' hw' => by go_simp) ?_
                simp only [put_lit, List.set_cons_succ, List.set_cons_zero]
                refine wpQuiet_val' (.int .i64 v) (by rfl) (fun w' hw' => by have e0 := (hw'.cell (p := ⟨b10, o10 + z, none⟩) hb10).trans hc10; go_simp) ?_
                simp only [put_lit, List.set_cons_succ, List.set_cons_zero]
                refine wpQuiet_val' (.slice (some ⟨b7, o7, none⟩) q k4) (by rfl) (fun w' hw' => by go_simp) ?_
                simp only [put_lit, List.set_cons_succ, List.set_cons_zero]
                refine wpQuiet_val' (.int .i64 i) (by rfl) (fun w' hw' => by go_simp) ?_
                simp only [put_lit, List.set_cons_succ, List.set_cons_zero]
                refine wpQuiet_val' (.pointer (some ⟨b7, o7 + i, none⟩)) (by rfl) (fun w' hw' => by go_simp) ?_
                simp only [put_lit, List.set_cons_succ, List.set_cons_zero]
                refine wpQuiet_val' (.slice (some ⟨b9, o9, none⟩) q c9) (by rfl) (fun w' hw' => by have e0 := (hw'.cell (p := ⟨b7, o7 + i, none⟩) hb7).trans hc7; go_simp) ?_
                simp only [put_lit, List.set_cons_succ, List.set_cons_zero]
                refine wpQuiet_val' (.int .i64 g) (by rfl) (fun w' hw' => by go_simp) ?_
                simp only [put_lit, List.set_cons_succ, List.set_cons_zero]
                refine wpQuiet_val' (.pointer (some ⟨b9, o9 + g, none⟩)) (by rfl) (fun w' hw' => by go_simp) ?_
                simp only [put_lit, List.set_cons_succ, List.set_cons_zero]
                refine wpQuiet_val' (.int .i64 v) (by rfl) (fun w' hw' => by have e0 := (hw'.cell (p := ⟨b9, o9 + g, none⟩) hb9).trans hc9; go_simp) ?_
                simp only [put_lit, List.set_cons_succ, List.set_cons_zero]
                refine wpQuiet_val' (.bool false) (by rfl) (fun w' hw' => by go_simp) ?_
                simp only [put_lit, List.set_cons_succ, List.set_cons_zero]
                refine wpQuiet_val' (.bool false) (by rfl) (fun w' hw' => by go_simp) ?_
                simp only [put_lit, List.set_cons_succ, List.set_cons_zero]
                refine wpQuiet_nil ?_
                intro w7 hb77
                go_wp2
                go_roundw
                case rel => exact ⟨g + 1, by omega, by go_num, hb.trans (hb77.mono hb.size), hT2.next hb77, hC4.next hb77, hU.next hb77, hD.next hb77⟩
                case measure => simp [intOf] <;> omega
              · obtain rfl : q = g := by omega
                go_wp2
                go_roundw
                case rel => exact ⟨i + 1, by omega, by go_num, hb, hT2, hC4, hU, hD⟩
                case measure => simp [intOf] <;> omega
          · obtain rfl : q = i := by omega
            clear hT2 hC4 hU hD
            go_wp2_with (go_at_call 21; refine (awake_any _).mono ?_; rintro e w41 ⟨rfl, hb41⟩)
            go_ret
            exact ⟨rfl, hb.trans (hb41.mono hb.size)⟩
end Go.Proofs.Ytilnbiaabhdfgaa
