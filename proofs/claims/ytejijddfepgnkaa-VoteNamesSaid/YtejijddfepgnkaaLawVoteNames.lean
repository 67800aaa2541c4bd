/-
  The walk of VoteNames.
-/
import Derived.Test.YtejijddfepgnkaaRowMap
import Derived.Test.YtejijddfepgnkaaFewBlks
import Derived.Test.YtejijddfepgnkaaVoteBase
import Derived.Test.YtejijddfepgnkaaMarginsApi
import Derived.Test.YtejijddfepgnkaaWidthsApi
import Derived.Test.YtejijddfepgnkaaKemApi
import Derived.Test.YtejijddfepgnkaaAxisApi
import Derived.Test.YtejijddfepgnkaaMatRead
import Derived.Test.YtejijddfepgnkaaNamesVPlain
namespace Go.Proofs.Ytejijddfepgnkaa
open Go.RowKit
set_option linter.unusedVariables false
set_option linter.unusedSimpArgs false

theorem vmodU (x : Int) {q : Nat} (hq : 1 ≤ q) (h5 : q ≤ 100) : ∃ i : Nat, i < q ∧ wrap64 ((IntKind.u64.wrap x).tmod (q : Int)) = (i : Int) := by
  have h0 : 0 ≤ IntKind.u64.wrap x := by
    simp only [IntKind.wrap]
    exact Int.emod_nonneg _ (by decide)
  generalize IntKind.u64.wrap x = y at *
  rw [Int.tmod_eq_emod_of_nonneg h0]
  have h1 := Int.emod_nonneg y (show (q : Int) ≠ 0 by omega)
  have h2 := Int.emod_lt_of_pos y (show (0 : Int) < (q : Int) by omega)
  refine ⟨(y % q).toNat, by omega, ?_⟩
  unfold wrap64; omega
theorem vadd {a b s : Nat} (h : a + b = s) (hs : s < 4611686018427387904) : IntKind.i64.wrap ((a : Int) + (b : Int)) = (s : Int) ∧ wrap64 ((a : Int) + (b : Int)) = (s : Int) := by
  have : ((a : Int) + (b : Int)) = (s : Int) := by omega
  rw [this]
  exact ⟨i64_keep _ (by omega) (by omega), wrapNat _ (by omega)⟩
theorem vrem {s q j : Nat} (h : s % q = j) (hq : 1 ≤ q) : (s : Int).tmod (q : Int) = (j : Int) ∧ ¬ q = 0 := by
  refine ⟨?_, by omega⟩
  rw [Int.tmod_eq_emod_of_nonneg (by omega)]; omega
theorem vshr_bit (M g : Nat) (hM : M < 2 ^ 62) : bits .and .i64 ((M : Int) / 2 ^ g) 1 = if M.testBit g then 1 else 0 := by
  have h1 := shr_test M g hM
  have h0 := shr_test0 M g hM
  cases hb : M.testBit g with
  | true => rw [hb] at h1; simpa using h1
  | false => rw [hb] at h0; simpa using h0
/-- What the turning of names makes of rows, without their making. -/
def RowsRn (L L2 : List (List Int)) (n k r : Nat) : Prop := L.length = n ∧ L2.length = n ∧ ∀ j, j < n → (L.getD j []).length = k ∧ (L2.getD j []).length = k ∧
  ∀ t, t < k → ∃ y : Nat, y < k ∧ (L.getD j []).getD t 0 = (y : Int) ∧ (L2.getD j []).getD t 0 = (((y + r) % k : Nat) : Int)
theorem rows_rn {W : List (List Nat)} {n k r : Nat} (hW : BOk W n k) (hr : r < k) : RowsRn (upp W) (upp (rnW r k W)) n k r := by
  refine ⟨by rw [upp_length, hW.len], by rw [upp_length, rnW, List.length_map, hW.len], fun j hj => ?_⟩
  have hj' := (hW.rows j hj).len
  rw [upp_getD, upp_getD, rnW_getD, up_length, up_length, List.length_map, hj']
  refine ⟨rfl, rfl, fun t ht => ⟨(W.getD j []).getD t 0, (hW.rows j hj).getD_lt ht, up_getD _ _, ?_⟩⟩
  rw [up_getD, rn_getD (by rw [hj']; exact ht), rn_mod hr ((hW.rows j hj).getD_lt ht)]

set_option maxRecDepth 100000 in
set_option maxHeartbeats 3200000 in
theorem voteNames_any (A : Option Addr) (n c : Nat) (L : List (List Int)) (x : Int) (w : World) (hn : L.length = n) (hlen : n ≤ 9223372036854775807) (hrow : ∀ l ∈ L, l.length ≤ 9223372036854775807) (hA : RowsA w w.heap.size A L) (hx : -9223372036854775808 ≤ x ∧ x ≤ 9223372036854775807) :
    Calls Try.prog 16 #[.slice A n c, .int .i64 x] w fun e w' => e = .returned (.bool true) ∧ Below w.heap.size w w' := by
  obtain ⟨q, hq⟩ : ∃ q, (fewV L).length = q := ⟨_, rfl⟩
  have HFE := hide (vew_in (c := c) hn hlen hrow hq hA)
  have HVA := hide (refvalid_in (c := c) hn hlen hrow hA)
  cases hv : votesB L
  · have HMN : Hid (∀ A' c' w1, RowsA w1 w1.heap.size A' (fewV L) → Calls Try.prog 33 #[.slice A' q c'] w1 fun e w' => e = .returned (.tuple #[.slice none 0 0, .int .i64 2]) ∧ Below w1.heap.size w1 w') := fun A' c' w1 h => Margins_no A' q c' (fewV L) w1 hq (by rw [← hq]; exact vew_len L) (vew_rows L) h (by rw [vew_valid]; exact hv)
    clear hv hrow hn hA hq HVA
    go_enter Try.func16, Try.ntmps16
    have hb := Below.refl w.heap.size w
    go_wp2_with fail
    refine (HFE.out _ hb).mono ?_
    rintro e w1 ⟨A1, c1, rfl, hq1, hR1, hbn⟩
    replace hb := hb.trans (hbn.mono hb.size)
    clear hbn
    go_wp2_with fail
    refine (HMN.out _ _ _ hR1).mono ?_
    rintro e w2 ⟨rfl, hbn⟩
    replace hR1 := hR1.next hbn
    replace hb := hb.trans (hbn.mono hb.size)
    clear hbn
    clear hR1
    go_wp2_with fail
    refine (awake_any _).mono ?_
    rintro e w3 ⟨rfl, hbn⟩
    replace hb := hb.trans (hbn.mono hb.size)
    clear hbn
    go_wp2
    go_ret
    exact ⟨rfl, hb⟩
  · have hqn : q = n := by rw [← hq, vew_same hv, hn]
    subst hqn
    have HFB : Hid (∀ w', Below w.heap.size w w' → Calls Try.prog 21 #[.slice A q c] w' fun e w'' => ∃ A' c' vs blk lim, e = .returned (.slice A' q c') ∧ q ≤ c' ∧ w''.ownsRow w'.heap.size 23 1 (.slice A' q c') q vs ∧ RowBlks w'' w'.heap.size (Value.slice A' q c').ownBlock vs L blk lim ∧ Below w'.heap.size w' w'') := fun w' hw' => by
      have := few_blks A q c w.heap.size L w' hn hlen hrow (hA.below hw')
      rw [hq, vew_same hv] at this; exact this
    rw [vew_same hv] at HFE
    rw [hv] at HVA
    obtain ⟨k, W, hW, hk0⟩ := votes_of hv hn
    have hk5 := hW.ok.nle
    have hk1 := hW.ok.npos
    have hn1 := hW.ok.pos
    have hn9 := hW.ok.le
    obtain ⟨r, hrk, hri⟩ := vmodU x hk1 (show k ≤ 100 by omega)
    have HRI := hide hri
    have hW2 : BOk (rnW r k W) q k := rnW_ok (by omega) hW.ok
    have hv2 : votesB (upp (rnW r k W)) = true := votes_B hW2
    have HRN : Hid (RowsRn L (upp (rnW r k W)) q k r) := by have := rows_rn hW.ok hrk; rwa [hW.eq] at this
    have HMY : Hid (∀ A' c' w1, RowsA w1 w1.heap.size A' L → Calls Try.prog 33 #[.slice A' q c'] w1 fun e w' => ∃ X c', e = .returned (.tuple #[.slice X k c', .int .i64 0]) ∧ k ≤ c' ∧ RowsA w' w'.heap.size X (rowsZ (margM W) k) ∧ Below w1.heap.size w1 w') := fun A' c' w1 h => Margins_yes A' q k c' W w1 hW.ok (by rw [hW.eq]; exact h) hW.valid
    have HMY2 : Hid (∀ A' c' w1, RowsA w1 w1.heap.size A' (upp (rnW r k W)) → Calls Try.prog 33 #[.slice A' q c'] w1 fun e w' => ∃ X c', e = .returned (.tuple #[.slice X k c', .int .i64 0]) ∧ k ≤ c' ∧ RowsA w' w'.heap.size X (rowsZ (margM (rnW r k W)) k) ∧ Below w1.heap.size w1 w') := fun A' c' w1 h => Margins_yes A' q k c' (rnW r k W) w1 hW2 h hv2
    have HWY : Hid (∀ A' c' w1, RowsA w1 w1.heap.size A' L → Calls Try.prog 38 #[.slice A' q c'] w1 fun e w' => ∃ X c', e = .returned (.tuple #[.slice X k c', .int .i64 0]) ∧ k ≤ c' ∧ RowsA w' w'.heap.size X (rowsZ (widM k (margM W)) k) ∧ Below w1.heap.size w1 w') := fun A' c' w1 h => Widths_yes A' q k c' W w1 hW.ok (by rw [hW.eq]; exact h) hW.valid
    have HWY2 : Hid (∀ A' c' w1, RowsA w1 w1.heap.size A' (upp (rnW r k W)) → Calls Try.prog 38 #[.slice A' q c'] w1 fun e w' => ∃ X c', e = .returned (.tuple #[.slice X k c', .int .i64 0]) ∧ k ≤ c' ∧ RowsA w' w'.heap.size X (rowsZ (widM k (margM (rnW r k W))) k) ∧ Below w1.heap.size w1 w') := fun A' c' w1 h => Widths_yes A' q k c' (rnW r k W) w1 hW2 h hv2
    have HKY : Hid (∀ A' c' w1, RowsA w1 w1.heap.size A' L → Calls Try.prog 28 #[.slice A' q c'] w1 fun e w' => ∃ X cx, e = .returned (.tuple #[.slice X k cx, .int .i64 (disN W (kemO W k) : Nat), .int .i64 0]) ∧ Below w1.heap.size w1 w') := fun A' c' w1 h => (Kemeny_yes A' q k c' W w1 hW.ok (by rw [hW.eq]; exact h) hW.valid).mono fun e w' ⟨X, cx, h1, h2, h3, h4, _⟩ => ⟨X, cx, h1, h4⟩
    have HKY2 : Hid (∀ A' c' w1, RowsA w1 w1.heap.size A' (upp (rnW r k W)) → Calls Try.prog 28 #[.slice A' q c'] w1 fun e w' => ∃ X cx, e = .returned (.tuple #[.slice X k cx, .int .i64 (disN W (kemO W k) : Nat), .int .i64 0]) ∧ Below w1.heap.size w1 w') := fun A' c' w1 h => (Kemeny_yes A' q k c' (rnW r k W) w1 hW2 h hv2).mono fun e w' ⟨X, cx, h1, h2, h3, h4, _⟩ => ⟨X, cx, by rw [h1, kem_ren (by omega) hW.ok], h4⟩
    have HBY : Hid (∀ A' c' w1, RowsA w1 w1.heap.size A' L → Calls Try.prog 39 #[.slice A' q c'] w1 fun e w' => e = .returned (.tuple #[.int .i64 (bestN (margM W) k : Nat), .int .i64 0]) ∧ Below w1.heap.size w1 w') := fun A' c' w1 h => Best_yes A' q k c' W w1 hW.ok (by rw [hW.eq]; exact h) hW.valid
    have HBY2 : Hid (∀ A' c' w1, RowsA w1 w1.heap.size A' (upp (rnW r k W)) → Calls Try.prog 39 #[.slice A' q c'] w1 fun e w' => e = .returned (.tuple #[.int .i64 (bestN (margM (rnW r k W)) k : Nat), .int .i64 0]) ∧ Below w1.heap.size w1 w') := fun A' c' w1 h => Best_yes A' q k c' (rnW r k W) w1 hW2 h hv2
    have hax : ∀ (o : Option (List Nat)) (w1 : World) (e : Ending) (w' : World), AxisPost o k w1 e w' → ∃ X m cx, e = .returned (.tuple #[.slice X m cx, .int .i64 (if o.isNone then 4 else 0)]) ∧ Below w1.heap.size w1 w' := fun o w1 e w' h => by
      cases o with
      | none => exact ⟨none, 0, 0, h.1, h.2⟩
      | some o => obtain ⟨⟨X, cx, h1, h2, h3, h4⟩, h5⟩ := h; exact ⟨X, k, cx, h1, h5⟩
    obtain ⟨ar, har⟩ : ∃ ar : Int, ar = if (axN W q k).isNone then 4 else 0 := ⟨_, rfl⟩
    have har2 : ar = if (axN (rnW r k W) q k).isNone then 4 else 0 := by
      rw [har]
      have := ax_ren (r := r) (by omega) hW.ok
      rw [← Option.isNone_iff_eq_none, ← Option.isNone_iff_eq_none] at this
      have : (axN (rnW r k W) q k).isNone = (axN W q k).isNone := by rw [Bool.eq_iff_iff]; exact this
      rw [this]
    have HAY : Hid (∀ A' c' w1, RowsA w1 w1.heap.size A' L → Calls Try.prog 37 #[.slice A' q c'] w1 fun e w' => ∃ X m cx, e = .returned (.tuple #[.slice X m cx, .int .i64 ar]) ∧ Below w1.heap.size w1 w') := fun A' c' w1 h => (Axis_yes A' q k c' W w1 hW.ok (by rw [hW.eq]; exact h) hW.valid).mono fun e w' h => by have := hax _ _ _ _ h; rwa [← har] at this
    have HAY2 : Hid (∀ A' c' w1, RowsA w1 w1.heap.size A' (upp (rnW r k W)) → Calls Try.prog 37 #[.slice A' q c'] w1 fun e w' => ∃ X m cx, e = .returned (.tuple #[.slice X m cx, .int .i64 ar]) ∧ Below w1.heap.size w1 w') := fun A' c' w1 h => (Axis_yes A' q k c' (rnW r k W) w1 hW2 h hv2).mono fun e w' h => by have := hax _ _ _ _ h; rwa [← har2] at this
    have HRB : Hid (∀ a, a < k → (bestN (margM (rnW r k W)) k).testBit ((a + r) % k) = (bestN (margM W) k).testBit a) := fun a ha => by
      rw [rn_mod hrk ha]; exact best_ren (by omega) (margM_ren (by omega) hW.ok) (marg_anti hW.ok) (marg_anti hW2) hk1 ha
    have hrm := margM_ren (r := r) (by omega) hW.ok
    have HRM : Hid (∀ a b, a < k → b < k → margM (rnW r k W) ((a + r) % k) ((b + r) % k) = margM W a b) := fun a b ha hb => by rw [rn_mod hrk ha, rn_mod hrk hb]; exact hrm a b ha hb
    have HRW : Hid (∀ a b, a < k → b < k → widM k (margM (rnW r k W)) ((a + r) % k) ((b + r) % k) = widM k (margM W) a b) := fun a b ha hb => by rw [rn_mod hrk ha, rn_mod hrk hb]; exact widM_ren (by omega) hrm a b ha hb
    have HRD : Hid (∀ M w1 B X, RowsA w1 B X (rowsZ M k) → ∀ a b, a < k → b < k → ∃ bx ox ba oa ca, X = some ⟨bx, ox, none⟩ ∧ bx < B ∧ w1.cell? ⟨bx, ox + a, none⟩ = some (.slice (some ⟨ba, oa, none⟩) k ca) ∧ ba < B ∧ w1.cell? ⟨ba, oa + b, none⟩ = some (.int .i64 (M a b))) := fun M w1 B X h a b ha hb => mat_read h ha hb
    have hbl1 : bestN (margM W) k < 2 ^ 62 := Nat.lt_of_lt_of_le (bstN_lt _ k k) (Nat.pow_le_pow_right (by decide) (by omega))
    have hbl2 : bestN (margM (rnW r k W)) k < 2 ^ 62 := Nat.lt_of_lt_of_le (bstN_lt _ k k) (Nat.pow_le_pow_right (by decide) (by omega))
    have HBL1 := hide hbl1
    have HBL2 := hide hbl2
    generalize disN W (kemO W k) = dk at *
    generalize bestN (margM (rnW r k W)) k = bs2 at *
    generalize bestN (margM W) k = bs1 at *
    generalize widM k (margM (rnW r k W)) = E2 at *
    generalize widM k (margM W) = E1 at *
    generalize margM (rnW r k W) = M2 at *
    generalize margM W = M1 at *
    generalize upp (rnW r k W) = L2 at *
    obtain ⟨b0, o0, A0, n0, c0, rfl, hb0, hc0, hx0, hle0, hI0⟩ := hA.at_ (k := 0) (by omega)
    obtain rfl : n0 = k := by rw [← hx0.out, hk0]
    rw [Nat.add_zero] at hc0
    have hq0 : ¬ q = 0 := by omega
    have hk00 : ¬ n0 = 0 := by omega
    clear hax har har2 hrm hrow hn hA hri hW hW2 hv2 hv hk0 hx0 hI0 hbl1 hbl2 hq
    go_enter Try.func16, Try.ntmps16
    have hb := Below.refl w.heap.size w
    go_wp2_with fail
    refine (HFE.out _ hb).mono ?_
    rintro e w1 ⟨A1, c1, rfl, hq1, hR1, hbn⟩
    replace hb := hb.trans (hbn.mono hb.size)
    clear hbn
    go_wp2_with fail
    refine (HMY.out _ _ _ hR1).mono ?_
    rintro e w2 ⟨X1, x1, rfl, hx1, hM1, hbn⟩
    replace hR1 := hR1.next hbn
    replace hb := hb.trans (hbn.mono hb.size)
    clear hbn
    clear hR1
    have hc0' := (hb.cell (p := ⟨b0, o0, none⟩) hb0).trans hc0
    go_wp2_with fail
    refine (HVA.out _ hb).mono ?_
    rintro e w3 ⟨rfl, rfl⟩
    obtain ⟨wa, hwa⟩ : ∃ wa : World, wa = w2 := ⟨_, rfl⟩
    subst hwa
    have HB0 := hide hb
    have HM1 := hide hM1
    clear hM1 hb
    go_wp2_with fail
    rw [HRI.out]
    refine (HFB.out _ HB0.out).mono ?_
    rintro e wb ⟨A2, c2, vs, blk, lim, rfl, hq4, hOW, hRB, hbn⟩
    have HOW := hide hOW
    have HRB2 := hide hRB
    have HBN := hide hbn
    clear hOW hRB hbn hc0'
    have HLIM : Hid (lim ≤ wb.heap.size) := HRB2.out.lim_le
    have HGB : Hid (∀ g, (Value.slice A2 q c2).ownBlock = some g → g < wb.heap.size) := fun g hg => (own_lt HOW.out g hg).2
    go_wp2_with fail
    go_loopw [66] (fun i wr => ∃ j : Nat, j ≤ q ∧ i = .int .i64 j ∧ Mapped wb wr L L2 blk j) (fun i _ => q - (intOf i).toNat)
    case atStart => exact ⟨0, Nat.zero_le _, rfl, Mapped.zero _ _ _ _⟩
    case round =>
      obtain ⟨j, hj, rfl, hT⟩ := hrel
      have HT := hide hT
      clear hT
      by_cases hlt : j < q
      · obtain ⟨hl1, hl2, hl3⟩ := HRN.out.2.2 j hlt
        have HL1 := hide hl1
        have HL2 := hide hl2
        have HL3 := hide hl3
        clear hl1 hl2 hl3
        obtain ⟨g, o, A', n', c', rfl, hg, hcell, hnn, hle, hown⟩ := HT.out.at_ HOW.out HRB2.out HRN.out.1 hlt
        obtain rfl : n0 = n' := by rw [← HL1.out, hnn.out]
        obtain ⟨rfl, hbl, hcu, hI⟩ := hown (by omega)
        have hsz := HT.out.size
        have hgr : g < wr.heap.size := by omega
        have hp0 := RowPart.zero (l' := L2.getD j []) hI hcu
        clear hI hcu hown hnn
        go_wp2_with fail
        obtain ⟨wp, rfl⟩ : ∃ wp : World, wp = wr := ⟨_, rfl⟩
        go_loopw [72] (fun i wq => ∃ t : Nat, t ≤ n0 ∧ i = .int .i64 t ∧ RowPart wp wq (blk j) (L.getD j []) (L2.getD j []) t) (fun i _ => n0 - (intOf i).toNat)
        case atStart => exact ⟨0, Nat.zero_le _, rfl, hp0⟩
        case round =>
          clear hp0
          obtain ⟨t, ht, rfl, hP⟩ := hrel
          have HP := hide hP
          clear hP
          by_cases hltt : t < n0
          · obtain ⟨y, hy, hy1, hy2⟩ := HL3.out t hltt
            obtain ⟨hbb, hcc, hff⟩ := HP.out.at_ (by rw [HL2.out, HL1.out]) (by rw [HL1.out]; exact hltt)
            rw [hy1] at hcc
            obtain ⟨s1, hs1⟩ : ∃ s1, y + r = s1 := ⟨_, rfl⟩
            obtain ⟨z, hz⟩ : ∃ z, s1 % n0 = z := ⟨_, rfl⟩
            rw [hs1, hz] at hy2
            have HY2 := hide hy2
            obtain ⟨f1, f2⟩ := vadd hs1 (by omega)
            obtain ⟨f3, f4⟩ := vrem hz hk1
            clear hy1 hy2 hs1 hz
            go_wp2
            go_roundw
            case rel => exact ⟨t + 1, by omega, by go_num, by have := HP.out.step (by rw [HL2.out, HL1.out]) (by rw [HL1.out]; exact hltt); rw [HY2.out] at this; exact this⟩
            case measure => simp [intOf]; omega
          · obtain rfl : n0 = t := by omega
            have hfu : IntsA wr wr.heap.size (some ⟨blk j, 0, none⟩) (L2.getD j []) := by
              have := HP.out
              have h9 := HL1.out
              refine RowPart.full (w0 := wp) (l := L.getD j []) ?_ (by rw [HL2.out, HL1.out])
              rw [h9]; exact this
            have HST := hide (HT.out.step HRB2.out (by rw [HRN.out.1]; exact hlt) (by rw [HL1.out]; omega) hfu HP.out.only HP.out.size)
            clear hfu
            go_wp2
            go_roundw
            case rel => exact ⟨j + 1, by omega, by go_num, HST.out⟩
            case measure => simp [intOf]; omega
      · obtain rfl : q = j := by omega
        have hR := HT.out.rowsB HOW.out HRB2.out HRN.out.1 HRN.out.2.1 (fun j hj => by rw [(HRN.out.2.2 j hj).1, (HRN.out.2.2 j hj).2.1]) HLIM.out HGB.out
        replace hR := hR.top
        have hbw := HBN.out.trans (HT.out.below HRB2.out HBN.out.size (by rw [HRN.out.1]; exact Nat.le_refl _))
        have hb := HB0.out.trans (hbw.mono HB0.out.size)
        have hM1 := HM1.out.next hbw
        clear HT hbw
        go_wp2_with fail
        refine (HMY2.out _ _ _ hR).mono ?_
        rintro e w21 ⟨X2, x2, rfl, hx2, hM2, hbn⟩
        replace hR := hR.next hbn
        replace hM1 := hM1.next hbn
        replace hb := hb.trans (hbn.mono hb.size)
        clear hbn
        go_wp2_with fail
        refine (HFE.out _ hb).mono ?_
        rintro e w22 ⟨A5, c5, rfl, hq5, hR5, hbn⟩
        replace hR := hR.next hbn
        replace hM1 := hM1.next hbn
        replace hM2 := hM2.next hbn
        replace hb := hb.trans (hbn.mono hb.size)
        clear hbn
        go_wp2_with fail
        refine (HWY.out _ _ _ hR5).mono ?_
        rintro e w23 ⟨X3, x3, rfl, hx3, hM3, hbn⟩
        replace hR := hR.next hbn
        replace hM1 := hM1.next hbn
        replace hM2 := hM2.next hbn
        replace hR5 := hR5.next hbn
        replace hb := hb.trans (hbn.mono hb.size)
        clear hbn
        clear hR5
        go_wp2_with fail
        refine (HWY2.out _ _ _ hR).mono ?_
        rintro e w24 ⟨X4, x4, rfl, hx4, hM4, hbn⟩
        replace hR := hR.next hbn
        replace hM1 := hM1.next hbn
        replace hM2 := hM2.next hbn
        replace hM3 := hM3.next hbn
        replace hb := hb.trans (hbn.mono hb.size)
        clear hbn
        go_wp2_with fail
        refine (HFE.out _ hb).mono ?_
        rintro e w25 ⟨A5, c5, rfl, hq5, hR5, hbn⟩
        replace hR := hR.next hbn
        replace hM1 := hM1.next hbn
        replace hM2 := hM2.next hbn
        replace hM3 := hM3.next hbn
        replace hM4 := hM4.next hbn
        replace hb := hb.trans (hbn.mono hb.size)
        clear hbn
        go_wp2_with fail
        refine (HBY.out _ _ _ hR5).mono ?_
        rintro e w26 ⟨rfl, hbn⟩
        replace hR := hR.next hbn
        replace hM1 := hM1.next hbn
        replace hM2 := hM2.next hbn
        replace hM3 := hM3.next hbn
        replace hM4 := hM4.next hbn
        replace hR5 := hR5.next hbn
        replace hb := hb.trans (hbn.mono hb.size)
        clear hbn
        clear hR5
        go_wp2_with fail
        refine (HBY2.out _ _ _ hR).mono ?_
        rintro e w27 ⟨rfl, hbn⟩
        replace hR := hR.next hbn
        replace hM1 := hM1.next hbn
        replace hM2 := hM2.next hbn
        replace hM3 := hM3.next hbn
        replace hM4 := hM4.next hbn
        replace hb := hb.trans (hbn.mono hb.size)
        clear hbn
        go_wp2_with fail
        refine (HFE.out _ hb).mono ?_
        rintro e w28 ⟨A5, c5, rfl, hq5, hR5, hbn⟩
        replace hR := hR.next hbn
        replace hM1 := hM1.next hbn
        replace hM2 := hM2.next hbn
        replace hM3 := hM3.next hbn
        replace hM4 := hM4.next hbn
        replace hb := hb.trans (hbn.mono hb.size)
        clear hbn
        go_wp2_with fail
        refine (HKY.out _ _ _ hR5).mono ?_
        rintro e w29 ⟨X5, x5, rfl, hbn⟩
        replace hR := hR.next hbn
        replace hM1 := hM1.next hbn
        replace hM2 := hM2.next hbn
        replace hM3 := hM3.next hbn
        replace hM4 := hM4.next hbn
        replace hR5 := hR5.next hbn
        replace hb := hb.trans (hbn.mono hb.size)
        clear hbn
        clear hR5
        go_wp2_with fail
        refine (HKY2.out _ _ _ hR).mono ?_
        rintro e w30 ⟨X6, x6, rfl, hbn⟩
        replace hR := hR.next hbn
        replace hM1 := hM1.next hbn
        replace hM2 := hM2.next hbn
        replace hM3 := hM3.next hbn
        replace hM4 := hM4.next hbn
        replace hb := hb.trans (hbn.mono hb.size)
        clear hbn
        go_wp2_with fail
        refine (HFE.out _ hb).mono ?_
        rintro e w31 ⟨A5, c5, rfl, hq5, hR5, hbn⟩
        replace hR := hR.next hbn
        replace hM1 := hM1.next hbn
        replace hM2 := hM2.next hbn
        replace hM3 := hM3.next hbn
        replace hM4 := hM4.next hbn
        replace hb := hb.trans (hbn.mono hb.size)
        clear hbn
        go_wp2_with fail
        refine (HAY.out _ _ _ hR5).mono ?_
        rintro e w32 ⟨X7, m7, x7, rfl, hbn⟩
        replace hR := hR.next hbn
        replace hM1 := hM1.next hbn
        replace hM2 := hM2.next hbn
        replace hM3 := hM3.next hbn
        replace hM4 := hM4.next hbn
        replace hR5 := hR5.next hbn
        replace hb := hb.trans (hbn.mono hb.size)
        clear hbn
        clear hR5
        go_wp2_with fail
        refine (HAY2.out _ _ _ hR).mono ?_
        rintro e w33 ⟨X8, m8, x8, rfl, hbn⟩
        replace hR := hR.next hbn
        replace hM1 := hM1.next hbn
        replace hM2 := hM2.next hbn
        replace hM3 := hM3.next hbn
        replace hM4 := hM4.next hbn
        replace hb := hb.trans (hbn.mono hb.size)
        clear hbn
        clear hR
        obtain ⟨wz, hwz⟩ : ∃ wz : World, wz = w33 := ⟨_, rfl⟩
        subst hwz
        have HM1z := hide hM1
        have HM2 := hide hM2
        have HM3 := hide hM3
        have HM4 := hide hM4
        have HBZ := hide hb
        have hbz := hb.size
        clear hM1 hM2 hM3 hM4 hb
        go_wp2_with fail
        go_loopw [194] (fun i wr => ∃ a : Nat, a ≤ n0 ∧ i = .int .i64 a ∧ Below wz.heap.size wz wr) (fun i _ => n0 - (intOf i).toNat)
        case atStart => exact ⟨0, Nat.zero_le _, rfl, Below.refl _ _⟩
        case round =>
          obtain ⟨a, ha, rfl, hbel⟩ := hrel
          have HW1 := hide hbel
          clear hbel
          by_cases hlt : a < n0
          · obtain ⟨s1, hs1⟩ : ∃ s1, a + r = s1 := ⟨_, rfl⟩
            obtain ⟨a2, ha2⟩ : ∃ a2, s1 % n0 = a2 := ⟨_, rfl⟩
            have hltA : a2 < n0 := by rw [← ha2]; exact Nat.mod_lt _ (by omega)
            have HFA := hide (vadd hs1 (by omega))
            have HRA := hide (vrem ha2 hk1)
            have HS1 := hide hs1
            have HA2 := hide ha2
            clear hs1 ha2
            go_wp2_with fail
            obtain ⟨wp, rfl⟩ : ∃ wp : World, wp = wr := ⟨_, rfl⟩
            go_loopw [198] (fun i wr => ∃ b : Nat, b ≤ n0 ∧ i = .int .i64 b ∧ Below wz.heap.size wz wr) (fun i _ => n0 - (intOf i).toNat)
            case atStart => exact ⟨0, Nat.zero_le _, rfl, HW1.out⟩
            case round =>
              obtain ⟨b, hbk, rfl, hbel⟩ := hrel
              have HW2 := hide hbel
              by_cases hltb : b < n0
              · obtain ⟨s2, hs2⟩ : ∃ s2, b + r = s2 := ⟨_, rfl⟩
                obtain ⟨b2_, hb2_⟩ : ∃ b2_, s2 % n0 = b2_ := ⟨_, rfl⟩
                have hltB : b2_ < n0 := by rw [← hb2_]; exact Nat.mod_lt _ (by omega)
                have HFB2 := hide (vadd hs2 (by omega))
                have HRB3 := hide (vrem hb2_ hk1)
                obtain ⟨b1, o1, r1, q1, z1, rfl, hl1, hc1, hk1', hm1⟩ := HRD.out M1 wr wz.heap.size _ (HM1z.out.below hbel) a b hlt hltb
                obtain ⟨b2, o2, r2, q2, z2, rfl, hl2, hc2, hk2', hm2⟩ := HRD.out M2 wr wz.heap.size _ (HM2.out.below hbel) a2 b2_ hltA hltB
                obtain ⟨b3, o3, r3, q3, z3, rfl, hl3, hc3, hk3', hm3⟩ := HRD.out E1 wr wz.heap.size _ (HM3.out.below hbel) a b hlt hltb
                obtain ⟨b4, o4, r4, q4, z4, rfl, hl4, hc4, hk4', hm4⟩ := HRD.out E2 wr wz.heap.size _ (HM4.out.below hbel) a2 b2_ hltA hltB
                have e1 := HRM.out a b hlt hltb
                have e2 := HRW.out a b hlt hltb
                rw [HS1.out, hs2, HA2.out, hb2_] at e1 e2
                rw [e1] at hm2
                rw [e2] at hm4
                clear e1 e2 hs2 hb2_
                have hzz := hbel.size
                generalize M1 a b = m1 at *
                generalize E1 a b = d1 at *
                have l1 : b1 < wr.heap.size := by omega
                have l2 : b2 < wr.heap.size := by omega
                have l3 : b3 < wr.heap.size := by omega
                have l4 : b4 < wr.heap.size := by omega
                have k1 : r1 < wr.heap.size := by omega
                have k2 : r2 < wr.heap.size := by omega
                have k3 : r3 < wr.heap.size := by omega
                have k4 : r4 < wr.heap.size := by omega
                have j1 : (a : Int) < (n0 : Int) := by omega
                have j2 : (b : Int) < (n0 : Int) := by omega
                have j3 : (a2 : Int) < (n0 : Int) := by omega
                have j4 : (b2_ : Int) < (n0 : Int) := by omega
                clear hbel
                go_wp2_with fail
                refine wp_region_below (by kernel_rfl) (by kernel_rfl) ?_
                refine wpQuiet_val' (.slice (some ⟨b2, o2, none⟩) n0 x2) (by rfl) (fun w' hw' => by go_simp) ?_
                simp only [put_lit, List.set_cons_succ, List.set_cons_zero]
                refine wpQuiet_val' (.int .i64 (a : Nat)) (by rfl) (fun w' hw' => by go_simp) ?_
                simp only [put_lit, List.set_cons_succ, List.set_cons_zero]
                refine wpQuiet_val' (.int .i64 (r : Nat)) (by rfl) (fun w' hw' => by go_simp) ?_
                simp only [put_lit, List.set_cons_succ, List.set_cons_zero]
                refine wpQuiet_val' (.int .i64 s1) (by rfl) (fun w' hw' => by have f1 := HFA.out.1; have f2 := HFA.out.2; go_simp) ?_
                simp only [put_lit, List.set_cons_succ, List.set_cons_zero]
                refine wpQuiet_val' (.int .i64 (n0 : Nat)) (by rfl) (fun w' hw' => by go_simp) ?_
                simp only [put_lit, List.set_cons_succ, List.set_cons_zero]
                refine wpQuiet_val' (.int .i64 a2) (by rfl) (fun w' hw' => by have f3 := HRA.out.1; have f4 := HRA.out.2; go_simp) ?_
                simp only [put_lit, List.set_cons_succ, List.set_cons_zero]
                refine wpQuiet_val' (.pointer (some ⟨b2, o2 + a2, none⟩)) (by rfl) (fun w' hw' => by go_simp) ?_
                simp only [put_lit, List.set_cons_succ, List.set_cons_zero]
                refine wpQuiet_val' (.slice (some ⟨r2, q2, none⟩) n0 z2) (by rfl) (fun w' hw' => by have e0 := (hw'.cell (p := ⟨b2, o2 + a2, none⟩) l2).trans hc2; go_simp) ?_
                simp only [put_lit, List.set_cons_succ, List.set_cons_zero]
                refine wpQuiet_val' (.int .i64 (b : Nat)) (by rfl) (fun w' hw' => by go_simp) ?_
                simp only [put_lit, List.set_cons_succ, List.set_cons_zero]
                refine wpQuiet_val' (.int .i64 (r : Nat)) (by rfl) (fun w' hw' => by go_simp) ?_
                simp only [put_lit, List.set_cons_succ, List.set_cons_zero]
                refine wpQuiet_val' (.int .i64 s2) (by rfl) (fun w' hw' => by have f1 := HFB2.out.1; have f2 := HFB2.out.2; go_simp) ?_
                simp only [put_lit, List.set_cons_succ, List.set_cons_zero]
                refine wpQuiet_val' (.int .i64 (n0 : Nat)) (by rfl) (fun w' hw' => by go_simp) ?_
                simp only [put_lit, List.set_cons_succ, List.set_cons_zero]
                refine wpQuiet_val' (.int .i64 b2_) (by rfl) (fun w' hw' => by have f3 := HRB3.out.1; have f4 := HRB3.out.2; go_simp) ?_
                simp only [put_lit, List.set_cons_succ, List.set_cons_zero]
                refine wpQuiet_val' (.pointer (some ⟨r2, q2 + b2_, none⟩)) (by rfl) (fun w' hw' => by go_simp) ?_
                simp only [put_lit, List.set_cons_succ, List.set_cons_zero]
                refine wpQuiet_val' (.int .i64 m1) (by rfl) (fun w' hw' => by have e0 := (hw'.cell (p := ⟨r2, q2 + b2_, none⟩) k2).trans hm2; go_simp) ?_
                simp only [put_lit, List.set_cons_succ, List.set_cons_zero]
                refine wpQuiet_val' (.slice (some ⟨b1, o1, none⟩) n0 x1) (by rfl) (fun w' hw' => by go_simp) ?_
                simp only [put_lit, List.set_cons_succ, List.set_cons_zero]
                refine wpQuiet_val' (.int .i64 (a : Nat)) (by rfl) (fun w' hw' => by go_simp) ?_
                simp only [put_lit, List.set_cons_succ, List.set_cons_zero]
                refine wpQuiet_val' (.pointer (some ⟨b1, o1 + a, none⟩)) (by rfl) (fun w' hw' => by go_simp) ?_
                simp only [put_lit, List.set_cons_succ, List.set_cons_zero]
                refine wpQuiet_val' (.slice (some ⟨r1, q1, none⟩) n0 z1) (by rfl) (fun w' hw' => by have e0 := (hw'.cell (p := ⟨b1, o1 + a, none⟩) l1).trans hc1; go_simp) ?_
                simp only [put_lit, List.set_cons_succ, List.set_cons_zero]
                refine wpQuiet_val' (.int .i64 (b : Nat)) (by rfl) (fun w' hw' => by go_simp) ?_
                simp only [put_lit, List.set_cons_succ, List.set_cons_zero]
                refine wpQuiet_val' (.pointer (some ⟨r1, q1 + b, none⟩)) (by rfl) (fun w' hw' => by go_simp) ?_
                simp only [put_lit, List.set_cons_succ, List.set_cons_zero]
                refine wpQuiet_val' (.int .i64 m1) (by rfl) (fun w' hw' => by have e0 := (hw'.cell (p := ⟨r1, q1 + b, none⟩) k1).trans hm1; go_simp) ?_
                simp only [put_lit, List.set_cons_succ, List.set_cons_zero]
                refine wpQuiet_val' (.bool false) (by rfl) (fun w' hw' => by go_simp) ?_
                simp only [put_lit, List.set_cons_succ, List.set_cons_zero]
                refine wpQuiet_val' (.bool false) (by rfl) (fun w' hw' => by go_simp) ?_
                simp only [put_lit, List.set_cons_succ, List.set_cons_zero]
                refine wpQuiet_val' (.slice (some ⟨b4, o4, none⟩) n0 x4) (by rfl) (fun w' hw' => by go_simp) ?_
                simp only [put_lit, List.set_cons_succ, List.set_cons_zero]
                refine wpQuiet_val' (.int .i64 (a : Nat)) (by rfl) (fun w' hw' => by go_simp) ?_
                simp only [put_lit, List.set_cons_succ, List.set_cons_zero]
                refine wpQuiet_val' (.int .i64 (r : Nat)) (by rfl) (fun w' hw' => by go_simp) ?_
                simp only [put_lit, List.set_cons_succ, List.set_cons_zero]
                refine wpQuiet_val' (.int .i64 s1) (by rfl) (fun w' hw' => by have f1 := HFA.out.1; have f2 := HFA.out.2; go_simp) ?_
                simp only [put_lit, List.set_cons_succ, List.set_cons_zero]
                refine wpQuiet_val' (.int .i64 (n0 : Nat)) (by rfl) (fun w' hw' => by go_simp) ?_
                simp only [put_lit, List.set_cons_succ, List.set_cons_zero]
                refine wpQuiet_val' (.int .i64 a2) (by rfl) (fun w' hw' => by have f3 := HRA.out.1; have f4 := HRA.out.2; go_simp) ?_
                simp only [put_lit, List.set_cons_succ, List.set_cons_zero]
                refine wpQuiet_val' (.pointer (some ⟨b4, o4 + a2, none⟩)) (by rfl) (fun w' hw' => by go_simp) ?_
                simp only [put_lit, List.set_cons_succ, List.set_cons_zero]
                refine wpQuiet_val' (.slice (some ⟨r4, q4, none⟩) n0 z4) (by rfl) (fun w' hw' => by have e0 := (hw'.cell (p := ⟨b4, o4 + a2, none⟩) l4).trans hc4; go_simp) ?_
                simp only [put_lit, List.set_cons_succ, List.set_cons_zero]
                refine wpQuiet_val' (.int .i64 (b : Nat)) (by rfl) (fun w' hw' => by go_simp) ?_
                simp only [put_lit, List.set_cons_succ, List.set_cons_zero]
                refine wpQuiet_val' (.int .i64 (r : Nat)) (by rfl) (fun w' hw' => by go_simp) ?_
                simp only [put_lit, List.set_cons_succ, List.set_cons_zero]
                refine wpQuiet_val' (.int .i64 s2) (by rfl) (fun w' hw' => by have f1 := HFB2.out.1; have f2 := HFB2.out.2; go_simp) ?_
                simp only [put_lit, List.set_cons_succ, List.set_cons_zero]
                refine wpQuiet_val' (.int .i64 (n0 : Nat)) (by rfl) (fun w' hw' => by go_simp) ?_
                simp only [put_lit, List.set_cons_succ, List.set_cons_zero]
                refine wpQuiet_val' (.int .i64 b2_) (by rfl) (fun w' hw' => by have f3 := HRB3.out.1; have f4 := HRB3.out.2; go_simp) ?_
                simp only [put_lit, List.set_cons_succ, List.set_cons_zero]
                refine wpQuiet_val' (.pointer (some ⟨r4, q4 + b2_, none⟩)) (by rfl) (fun w' hw' => by go_simp) ?_
                simp only [put_lit, List.set_cons_succ, List.set_cons_zero]
                refine wpQuiet_val' (.int .i64 d1) (by rfl) (fun w' hw' => by have e0 := (hw'.cell (p := ⟨r4, q4 + b2_, none⟩) k4).trans hm4; go_simp) ?_
                simp only [put_lit, List.set_cons_succ, List.set_cons_zero]
                refine wpQuiet_val' (.slice (some ⟨b3, o3, none⟩) n0 x3) (by rfl) (fun w' hw' => by go_simp) ?_
                simp only [put_lit, List.set_cons_succ, List.set_cons_zero]
                refine wpQuiet_val' (.int .i64 (a : Nat)) (by rfl) (fun w' hw' => by go_simp) ?_
                simp only [put_lit, List.set_cons_succ, List.set_cons_zero]
                refine wpQuiet_val' (.pointer (some ⟨b3, o3 + a, none⟩)) (by rfl) (fun w' hw' => by go_simp) ?_
                simp only [put_lit, List.set_cons_succ, List.set_cons_zero]
                refine wpQuiet_val' (.slice (some ⟨r3, q3, none⟩) n0 z3) (by rfl) (fun w' hw' => by have e0 := (hw'.cell (p := ⟨b3, o3 + a, none⟩) l3).trans hc3; go_simp) ?_
                simp only [put_lit, List.set_cons_succ, List.set_cons_zero]
                refine wpQuiet_val' (.int .i64 (b : Nat)) (by rfl) (fun w' hw' => by go_simp) ?_
                simp only [put_lit, List.set_cons_succ, List.set_cons_zero]
                refine wpQuiet_val' (.pointer (some ⟨r3, q3 + b, none⟩)) (by rfl) (fun w' hw' => by go_simp) ?_
                simp only [put_lit, List.set_cons_succ, List.set_cons_zero]
                refine wpQuiet_val' (.int .i64 d1) (by rfl) (fun w' hw' => by have e0 := (hw'.cell (p := ⟨r3, q3 + b, none⟩) k3).trans hm3; go_simp) ?_
                simp only [put_lit, List.set_cons_succ, List.set_cons_zero]
                refine wpQuiet_val' (.bool false) (by rfl) (fun w' hw' => by go_simp) ?_
                simp only [put_lit, List.set_cons_succ, List.set_cons_zero]
                refine wpQuiet_val' (.bool false) (by rfl) (fun w' hw' => by go_simp) ?_
                simp only [put_lit, List.set_cons_succ, List.set_cons_zero]
                refine wpQuiet_nil ?_
                intro w9 hb9
                have HB9 := hide (HW2.out.trans (hb9.mono hzz))
                clear hb9
                go_wp2
                go_roundw
                case rel => exact ⟨b + 1, by omega, by go_num, HB9.out⟩
                case measure => simp [intOf]; omega
              · obtain rfl : n0 = b := by omega
                have hbit := HRB.out a hlt
                rw [HS1.out, HA2.out] at hbit
                have hsb1 := vshr_bit bs1 a HBL1.out
                have hsb2 := vshr_bit bs2 a2 HBL2.out
                rw [hbit] at hsb2
                obtain ⟨bt, hbt⟩ : ∃ bt : Int, bt = if bs1.testBit a then 1 else 0 := ⟨_, rfl⟩
                rw [← hbt] at hsb1 hsb2
                have HSB1 := hide hsb1
                have HSB2 := hide hsb2
                clear hbel hbit hsb1 hsb2 hbt
                have ha0 : (0 : Int) ≤ (a : Int) := by omega
                have ha20 : (0 : Int) ≤ (a2 : Int) := by omega
                go_wp2_with fail
                refine wp_region_below (by kernel_rfl) (by kernel_rfl) ?_
                refine wpQuiet_val' (.int .i64 (bs1 : Nat)) (by rfl) (fun w' hw' => by go_simp) ?_
                simp only [put_lit, List.set_cons_succ, List.set_cons_zero]
                refine wpQuiet_val' (.int .i64 (a : Nat)) (by rfl) (fun w' hw' => by go_simp) ?_
                simp only [put_lit, List.set_cons_succ, List.set_cons_zero]
                refine wpQuiet_val' (.int .i64 ((bs1 : Int) / 2 ^ a)) (by rfl) (fun w' hw' => by go_simp) ?_
                simp only [put_lit, List.set_cons_succ, List.set_cons_zero]
                refine wpQuiet_val' (.int .i64 bt) (by rfl) (fun w' hw' => by have g1 := HSB1.out; have g2 := HSB2.out; go_simp) ?_
                simp only [put_lit, List.set_cons_succ, List.set_cons_zero]
                refine wpQuiet_val' (.int .i64 (bs2 : Nat)) (by rfl) (fun w' hw' => by go_simp) ?_
                simp only [put_lit, List.set_cons_succ, List.set_cons_zero]
                refine wpQuiet_val' (.int .i64 (a : Nat)) (by rfl) (fun w' hw' => by go_simp) ?_
                simp only [put_lit, List.set_cons_succ, List.set_cons_zero]
                refine wpQuiet_val' (.int .i64 (r : Nat)) (by rfl) (fun w' hw' => by go_simp) ?_
                simp only [put_lit, List.set_cons_succ, List.set_cons_zero]
                refine wpQuiet_val' (.int .i64 s1) (by rfl) (fun w' hw' => by have f1 := HFA.out.1; have f2 := HFA.out.2; go_simp) ?_
                simp only [put_lit, List.set_cons_succ, List.set_cons_zero]
                refine wpQuiet_val' (.int .i64 (n0 : Nat)) (by rfl) (fun w' hw' => by go_simp) ?_
                simp only [put_lit, List.set_cons_succ, List.set_cons_zero]
                refine wpQuiet_val' (.int .i64 a2) (by rfl) (fun w' hw' => by have f3 := HRA.out.1; have f4 := HRA.out.2; go_simp) ?_
                simp only [put_lit, List.set_cons_succ, List.set_cons_zero]
                refine wpQuiet_val' (.int .i64 ((bs2 : Int) / 2 ^ a2)) (by rfl) (fun w' hw' => by go_simp) ?_
                simp only [put_lit, List.set_cons_succ, List.set_cons_zero]
                refine wpQuiet_val' (.int .i64 bt) (by rfl) (fun w' hw' => by have g1 := HSB1.out; have g2 := HSB2.out; go_simp) ?_
                simp only [put_lit, List.set_cons_succ, List.set_cons_zero]
                refine wpQuiet_val' (.bool false) (by rfl) (fun w' hw' => by go_simp) ?_
                simp only [put_lit, List.set_cons_succ, List.set_cons_zero]
                refine wpQuiet_nil ?_
                intro w9 hb9
                have HB9 := hide (HW2.out.trans (hb9.mono HW2.out.size))
                clear hb9
                go_wp2
                go_roundw
                case rel => exact ⟨a + 1, by omega, by go_num, HB9.out⟩
                case measure => simp [intOf]; omega
          · obtain rfl : n0 = a := by omega
            have hb := HBZ.out.trans (HW1.out.mono hbz)
            go_wp2_with fail
            refine (awake_any _).mono ?_
            rintro e w99 ⟨rfl, hbn⟩
            replace hb := hb.trans (hbn.mono hb.size)
            clear hbn
            go_wp2
            go_ret
            exact ⟨rfl, hb⟩
end Go.Proofs.Ytejijddfepgnkaa
